/- The law AdmitTells, part 2: what the functions answer, by their terms. No condition. -/
import Derived.Test.YtnffkmnjpnlleaaAdmitTellsP1
set_option linter.unusedVariables false
set_option linter.unusedSimpArgs false
set_option maxRecDepth 100000
namespace Go.Ev.R
open Go Go.RowKit
abbrev vi (n : Int) : Value := .int .i64 n
def suv (x : SU) : List Value := [vi x.keep, vi x.horizon, vi x.ahead, vi x.budget, vi x.window]
abbrev suval (x : SU) : Value := .agg ⟨suv x⟩
def errI (ok : Bool) : Int := if ok = true then 0 else 2
theorem blt_max {C : CallT} (ts : Array TypeId) (t : TypeId) (cs : Array Bool) (a b : Int) (k : Value → Nat → AM) (s : Nat) : blt0 P C .max ts t cs [vi a, vi b] k s = k (vi (max a b)) s := by
  have h : pureRun P (builtin .max ts t cs ⟨[vi a, vi b]⟩) = some (.value (vi (max a b))) := by
    have h1 : Builtin.max_ ts t ⟨[vi a, vi b]⟩ = pure (.int .i64 (if b > a then b else a)) := rfl
    have h2 : (if b > a then b else a) = max a b := by split <;> omega
    rw [h2] at h1
    have : builtin .max ts t cs ⟨[vi a, vi b]⟩ = (do pure (Next.value (← Builtin.max_ ts t ⟨[vi a, vi b]⟩))) := rfl
    rw [this, h1]
    rfl
  unfold blt0 abuiltin
  dsimp only
  rw [h]
  rfl
section
variable {N d : Nat} (hN : 100000 ≤ N) {h : T} {s : Nat} (hf : ∀ n, s ≤ n → h.get n = none)
include hf
theorem s100 (n lo hi : Int) : ValS (D N (d + 1)) 100 [vi n, vi lo, vi hi] h s (.bool (wI n lo hi)) := by
  refine ValS.of hf fun K pw Z g hp hk => ?_
  rw [D_100]; unfold F100; rw [app3_eq]
  simp (disch := omega) only [tys, bindJ_eq, logJ_eq, wp_cond, wp_guard, gd_true, gd_false, pick_eq, add_eq, sub_eq, eq_eq, ne_eq, lt_eq, le_eq, gt_eq, ge_eq, shr_eq, shl_eq, quo_eq, rem_eq, not_eq, wp_log_ret, ext0, ext1, ext2, nil_eq, get_ne, get_eq, nth_0, nth_s, cells_agg, cells_int, cells_bool, cells_slice, cells_ptr, ro_zero, one_int, one_bool, one_slice, one_ptr, arr_size, overL, Nat.zero_add, Nat.reduceAdd, Nat.add_zero, List.length_cons, List.length_nil, List.all_cons, List.all_nil, Nat.reduceLeDiff, Nat.ble_eq, Bool.and_true, Bool.not_false, Bool.and_self, decide_true, List.drop_zero, List.drop_succ_cons, List.take_succ_cons, List.take_zero, List.take_nil, true_and, and_true, Int.ofNat_eq_natCast, neg_one, Int.toNat_natCast, Int.natCast_zero, Int.natCast_one, Int.cast_ofNat_Int, List.append_nil, List.nil_append, funX_eq, if_true, if_false, Bool.false_eq_true, Bool.not_true, Bool.not_false]
  unfold wI at hk
  by_cases h1 : lo ≤ n
  · simp (disch := omega) only [tys, bindJ_eq, logJ_eq, wp_cond, wp_guard, gd_true, gd_false, pick_eq, add_eq, sub_eq, eq_eq, ne_eq, lt_eq, le_eq, gt_eq, ge_eq, shr_eq, shl_eq, quo_eq, rem_eq, not_eq, wp_log_ret, ext0, ext1, ext2, nil_eq, get_ne, get_eq, nth_0, nth_s, cells_agg, cells_int, cells_bool, cells_slice, cells_ptr, ro_zero, one_int, one_bool, one_slice, one_ptr, arr_size, overL, Nat.zero_add, Nat.reduceAdd, Nat.add_zero, List.length_cons, List.length_nil, List.all_cons, List.all_nil, Nat.reduceLeDiff, Nat.ble_eq, Bool.and_true, Bool.not_false, Bool.and_self, decide_true, List.drop_zero, List.drop_succ_cons, List.take_succ_cons, List.take_zero, List.take_nil, true_and, and_true, Int.ofNat_eq_natCast, neg_one, Int.toNat_natCast, Int.natCast_zero, Int.natCast_one, Int.cast_ofNat_Int, List.append_nil, List.nil_append, funX_eq, if_true, if_false, Bool.false_eq_true, Bool.not_true, Bool.not_false, h1]
    simp only [h1, decide_true, Bool.true_and] at hk
    exact hk _ _ g
  · simp (disch := omega) only [tys, bindJ_eq, logJ_eq, wp_cond, wp_guard, gd_true, gd_false, pick_eq, add_eq, sub_eq, eq_eq, ne_eq, lt_eq, le_eq, gt_eq, ge_eq, shr_eq, shl_eq, quo_eq, rem_eq, not_eq, wp_log_ret, ext0, ext1, ext2, nil_eq, get_ne, get_eq, nth_0, nth_s, cells_agg, cells_int, cells_bool, cells_slice, cells_ptr, ro_zero, one_int, one_bool, one_slice, one_ptr, arr_size, overL, Nat.zero_add, Nat.reduceAdd, Nat.add_zero, List.length_cons, List.length_nil, List.all_cons, List.all_nil, Nat.reduceLeDiff, Nat.ble_eq, Bool.and_true, Bool.not_false, Bool.and_self, decide_true, List.drop_zero, List.drop_succ_cons, List.take_succ_cons, List.take_zero, List.take_nil, true_and, and_true, Int.ofNat_eq_natCast, neg_one, Int.toNat_natCast, Int.natCast_zero, Int.natCast_one, Int.cast_ofNat_Int, List.append_nil, List.nil_append, funX_eq, if_true, if_false, Bool.false_eq_true, Bool.not_true, Bool.not_false, h1, decide_false]
    simp only [h1, decide_false, Bool.false_and] at hk
    exact hk _ _ g
theorem s46 (x : SU) : ValS (D N (d + 2)) 46 [suval x] h s (vi (errI (chkS x))) := by
  refine ValS.of hf fun K pw Z g hp hk => ?_
  rw [D_46]; unfold F46; rw [app1_eq]
  refine wp_boxA g hp fun h1 g1 _ b1 => ?_
  replace hk := fun h' s' (g' : From (s + 1) h1 h' s') => hk h' s' (g1.trans g'); replace hp := fun n (hn : s + 1 ≤ n) => hp n (by omega); have g0 := From.refl g1.fresh
  unfold suv at b1
  simp (disch := omega) only [tys, bindJ_eq, logJ_eq, wp_cond, wp_guard, gd_true, gd_false, pick_eq, add_eq, sub_eq, eq_eq, ne_eq, lt_eq, le_eq, gt_eq, ge_eq, shr_eq, shl_eq, quo_eq, rem_eq, not_eq, wp_log_ret, ext0, ext1, ext2, nil_eq, get_ne, get_eq, nth_0, nth_s, cells_agg, cells_int, cells_bool, cells_slice, cells_ptr, ro_zero, one_int, one_bool, one_slice, one_ptr, arr_size, overL, Nat.zero_add, Nat.reduceAdd, Nat.add_zero, List.length_cons, List.length_nil, List.all_cons, List.all_nil, Nat.reduceLeDiff, Nat.ble_eq, Bool.and_true, Bool.not_false, Bool.and_self, decide_true, List.drop_zero, List.drop_succ_cons, List.take_succ_cons, List.take_zero, List.take_nil, true_and, and_true, Int.ofNat_eq_natCast, neg_one, Int.toNat_natCast, Int.natCast_zero, Int.natCast_one, Int.cast_ofNat_Int, List.append_nil, List.nil_append, ldB b1, clB b1, ldBL b1, clBL b1, funX_eq, if_true, if_false, Bool.false_eq_true, Bool.not_true, Bool.not_false]
  refine ValS.go g0 hp (s100 g0.fresh _ _ _) fun k1 s1 u1 _ => ?_
  cases e1 : wI x.keep 1 200 with
  | false =>
    simp (disch := omega) only [tys, bindJ_eq, logJ_eq, wp_cond, wp_guard, gd_true, gd_false, pick_eq, add_eq, sub_eq, eq_eq, ne_eq, lt_eq, le_eq, gt_eq, ge_eq, shr_eq, shl_eq, quo_eq, rem_eq, not_eq, wp_log_ret, ext0, ext1, ext2, nil_eq, get_ne, get_eq, nth_0, nth_s, cells_agg, cells_int, cells_bool, cells_slice, cells_ptr, ro_zero, one_int, one_bool, one_slice, one_ptr, arr_size, overL, Nat.zero_add, Nat.reduceAdd, Nat.add_zero, List.length_cons, List.length_nil, List.all_cons, List.all_nil, Nat.reduceLeDiff, Nat.ble_eq, Bool.and_true, Bool.not_false, Bool.and_self, decide_true, List.drop_zero, List.drop_succ_cons, List.take_succ_cons, List.take_zero, List.take_nil, true_and, and_true, Int.ofNat_eq_natCast, neg_one, Int.toNat_natCast, Int.natCast_zero, Int.natCast_one, Int.cast_ofNat_Int, List.append_nil, List.nil_append, ldB (u1.box b1 (by omega)), clB (u1.box b1 (by omega)), ldBL (u1.box b1 (by omega)), clBL (u1.box b1 (by omega)), funX_eq, if_true, if_false, Bool.false_eq_true, Bool.not_true, Bool.not_false, X46_1]
    have := hk _ _ u1
    simp only [errI, chkS, e1, Bool.true_and, Bool.false_and, Bool.and_self, Bool.false_eq_true, if_false] at this
    exact this
  | true =>
  simp (disch := omega) only [tys, bindJ_eq, logJ_eq, wp_cond, wp_guard, gd_true, gd_false, pick_eq, add_eq, sub_eq, eq_eq, ne_eq, lt_eq, le_eq, gt_eq, ge_eq, shr_eq, shl_eq, quo_eq, rem_eq, not_eq, wp_log_ret, ext0, ext1, ext2, nil_eq, get_ne, get_eq, nth_0, nth_s, cells_agg, cells_int, cells_bool, cells_slice, cells_ptr, ro_zero, one_int, one_bool, one_slice, one_ptr, arr_size, overL, Nat.zero_add, Nat.reduceAdd, Nat.add_zero, List.length_cons, List.length_nil, List.all_cons, List.all_nil, Nat.reduceLeDiff, Nat.ble_eq, Bool.and_true, Bool.not_false, Bool.and_self, decide_true, List.drop_zero, List.drop_succ_cons, List.take_succ_cons, List.take_zero, List.take_nil, true_and, and_true, Int.ofNat_eq_natCast, neg_one, Int.toNat_natCast, Int.natCast_zero, Int.natCast_one, Int.cast_ofNat_Int, List.append_nil, List.nil_append, ldB (u1.box b1 (by omega)), clB (u1.box b1 (by omega)), ldBL (u1.box b1 (by omega)), clBL (u1.box b1 (by omega)), funX_eq, if_true, if_false, Bool.false_eq_true, Bool.not_true, Bool.not_false, X46_1]
  refine ValS.go u1 hp (s100 u1.fresh _ _ _) fun k2 s2 u2 _ => ?_
  cases e2 : wI x.horizon 0 1099511627776 with
  | false =>
    simp (disch := omega) only [tys, bindJ_eq, logJ_eq, wp_cond, wp_guard, gd_true, gd_false, pick_eq, add_eq, sub_eq, eq_eq, ne_eq, lt_eq, le_eq, gt_eq, ge_eq, shr_eq, shl_eq, quo_eq, rem_eq, not_eq, wp_log_ret, ext0, ext1, ext2, nil_eq, get_ne, get_eq, nth_0, nth_s, cells_agg, cells_int, cells_bool, cells_slice, cells_ptr, ro_zero, one_int, one_bool, one_slice, one_ptr, arr_size, overL, Nat.zero_add, Nat.reduceAdd, Nat.add_zero, List.length_cons, List.length_nil, List.all_cons, List.all_nil, Nat.reduceLeDiff, Nat.ble_eq, Bool.and_true, Bool.not_false, Bool.and_self, decide_true, List.drop_zero, List.drop_succ_cons, List.take_succ_cons, List.take_zero, List.take_nil, true_and, and_true, Int.ofNat_eq_natCast, neg_one, Int.toNat_natCast, Int.natCast_zero, Int.natCast_one, Int.cast_ofNat_Int, List.append_nil, List.nil_append, ldB (u2.box b1 (by omega)), clB (u2.box b1 (by omega)), ldBL (u2.box b1 (by omega)), clBL (u2.box b1 (by omega)), funX_eq, if_true, if_false, Bool.false_eq_true, Bool.not_true, Bool.not_false, X46_1]
    have := hk _ _ u2
    simp only [errI, chkS, e1, e2, Bool.true_and, Bool.false_and, Bool.and_self, Bool.false_eq_true, if_false] at this
    exact this
  | true =>
  simp (disch := omega) only [tys, bindJ_eq, logJ_eq, wp_cond, wp_guard, gd_true, gd_false, pick_eq, add_eq, sub_eq, eq_eq, ne_eq, lt_eq, le_eq, gt_eq, ge_eq, shr_eq, shl_eq, quo_eq, rem_eq, not_eq, wp_log_ret, ext0, ext1, ext2, nil_eq, get_ne, get_eq, nth_0, nth_s, cells_agg, cells_int, cells_bool, cells_slice, cells_ptr, ro_zero, one_int, one_bool, one_slice, one_ptr, arr_size, overL, Nat.zero_add, Nat.reduceAdd, Nat.add_zero, List.length_cons, List.length_nil, List.all_cons, List.all_nil, Nat.reduceLeDiff, Nat.ble_eq, Bool.and_true, Bool.not_false, Bool.and_self, decide_true, List.drop_zero, List.drop_succ_cons, List.take_succ_cons, List.take_zero, List.take_nil, true_and, and_true, Int.ofNat_eq_natCast, neg_one, Int.toNat_natCast, Int.natCast_zero, Int.natCast_one, Int.cast_ofNat_Int, List.append_nil, List.nil_append, ldB (u2.box b1 (by omega)), clB (u2.box b1 (by omega)), ldBL (u2.box b1 (by omega)), clBL (u2.box b1 (by omega)), funX_eq, if_true, if_false, Bool.false_eq_true, Bool.not_true, Bool.not_false, X46_1]
  refine ValS.go u2 hp (s100 u2.fresh _ _ _) fun k3 s3 u3 _ => ?_
  cases e3 : wI x.ahead 0 1073741824 with
  | false =>
    simp (disch := omega) only [tys, bindJ_eq, logJ_eq, wp_cond, wp_guard, gd_true, gd_false, pick_eq, add_eq, sub_eq, eq_eq, ne_eq, lt_eq, le_eq, gt_eq, ge_eq, shr_eq, shl_eq, quo_eq, rem_eq, not_eq, wp_log_ret, ext0, ext1, ext2, nil_eq, get_ne, get_eq, nth_0, nth_s, cells_agg, cells_int, cells_bool, cells_slice, cells_ptr, ro_zero, one_int, one_bool, one_slice, one_ptr, arr_size, overL, Nat.zero_add, Nat.reduceAdd, Nat.add_zero, List.length_cons, List.length_nil, List.all_cons, List.all_nil, Nat.reduceLeDiff, Nat.ble_eq, Bool.and_true, Bool.not_false, Bool.and_self, decide_true, List.drop_zero, List.drop_succ_cons, List.take_succ_cons, List.take_zero, List.take_nil, true_and, and_true, Int.ofNat_eq_natCast, neg_one, Int.toNat_natCast, Int.natCast_zero, Int.natCast_one, Int.cast_ofNat_Int, List.append_nil, List.nil_append, ldB (u3.box b1 (by omega)), clB (u3.box b1 (by omega)), ldBL (u3.box b1 (by omega)), clBL (u3.box b1 (by omega)), funX_eq, if_true, if_false, Bool.false_eq_true, Bool.not_true, Bool.not_false, X46_1]
    have := hk _ _ u3
    simp only [errI, chkS, e1, e2, e3, Bool.true_and, Bool.false_and, Bool.and_self, Bool.false_eq_true, if_false] at this
    exact this
  | true =>
  simp (disch := omega) only [tys, bindJ_eq, logJ_eq, wp_cond, wp_guard, gd_true, gd_false, pick_eq, add_eq, sub_eq, eq_eq, ne_eq, lt_eq, le_eq, gt_eq, ge_eq, shr_eq, shl_eq, quo_eq, rem_eq, not_eq, wp_log_ret, ext0, ext1, ext2, nil_eq, get_ne, get_eq, nth_0, nth_s, cells_agg, cells_int, cells_bool, cells_slice, cells_ptr, ro_zero, one_int, one_bool, one_slice, one_ptr, arr_size, overL, Nat.zero_add, Nat.reduceAdd, Nat.add_zero, List.length_cons, List.length_nil, List.all_cons, List.all_nil, Nat.reduceLeDiff, Nat.ble_eq, Bool.and_true, Bool.not_false, Bool.and_self, decide_true, List.drop_zero, List.drop_succ_cons, List.take_succ_cons, List.take_zero, List.take_nil, true_and, and_true, Int.ofNat_eq_natCast, neg_one, Int.toNat_natCast, Int.natCast_zero, Int.natCast_one, Int.cast_ofNat_Int, List.append_nil, List.nil_append, ldB (u3.box b1 (by omega)), clB (u3.box b1 (by omega)), ldBL (u3.box b1 (by omega)), clBL (u3.box b1 (by omega)), funX_eq, if_true, if_false, Bool.false_eq_true, Bool.not_true, Bool.not_false, X46_1]
  refine ValS.go u3 hp (s100 u3.fresh _ _ _) fun k4 s4 u4 _ => ?_
  cases e4 : wI x.budget 1 200 with
  | false =>
    simp (disch := omega) only [tys, bindJ_eq, logJ_eq, wp_cond, wp_guard, gd_true, gd_false, pick_eq, add_eq, sub_eq, eq_eq, ne_eq, lt_eq, le_eq, gt_eq, ge_eq, shr_eq, shl_eq, quo_eq, rem_eq, not_eq, wp_log_ret, ext0, ext1, ext2, nil_eq, get_ne, get_eq, nth_0, nth_s, cells_agg, cells_int, cells_bool, cells_slice, cells_ptr, ro_zero, one_int, one_bool, one_slice, one_ptr, arr_size, overL, Nat.zero_add, Nat.reduceAdd, Nat.add_zero, List.length_cons, List.length_nil, List.all_cons, List.all_nil, Nat.reduceLeDiff, Nat.ble_eq, Bool.and_true, Bool.not_false, Bool.and_self, decide_true, List.drop_zero, List.drop_succ_cons, List.take_succ_cons, List.take_zero, List.take_nil, true_and, and_true, Int.ofNat_eq_natCast, neg_one, Int.toNat_natCast, Int.natCast_zero, Int.natCast_one, Int.cast_ofNat_Int, List.append_nil, List.nil_append, ldB (u4.box b1 (by omega)), clB (u4.box b1 (by omega)), ldBL (u4.box b1 (by omega)), clBL (u4.box b1 (by omega)), funX_eq, if_true, if_false, Bool.false_eq_true, Bool.not_true, Bool.not_false, X46_1]
    have := hk _ _ u4
    simp only [errI, chkS, e1, e2, e3, e4, Bool.true_and, Bool.false_and, Bool.and_self, Bool.false_eq_true, if_false] at this
    exact this
  | true =>
  simp (disch := omega) only [tys, bindJ_eq, logJ_eq, wp_cond, wp_guard, gd_true, gd_false, pick_eq, add_eq, sub_eq, eq_eq, ne_eq, lt_eq, le_eq, gt_eq, ge_eq, shr_eq, shl_eq, quo_eq, rem_eq, not_eq, wp_log_ret, ext0, ext1, ext2, nil_eq, get_ne, get_eq, nth_0, nth_s, cells_agg, cells_int, cells_bool, cells_slice, cells_ptr, ro_zero, one_int, one_bool, one_slice, one_ptr, arr_size, overL, Nat.zero_add, Nat.reduceAdd, Nat.add_zero, List.length_cons, List.length_nil, List.all_cons, List.all_nil, Nat.reduceLeDiff, Nat.ble_eq, Bool.and_true, Bool.not_false, Bool.and_self, decide_true, List.drop_zero, List.drop_succ_cons, List.take_succ_cons, List.take_zero, List.take_nil, true_and, and_true, Int.ofNat_eq_natCast, neg_one, Int.toNat_natCast, Int.natCast_zero, Int.natCast_one, Int.cast_ofNat_Int, List.append_nil, List.nil_append, ldB (u4.box b1 (by omega)), clB (u4.box b1 (by omega)), ldBL (u4.box b1 (by omega)), clBL (u4.box b1 (by omega)), funX_eq, if_true, if_false, Bool.false_eq_true, Bool.not_true, Bool.not_false, X46_1]
  refine ValS.go u4 hp (s100 u4.fresh _ _ _) fun k5 s5 u5 _ => ?_
  cases e5 : wI x.window 1 32 with
  | false =>
    simp (disch := omega) only [tys, bindJ_eq, logJ_eq, wp_cond, wp_guard, gd_true, gd_false, pick_eq, add_eq, sub_eq, eq_eq, ne_eq, lt_eq, le_eq, gt_eq, ge_eq, shr_eq, shl_eq, quo_eq, rem_eq, not_eq, wp_log_ret, ext0, ext1, ext2, nil_eq, get_ne, get_eq, nth_0, nth_s, cells_agg, cells_int, cells_bool, cells_slice, cells_ptr, ro_zero, one_int, one_bool, one_slice, one_ptr, arr_size, overL, Nat.zero_add, Nat.reduceAdd, Nat.add_zero, List.length_cons, List.length_nil, List.all_cons, List.all_nil, Nat.reduceLeDiff, Nat.ble_eq, Bool.and_true, Bool.not_false, Bool.and_self, decide_true, List.drop_zero, List.drop_succ_cons, List.take_succ_cons, List.take_zero, List.take_nil, true_and, and_true, Int.ofNat_eq_natCast, neg_one, Int.toNat_natCast, Int.natCast_zero, Int.natCast_one, Int.cast_ofNat_Int, List.append_nil, List.nil_append, ldB (u5.box b1 (by omega)), clB (u5.box b1 (by omega)), ldBL (u5.box b1 (by omega)), clBL (u5.box b1 (by omega)), funX_eq, if_true, if_false, Bool.false_eq_true, Bool.not_true, Bool.not_false, X46_1]
    have := hk _ _ u5
    simp only [errI, chkS, e1, e2, e3, e4, e5, Bool.true_and, Bool.false_and, Bool.and_self, Bool.false_eq_true, if_false] at this
    exact this
  | true =>
    simp (disch := omega) only [tys, bindJ_eq, logJ_eq, wp_cond, wp_guard, gd_true, gd_false, pick_eq, add_eq, sub_eq, eq_eq, ne_eq, lt_eq, le_eq, gt_eq, ge_eq, shr_eq, shl_eq, quo_eq, rem_eq, not_eq, wp_log_ret, ext0, ext1, ext2, nil_eq, get_ne, get_eq, nth_0, nth_s, cells_agg, cells_int, cells_bool, cells_slice, cells_ptr, ro_zero, one_int, one_bool, one_slice, one_ptr, arr_size, overL, Nat.zero_add, Nat.reduceAdd, Nat.add_zero, List.length_cons, List.length_nil, List.all_cons, List.all_nil, Nat.reduceLeDiff, Nat.ble_eq, Bool.and_true, Bool.not_false, Bool.and_self, decide_true, List.drop_zero, List.drop_succ_cons, List.take_succ_cons, List.take_zero, List.take_nil, true_and, and_true, Int.ofNat_eq_natCast, neg_one, Int.toNat_natCast, Int.natCast_zero, Int.natCast_one, Int.cast_ofNat_Int, List.append_nil, List.nil_append, ldB (u5.box b1 (by omega)), clB (u5.box b1 (by omega)), ldBL (u5.box b1 (by omega)), clBL (u5.box b1 (by omega)), funX_eq, if_true, if_false, Bool.false_eq_true, Bool.not_true, Bool.not_false, X46_1]
    have := hk _ _ u5
    simp only [errI, chkS, e1, e2, e3, e4, e5, Bool.and_self, if_true] at this
    exact this
end
end Go.Ev.R
namespace Go.Ev.R
open Go Go.RowKit
def shv (base : Int) (p : Option Addr) (len cap : Nat) (clean : Int) : List Value := [vi base, .slice p len cap, vi clean]
abbrev shval (base : Int) (p : Option Addr) (len cap : Nat) (clean : Int) : Value := .agg ⟨shv base p len cap clean⟩
theorem twinAny_take {l : List K3} {i : Nat} {x k : K3} (hx : l[i]? = some x) (h : twinAny (l.take i) k = false) (ht : twinK x k = false) : twinAny (l.take (i + 1)) k = false := by
  unfold twinAny at *
  rw [List.take_add_one, List.any_append, h, hx]
  simp [ht]
theorem twinAny_at {l : List K3} {i : Nat} {x k : K3} (hx : l[i]? = some x) (ht : twinK x k = true) : twinAny l k = true := by
  unfold twinAny
  rw [List.any_eq_true]
  exact ⟨x, List.mem_of_getElem? hx, ht⟩
theorem Row.fld {α : Type} {E : Enc α} {l : List α} {i j : Nat} {x : α} {v : Value} (hx : l[i]? = some x) (hj : (E.f x)[j]? = some v) : (l.flatMap E.f)[i * E.z + j]? = some v := by
  have h1 := E.flat_at l i x hx
  have hlt : j < E.z := by rw [← E.len x]; exact (List.getElem?_eq_some_iff.1 hj).1
  rw [← h1, List.getElem?_take, if_pos hlt, List.getElem?_drop] at hj
  exact hj
section
variable {h : T} {p : Option Addr} {len : Nat} {l : List K3} (r : Row EK h p len l) {i : Nat} {x : K3} (hx : l[i]? = some x) {pw : Nat → Prop} {Z : Value → T → Prop} (k : Value → Nat → AM) (j : LogT) (s : Nat)
include r hx
theorem rowA : (aload (blk p) (off p + i * 3) k s).wp pw Z h = (k (vi x.a) s).wp pw Z h := r.2.one (Row.fld (E := EK) (j := 0) hx rfl) k s
theorem rowB : (aload (blk p) (off p + i * 3 + 1) k s).wp pw Z h = (k (vi x.b) s).wp pw Z h := by
  have := r.2.one (Row.fld (E := EK) (j := 1) hx rfl) k s (pw := pw) (Z := Z)
  rw [← Nat.add_assoc] at this; exact this
theorem rowC : (aload (blk p) (off p + i * 3 + 2) k s).wp pw Z h = (k (vi x.c) s).wp pw Z h := by
  have := r.2.one (Row.fld (E := EK) (j := 2) hx rfl) k s (pw := pw) (Z := Z)
  rw [← Nat.add_assoc] at this; exact this
theorem rowAL : (AM.log (aload (blk p) (off p + i * 3) (fun v s => .ret (pk v s)) s) (logU j)).wp pw Z h = (j (vi x.a) [blk p] [] s).wp pw Z h := r.2.oneL (Row.fld (E := EK) (j := 0) hx rfl) j s
theorem rowBL : (AM.log (aload (blk p) (off p + i * 3 + 1) (fun v s => .ret (pk v s)) s) (logU j)).wp pw Z h = (j (vi x.b) [blk p] [] s).wp pw Z h := by
  have := r.2.oneL (Row.fld (E := EK) (j := 1) hx rfl) j s (pw := pw) (Z := Z)
  rw [← Nat.add_assoc] at this; exact this
theorem rowCL : (AM.log (aload (blk p) (off p + i * 3 + 2) (fun v s => .ret (pk v s)) s) (logU j)).wp pw Z h = (j (vi x.c) [blk p] [] s).wp pw Z h := by
  have := r.2.oneL (Row.fld (E := EK) (j := 2) hx rfl) j s (pw := pw) (Z := Z)
  rw [← Nat.add_assoc] at this; exact this
end
section
variable {h : T} {p : Option Addr} {len : Nat} {l : List K3} (r : Row EK h p len l) {x : K3} (hx : l[0]? = some x) {pw : Nat → Prop} {Z : Value → T → Prop} (k : Value → Nat → AM) (j : LogT) (s : Nat)
include r hx
theorem rowA0 : (aload (blk p) (off p) k s).wp pw Z h = (k (vi x.a) s).wp pw Z h := by
  have := rowA r hx (pw := pw) (Z := Z) k s
  rwa [Nat.zero_mul, Nat.add_zero] at this
theorem rowA0L : (AM.log (aload (blk p) (off p) (fun v s => .ret (pk v s)) s) (logU j)).wp pw Z h = (j (vi x.a) [blk p] [] s).wp pw Z h := by
  have := rowAL r hx (pw := pw) (Z := Z) j s
  rwa [Nat.zero_mul, Nat.add_zero] at this
theorem row30L (q : List Value → Value) : (AM.log (acells (blk p) (off p) 3 (fun l s => .ret (pk (q l) s)) s) (logU j)).wp pw Z h = (j (q (kv x)) [blk p] [] s).wp pw Z h := by
  have := row3L r hx (pw := pw) (Z := Z) q j s
  rwa [Nat.zero_mul, Nat.add_zero] at this
theorem row30 (q : List Value → Nat → AM) : (acells (blk p) (off p) 3 q s).wp pw Z h = (q (kv x) s).wp pw Z h := by
  have := row3 r hx (pw := pw) (Z := Z) q s
  rwa [Nat.zero_mul, Nat.add_zero] at this
end
section
variable {N d : Nat} (hN : 100000 ≤ N) {h : T} {s : Nat} (hf : ∀ n, s ≤ n → h.get n = none)
include hf
theorem s151 (x k : K3) {b : Nat} (hb : h.get b = some (.cells ⟨kv k⟩ 48 (0, 0))) (hbs : b < s) : ValS (D N (d + 2)) 151 [kval x, .pointer (some ⟨b, 0, none⟩)] h s (.bool (twinK x k)) := by
  refine ValS.of hf fun K pw Z g hp hk => ?_
  rw [D_151]; unfold F151; rw [app2_eq]
  refine wp_boxA g hp fun h1 g1 c1 b1 => ?_
  replace hk := fun h' s' (g' : From (s + 1) h1 h' s') => hk h' s' (g1.trans g'); replace hp := fun n (hn : s + 1 ≤ n) => hp n (by omega); have g0 := From.refl g1.fresh
  have hb1 := c1.box hb hbs
  simp only [kv] at b1 hb1
  simp (disch := omega) only [tys, bindJ_eq, logJ_eq, wp_cond, wp_guard, gd_true, gd_false, pick_eq, add_eq, sub_eq, eq_eq, ne_eq, lt_eq, le_eq, gt_eq, ge_eq, shr_eq, shl_eq, quo_eq, rem_eq, not_eq, wp_log_ret, ext0, ext1, ext2, nil_eq, get_ne, get_eq, nth_0, nth_s, cells_agg, cells_int, cells_bool, cells_slice, cells_ptr, ro_zero, one_int, one_bool, one_slice, one_ptr, arr_size, overL, Nat.zero_add, Nat.reduceAdd, Nat.add_zero, List.length_cons, List.length_nil, List.all_cons, List.all_nil, Nat.reduceLeDiff, Nat.ble_eq, Bool.and_true, Bool.not_false, Bool.and_self, decide_true, List.drop_zero, List.drop_succ_cons, List.take_succ_cons, List.take_zero, List.take_nil, true_and, and_true, Int.ofNat_eq_natCast, neg_one, Int.toNat_natCast, Int.natCast_zero, Int.natCast_one, Int.cast_ofNat_Int, List.append_nil, List.nil_append, ldB b1, clB b1, ldBL b1, clBL b1, ldB hb1, clB hb1, ldBL hb1, clBL hb1, funX_eq, if_true, if_false, Bool.false_eq_true, Bool.not_true, Bool.not_false]
  exact ValS.go g0 hp (s32 g0.fresh x k) fun h2 s2 u2 _ => hk _ _ u2
include hN
theorem s172 {p : Option Addr} {len cap : Nat} {l : List K3} (r : Row EK h p len l) (hl : len ≤ 10000) (k : K3) {b : Nat} (hb : h.get b = some (.cells ⟨kv k⟩ 48 (0, 0))) (hbs : b < s) :
    PureS (D N (d + 3)) 172 [.slice p len cap, .func (.func 151) ⟨[]⟩ ⟨[.pointer (some ⟨b, 0, none⟩)]⟩] h s (fun v _ _ => ∃ n : Int, v = vi n ∧ decide (0 ≤ n) = twinAny l k) := by
  refine PureS.of hf fun K pw Z g hp hk => ?_
  rw [D_172]; unfold F172; rw [app2_eq]
  simp (disch := omega) only [tys, bindJ_eq, logJ_eq, wp_cond, wp_guard, gd_true, gd_false, pick_eq, add_eq, sub_eq, eq_eq, ne_eq, lt_eq, le_eq, gt_eq, ge_eq, shr_eq, shl_eq, quo_eq, rem_eq, not_eq, wp_log_ret, ext0, ext1, ext2, nil_eq, get_ne, get_eq, nth_0, nth_s, cells_agg, cells_int, cells_bool, cells_slice, cells_ptr, ro_zero, one_int, one_bool, one_slice, one_ptr, arr_size, overL, Nat.zero_add, Nat.reduceAdd, Nat.add_zero, List.length_cons, List.length_nil, List.all_cons, List.all_nil, Nat.reduceLeDiff, Nat.ble_eq, Bool.and_true, Bool.not_false, Bool.and_self, decide_true, List.drop_zero, List.drop_succ_cons, List.take_succ_cons, List.take_zero, List.take_nil, true_and, and_true, Int.ofNat_eq_natCast, neg_one, Int.toNat_natCast, Int.natCast_zero, Int.natCast_one, Int.cast_ofNat_Int, List.append_nil, List.nil_append, funX_eq, if_true, if_false, Bool.false_eq_true, Bool.not_true, Bool.not_false]
  have loop : ∀ (B : (Value → Value → Nat → AM) → Value → Value → Nat → AM) (hB : ∀ H u i s, B H u i s = X172_1 N (D N (d + 2)) K (vi len) (.slice p len cap) (.func (.func 151) ⟨[]⟩ ⟨[.pointer (some ⟨b, 0, none⟩)]⟩) (fun s => K (vi (-1)) s) H u i s) (m i : Nat) (u : Value) (h1 : T) (s1 : Nat), len - i < m → i ≤ len → twinAny (l.take i) k = false → From s h h1 s1 →
      (loopJ m 2 (fun _ _ _ => AM.fail) B u (vi i) s1).wp pw Z h1 := by
    intro B hB m
    induction m with
    | zero => intro i u h1 s1 hm; omega
    | succ m ih =>
      intro i u h1 s1 hm hil ht g1
      have r1 := g1.row hf r
      rw [loopJ_succ, hB]
      unfold X172_1
      by_cases hlt : i < len
      · obtain ⟨x, hx⟩ := get_some (l := l) (i := i) (by rw [r.1]; omega)
        simp (disch := omega) only [tys, bindJ_eq, logJ_eq, wp_cond, wp_guard, gd_true, gd_false, pick_eq, add_eq, sub_eq, eq_eq, ne_eq, lt_eq, le_eq, gt_eq, ge_eq, shr_eq, shl_eq, quo_eq, rem_eq, not_eq, wp_log_ret, ext0, ext1, ext2, nil_eq, get_ne, get_eq, nth_0, nth_s, cells_agg, cells_int, cells_bool, cells_slice, cells_ptr, ro_zero, one_int, one_bool, one_slice, one_ptr, arr_size, overL, Nat.zero_add, Nat.reduceAdd, Nat.add_zero, List.length_cons, List.length_nil, List.all_cons, List.all_nil, Nat.reduceLeDiff, Nat.ble_eq, Bool.and_true, Bool.not_false, Bool.and_self, decide_true, List.drop_zero, List.drop_succ_cons, List.take_succ_cons, List.take_zero, List.take_nil, true_and, and_true, Int.ofNat_eq_natCast, neg_one, Int.toNat_natCast, Int.natCast_zero, Int.natCast_one, Int.cast_ofNat_Int, List.append_nil, List.nil_append, funX_eq, if_true, if_false, Bool.false_eq_true, Bool.not_true, Bool.not_false, show (i : Int) < (len : Int) by omega, xa3 r1 (j := (i : Int)) (by omega) (by omega), row3 r1 hx, iv_151, List.cons_append]
        refine ValS.go g1 hp (s151 g1.fresh x k (g1.box hb hbs) (by have := g1.le; omega)) fun h2 s2 g2 _ => ?_
        cases e : twinK x k with
        | true =>
          simp (disch := omega) only [tys, bindJ_eq, logJ_eq, wp_cond, wp_guard, gd_true, gd_false, pick_eq, add_eq, sub_eq, eq_eq, ne_eq, lt_eq, le_eq, gt_eq, ge_eq, shr_eq, shl_eq, quo_eq, rem_eq, not_eq, wp_log_ret, ext0, ext1, ext2, nil_eq, get_ne, get_eq, nth_0, nth_s, cells_agg, cells_int, cells_bool, cells_slice, cells_ptr, ro_zero, one_int, one_bool, one_slice, one_ptr, arr_size, overL, Nat.zero_add, Nat.reduceAdd, Nat.add_zero, List.length_cons, List.length_nil, List.all_cons, List.all_nil, Nat.reduceLeDiff, Nat.ble_eq, Bool.and_true, Bool.not_false, Bool.and_self, decide_true, List.drop_zero, List.drop_succ_cons, List.take_succ_cons, List.take_zero, List.take_nil, true_and, and_true, Int.ofNat_eq_natCast, neg_one, Int.toNat_natCast, Int.natCast_zero, Int.natCast_one, Int.cast_ofNat_Int, List.append_nil, List.nil_append, funX_eq, if_true, if_false, Bool.false_eq_true, Bool.not_true, Bool.not_false]
          exact hk _ _ _ g2 ⟨(i : Int), rfl, by rw [twinAny_at hx e]; simp⟩
        | false =>
          simp (disch := omega) only [tys, bindJ_eq, logJ_eq, wp_cond, wp_guard, gd_true, gd_false, pick_eq, add_eq, sub_eq, eq_eq, ne_eq, lt_eq, le_eq, gt_eq, ge_eq, shr_eq, shl_eq, quo_eq, rem_eq, not_eq, wp_log_ret, ext0, ext1, ext2, nil_eq, get_ne, get_eq, nth_0, nth_s, cells_agg, cells_int, cells_bool, cells_slice, cells_ptr, ro_zero, one_int, one_bool, one_slice, one_ptr, arr_size, overL, Nat.zero_add, Nat.reduceAdd, Nat.add_zero, List.length_cons, List.length_nil, List.all_cons, List.all_nil, Nat.reduceLeDiff, Nat.ble_eq, Bool.and_true, Bool.not_false, Bool.and_self, decide_true, List.drop_zero, List.drop_succ_cons, List.take_succ_cons, List.take_zero, List.take_nil, true_and, and_true, Int.ofNat_eq_natCast, neg_one, Int.toNat_natCast, Int.natCast_zero, Int.natCast_one, Int.cast_ofNat_Int, List.append_nil, List.nil_append, funX_eq, if_true, if_false, Bool.false_eq_true, Bool.not_true, Bool.not_false, wrapS (i := i) (by omega)]
          exact ih (i + 1) u h2 s2 (by omega) (by omega) (twinAny_take hx ht e) g2
      · obtain rfl : i = len := by omega
        simp (disch := omega) only [tys, bindJ_eq, logJ_eq, wp_cond, wp_guard, gd_true, gd_false, pick_eq, add_eq, sub_eq, eq_eq, ne_eq, lt_eq, le_eq, gt_eq, ge_eq, shr_eq, shl_eq, quo_eq, rem_eq, not_eq, wp_log_ret, ext0, ext1, ext2, nil_eq, get_ne, get_eq, nth_0, nth_s, cells_agg, cells_int, cells_bool, cells_slice, cells_ptr, ro_zero, one_int, one_bool, one_slice, one_ptr, arr_size, overL, Nat.zero_add, Nat.reduceAdd, Nat.add_zero, List.length_cons, List.length_nil, List.all_cons, List.all_nil, Nat.reduceLeDiff, Nat.ble_eq, Bool.and_true, Bool.not_false, Bool.and_self, decide_true, List.drop_zero, List.drop_succ_cons, List.take_succ_cons, List.take_zero, List.take_nil, true_and, and_true, Int.ofNat_eq_natCast, neg_one, Int.toNat_natCast, Int.natCast_zero, Int.natCast_one, Int.cast_ofNat_Int, List.append_nil, List.nil_append, funX_eq, if_true, if_false, Bool.false_eq_true, Bool.not_true, Bool.not_false, Int.lt_irrefl, decide_false]
        rw [List.take_of_length_le (by rw [r.1]; exact Nat.le_refl _)] at ht
        exact hk _ _ _ g1 ⟨-1, rfl, by rw [ht]; rfl⟩
  exact loop _ (fun _ _ _ _ => rfl) N 0 _ h s (by omega) (by omega) rfl g
theorem s102 {p : Option Addr} {len cap : Nat} {l : List K3} (r : Row EK h p len l) (hl : len ≤ 10000) (k : K3) : ValS (D N (d + 5)) 102 [.slice p len cap, kval k] h s (.bool (twinAny l k)) := by
  refine ValS.of hf fun K pw Z g hp hk => ?_
  rw [D_102]; unfold F102; rw [app2_eq]
  refine wp_boxA g hp fun h1 g1 c1 b1 => ?_
  replace hk := fun h' s' (g' : From (s + 1) h1 h' s') => hk h' s' (g1.trans g'); replace hp := fun n (hn : s + 1 ≤ n) => hp n (by omega); have g0 := From.refl g1.fresh
  simp (disch := omega) only [tys, bindJ_eq, logJ_eq, wp_cond, wp_guard, gd_true, gd_false, pick_eq, add_eq, sub_eq, eq_eq, ne_eq, lt_eq, le_eq, gt_eq, ge_eq, shr_eq, shl_eq, quo_eq, rem_eq, not_eq, wp_log_ret, ext0, ext1, ext2, nil_eq, get_ne, get_eq, nth_0, nth_s, cells_agg, cells_int, cells_bool, cells_slice, cells_ptr, ro_zero, one_int, one_bool, one_slice, one_ptr, arr_size, overL, Nat.zero_add, Nat.reduceAdd, Nat.add_zero, List.length_cons, List.length_nil, List.all_cons, List.all_nil, Nat.reduceLeDiff, Nat.ble_eq, Bool.and_true, Bool.not_false, Bool.and_self, decide_true, List.drop_zero, List.drop_succ_cons, List.take_succ_cons, List.take_zero, List.take_nil, true_and, and_true, Int.ofNat_eq_natCast, neg_one, Int.toNat_natCast, Int.natCast_zero, Int.natCast_one, Int.cast_ofNat_Int, List.append_nil, List.nil_append, funX_eq, if_true, if_false, Bool.false_eq_true, Bool.not_true, Bool.not_false, D_150, F150, app2_eq]
  refine PureS.go g0 hp (s172 hN g0.fresh (g1.row hf r) hl k b1 (by omega)) fun v h2 s2 g2 _ hv => ?_
  obtain ⟨n, rfl, hn⟩ := hv
  simp (disch := omega) only [tys, bindJ_eq, logJ_eq, wp_cond, wp_guard, gd_true, gd_false, pick_eq, add_eq, sub_eq, eq_eq, ne_eq, lt_eq, le_eq, gt_eq, ge_eq, shr_eq, shl_eq, quo_eq, rem_eq, not_eq, wp_log_ret, ext0, ext1, ext2, nil_eq, get_ne, get_eq, nth_0, nth_s, cells_agg, cells_int, cells_bool, cells_slice, cells_ptr, ro_zero, one_int, one_bool, one_slice, one_ptr, arr_size, overL, Nat.zero_add, Nat.reduceAdd, Nat.add_zero, List.length_cons, List.length_nil, List.all_cons, List.all_nil, Nat.reduceLeDiff, Nat.ble_eq, Bool.and_true, Bool.not_false, Bool.and_self, decide_true, List.drop_zero, List.drop_succ_cons, List.take_succ_cons, List.take_zero, List.take_nil, true_and, and_true, Int.ofNat_eq_natCast, neg_one, Int.toNat_natCast, Int.natCast_zero, Int.natCast_one, Int.cast_ofNat_Int, List.append_nil, List.nil_append, funX_eq, if_true, if_false, Bool.false_eq_true, Bool.not_true, Bool.not_false]
  rw [hn]
  exact hk _ _ g2
omit hN
theorem s104 (x : SU) (base clean : Int) {p : Option Addr} {len cap : Nat} {l : List K3} (r : Row EK h p len l) : ValS (D N (d + 1)) 104 [suval x, shval base p len cap clean] h s (.bool (fullK x l)) := by
  refine ValS.of hf fun K pw Z g hp hk => ?_
  rw [D_104]; unfold F104; rw [app2_eq]
  refine wp_boxA g hp fun h1 g1 c1 b1 => ?_
  refine wp_boxA g1 hp fun h2 g2 c2 b2 => ?_
  replace b1 := c2.box b1 (by omega)
  simp only [suv, shv] at b1 b2
  simp (disch := omega) only [tys, bindJ_eq, logJ_eq, wp_cond, wp_guard, gd_true, gd_false, pick_eq, add_eq, sub_eq, eq_eq, ne_eq, lt_eq, le_eq, gt_eq, ge_eq, shr_eq, shl_eq, quo_eq, rem_eq, not_eq, wp_log_ret, ext0, ext1, ext2, nil_eq, get_ne, get_eq, nth_0, nth_s, cells_agg, cells_int, cells_bool, cells_slice, cells_ptr, ro_zero, one_int, one_bool, one_slice, one_ptr, arr_size, overL, Nat.zero_add, Nat.reduceAdd, Nat.add_zero, List.length_cons, List.length_nil, List.all_cons, List.all_nil, Nat.reduceLeDiff, Nat.ble_eq, Bool.and_true, Bool.not_false, Bool.and_self, decide_true, List.drop_zero, List.drop_succ_cons, List.take_succ_cons, List.take_zero, List.take_nil, true_and, and_true, Int.ofNat_eq_natCast, neg_one, Int.toNat_natCast, Int.natCast_zero, Int.natCast_one, Int.cast_ofNat_Int, List.append_nil, List.nil_append, ldB b1, clB b1, ldBL b1, clBL b1, ldB b2, clB b2, ldBL b2, clBL b2, funX_eq, if_true, if_false, Bool.false_eq_true, Bool.not_true, Bool.not_false]
  have := hk _ _ g2
  unfold fullK at this
  rw [r.1] at this
  exact this
theorem s49 (base clean : Int) {p : Option Addr} {len cap : Nat} {l : List K3} (r : Row EK h p len l) (hl : len ≤ 10000) : ValS (D N (d + 1)) 49 [shval base p len cap clean] h s (vi (newK base l)) := by
  refine ValS.of hf fun K pw Z g hp hk => ?_
  rw [D_49]; unfold F49; rw [app1_eq]
  refine wp_boxA g hp fun h1 g1 c1 b1 => ?_
  simp only [shv] at b1
  have r1 := g1.row hf r
  have := hk _ _ g1
  unfold newK at this
  by_cases h0 : len = 0
  · subst h0
    obtain rfl := List.eq_nil_of_length_eq_zero r.1
    simp (disch := omega) only [tys, bindJ_eq, logJ_eq, wp_cond, wp_guard, gd_true, gd_false, pick_eq, add_eq, sub_eq, eq_eq, ne_eq, lt_eq, le_eq, gt_eq, ge_eq, shr_eq, shl_eq, quo_eq, rem_eq, not_eq, wp_log_ret, ext0, ext1, ext2, nil_eq, get_ne, get_eq, nth_0, nth_s, cells_agg, cells_int, cells_bool, cells_slice, cells_ptr, ro_zero, one_int, one_bool, one_slice, one_ptr, arr_size, overL, Nat.zero_add, Nat.reduceAdd, Nat.add_zero, List.length_cons, List.length_nil, List.all_cons, List.all_nil, Nat.reduceLeDiff, Nat.ble_eq, Bool.and_true, Bool.not_false, Bool.and_self, decide_true, List.drop_zero, List.drop_succ_cons, List.take_succ_cons, List.take_zero, List.take_nil, true_and, and_true, Int.ofNat_eq_natCast, neg_one, Int.toNat_natCast, Int.natCast_zero, Int.natCast_one, Int.cast_ofNat_Int, List.append_nil, List.nil_append, ldB b1, clB b1, ldBL b1, clBL b1, funX_eq, if_true, if_false, Bool.false_eq_true, Bool.not_true, Bool.not_false]
    exact this
  · obtain ⟨x, hx⟩ := get_some (l := l) (i := len - 1) (by rw [r.1]; omega)
    rw [r.1, hx] at this
    simp (disch := omega) only [tys, bindJ_eq, logJ_eq, wp_cond, wp_guard, gd_true, gd_false, pick_eq, add_eq, sub_eq, eq_eq, ne_eq, lt_eq, le_eq, gt_eq, ge_eq, shr_eq, shl_eq, quo_eq, rem_eq, not_eq, wp_log_ret, ext0, ext1, ext2, nil_eq, get_ne, get_eq, nth_0, nth_s, cells_agg, cells_int, cells_bool, cells_slice, cells_ptr, ro_zero, one_int, one_bool, one_slice, one_ptr, arr_size, overL, Nat.zero_add, Nat.reduceAdd, Nat.add_zero, List.length_cons, List.length_nil, List.all_cons, List.all_nil, Nat.reduceLeDiff, Nat.ble_eq, Bool.and_true, Bool.not_false, Bool.and_self, decide_true, List.drop_zero, List.drop_succ_cons, List.take_succ_cons, List.take_zero, List.take_nil, true_and, and_true, Int.ofNat_eq_natCast, neg_one, Int.toNat_natCast, Int.natCast_zero, Int.natCast_one, Int.cast_ofNat_Int, List.append_nil, List.nil_append, ldB b1, clB b1, ldBL b1, clBL b1, funX_eq, if_true, if_false, Bool.false_eq_true, Bool.not_true, Bool.not_false, show ¬ (len : Int) = 0 by omega, decide_false, wrap_id (a := (len : Int) - 1) (by omega) (by omega)]
    have e : (len : Int) - 1 = ((len - 1 : Nat) : Int) := by omega
    rw [e]
    simp (disch := omega) only [tys, bindJ_eq, logJ_eq, wp_cond, wp_guard, gd_true, gd_false, pick_eq, add_eq, sub_eq, eq_eq, ne_eq, lt_eq, le_eq, gt_eq, ge_eq, shr_eq, shl_eq, quo_eq, rem_eq, not_eq, wp_log_ret, ext0, ext1, ext2, nil_eq, get_ne, get_eq, nth_0, nth_s, cells_agg, cells_int, cells_bool, cells_slice, cells_ptr, ro_zero, one_int, one_bool, one_slice, one_ptr, arr_size, overL, Nat.zero_add, Nat.reduceAdd, Nat.add_zero, List.length_cons, List.length_nil, List.all_cons, List.all_nil, Nat.reduceLeDiff, Nat.ble_eq, Bool.and_true, Bool.not_false, Bool.and_self, decide_true, List.drop_zero, List.drop_succ_cons, List.take_succ_cons, List.take_zero, List.take_nil, true_and, and_true, Int.ofNat_eq_natCast, neg_one, Int.toNat_natCast, Int.natCast_zero, Int.natCast_one, Int.cast_ofNat_Int, List.append_nil, List.nil_append, funX_eq, if_true, if_false, Bool.false_eq_true, Bool.not_true, Bool.not_false, xa3 r1 (j := ((len - 1 : Nat) : Int)) (by omega) (by omega)]
    rw [rowA r1 hx]
    exact this
end
end Go.Ev.R
namespace Go.Ev.R
open Go Go.RowKit
theorem good_step {base : Int} {l : List K3} {i : Nat} {x : K3} (hx : l[i]? = some x) : goodFrom base l i ↔ (wI x.a base maxT = true ∧ twinAny (l.take i) x = false) ∧ goodFrom base l (i + 1) := by
  constructor
  · exact fun h => ⟨h i x (Nat.le_refl _) hx, fun j k hj hk => h j k (by omega) hk⟩
  · rintro ⟨h1, h2⟩ j k hj hk
    rcases Nat.lt_or_ge i j with h3 | h3
    · exact h2 j k h3 hk
    · obtain rfl : i = j := by omega
      rw [hx] at hk; cases hk; exact h1
theorem good_end (base : Int) (l : List K3) : goodFrom base l l.length := fun j k hj hk => by
  have := (List.getElem?_eq_some_iff.1 hk).1
  omega
theorem xa30 {h : T} {p : Option Addr} {len : Nat} {l : List K3} (r : Row EK h p len l) (hl : 0 < len) (cap : Nat) (k : Value → Nat → AM) (s : Nat) :
    M.opt (aindexAt P 44 (.slice p len cap) (i64 0)) k s = k (.pointer (some ⟨blk p, off p + 0 * 3, none⟩)) s := xa3 r (j := ((0 : Nat) : Int)) (by omega) (by omega) cap .i64 k s
section
variable {N d : Nat} (hN : 100000 ≤ N) {h : T} {s : Nat} (hf : ∀ n, s ≤ n → h.get n = none)
include hN hf
theorem s31 (x : SU) (base clean : Int) {p : Option Addr} {len cap : Nat} {l : List K3} (r : Sl EK h p len cap l) (hl : len ≤ 10000) : ValS (D N (d + 6)) 31 [suval x, shval base p len cap clean] h s (vi (errI (fitsK x base clean l))) := by
  refine ValS.of hf fun K pw Z g hp hk => ?_
  rw [D_31]; unfold F31; rw [app2_eq]
  refine wp_boxA g hp fun h1 g1 c1 b1 => ?_
  refine wp_boxA g1 hp fun h2 g2 c2 b2 => ?_
  replace hk := fun h' s' (g' : From (s + 1 + 1) h2 h' s') => hk h' s' (g2.trans g'); replace hp := fun n (hn : s + 1 + 1 ≤ n) => hp n (by omega); have g0 := From.refl g2.fresh
  replace b1 := c2.box b1 (by omega)
  have r0 := r.from hf g2
  simp only [suv, shv] at b1 b2
  have hlen := r.row.1
  have bad : ∀ h' s', From (s + 1 + 1) h2 h' s' → fitsK x base clean l = false → (K (i64 2) s').wp pw Z h' := fun h' s' g' e => by
    have := hk _ _ g'
    simp only [errI, e, Bool.false_eq_true, if_false] at this
    exact this
  have fin : ∀ h' s', From (s + 1 + 1) h2 h' s' → fitsK x base clean l = true → (K (i64 0) s').wp pw Z h' := fun h' s' g' e => by
    have := hk _ _ g'
    simp only [errI, e, if_true] at this
    exact this
  simp (disch := omega) only [tys, bindJ_eq, logJ_eq, wp_cond, wp_guard, gd_true, gd_false, pick_eq, add_eq, sub_eq, eq_eq, ne_eq, lt_eq, le_eq, gt_eq, ge_eq, shr_eq, shl_eq, quo_eq, rem_eq, not_eq, wp_log_ret, ext0, ext1, ext2, nil_eq, get_ne, get_eq, nth_0, nth_s, cells_agg, cells_int, cells_bool, cells_slice, cells_ptr, ro_zero, one_int, one_bool, one_slice, one_ptr, arr_size, overL, Nat.zero_add, Nat.reduceAdd, Nat.add_zero, List.length_cons, List.length_nil, List.all_cons, List.all_nil, Nat.reduceLeDiff, Nat.ble_eq, Bool.and_true, Bool.not_false, Bool.and_self, decide_true, List.drop_zero, List.drop_succ_cons, List.take_succ_cons, List.take_zero, List.take_nil, true_and, and_true, Int.ofNat_eq_natCast, neg_one, Int.toNat_natCast, Int.natCast_zero, Int.natCast_one, Int.cast_ofNat_Int, List.append_nil, List.nil_append, ldB b1, clB b1, ldBL b1, clBL b1, ldB b2, clB b2, ldBL b2, clBL b2, funX_eq, if_true, if_false, Bool.false_eq_true, Bool.not_true, Bool.not_false]
  refine ValS.go g0 hp (s46 g0.fresh x) fun k1 s1 u1 _ => ?_
  cases e1 : chkS x with
  | false =>
    simp (disch := omega) only [tys, bindJ_eq, logJ_eq, wp_cond, wp_guard, gd_true, gd_false, pick_eq, add_eq, sub_eq, eq_eq, ne_eq, lt_eq, le_eq, gt_eq, ge_eq, shr_eq, shl_eq, quo_eq, rem_eq, not_eq, wp_log_ret, ext0, ext1, ext2, nil_eq, get_ne, get_eq, nth_0, nth_s, cells_agg, cells_int, cells_bool, cells_slice, cells_ptr, ro_zero, one_int, one_bool, one_slice, one_ptr, arr_size, overL, Nat.zero_add, Nat.reduceAdd, Nat.add_zero, List.length_cons, List.length_nil, List.all_cons, List.all_nil, Nat.reduceLeDiff, Nat.ble_eq, Bool.and_true, Bool.not_false, Bool.and_self, decide_true, List.drop_zero, List.drop_succ_cons, List.take_succ_cons, List.take_zero, List.take_nil, true_and, and_true, Int.ofNat_eq_natCast, neg_one, Int.toNat_natCast, Int.natCast_zero, Int.natCast_one, Int.cast_ofNat_Int, List.append_nil, List.nil_append, funX_eq, if_true, if_false, Bool.false_eq_true, Bool.not_true, Bool.not_false, errI, X31_6, X31_5]
    exact bad _ _ u1 (by simp only [fitsK, e1, Bool.false_and])
  | true =>
  simp (disch := omega) only [tys, bindJ_eq, logJ_eq, wp_cond, wp_guard, gd_true, gd_false, pick_eq, add_eq, sub_eq, eq_eq, ne_eq, lt_eq, le_eq, gt_eq, ge_eq, shr_eq, shl_eq, quo_eq, rem_eq, not_eq, wp_log_ret, ext0, ext1, ext2, nil_eq, get_ne, get_eq, nth_0, nth_s, cells_agg, cells_int, cells_bool, cells_slice, cells_ptr, ro_zero, one_int, one_bool, one_slice, one_ptr, arr_size, overL, Nat.zero_add, Nat.reduceAdd, Nat.add_zero, List.length_cons, List.length_nil, List.all_cons, List.all_nil, Nat.reduceLeDiff, Nat.ble_eq, Bool.and_true, Bool.not_false, Bool.and_self, decide_true, List.drop_zero, List.drop_succ_cons, List.take_succ_cons, List.take_zero, List.take_nil, true_and, and_true, Int.ofNat_eq_natCast, neg_one, Int.toNat_natCast, Int.natCast_zero, Int.natCast_one, Int.cast_ofNat_Int, List.append_nil, List.nil_append, ldB (u1.box b1 (by omega)), clB (u1.box b1 (by omega)), ldBL (u1.box b1 (by omega)), clBL (u1.box b1 (by omega)), ldB (u1.box b2 (by omega)), clB (u1.box b2 (by omega)), ldBL (u1.box b2 (by omega)), clBL (u1.box b2 (by omega)), funX_eq, if_true, if_false, Bool.false_eq_true, Bool.not_true, Bool.not_false, errI]
  refine ValS.go u1 hp (s100 u1.fresh _ _ _) fun k2 s2 u2 _ => ?_
  cases e2 : wI base 0 1099511627776 with
  | false =>
    simp (disch := omega) only [tys, bindJ_eq, logJ_eq, wp_cond, wp_guard, gd_true, gd_false, pick_eq, add_eq, sub_eq, eq_eq, ne_eq, lt_eq, le_eq, gt_eq, ge_eq, shr_eq, shl_eq, quo_eq, rem_eq, not_eq, wp_log_ret, ext0, ext1, ext2, nil_eq, get_ne, get_eq, nth_0, nth_s, cells_agg, cells_int, cells_bool, cells_slice, cells_ptr, ro_zero, one_int, one_bool, one_slice, one_ptr, arr_size, overL, Nat.zero_add, Nat.reduceAdd, Nat.add_zero, List.length_cons, List.length_nil, List.all_cons, List.all_nil, Nat.reduceLeDiff, Nat.ble_eq, Bool.and_true, Bool.not_false, Bool.and_self, decide_true, List.drop_zero, List.drop_succ_cons, List.take_succ_cons, List.take_zero, List.take_nil, true_and, and_true, Int.ofNat_eq_natCast, neg_one, Int.toNat_natCast, Int.natCast_zero, Int.natCast_one, Int.cast_ofNat_Int, List.append_nil, List.nil_append, funX_eq, if_true, if_false, Bool.false_eq_true, Bool.not_true, Bool.not_false, X31_6, X31_5]
    exact bad _ _ u2 (by simp only [fitsK, maxT, e1, e2, Bool.false_and, Bool.and_false])
  | true =>
  simp (disch := omega) only [tys, bindJ_eq, logJ_eq, wp_cond, wp_guard, gd_true, gd_false, pick_eq, add_eq, sub_eq, eq_eq, ne_eq, lt_eq, le_eq, gt_eq, ge_eq, shr_eq, shl_eq, quo_eq, rem_eq, not_eq, wp_log_ret, ext0, ext1, ext2, nil_eq, get_ne, get_eq, nth_0, nth_s, cells_agg, cells_int, cells_bool, cells_slice, cells_ptr, ro_zero, one_int, one_bool, one_slice, one_ptr, arr_size, overL, Nat.zero_add, Nat.reduceAdd, Nat.add_zero, List.length_cons, List.length_nil, List.all_cons, List.all_nil, Nat.reduceLeDiff, Nat.ble_eq, Bool.and_true, Bool.not_false, Bool.and_self, decide_true, List.drop_zero, List.drop_succ_cons, List.take_succ_cons, List.take_zero, List.take_nil, true_and, and_true, Int.ofNat_eq_natCast, neg_one, Int.toNat_natCast, Int.natCast_zero, Int.natCast_one, Int.cast_ofNat_Int, List.append_nil, List.nil_append, ldB (u2.box b1 (by omega)), clB (u2.box b1 (by omega)), ldBL (u2.box b1 (by omega)), clBL (u2.box b1 (by omega)), ldB (u2.box b2 (by omega)), clB (u2.box b2 (by omega)), ldBL (u2.box b2 (by omega)), clBL (u2.box b2 (by omega)), funX_eq, if_true, if_false, Bool.false_eq_true, Bool.not_true, Bool.not_false, X31_6]
  by_cases e3 : (len : Int) ≤ x.keep
  case neg =>
    simp (disch := omega) only [tys, bindJ_eq, logJ_eq, wp_cond, wp_guard, gd_true, gd_false, pick_eq, add_eq, sub_eq, eq_eq, ne_eq, lt_eq, le_eq, gt_eq, ge_eq, shr_eq, shl_eq, quo_eq, rem_eq, not_eq, wp_log_ret, ext0, ext1, ext2, nil_eq, get_ne, get_eq, nth_0, nth_s, cells_agg, cells_int, cells_bool, cells_slice, cells_ptr, ro_zero, one_int, one_bool, one_slice, one_ptr, arr_size, overL, Nat.zero_add, Nat.reduceAdd, Nat.add_zero, List.length_cons, List.length_nil, List.all_cons, List.all_nil, Nat.reduceLeDiff, Nat.ble_eq, Bool.and_true, Bool.not_false, Bool.and_self, decide_true, List.drop_zero, List.drop_succ_cons, List.take_succ_cons, List.take_zero, List.take_nil, true_and, and_true, Int.ofNat_eq_natCast, neg_one, Int.toNat_natCast, Int.natCast_zero, Int.natCast_one, Int.cast_ofNat_Int, List.append_nil, List.nil_append, ldB (u2.box b1 (by omega)), clB (u2.box b1 (by omega)), ldBL (u2.box b1 (by omega)), clBL (u2.box b1 (by omega)), ldB (u2.box b2 (by omega)), clB (u2.box b2 (by omega)), ldBL (u2.box b2 (by omega)), clBL (u2.box b2 (by omega)), funX_eq, if_true, if_false, Bool.false_eq_true, Bool.not_true, Bool.not_false, show x.keep < (len : Int) by omega, X31_5]
    exact bad _ _ u2 (by simp only [fitsK, hlen, e1, e2, e3, decide_false, Bool.false_and, Bool.and_false])
  simp (disch := omega) only [tys, bindJ_eq, logJ_eq, wp_cond, wp_guard, gd_true, gd_false, pick_eq, add_eq, sub_eq, eq_eq, ne_eq, lt_eq, le_eq, gt_eq, ge_eq, shr_eq, shl_eq, quo_eq, rem_eq, not_eq, wp_log_ret, ext0, ext1, ext2, nil_eq, get_ne, get_eq, nth_0, nth_s, cells_agg, cells_int, cells_bool, cells_slice, cells_ptr, ro_zero, one_int, one_bool, one_slice, one_ptr, arr_size, overL, Nat.zero_add, Nat.reduceAdd, Nat.add_zero, List.length_cons, List.length_nil, List.all_cons, List.all_nil, Nat.reduceLeDiff, Nat.ble_eq, Bool.and_true, Bool.not_false, Bool.and_self, decide_true, List.drop_zero, List.drop_succ_cons, List.take_succ_cons, List.take_zero, List.take_nil, true_and, and_true, Int.ofNat_eq_natCast, neg_one, Int.toNat_natCast, Int.natCast_zero, Int.natCast_one, Int.cast_ofNat_Int, List.append_nil, List.nil_append, ldB (u2.box b1 (by omega)), clB (u2.box b1 (by omega)), ldBL (u2.box b1 (by omega)), clBL (u2.box b1 (by omega)), ldB (u2.box b2 (by omega)), clB (u2.box b2 (by omega)), ldBL (u2.box b2 (by omega)), clBL (u2.box b2 (by omega)), funX_eq, if_true, if_false, Bool.false_eq_true, Bool.not_true, Bool.not_false, show ¬ x.keep < (len : Int) by omega, decide_false]
  refine ValS.go u2 hp (s106 (d := d) hN u2.fresh (r0.from g0.fresh u2).row hl r.emp) fun k3 s3 u3 _ => ?_
  cases e4 : risingK l with
  | false =>
    simp (disch := omega) only [tys, bindJ_eq, logJ_eq, wp_cond, wp_guard, gd_true, gd_false, pick_eq, add_eq, sub_eq, eq_eq, ne_eq, lt_eq, le_eq, gt_eq, ge_eq, shr_eq, shl_eq, quo_eq, rem_eq, not_eq, wp_log_ret, ext0, ext1, ext2, nil_eq, get_ne, get_eq, nth_0, nth_s, cells_agg, cells_int, cells_bool, cells_slice, cells_ptr, ro_zero, one_int, one_bool, one_slice, one_ptr, arr_size, overL, Nat.zero_add, Nat.reduceAdd, Nat.add_zero, List.length_cons, List.length_nil, List.all_cons, List.all_nil, Nat.reduceLeDiff, Nat.ble_eq, Bool.and_true, Bool.not_false, Bool.and_self, decide_true, List.drop_zero, List.drop_succ_cons, List.take_succ_cons, List.take_zero, List.take_nil, true_and, and_true, Int.ofNat_eq_natCast, neg_one, Int.toNat_natCast, Int.natCast_zero, Int.natCast_one, Int.cast_ofNat_Int, List.append_nil, List.nil_append, funX_eq, if_true, if_false, Bool.false_eq_true, Bool.not_true, Bool.not_false, X31_5]
    exact bad _ _ u3 (by simp only [fitsK, e4, Bool.false_and, Bool.and_false])
  | true =>
  simp (disch := omega) only [tys, bindJ_eq, logJ_eq, wp_cond, wp_guard, gd_true, gd_false, pick_eq, add_eq, sub_eq, eq_eq, ne_eq, lt_eq, le_eq, gt_eq, ge_eq, shr_eq, shl_eq, quo_eq, rem_eq, not_eq, wp_log_ret, ext0, ext1, ext2, nil_eq, get_ne, get_eq, nth_0, nth_s, cells_agg, cells_int, cells_bool, cells_slice, cells_ptr, ro_zero, one_int, one_bool, one_slice, one_ptr, arr_size, overL, Nat.zero_add, Nat.reduceAdd, Nat.add_zero, List.length_cons, List.length_nil, List.all_cons, List.all_nil, Nat.reduceLeDiff, Nat.ble_eq, Bool.and_true, Bool.not_false, Bool.and_self, decide_true, List.drop_zero, List.drop_succ_cons, List.take_succ_cons, List.take_zero, List.take_nil, true_and, and_true, Int.ofNat_eq_natCast, neg_one, Int.toNat_natCast, Int.natCast_zero, Int.natCast_one, Int.cast_ofNat_Int, List.append_nil, List.nil_append, ldB (u3.box b1 (by omega)), clB (u3.box b1 (by omega)), ldBL (u3.box b1 (by omega)), clBL (u3.box b1 (by omega)), ldB (u3.box b2 (by omega)), clB (u3.box b2 (by omega)), ldBL (u3.box b2 (by omega)), clBL (u3.box b2 (by omega)), funX_eq, if_true, if_false, Bool.false_eq_true, Bool.not_true, Bool.not_false, X31_5]
  refine ValS.go u3 hp (s100 u3.fresh _ _ _) fun k4 s4 u4 _ => ?_
  cases e5 : wI clean 0 (len : Int) with
  | false =>
    simp (disch := omega) only [tys, bindJ_eq, logJ_eq, wp_cond, wp_guard, gd_true, gd_false, pick_eq, add_eq, sub_eq, eq_eq, ne_eq, lt_eq, le_eq, gt_eq, ge_eq, shr_eq, shl_eq, quo_eq, rem_eq, not_eq, wp_log_ret, ext0, ext1, ext2, nil_eq, get_ne, get_eq, nth_0, nth_s, cells_agg, cells_int, cells_bool, cells_slice, cells_ptr, ro_zero, one_int, one_bool, one_slice, one_ptr, arr_size, overL, Nat.zero_add, Nat.reduceAdd, Nat.add_zero, List.length_cons, List.length_nil, List.all_cons, List.all_nil, Nat.reduceLeDiff, Nat.ble_eq, Bool.and_true, Bool.not_false, Bool.and_self, decide_true, List.drop_zero, List.drop_succ_cons, List.take_succ_cons, List.take_zero, List.take_nil, true_and, and_true, Int.ofNat_eq_natCast, neg_one, Int.toNat_natCast, Int.natCast_zero, Int.natCast_one, Int.cast_ofNat_Int, List.append_nil, List.nil_append, funX_eq, if_true, if_false, Bool.false_eq_true, Bool.not_true, Bool.not_false]
    exact bad _ _ u4 (by simp only [fitsK, hlen, e5, Bool.false_and, Bool.and_false])
  | true =>
  simp (disch := omega) only [tys, bindJ_eq, logJ_eq, wp_cond, wp_guard, gd_true, gd_false, pick_eq, add_eq, sub_eq, eq_eq, ne_eq, lt_eq, le_eq, gt_eq, ge_eq, shr_eq, shl_eq, quo_eq, rem_eq, not_eq, wp_log_ret, ext0, ext1, ext2, nil_eq, get_ne, get_eq, nth_0, nth_s, cells_agg, cells_int, cells_bool, cells_slice, cells_ptr, ro_zero, one_int, one_bool, one_slice, one_ptr, arr_size, overL, Nat.zero_add, Nat.reduceAdd, Nat.add_zero, List.length_cons, List.length_nil, List.all_cons, List.all_nil, Nat.reduceLeDiff, Nat.ble_eq, Bool.and_true, Bool.not_false, Bool.and_self, decide_true, List.drop_zero, List.drop_succ_cons, List.take_succ_cons, List.take_zero, List.take_nil, true_and, and_true, Int.ofNat_eq_natCast, neg_one, Int.toNat_natCast, Int.natCast_zero, Int.natCast_one, Int.cast_ofNat_Int, List.append_nil, List.nil_append, ldB (u4.box b1 (by omega)), clB (u4.box b1 (by omega)), ldBL (u4.box b1 (by omega)), clBL (u4.box b1 (by omega)), ldB (u4.box b2 (by omega)), clB (u4.box b2 (by omega)), ldBL (u4.box b2 (by omega)), clBL (u4.box b2 (by omega)), funX_eq, if_true, if_false, Bool.false_eq_true, Bool.not_true, Bool.not_false]
  have e0 : fitsK x base clean l = decide (goodFrom base l 0) := by
    simp only [fitsK, maxT, hlen, e1, e2, e3, e4, e5, decide_true, Bool.true_and]
  have loop : ∀ (B : (Value → Value → Nat → AM) → Value → Value → Nat → AM) (hB : ∀ H u i s', B H u i s' = X31_4 N (D N (d + 5)) K (vi len) (.slice p len cap) (.pointer (some ⟨s + 1, 0, none⟩)) (fun s => K (i64 0) s) H u i s') (m i : Nat) (u : Value) (h1 : T) (s1 : Nat), len - i < m → i ≤ len → (goodFrom base l 0 ↔ goodFrom base l i) → From (s + 1 + 1) h2 h1 s1 →
      (loopJ m 2 (fun _ _ _ => AM.fail) B u (vi i) s1).wp pw Z h1 := by
    intro B hB m
    induction m with
    | zero => intro i u h1 s1 hm; omega
    | succ m ih =>
      intro i u h1 s1 hm hil hgi g1
      have r1 := r0.from g0.fresh g1
      rw [loopJ_succ, hB]
      unfold X31_4
      by_cases hlt : i < len
      · obtain ⟨y, hy⟩ := get_some (l := l) (i := i) (by omega)
        simp (disch := omega) only [tys, bindJ_eq, logJ_eq, wp_cond, wp_guard, gd_true, gd_false, pick_eq, add_eq, sub_eq, eq_eq, ne_eq, lt_eq, le_eq, gt_eq, ge_eq, shr_eq, shl_eq, quo_eq, rem_eq, not_eq, wp_log_ret, ext0, ext1, ext2, nil_eq, get_ne, get_eq, nth_0, nth_s, cells_agg, cells_int, cells_bool, cells_slice, cells_ptr, ro_zero, one_int, one_bool, one_slice, one_ptr, arr_size, overL, Nat.zero_add, Nat.reduceAdd, Nat.add_zero, List.length_cons, List.length_nil, List.all_cons, List.all_nil, Nat.reduceLeDiff, Nat.ble_eq, Bool.and_true, Bool.not_false, Bool.and_self, decide_true, List.drop_zero, List.drop_succ_cons, List.take_succ_cons, List.take_zero, List.take_nil, true_and, and_true, Int.ofNat_eq_natCast, neg_one, Int.toNat_natCast, Int.natCast_zero, Int.natCast_one, Int.cast_ofNat_Int, List.append_nil, List.nil_append, funX_eq, if_true, if_false, Bool.false_eq_true, Bool.not_true, Bool.not_false, show (i : Int) < (len : Int) by omega, xa3 r1.row (j := (i : Int)) (by omega) (by omega), row3 r1.row hy]
        refine wp_boxA g1 hp fun h3 g3 c3 b3 => ?_
        simp only [kv]
        simp (disch := omega) only [tys, bindJ_eq, logJ_eq, wp_cond, wp_guard, gd_true, gd_false, pick_eq, add_eq, sub_eq, eq_eq, ne_eq, lt_eq, le_eq, gt_eq, ge_eq, shr_eq, shl_eq, quo_eq, rem_eq, not_eq, wp_log_ret, ext0, ext1, ext2, nil_eq, get_ne, get_eq, nth_0, nth_s, cells_agg, cells_int, cells_bool, cells_slice, cells_ptr, ro_zero, one_int, one_bool, one_slice, one_ptr, arr_size, overL, Nat.zero_add, Nat.reduceAdd, Nat.add_zero, List.length_cons, List.length_nil, List.all_cons, List.all_nil, Nat.reduceLeDiff, Nat.ble_eq, Bool.and_true, Bool.not_false, Bool.and_self, decide_true, List.drop_zero, List.drop_succ_cons, List.take_succ_cons, List.take_zero, List.take_nil, true_and, and_true, Int.ofNat_eq_natCast, neg_one, Int.toNat_natCast, Int.natCast_zero, Int.natCast_one, Int.cast_ofNat_Int, List.append_nil, List.nil_append, funX_eq, if_true, if_false, Bool.false_eq_true, Bool.not_true, Bool.not_false]
        refine wp_putF g3 hp b3 g1.le (by simp) rfl fun h4 g4 b4 _ => ?_
        have b4 : h4.get s1 = some (.cells ⟨kv y⟩ 48 (0, 0)) := b4
        have b4' := b4
        simp only [kv] at b4'
        simp (disch := omega) only [tys, bindJ_eq, logJ_eq, wp_cond, wp_guard, gd_true, gd_false, pick_eq, add_eq, sub_eq, eq_eq, ne_eq, lt_eq, le_eq, gt_eq, ge_eq, shr_eq, shl_eq, quo_eq, rem_eq, not_eq, wp_log_ret, ext0, ext1, ext2, nil_eq, get_ne, get_eq, nth_0, nth_s, cells_agg, cells_int, cells_bool, cells_slice, cells_ptr, ro_zero, one_int, one_bool, one_slice, one_ptr, arr_size, overL, Nat.zero_add, Nat.reduceAdd, Nat.add_zero, List.length_cons, List.length_nil, List.all_cons, List.all_nil, Nat.reduceLeDiff, Nat.ble_eq, Bool.and_true, Bool.not_false, Bool.and_self, decide_true, List.drop_zero, List.drop_succ_cons, List.take_succ_cons, List.take_zero, List.take_nil, true_and, and_true, Int.ofNat_eq_natCast, neg_one, Int.toNat_natCast, Int.natCast_zero, Int.natCast_one, Int.cast_ofNat_Int, List.append_nil, List.nil_append, ldB b4', clB b4', ldBL b4', clBL b4', ldB (g4.box b2 (by omega)), clB (g4.box b2 (by omega)), ldBL (g4.box b2 (by omega)), clBL (g4.box b2 (by omega)), funX_eq, if_true, if_false, Bool.false_eq_true, Bool.not_true, Bool.not_false, X31_3]
        refine ValS.goL g4 hp (s100 g4.fresh _ _ _) fun h5 s5 ts5 ws5 g5 c5 _ _ => ?_
        cases e6 : wI y.a base 1099511627776 with
        | false =>
          simp (disch := omega) only [tys, bindJ_eq, logJ_eq, wp_cond, wp_guard, gd_true, gd_false, pick_eq, add_eq, sub_eq, eq_eq, ne_eq, lt_eq, le_eq, gt_eq, ge_eq, shr_eq, shl_eq, quo_eq, rem_eq, not_eq, wp_log_ret, ext0, ext1, ext2, nil_eq, get_ne, get_eq, nth_0, nth_s, cells_agg, cells_int, cells_bool, cells_slice, cells_ptr, ro_zero, one_int, one_bool, one_slice, one_ptr, arr_size, overL, Nat.zero_add, Nat.reduceAdd, Nat.add_zero, List.length_cons, List.length_nil, List.all_cons, List.all_nil, Nat.reduceLeDiff, Nat.ble_eq, Bool.and_true, Bool.not_false, Bool.and_self, decide_true, List.drop_zero, List.drop_succ_cons, List.take_succ_cons, List.take_zero, List.take_nil, true_and, and_true, Int.ofNat_eq_natCast, neg_one, Int.toNat_natCast, Int.natCast_zero, Int.natCast_one, Int.cast_ofNat_Int, List.append_nil, List.nil_append, ldB (c5.box b4' (by omega)), clB (c5.box b4' (by omega)), ldBL (c5.box b4' (by omega)), clBL (c5.box b4' (by omega)), ldB (g5.box b2 (by omega)), clB (g5.box b2 (by omega)), ldBL (g5.box b2 (by omega)), clBL (g5.box b2 (by omega)), funX_eq, if_true, if_false, Bool.false_eq_true, Bool.not_true, Bool.not_false, X31_2, X31_1]
          rw [if_pos (by repeat' (first | exact dynOk_nil _ _ | refine dyn_skip' ?_ | refine dyn_cons ?_ ?_ | exact allF_nil _ _ | refine allF_cons ?_ ?_))]
          exact bad _ _ g5 (by rw [e0, decide_eq_false_iff_not, hgi, good_step hy]; simp [maxT, e6])
        | true =>
        simp (disch := omega) only [tys, bindJ_eq, logJ_eq, wp_cond, wp_guard, gd_true, gd_false, pick_eq, add_eq, sub_eq, eq_eq, ne_eq, lt_eq, le_eq, gt_eq, ge_eq, shr_eq, shl_eq, quo_eq, rem_eq, not_eq, wp_log_ret, ext0, ext1, ext2, nil_eq, get_ne, get_eq, nth_0, nth_s, cells_agg, cells_int, cells_bool, cells_slice, cells_ptr, ro_zero, one_int, one_bool, one_slice, one_ptr, arr_size, overL, Nat.zero_add, Nat.reduceAdd, Nat.add_zero, List.length_cons, List.length_nil, List.all_cons, List.all_nil, Nat.reduceLeDiff, Nat.ble_eq, Bool.and_true, Bool.not_false, Bool.and_self, decide_true, List.drop_zero, List.drop_succ_cons, List.take_succ_cons, List.take_zero, List.take_nil, true_and, and_true, Int.ofNat_eq_natCast, neg_one, Int.toNat_natCast, Int.natCast_zero, Int.natCast_one, Int.cast_ofNat_Int, List.append_nil, List.nil_append, ldB (c5.box b4' (by omega)), clB (c5.box b4' (by omega)), ldBL (c5.box b4' (by omega)), clBL (c5.box b4' (by omega)), ldB (g5.box b2 (by omega)), clB (g5.box b2 (by omega)), ldBL (g5.box b2 (by omega)), clBL (g5.box b2 (by omega)), funX_eq, if_true, if_false, Bool.false_eq_true, Bool.not_true, Bool.not_false, X31_2]
        refine (r0.from g0.fresh g5).cutL (ab_to (by have := r.le; omega) _) (by omega) (by omega) (by have := r.le; omega) (by omega) fun p' ts6 r6 _ hts6 => ?_
        simp (disch := omega) only [tys, bindJ_eq, logJ_eq, wp_cond, wp_guard, gd_true, gd_false, pick_eq, add_eq, sub_eq, eq_eq, ne_eq, lt_eq, le_eq, gt_eq, ge_eq, shr_eq, shl_eq, quo_eq, rem_eq, not_eq, wp_log_ret, ext0, ext1, ext2, nil_eq, get_ne, get_eq, nth_0, nth_s, cells_agg, cells_int, cells_bool, cells_slice, cells_ptr, ro_zero, one_int, one_bool, one_slice, one_ptr, arr_size, overL, Nat.zero_add, Nat.reduceAdd, Nat.add_zero, List.length_cons, List.length_nil, List.all_cons, List.all_nil, Nat.reduceLeDiff, Nat.ble_eq, Bool.and_true, Bool.not_false, Bool.and_self, decide_true, List.drop_zero, List.drop_succ_cons, List.take_succ_cons, List.take_zero, List.take_nil, true_and, and_true, Int.ofNat_eq_natCast, neg_one, Int.toNat_natCast, Int.natCast_zero, Int.natCast_one, Int.cast_ofNat_Int, List.append_nil, List.nil_append, ldB (c5.box b4' (by omega)), clB (c5.box b4' (by omega)), ldBL (c5.box b4' (by omega)), clBL (c5.box b4' (by omega)), ldB (g5.box b2 (by omega)), clB (g5.box b2 (by omega)), ldBL (g5.box b2 (by omega)), clBL (g5.box b2 (by omega)), funX_eq, if_true, if_false, Bool.false_eq_true, Bool.not_true, Bool.not_false, X31_1]
        refine ValS.goL g5 hp (s102 (d := d) hN g5.fresh r6.row (by omega) y) fun h7 s7 ts7 ws7 g7 c7 hw7 ht7 => ?_
        simp (disch := omega) only [tys, bindJ_eq, logJ_eq, wp_cond, wp_guard, gd_true, gd_false, pick_eq, add_eq, sub_eq, eq_eq, ne_eq, lt_eq, le_eq, gt_eq, ge_eq, shr_eq, shl_eq, quo_eq, rem_eq, not_eq, wp_log_ret, ext0, ext1, ext2, nil_eq, get_ne, get_eq, nth_0, nth_s, cells_agg, cells_int, cells_bool, cells_slice, cells_ptr, ro_zero, one_int, one_bool, one_slice, one_ptr, arr_size, overL, Nat.zero_add, Nat.reduceAdd, Nat.add_zero, List.length_cons, List.length_nil, List.all_cons, List.all_nil, Nat.reduceLeDiff, Nat.ble_eq, Bool.and_true, Bool.not_false, Bool.and_self, decide_true, List.drop_zero, List.drop_succ_cons, List.take_succ_cons, List.take_zero, List.take_nil, true_and, and_true, Int.ofNat_eq_natCast, neg_one, Int.toNat_natCast, Int.natCast_zero, Int.natCast_one, Int.cast_ofNat_Int, List.append_nil, List.nil_append, funX_eq, if_true, if_false, Bool.false_eq_true, Bool.not_true, Bool.not_false, Nat.sub_zero]
        rw [if_pos (by repeat' (first | exact dynOk_nil _ _ | refine dyn_skip' ?_ | refine dyn_cons ?_ ?_ | exact allF_nil _ _ | refine allF_cons ?_ ?_))]
        cases e7 : twinAny (l.take i) y with
        | true =>
          simp (disch := omega) only [tys, bindJ_eq, logJ_eq, wp_cond, wp_guard, gd_true, gd_false, pick_eq, add_eq, sub_eq, eq_eq, ne_eq, lt_eq, le_eq, gt_eq, ge_eq, shr_eq, shl_eq, quo_eq, rem_eq, not_eq, wp_log_ret, ext0, ext1, ext2, nil_eq, get_ne, get_eq, nth_0, nth_s, cells_agg, cells_int, cells_bool, cells_slice, cells_ptr, ro_zero, one_int, one_bool, one_slice, one_ptr, arr_size, overL, Nat.zero_add, Nat.reduceAdd, Nat.add_zero, List.length_cons, List.length_nil, List.all_cons, List.all_nil, Nat.reduceLeDiff, Nat.ble_eq, Bool.and_true, Bool.not_false, Bool.and_self, decide_true, List.drop_zero, List.drop_succ_cons, List.take_succ_cons, List.take_zero, List.take_nil, true_and, and_true, Int.ofNat_eq_natCast, neg_one, Int.toNat_natCast, Int.natCast_zero, Int.natCast_one, Int.cast_ofNat_Int, List.append_nil, List.nil_append, funX_eq, if_true, if_false, Bool.false_eq_true, Bool.not_true, Bool.not_false]
          exact bad _ _ g7 (by rw [e0, decide_eq_false_iff_not, hgi, good_step hy]; simp [e7])
        | false =>
          simp (disch := omega) only [tys, bindJ_eq, logJ_eq, wp_cond, wp_guard, gd_true, gd_false, pick_eq, add_eq, sub_eq, eq_eq, ne_eq, lt_eq, le_eq, gt_eq, ge_eq, shr_eq, shl_eq, quo_eq, rem_eq, not_eq, wp_log_ret, ext0, ext1, ext2, nil_eq, get_ne, get_eq, nth_0, nth_s, cells_agg, cells_int, cells_bool, cells_slice, cells_ptr, ro_zero, one_int, one_bool, one_slice, one_ptr, arr_size, overL, Nat.zero_add, Nat.reduceAdd, Nat.add_zero, List.length_cons, List.length_nil, List.all_cons, List.all_nil, Nat.reduceLeDiff, Nat.ble_eq, Bool.and_true, Bool.not_false, Bool.and_self, decide_true, List.drop_zero, List.drop_succ_cons, List.take_succ_cons, List.take_zero, List.take_nil, true_and, and_true, Int.ofNat_eq_natCast, neg_one, Int.toNat_natCast, Int.natCast_zero, Int.natCast_one, Int.cast_ofNat_Int, List.append_nil, List.nil_append, funX_eq, if_true, if_false, Bool.false_eq_true, Bool.not_true, Bool.not_false, wrapS (i := i) (by omega)]
          exact ih (i + 1) _ _ _ (by omega) (by omega) (by rw [hgi, good_step hy]; simp [maxT, e6, e7]) g7
      · obtain rfl : i = len := by omega
        simp (disch := omega) only [tys, bindJ_eq, logJ_eq, wp_cond, wp_guard, gd_true, gd_false, pick_eq, add_eq, sub_eq, eq_eq, ne_eq, lt_eq, le_eq, gt_eq, ge_eq, shr_eq, shl_eq, quo_eq, rem_eq, not_eq, wp_log_ret, ext0, ext1, ext2, nil_eq, get_ne, get_eq, nth_0, nth_s, cells_agg, cells_int, cells_bool, cells_slice, cells_ptr, ro_zero, one_int, one_bool, one_slice, one_ptr, arr_size, overL, Nat.zero_add, Nat.reduceAdd, Nat.add_zero, List.length_cons, List.length_nil, List.all_cons, List.all_nil, Nat.reduceLeDiff, Nat.ble_eq, Bool.and_true, Bool.not_false, Bool.and_self, decide_true, List.drop_zero, List.drop_succ_cons, List.take_succ_cons, List.take_zero, List.take_nil, true_and, and_true, Int.ofNat_eq_natCast, neg_one, Int.toNat_natCast, Int.natCast_zero, Int.natCast_one, Int.cast_ofNat_Int, List.append_nil, List.nil_append, funX_eq, if_true, if_false, Bool.false_eq_true, Bool.not_true, Bool.not_false, Int.lt_irrefl, decide_false]
        exact fin _ _ g1 (by rw [e0, decide_eq_true_eq, hgi, ← hlen]; exact good_end _ _)
  exact loop _ (fun _ _ _ _ => rfl) N 0 _ k4 s4 (by omega) (by omega) Iff.rfl u4
theorem s33 (x : SU) (base clean : Int) {p : Option Addr} {len cap : Nat} {l : List K3} (r : Sl EK h p len cap l) (hl : len ≤ 10000) : ValS (D N (d + 7)) 33 [suval x, shval base p len cap clean] h s (.tuple ⟨if fitsK x base clean l = true then [vi (floorK x base l), vi 0] else [vi 0, vi 2]⟩) := by
  refine ValS.of hf fun K pw Z g hp hk => ?_
  rw [D_33]; unfold F33; rw [app2_eq]
  refine wp_boxA g hp fun h1 g1 c1 b1 => ?_
  refine wp_boxA g1 hp fun h2 g2 c2 b2 => ?_
  replace hk := fun h' s' (g' : From (s + 1 + 1) h2 h' s') => hk h' s' (g2.trans g'); replace hp := fun n (hn : s + 1 + 1 ≤ n) => hp n (by omega); have g0 := From.refl g2.fresh
  replace b1 := c2.box b1 (by omega)
  have r0 := r.from hf g2
  simp only [suv, shv] at b1 b2
  have hlen := r.row.1
  simp (disch := omega) only [tys, bindJ_eq, logJ_eq, wp_cond, wp_guard, gd_true, gd_false, pick_eq, add_eq, sub_eq, eq_eq, ne_eq, lt_eq, le_eq, gt_eq, ge_eq, shr_eq, shl_eq, quo_eq, rem_eq, not_eq, wp_log_ret, ext0, ext1, ext2, nil_eq, get_ne, get_eq, nth_0, nth_s, cells_agg, cells_int, cells_bool, cells_slice, cells_ptr, ro_zero, one_int, one_bool, one_slice, one_ptr, arr_size, overL, Nat.zero_add, Nat.reduceAdd, Nat.add_zero, List.length_cons, List.length_nil, List.all_cons, List.all_nil, Nat.reduceLeDiff, Nat.ble_eq, Bool.and_true, Bool.not_false, Bool.and_self, decide_true, List.drop_zero, List.drop_succ_cons, List.take_succ_cons, List.take_zero, List.take_nil, true_and, and_true, Int.ofNat_eq_natCast, neg_one, Int.toNat_natCast, Int.natCast_zero, Int.natCast_one, Int.cast_ofNat_Int, List.append_nil, List.nil_append, ldB b1, clB b1, ldBL b1, clBL b1, ldB b2, clB b2, ldBL b2, clBL b2, funX_eq, if_true, if_false, Bool.false_eq_true, Bool.not_true, Bool.not_false]
  refine ValS.go g0 hp (s31 (d := d) hN g0.fresh x base clean r0 hl) fun k1 s1 u1 _ => ?_
  cases e1 : fitsK x base clean l with
  | false =>
    simp (disch := omega) only [tys, bindJ_eq, logJ_eq, wp_cond, wp_guard, gd_true, gd_false, pick_eq, add_eq, sub_eq, eq_eq, ne_eq, lt_eq, le_eq, gt_eq, ge_eq, shr_eq, shl_eq, quo_eq, rem_eq, not_eq, wp_log_ret, ext0, ext1, ext2, nil_eq, get_ne, get_eq, nth_0, nth_s, cells_agg, cells_int, cells_bool, cells_slice, cells_ptr, ro_zero, one_int, one_bool, one_slice, one_ptr, arr_size, overL, Nat.zero_add, Nat.reduceAdd, Nat.add_zero, List.length_cons, List.length_nil, List.all_cons, List.all_nil, Nat.reduceLeDiff, Nat.ble_eq, Bool.and_true, Bool.not_false, Bool.and_self, decide_true, List.drop_zero, List.drop_succ_cons, List.take_succ_cons, List.take_zero, List.take_nil, true_and, and_true, Int.ofNat_eq_natCast, neg_one, Int.toNat_natCast, Int.natCast_zero, Int.natCast_one, Int.cast_ofNat_Int, List.append_nil, List.nil_append, funX_eq, if_true, if_false, Bool.false_eq_true, Bool.not_true, Bool.not_false, errI]
    have := hk _ _ u1
    simp only [e1, Bool.false_eq_true, if_false] at this
    exact this
  | true =>
  simp (disch := omega) only [tys, bindJ_eq, logJ_eq, wp_cond, wp_guard, gd_true, gd_false, pick_eq, add_eq, sub_eq, eq_eq, ne_eq, lt_eq, le_eq, gt_eq, ge_eq, shr_eq, shl_eq, quo_eq, rem_eq, not_eq, wp_log_ret, ext0, ext1, ext2, nil_eq, get_ne, get_eq, nth_0, nth_s, cells_agg, cells_int, cells_bool, cells_slice, cells_ptr, ro_zero, one_int, one_bool, one_slice, one_ptr, arr_size, overL, Nat.zero_add, Nat.reduceAdd, Nat.add_zero, List.length_cons, List.length_nil, List.all_cons, List.all_nil, Nat.reduceLeDiff, Nat.ble_eq, Bool.and_true, Bool.not_false, Bool.and_self, decide_true, List.drop_zero, List.drop_succ_cons, List.take_succ_cons, List.take_zero, List.take_nil, true_and, and_true, Int.ofNat_eq_natCast, neg_one, Int.toNat_natCast, Int.natCast_zero, Int.natCast_one, Int.cast_ofNat_Int, List.append_nil, List.nil_append, ldB (u1.box b1 (by omega)), clB (u1.box b1 (by omega)), ldBL (u1.box b1 (by omega)), clBL (u1.box b1 (by omega)), ldB (u1.box b2 (by omega)), clB (u1.box b2 (by omega)), ldBL (u1.box b2 (by omega)), clBL (u1.box b2 (by omega)), funX_eq, if_true, if_false, Bool.false_eq_true, Bool.not_true, Bool.not_false, errI, X33_2]
  have hk' : ∀ (n : Int) (h' : T) (s' : Nat), From (s + 1 + 1) h2 h' s' → n = floorK x base l → (K (.tuple ⟨[vi n, vi 0]⟩) s').wp pw Z h' := fun n h' s' g' e => by
    have := hk _ _ g'
    simp only [e1, if_true] at this
    rw [e]; exact this
  obtain ⟨f1, f2, f3, f4, f5, f6⟩ := fits_iff.1 e1
  obtain ⟨q1, q2, q3, q4, q5, q6⟩ := chk_keep f1
  have hnew : 0 ≤ newK base l ∧ newK base l ≤ maxT := by
    rcases new_is base l with ⟨_, e⟩ | ⟨y, hy, e⟩
    · rw [e]; exact f2
    · rw [e]
      have := (good_iff.1 f6).1 y hy
      omega
  unfold maxT at *
  refine ValS.goL u1 hp (s49 u1.fresh base clean (r0.from g0.fresh u1).row hl) fun k2 s2 ts2 ws2 u2 _ hw2 ht2 => ?_
  simp (disch := omega) only [tys, bindJ_eq, logJ_eq, wp_cond, wp_guard, gd_true, gd_false, pick_eq, add_eq, sub_eq, eq_eq, ne_eq, lt_eq, le_eq, gt_eq, ge_eq, shr_eq, shl_eq, quo_eq, rem_eq, not_eq, wp_log_ret, ext0, ext1, ext2, nil_eq, get_ne, get_eq, nth_0, nth_s, cells_agg, cells_int, cells_bool, cells_slice, cells_ptr, ro_zero, one_int, one_bool, one_slice, one_ptr, arr_size, overL, Nat.zero_add, Nat.reduceAdd, Nat.add_zero, List.length_cons, List.length_nil, List.all_cons, List.all_nil, Nat.reduceLeDiff, Nat.ble_eq, Bool.and_true, Bool.not_false, Bool.and_self, decide_true, List.drop_zero, List.drop_succ_cons, List.take_succ_cons, List.take_zero, List.take_nil, true_and, and_true, Int.ofNat_eq_natCast, neg_one, Int.toNat_natCast, Int.natCast_zero, Int.natCast_one, Int.cast_ofNat_Int, List.append_nil, List.nil_append, ldB (u2.box b1 (by omega)), clB (u2.box b1 (by omega)), ldBL (u2.box b1 (by omega)), clBL (u2.box b1 (by omega)), ldB (u2.box b2 (by omega)), clB (u2.box b2 (by omega)), ldBL (u2.box b2 (by omega)), clBL (u2.box b2 (by omega)), funX_eq, if_true, if_false, Bool.false_eq_true, Bool.not_true, Bool.not_false, blt_max, wrap_id (a := newK base l - x.horizon) (by omega) (by omega), X33_1]
  rw [if_pos (by have := u1.le; repeat' (first | exact dynOk_nil _ _ | refine dyn_skip' ?_ | refine dyn_cons ?_ ?_ | exact allF_nil _ _ | refine allF_cons ?_ ?_ | exact disj_below hw2 (by omega) | exact disjA hw2 (by omega) | exact disjB hw2 (by omega) | exact disjC hw2 (by assumption) | exact disjD (fun m hm => by have := hw2 m hm; omega) | exact disjN _ | exact disj1 (by omega) | exact disj2 (by omega) | exact disj3 (by assumption)))]
  refine ValS.go u2 hp (s104 u2.fresh x base clean (r0.from g0.fresh u2).row) fun k3 s3 u3 _ => ?_
  cases e2 : fullK x l with
  | false =>
    simp (disch := omega) only [tys, bindJ_eq, logJ_eq, wp_cond, wp_guard, gd_true, gd_false, pick_eq, add_eq, sub_eq, eq_eq, ne_eq, lt_eq, le_eq, gt_eq, ge_eq, shr_eq, shl_eq, quo_eq, rem_eq, not_eq, wp_log_ret, ext0, ext1, ext2, nil_eq, get_ne, get_eq, nth_0, nth_s, cells_agg, cells_int, cells_bool, cells_slice, cells_ptr, ro_zero, one_int, one_bool, one_slice, one_ptr, arr_size, overL, Nat.zero_add, Nat.reduceAdd, Nat.add_zero, List.length_cons, List.length_nil, List.all_cons, List.all_nil, Nat.reduceLeDiff, Nat.ble_eq, Bool.and_true, Bool.not_false, Bool.and_self, decide_true, List.drop_zero, List.drop_succ_cons, List.take_succ_cons, List.take_zero, List.take_nil, true_and, and_true, Int.ofNat_eq_natCast, neg_one, Int.toNat_natCast, Int.natCast_zero, Int.natCast_one, Int.cast_ofNat_Int, List.append_nil, List.nil_append, funX_eq, if_true, if_false, Bool.false_eq_true, Bool.not_true, Bool.not_false]
    exact hk' _ _ _ u3 (by unfold floorK; rw [if_neg (by simp [e2])])
  | true =>
    have : (l.length : Int) = x.keep := by simpa [fullK] using e2
    obtain ⟨y, hy⟩ := get_some (l := l) (i := 0) (by omega)
    simp (disch := omega) only [tys, bindJ_eq, logJ_eq, wp_cond, wp_guard, gd_true, gd_false, pick_eq, add_eq, sub_eq, eq_eq, ne_eq, lt_eq, le_eq, gt_eq, ge_eq, shr_eq, shl_eq, quo_eq, rem_eq, not_eq, wp_log_ret, ext0, ext1, ext2, nil_eq, get_ne, get_eq, nth_0, nth_s, cells_agg, cells_int, cells_bool, cells_slice, cells_ptr, ro_zero, one_int, one_bool, one_slice, one_ptr, arr_size, overL, Nat.zero_add, Nat.reduceAdd, Nat.add_zero, List.length_cons, List.length_nil, List.all_cons, List.all_nil, Nat.reduceLeDiff, Nat.ble_eq, Bool.and_true, Bool.not_false, Bool.and_self, decide_true, List.drop_zero, List.drop_succ_cons, List.take_succ_cons, List.take_zero, List.take_nil, true_and, and_true, Int.ofNat_eq_natCast, neg_one, Int.toNat_natCast, Int.natCast_zero, Int.natCast_one, Int.cast_ofNat_Int, List.append_nil, List.nil_append, ldB (u3.box b2 (by omega)), clB (u3.box b2 (by omega)), ldBL (u3.box b2 (by omega)), clBL (u3.box b2 (by omega)), funX_eq, if_true, if_false, Bool.false_eq_true, Bool.not_true, Bool.not_false, xa30 (r0.from g0.fresh u3).row (by omega), rowA (r0.from g0.fresh u3).row hy, blt_max]
    exact hk' _ _ _ u3 (by unfold floorK; rw [if_pos e2, hy])
end
end Go.Ev.R
namespace Go.Ev.R
open Go Go.RowKit
section
variable {N d : Nat} (hN : 100000 ≤ N) {h : T} {s : Nat} (hf : ∀ n, s ≤ n → h.get n = none)
include hf
theorem s99 {a b : Nat} (e : Int) (k : K3) (ha : h.get a = some (.cells ⟨[vi e]⟩ 35 (0, 0))) (hb : h.get b = some (.cells ⟨kv k⟩ 48 (0, 0))) : ValS (D N (d + 2)) 99 [.pointer (some ⟨a, 0, none⟩), .pointer (some ⟨b, 0, none⟩)] h s (.bool (!decide (e = 0) || !wI k.a 0 maxT)) := by
  refine ValS.of hf fun K pw Z g hp hk => ?_
  rw [D_99]; unfold F99; rw [app2_eq]
  simp only [kv] at hb
  try simp (disch := first | assumption | omega | (simp only [Int.ofNat_eq_natCast, neg_one]; done) | (simp only [Int.ofNat_eq_natCast, neg_one]; omega)) only [tysW, w_bindJ, w_logJ, w_ct, w_cf, w_gtt, w_gft, w_gtf, w_gff, w_pt, w_pf, w_lret, w_e0, w_e1, w_e2, w_nil, w_fun, w_nt, w_nf, w_add, w_sub, w_eqt, w_eqf, w_net, w_nef, w_ltt, w_ltf, w_let, w_lef, w_gtt', w_gtf', w_get, w_gef, toNat_of, of_add, cast_add, nth_0, nth_s, Nat.zero_add, Nat.reduceAdd, Nat.reduceMul, Nat.add_zero, List.length_cons, List.length_nil, List.drop_zero, List.drop_succ_cons, List.take_succ_cons, List.take_zero, List.take_nil, true_and, and_true, Int.toNat_natCast, List.append_nil, List.nil_append, List.cons_append, ldB ha, clB ha, ldBL ha, clBL ha, ldB hb, clB hb, ldBL hb, clBL hb]
  by_cases e1 : e = 0
  · try simp (disch := first | assumption | omega | (simp only [Int.ofNat_eq_natCast, neg_one]; done) | (simp only [Int.ofNat_eq_natCast, neg_one]; omega)) only [tysW, w_bindJ, w_logJ, w_ct, w_cf, w_gtt, w_gft, w_gtf, w_gff, w_pt, w_pf, w_lret, w_e0, w_e1, w_e2, w_nil, w_fun, w_nt, w_nf, w_add, w_sub, w_eqt, w_eqf, w_net, w_nef, w_ltt, w_ltf, w_let, w_lef, w_gtt', w_gtf', w_get, w_gef, toNat_of, of_add, cast_add, nth_0, nth_s, Nat.zero_add, Nat.reduceAdd, Nat.reduceMul, Nat.add_zero, List.length_cons, List.length_nil, List.drop_zero, List.drop_succ_cons, List.take_succ_cons, List.take_zero, List.take_nil, true_and, and_true, Int.toNat_natCast, List.append_nil, List.nil_append, List.cons_append, ldB ha, clB ha, ldBL ha, clBL ha, ldB hb, clB hb, ldBL hb, clBL hb]
    refine ValS.go g hp (s100 g.fresh _ _ _) fun k1 s1 u1 _ => ?_
    try simp (disch := first | assumption | omega | (simp only [Int.ofNat_eq_natCast, neg_one]; done) | (simp only [Int.ofNat_eq_natCast, neg_one]; omega)) only [tysW, w_bindJ, w_logJ, w_ct, w_cf, w_gtt, w_gft, w_gtf, w_gff, w_pt, w_pf, w_lret, w_e0, w_e1, w_e2, w_nil, w_fun, w_nt, w_nf, w_add, w_sub, w_eqt, w_eqf, w_net, w_nef, w_ltt, w_ltf, w_let, w_lef, w_gtt', w_gtf', w_get, w_gef, toNat_of, of_add, cast_add, nth_0, nth_s, Nat.zero_add, Nat.reduceAdd, Nat.reduceMul, Nat.add_zero, List.length_cons, List.length_nil, List.drop_zero, List.drop_succ_cons, List.take_succ_cons, List.take_zero, List.take_nil, true_and, and_true, Int.toNat_natCast, List.append_nil, List.nil_append, List.cons_append, w_not]
    have := hk _ _ u1
    simp only [e1, maxT, decide_true, Bool.not_true, Bool.false_or] at this
    exact this
  · try simp (disch := first | assumption | omega | (simp only [Int.ofNat_eq_natCast, neg_one]; done) | (simp only [Int.ofNat_eq_natCast, neg_one]; omega)) only [tysW, w_bindJ, w_logJ, w_ct, w_cf, w_gtt, w_gft, w_gtf, w_gff, w_pt, w_pf, w_lret, w_e0, w_e1, w_e2, w_nil, w_fun, w_nt, w_nf, w_add, w_sub, w_eqt, w_eqf, w_net, w_nef, w_ltt, w_ltf, w_let, w_lef, w_gtt', w_gtf', w_get, w_gef, toNat_of, of_add, cast_add, nth_0, nth_s, Nat.zero_add, Nat.reduceAdd, Nat.reduceMul, Nat.add_zero, List.length_cons, List.length_nil, List.drop_zero, List.drop_succ_cons, List.take_succ_cons, List.take_zero, List.take_nil, true_and, and_true, Int.toNat_natCast, List.append_nil, List.nil_append, List.cons_append, ldB ha, clB ha, ldBL ha, clBL ha, ldB hb, clB hb, ldBL hb, clBL hb]
    have := hk _ _ g
    simp only [e1, decide_false, Bool.not_false, Bool.true_or] at this
    exact this
include hN
theorem s101 {a b : Nat} (base clean : Int) {p : Option Addr} {len cap : Nat} {l : List K3} (r : Row EK h p len l) (hl : len ≤ 10000) (k : K3) (ha : h.get a = some (.cells ⟨shv base p len cap clean⟩ 46 (0, 0))) (hb : h.get b = some (.cells ⟨kv k⟩ 48 (0, 0))) : ValS (D N (d + 6)) 101 [.pointer (some ⟨a, 0, none⟩), .pointer (some ⟨b, 0, none⟩)] h s (.bool (twinAny l k)) := by
  refine ValS.of hf fun K pw Z g hp hk => ?_
  rw [D_101]; unfold F101; rw [app2_eq]
  simp only [kv, shv] at ha hb
  try simp (disch := first | assumption | omega | (simp only [Int.ofNat_eq_natCast, neg_one]; done) | (simp only [Int.ofNat_eq_natCast, neg_one]; omega)) only [tysW, w_bindJ, w_logJ, w_ct, w_cf, w_gtt, w_gft, w_gtf, w_gff, w_pt, w_pf, w_lret, w_e0, w_e1, w_e2, w_nil, w_fun, w_nt, w_nf, w_add, w_sub, w_eqt, w_eqf, w_net, w_nef, w_ltt, w_ltf, w_let, w_lef, w_gtt', w_gtf', w_get, w_gef, toNat_of, of_add, cast_add, nth_0, nth_s, Nat.zero_add, Nat.reduceAdd, Nat.reduceMul, Nat.add_zero, List.length_cons, List.length_nil, List.drop_zero, List.drop_succ_cons, List.take_succ_cons, List.take_zero, List.take_nil, true_and, and_true, Int.toNat_natCast, List.append_nil, List.nil_append, List.cons_append, ldB ha, clB ha, ldBL ha, clBL ha, ldB hb, clB hb, ldBL hb, clBL hb]
  exact ValS.go g hp (s102 (d := d) hN g.fresh r hl k) fun k1 s1 u1 _ => hk _ _ u1
omit hN
theorem s105 {a b : Nat} (x : SU) (base clean : Int) {p : Option Addr} {len cap : Nat} {l : List K3} (r : Row EK h p len l) (ha : h.get a = some (.cells ⟨suv x⟩ 43 (0, 0))) (has : a < s) (hb : h.get b = some (.cells ⟨shv base p len cap clean⟩ 46 (0, 0))) (hbs : b < s) : ValS (D N (d + 2)) 105 [.pointer (some ⟨a, 0, none⟩), .pointer (some ⟨b, 0, none⟩)] h s (.bool (fullK x l && decide (clean = 0))) := by
  refine ValS.of hf fun K pw Z g hp hk => ?_
  rw [D_105]; unfold F105; rw [app2_eq]
  simp only [suv, shv] at ha hb
  try simp (disch := first | assumption | omega | (simp only [Int.ofNat_eq_natCast, neg_one]; done) | (simp only [Int.ofNat_eq_natCast, neg_one]; omega)) only [tysW, w_bindJ, w_logJ, w_ct, w_cf, w_gtt, w_gft, w_gtf, w_gff, w_pt, w_pf, w_lret, w_e0, w_e1, w_e2, w_nil, w_fun, w_nt, w_nf, w_add, w_sub, w_eqt, w_eqf, w_net, w_nef, w_ltt, w_ltf, w_let, w_lef, w_gtt', w_gtf', w_get, w_gef, toNat_of, of_add, cast_add, nth_0, nth_s, Nat.zero_add, Nat.reduceAdd, Nat.reduceMul, Nat.add_zero, List.length_cons, List.length_nil, List.drop_zero, List.drop_succ_cons, List.take_succ_cons, List.take_zero, List.take_nil, true_and, and_true, Int.toNat_natCast, List.append_nil, List.nil_append, List.cons_append, ldB ha, clB ha, ldBL ha, clBL ha, ldB hb, clB hb, ldBL hb, clBL hb]
  refine ValS.go g hp (s104 g.fresh x base clean r) fun k1 s1 u1 _ => ?_
  cases e : fullK x l with
  | false =>
    try simp (disch := first | assumption | omega | (simp only [Int.ofNat_eq_natCast, neg_one]; done) | (simp only [Int.ofNat_eq_natCast, neg_one]; omega)) only [tysW, w_bindJ, w_logJ, w_ct, w_cf, w_gtt, w_gft, w_gtf, w_gff, w_pt, w_pf, w_lret, w_e0, w_e1, w_e2, w_nil, w_fun, w_nt, w_nf, w_add, w_sub, w_eqt, w_eqf, w_net, w_nef, w_ltt, w_ltf, w_let, w_lef, w_gtt', w_gtf', w_get, w_gef, toNat_of, of_add, cast_add, nth_0, nth_s, Nat.zero_add, Nat.reduceAdd, Nat.reduceMul, Nat.add_zero, List.length_cons, List.length_nil, List.drop_zero, List.drop_succ_cons, List.take_succ_cons, List.take_zero, List.take_nil, true_and, and_true, Int.toNat_natCast, List.append_nil, List.nil_append, List.cons_append]
    have := hk _ _ u1
    simp only [e, Bool.false_and] at this
    exact this
  | true =>
    try simp (disch := first | assumption | omega | (simp only [Int.ofNat_eq_natCast, neg_one]; done) | (simp only [Int.ofNat_eq_natCast, neg_one]; omega)) only [tysW, w_bindJ, w_logJ, w_ct, w_cf, w_gtt, w_gft, w_gtf, w_gff, w_pt, w_pf, w_lret, w_e0, w_e1, w_e2, w_nil, w_fun, w_nt, w_nf, w_add, w_sub, w_eqt, w_eqf, w_net, w_nef, w_ltt, w_ltf, w_let, w_lef, w_gtt', w_gtf', w_get, w_gef, toNat_of, of_add, cast_add, nth_0, nth_s, Nat.zero_add, Nat.reduceAdd, Nat.reduceMul, Nat.add_zero, List.length_cons, List.length_nil, List.drop_zero, List.drop_succ_cons, List.take_succ_cons, List.take_zero, List.take_nil, true_and, and_true, Int.toNat_natCast, List.append_nil, List.nil_append, List.cons_append, ldB (u1.box hb hbs), clB (u1.box hb hbs), ldBL (u1.box hb hbs), clBL (u1.box hb hbs), w_eq]
    have := hk _ _ u1
    simp only [e, Bool.true_and] at this
    exact this
include hN
theorem s103 {a b c e : Nat} (fl : Int) (k : K3) (x : SU) (base clean : Int) {p : Option Addr} {len cap : Nat} {l : List K3} (r : Row EK h p len l) (hfu : fullK x l = true → 0 < len)
    (ha : h.get a = some (.cells ⟨kv k⟩ 48 (0, 0))) (has : a < s) (hb : h.get b = some (.cells ⟨[vi fl]⟩ 3 (0, 0))) (hc : h.get c = some (.cells ⟨suv x⟩ 43 (0, 0))) (hcs : c < s) (he : h.get e = some (.cells ⟨shv base p len cap clean⟩ 46 (0, 0))) (hes : e < s) :
    ValS (D N (d + 6)) 103 [.pointer (some ⟨a, 0, none⟩), .pointer (some ⟨b, 0, none⟩), .pointer (some ⟨c, 0, none⟩), .pointer (some ⟨e, 0, none⟩)] h s (.bool (decide (k.a < fl) || (fullK x l && aheadK l k))) := by
  refine ValS.of hf fun K pw Z g hp hk => ?_
  rw [D_103]; unfold F103; rw [app4_eq]
  simp only [suv, shv, kv] at ha hb hc he
  try simp (disch := first | assumption | omega | (simp only [Int.ofNat_eq_natCast, neg_one]; done) | (simp only [Int.ofNat_eq_natCast, neg_one]; omega)) only [tysW, w_bindJ, w_logJ, w_ct, w_cf, w_gtt, w_gft, w_gtf, w_gff, w_pt, w_pf, w_lret, w_e0, w_e1, w_e2, w_nil, w_fun, w_nt, w_nf, w_add, w_sub, w_eqt, w_eqf, w_net, w_nef, w_ltt, w_ltf, w_let, w_lef, w_gtt', w_gtf', w_get, w_gef, toNat_of, of_add, cast_add, nth_0, nth_s, Nat.zero_add, Nat.reduceAdd, Nat.reduceMul, Nat.add_zero, List.length_cons, List.length_nil, List.drop_zero, List.drop_succ_cons, List.take_succ_cons, List.take_zero, List.take_nil, true_and, and_true, Int.toNat_natCast, List.append_nil, List.nil_append, List.cons_append, ldB ha, clB ha, ldBL ha, clBL ha, ldB hb, clB hb, ldBL hb, clBL hb, ldB hc, clB hc, ldBL hc, clBL hc, ldB he, clB he, ldBL he, clBL he, X103_4]
  by_cases e1 : k.a < fl
  · try simp (disch := first | assumption | omega | (simp only [Int.ofNat_eq_natCast, neg_one]; done) | (simp only [Int.ofNat_eq_natCast, neg_one]; omega)) only [tysW, w_bindJ, w_logJ, w_ct, w_cf, w_gtt, w_gft, w_gtf, w_gff, w_pt, w_pf, w_lret, w_e0, w_e1, w_e2, w_nil, w_fun, w_nt, w_nf, w_add, w_sub, w_eqt, w_eqf, w_net, w_nef, w_ltt, w_ltf, w_let, w_lef, w_gtt', w_gtf', w_get, w_gef, toNat_of, of_add, cast_add, nth_0, nth_s, Nat.zero_add, Nat.reduceAdd, Nat.reduceMul, Nat.add_zero, List.length_cons, List.length_nil, List.drop_zero, List.drop_succ_cons, List.take_succ_cons, List.take_zero, List.take_nil, true_and, and_true, Int.toNat_natCast, List.append_nil, List.nil_append, List.cons_append, ldB ha, clB ha, ldBL ha, clBL ha, ldB hb, clB hb, ldBL hb, clBL hb, ldB hc, clB hc, ldBL hc, clBL hc, ldB he, clB he, ldBL he, clBL he, X103_3, X103_2, X103_1]
    have := hk _ _ g
    simp only [e1, decide_true, Bool.true_or] at this
    exact this
  · try simp (disch := first | assumption | omega | (simp only [Int.ofNat_eq_natCast, neg_one]; done) | (simp only [Int.ofNat_eq_natCast, neg_one]; omega)) only [tysW, w_bindJ, w_logJ, w_ct, w_cf, w_gtt, w_gft, w_gtf, w_gff, w_pt, w_pf, w_lret, w_e0, w_e1, w_e2, w_nil, w_fun, w_nt, w_nf, w_add, w_sub, w_eqt, w_eqf, w_net, w_nef, w_ltt, w_ltf, w_let, w_lef, w_gtt', w_gtf', w_get, w_gef, toNat_of, of_add, cast_add, nth_0, nth_s, Nat.zero_add, Nat.reduceAdd, Nat.reduceMul, Nat.add_zero, List.length_cons, List.length_nil, List.drop_zero, List.drop_succ_cons, List.take_succ_cons, List.take_zero, List.take_nil, true_and, and_true, Int.toNat_natCast, List.append_nil, List.nil_append, List.cons_append, ldB ha, clB ha, ldBL ha, clBL ha, ldB hb, clB hb, ldBL hb, clBL hb, ldB hc, clB hc, ldBL hc, clBL hc, ldB he, clB he, ldBL he, clBL he, X103_3]
    refine ValS.goL g hp (s104 g.fresh x base clean r) fun k1 s1 ts1 ws1 u1 _ hw1 ht1 => ?_
    cases e2 : fullK x l with
    | false =>
      try simp (disch := first | assumption | omega | (simp only [Int.ofNat_eq_natCast, neg_one]; done) | (simp only [Int.ofNat_eq_natCast, neg_one]; omega)) only [tysW, w_bindJ, w_logJ, w_ct, w_cf, w_gtt, w_gft, w_gtf, w_gff, w_pt, w_pf, w_lret, w_e0, w_e1, w_e2, w_nil, w_fun, w_nt, w_nf, w_add, w_sub, w_eqt, w_eqf, w_net, w_nef, w_ltt, w_ltf, w_let, w_lef, w_gtt', w_gtf', w_get, w_gef, toNat_of, of_add, cast_add, nth_0, nth_s, Nat.zero_add, Nat.reduceAdd, Nat.reduceMul, Nat.add_zero, List.length_cons, List.length_nil, List.drop_zero, List.drop_succ_cons, List.take_succ_cons, List.take_zero, List.take_nil, true_and, and_true, Int.toNat_natCast, List.append_nil, List.nil_append, List.cons_append, X103_2, X103_1]
      have := hk _ _ u1
      simp only [e1, e2, decide_false, Bool.false_and, Bool.or_false] at this
      exact this
    | true =>
      obtain ⟨y, hy⟩ := get_some (l := l) (i := 0) (by rw [r.1]; exact hfu e2)
      try simp (disch := first | assumption | omega | (simp only [Int.ofNat_eq_natCast, neg_one]; done) | (simp only [Int.ofNat_eq_natCast, neg_one]; omega)) only [tysW, w_bindJ, w_logJ, w_ct, w_cf, w_gtt, w_gft, w_gtf, w_gff, w_pt, w_pf, w_lret, w_e0, w_e1, w_e2, w_nil, w_fun, w_nt, w_nf, w_add, w_sub, w_eqt, w_eqf, w_net, w_nef, w_ltt, w_ltf, w_let, w_lef, w_gtt', w_gtf', w_get, w_gef, toNat_of, of_add, cast_add, nth_0, nth_s, Nat.zero_add, Nat.reduceAdd, Nat.reduceMul, Nat.add_zero, List.length_cons, List.length_nil, List.drop_zero, List.drop_succ_cons, List.take_succ_cons, List.take_zero, List.take_nil, true_and, and_true, Int.toNat_natCast, List.append_nil, List.nil_append, List.cons_append, ldB (u1.box ha has), clB (u1.box ha has), ldBL (u1.box ha has), clBL (u1.box ha has), ldB (u1.box he hes), clB (u1.box he hes), ldBL (u1.box he hes), clBL (u1.box he hes), X103_2, xa30 (u1.row hf r) (hfu e2), row30L (u1.row hf r) hy, X103_1]
      refine ValS.goL u1 hp (s34 (d := d + 1) hN u1.fresh k y) fun k2 s2 ts2 ws2 u2 _ hw2 ht2 => ?_
      try simp (disch := first | assumption | omega | (simp only [Int.ofNat_eq_natCast, neg_one]; done) | (simp only [Int.ofNat_eq_natCast, neg_one]; omega)) only [tysW, w_bindJ, w_logJ, w_ct, w_cf, w_gtt, w_gft, w_gtf, w_gff, w_pt, w_pf, w_lret, w_e0, w_e1, w_e2, w_nil, w_fun, w_nt, w_nf, w_add, w_sub, w_eqt, w_eqf, w_net, w_nef, w_ltt, w_ltf, w_let, w_lef, w_gtt', w_gtf', w_get, w_gef, toNat_of, of_add, cast_add, nth_0, nth_s, Nat.zero_add, Nat.reduceAdd, Nat.reduceMul, Nat.add_zero, List.length_cons, List.length_nil, List.drop_zero, List.drop_succ_cons, List.take_succ_cons, List.take_zero, List.take_nil, true_and, and_true, Int.toNat_natCast, List.append_nil, List.nil_append, List.cons_append]
      have := hk _ _ u2
      simp only [e1, e2, decide_false, Bool.true_and, Bool.false_or, aheadK, hy] at this
      exact this
theorem s30 (x : SU) (base clean : Int) {p : Option Addr} {len cap : Nat} {l : List K3} (r : Sl EK h p len cap l) (hl : len ≤ 10000) (k : K3) : ValS (D N (d + 8)) 30 [suval x, shval base p len cap clean, kval k] h s (vi (judgeK x base clean l k)) := by
  refine ValS.of hf fun K pw Z g hp hk => ?_
  rw [D_30]; unfold F30; rw [app3_eq]
  unfold X30_2
  refine wp_boxA g hp fun h1 g1 c1 b1 => ?_
  refine wp_boxA g1 hp fun h2 g2 c2 b2 => ?_
  refine wp_boxA g2 hp fun h3 g3 c3 b3 => ?_
  replace hk := fun h' s' (g' : From (s + 1 + 1 + 1) h3 h' s') => hk h' s' (g3.trans g'); replace hp := fun n (hn : s + 1 + 1 + 1 ≤ n) => hp n (by omega); have g0 := From.refl g3.fresh
  replace b1 := (c2.trans c3).box b1 (by omega)
  replace b2 := c3.box b2 (by omega)
  have r0 := r.from hf g3
  have hlen := r.row.1
  have b1' := b1
  have b2' := b2
  have b3' := b3
  simp only [suv, shv, kv] at b1' b2' b3'
  try simp (disch := first | assumption | omega | (simp only [Int.ofNat_eq_natCast, neg_one]; done) | (simp only [Int.ofNat_eq_natCast, neg_one]; omega)) only [tysW, w_bindJ, w_logJ, w_ct, w_cf, w_gtt, w_gft, w_gtf, w_gff, w_pt, w_pf, w_lret, w_e0, w_e1, w_e2, w_nil, w_fun, w_nt, w_nf, w_add, w_sub, w_eqt, w_eqf, w_net, w_nef, w_ltt, w_ltf, w_let, w_lef, w_gtt', w_gtf', w_get, w_gef, toNat_of, of_add, cast_add, nth_0, nth_s, Nat.zero_add, Nat.reduceAdd, Nat.reduceMul, Nat.add_zero, List.length_cons, List.length_nil, List.drop_zero, List.drop_succ_cons, List.take_succ_cons, List.take_zero, List.take_nil, true_and, and_true, Int.toNat_natCast, List.append_nil, List.nil_append, List.cons_append, ldB b1', clB b1', ldBL b1', clBL b1', ldB b2', clB b2', ldBL b2', clBL b2', ldB b3', clB b3', ldBL b3', clBL b3']
  refine ValS.go g0 hp (s33 (d := d) hN g0.fresh x base clean r0 hl) fun k1 s1 u1 _ => ?_
  obtain ⟨fl, er, hfe, hfl⟩ : ∃ fl er, (if fitsK x base clean l = true then [vi (floorK x base l), vi 0] else [vi 0, vi 2]) = [vi fl, vi er] ∧ (fitsK x base clean l = true ∧ fl = floorK x base l ∧ er = 0 ∨ fitsK x base clean l = false ∧ er = 2) := by
    cases fitsK x base clean l
    · exact ⟨0, 2, rfl, .inr ⟨rfl, rfl⟩⟩
    · exact ⟨_, 0, rfl, .inl ⟨rfl, rfl, rfl⟩⟩
  rw [hfe]
  try simp (disch := first | assumption | omega | (simp only [Int.ofNat_eq_natCast, neg_one]; done) | (simp only [Int.ofNat_eq_natCast, neg_one]; omega)) only [tysW, w_bindJ, w_logJ, w_ct, w_cf, w_gtt, w_gft, w_gtf, w_gff, w_pt, w_pf, w_lret, w_e0, w_e1, w_e2, w_nil, w_fun, w_nt, w_nf, w_add, w_sub, w_eqt, w_eqf, w_net, w_nef, w_ltt, w_ltf, w_let, w_lef, w_gtt', w_gtf', w_get, w_gef, toNat_of, of_add, cast_add, nth_0, nth_s, Nat.zero_add, Nat.reduceAdd, Nat.reduceMul, Nat.add_zero, List.length_cons, List.length_nil, List.drop_zero, List.drop_succ_cons, List.take_succ_cons, List.take_zero, List.take_nil, true_and, and_true, Int.toNat_natCast, List.append_nil, List.nil_append, List.cons_append]
  refine wp_box1 (v := vi 0) rfl u1 hp fun k2 u2 v2 d2 => ?_
  try simp (disch := first | assumption | omega | (simp only [Int.ofNat_eq_natCast, neg_one]; done) | (simp only [Int.ofNat_eq_natCast, neg_one]; omega)) only [tysW, w_bindJ, w_logJ, w_ct, w_cf, w_gtt, w_gft, w_gtf, w_gff, w_pt, w_pf, w_lret, w_e0, w_e1, w_e2, w_nil, w_fun, w_nt, w_nf, w_add, w_sub, w_eqt, w_eqf, w_net, w_nef, w_ltt, w_ltf, w_let, w_lef, w_gtt', w_gtf', w_get, w_gef, toNat_of, of_add, cast_add, nth_0, nth_s, Nat.zero_add, Nat.reduceAdd, Nat.reduceMul, Nat.add_zero, List.length_cons, List.length_nil, List.drop_zero, List.drop_succ_cons, List.take_succ_cons, List.take_zero, List.take_nil, true_and, and_true, Int.toNat_natCast, List.append_nil, List.nil_append, List.cons_append]
  refine wp_box1 (v := vi 0) rfl u2 hp fun k3 u3 v3 d3 => ?_
  replace d2 := v3.box d2 (by omega)
  try simp (disch := first | assumption | omega | (simp only [Int.ofNat_eq_natCast, neg_one]; done) | (simp only [Int.ofNat_eq_natCast, neg_one]; omega)) only [tysW, w_bindJ, w_logJ, w_ct, w_cf, w_gtt, w_gft, w_gtf, w_gff, w_pt, w_pf, w_lret, w_e0, w_e1, w_e2, w_nil, w_fun, w_nt, w_nf, w_add, w_sub, w_eqt, w_eqf, w_net, w_nef, w_ltt, w_ltf, w_let, w_lef, w_gtt', w_gtf', w_get, w_gef, toNat_of, of_add, cast_add, nth_0, nth_s, Nat.zero_add, Nat.reduceAdd, Nat.reduceMul, Nat.add_zero, List.length_cons, List.length_nil, List.drop_zero, List.drop_succ_cons, List.take_succ_cons, List.take_zero, List.take_nil, true_and, and_true, Int.toNat_natCast, List.append_nil, List.nil_append, List.cons_append]
  refine wp_putF u3 hp d2 u1.le (by exact Nat.le_refl 1) rfl fun k4 u4 d4 e4 => ?_
  have d3' := (e4 (s1 + 1) (by omega)).trans d3
  try simp (disch := first | assumption | omega | (simp only [Int.ofNat_eq_natCast, neg_one]; done) | (simp only [Int.ofNat_eq_natCast, neg_one]; omega)) only [tysW, w_bindJ, w_logJ, w_ct, w_cf, w_gtt, w_gft, w_gtf, w_gff, w_pt, w_pf, w_lret, w_e0, w_e1, w_e2, w_nil, w_fun, w_nt, w_nf, w_add, w_sub, w_eqt, w_eqf, w_net, w_nef, w_ltt, w_ltf, w_let, w_lef, w_gtt', w_gtf', w_get, w_gef, toNat_of, of_add, cast_add, nth_0, nth_s, Nat.zero_add, Nat.reduceAdd, Nat.reduceMul, Nat.add_zero, List.length_cons, List.length_nil, List.drop_zero, List.drop_succ_cons, List.take_succ_cons, List.take_zero, List.take_nil, true_and, and_true, Int.toNat_natCast, List.append_nil, List.nil_append, List.cons_append]
  refine wp_putF u4 hp d3' (by have := u1.le; omega) (by exact Nat.le_refl 1) rfl fun k5 u5 d5 e5 => ?_
  have d4 := (e5 s1 (by omega)).trans d4
  try simp (disch := first | assumption | omega | (simp only [Int.ofNat_eq_natCast, neg_one]; done) | (simp only [Int.ofNat_eq_natCast, neg_one]; omega)) only [tysW, w_bindJ, w_logJ, w_ct, w_cf, w_gtt, w_gft, w_gtf, w_gff, w_pt, w_pf, w_lret, w_e0, w_e1, w_e2, w_nil, w_fun, w_nt, w_nf, w_add, w_sub, w_eqt, w_eqf, w_net, w_nef, w_ltt, w_ltf, w_let, w_lef, w_gtt', w_gtf', w_get, w_gef, toNat_of, of_add, cast_add, nth_0, nth_s, Nat.zero_add, Nat.reduceAdd, Nat.reduceMul, Nat.add_zero, List.length_cons, List.length_nil, List.drop_zero, List.drop_succ_cons, List.take_succ_cons, List.take_zero, List.take_nil, true_and, and_true, Int.toNat_natCast, List.append_nil, List.nil_append, List.cons_append]
  refine wp_newF u5 hp fun k6 u6 v6 d6 => ?_
  try simp (disch := first | assumption | omega | (simp only [Int.ofNat_eq_natCast, neg_one]; done) | (simp only [Int.ofNat_eq_natCast, neg_one]; omega)) only [tysW, w_bindJ, w_logJ, w_ct, w_cf, w_gtt, w_gft, w_gtf, w_gff, w_pt, w_pf, w_lret, w_e0, w_e1, w_e2, w_nil, w_fun, w_nt, w_nf, w_add, w_sub, w_eqt, w_eqf, w_net, w_nef, w_ltt, w_ltf, w_let, w_lef, w_gtt', w_gtf', w_get, w_gef, toNat_of, of_add, cast_add, nth_0, nth_s, Nat.zero_add, Nat.reduceAdd, Nat.reduceMul, Nat.add_zero, List.length_cons, List.length_nil, List.drop_zero, List.drop_succ_cons, List.take_succ_cons, List.take_zero, List.take_nil, true_and, and_true, Int.toNat_natCast, List.append_nil, List.nil_append, List.cons_append]
  have hk6 := fun h' s' (g' : From (s1 + 1 + 1 + 1) k6 h' s') => hk h' s' (u6.trans g')
  have hp6 := fun n (hn : s1 + 1 + 1 + 1 ≤ n) => hp n (by have := u1.le; omega)
  have z0 := From.refl u6.fresh
  have hs1 := u1.le
  have B1 := u6.box b1 (by omega)
  have B2 := u6.box b2 (by omega)
  have B3 := u6.box b3 (by omega)
  have D4 : k6.get s1 = some (.cells ⟨[vi fl]⟩ 3 (0, 0)) := v6.box d4 (by omega)
  have D5 : k6.get (s1 + 1) = some (.cells ⟨[vi er]⟩ 35 (0, 0)) := v6.box d5 (by omega)
  have r6 := r0.from g0.fresh u6
  have key : ∀ (B : (Value → Value → Nat → AM) → Value → Value → Nat → AM) (hB : ∀ H u i s', B H u i s' = X30_1 N (D N (d + 7)) K (vi 4) (.slice (some ⟨s1 + 1 + 1, 0, none⟩) 4 4) (fun s => K (i64 0) s) H u i s') (m : Nat), 5 ≤ m → (loopJ m 2 (fun _ _ _ => AM.fail) B (i64 0) (i64 0) (s1 + 1 + 1 + 1)).wp pw Z k6 := by
    intro B hB m hm
    obtain ⟨m, rfl⟩ : ∃ q, m = q + 5 := ⟨m - 5, by omega⟩
    rw [loopJ_succ, hB]
    unfold X30_1
    try simp (disch := first | assumption | omega | (simp only [Int.ofNat_eq_natCast, neg_one]; done) | (simp only [Int.ofNat_eq_natCast, neg_one]; omega)) only [tysW, w_bindJ, w_logJ, w_ct, w_cf, w_gtt, w_gft, w_gtf, w_gff, w_pt, w_pf, w_lret, w_e0, w_e1, w_e2, w_nil, w_fun, w_nt, w_nf, w_add, w_sub, w_eqt, w_eqf, w_net, w_nef, w_ltt, w_ltf, w_let, w_lef, w_gtt', w_gtf', w_get, w_gef, toNat_of, of_add, cast_add, nth_0, nth_s, Nat.zero_add, Nat.reduceAdd, Nat.reduceMul, Nat.add_zero, List.length_cons, List.length_nil, List.drop_zero, List.drop_succ_cons, List.take_succ_cons, List.take_zero, List.take_nil, true_and, and_true, Int.toNat_natCast, List.append_nil, List.nil_append, List.cons_append, ldB (z0.box d6 (by omega)), clB (z0.box d6 (by omega)), ldBL (z0.box d6 (by omega)), clBL (z0.box d6 (by omega))]
    refine wp_boxA z0 hp6 fun k0a y0 _ m0 => ?_
    try simp (disch := first | assumption | omega | (simp only [Int.ofNat_eq_natCast, neg_one]; done) | (simp only [Int.ofNat_eq_natCast, neg_one]; omega)) only [tysW, w_bindJ, w_logJ, w_ct, w_cf, w_gtt, w_gft, w_gtf, w_gff, w_pt, w_pf, w_lret, w_e0, w_e1, w_e2, w_nil, w_fun, w_nt, w_nf, w_add, w_sub, w_eqt, w_eqf, w_net, w_nef, w_ltt, w_ltf, w_let, w_lef, w_gtt', w_gtf', w_get, w_gef, toNat_of, of_add, cast_add, nth_0, nth_s, Nat.zero_add, Nat.reduceAdd, Nat.reduceMul, Nat.add_zero, List.length_cons, List.length_nil, List.drop_zero, List.drop_succ_cons, List.take_succ_cons, List.take_zero, List.take_nil, true_and, and_true, Int.toNat_natCast, List.append_nil, List.nil_append, List.cons_append]
    refine wp_putF y0 hp6 m0 z0.le (by exact Nat.le_refl 2) rfl fun k0b x0 n0 _ => ?_
    simp only [overL] at n0
    try simp (disch := first | assumption | omega | (simp only [Int.ofNat_eq_natCast, neg_one]; done) | (simp only [Int.ofNat_eq_natCast, neg_one]; omega)) only [tysW, w_bindJ, w_logJ, w_ct, w_cf, w_gtt, w_gft, w_gtf, w_gff, w_pt, w_pf, w_lret, w_e0, w_e1, w_e2, w_nil, w_fun, w_nt, w_nf, w_add, w_sub, w_eqt, w_eqf, w_net, w_nef, w_ltt, w_ltf, w_let, w_lef, w_gtt', w_gtf', w_get, w_gef, toNat_of, of_add, cast_add, nth_0, nth_s, Nat.zero_add, Nat.reduceAdd, Nat.reduceMul, Nat.add_zero, List.length_cons, List.length_nil, List.drop_zero, List.drop_succ_cons, List.take_succ_cons, List.take_zero, List.take_nil, true_and, and_true, Int.toNat_natCast, List.append_nil, List.nil_append, List.cons_append, ldB n0, clB n0, ldBL n0, clBL n0]
    refine ValS.go x0 hp6 (s99 (d := d + 5) x0.fresh er k (x0.box D5 (by omega)) (x0.box B3 (by omega))) fun k0c s0c w0 o0 => ?_
    cases e0 : (!decide (er = 0) || !wI k.a 0 maxT) with
    | true =>
      try simp (disch := first | assumption | omega | (simp only [Int.ofNat_eq_natCast, neg_one]; done) | (simp only [Int.ofNat_eq_natCast, neg_one]; omega)) only [tysW, w_bindJ, w_logJ, w_ct, w_cf, w_gtt, w_gft, w_gtf, w_gff, w_pt, w_pf, w_lret, w_e0, w_e1, w_e2, w_nil, w_fun, w_nt, w_nf, w_add, w_sub, w_eqt, w_eqf, w_net, w_nef, w_ltt, w_ltf, w_let, w_lef, w_gtt', w_gtf', w_get, w_gef, toNat_of, of_add, cast_add, nth_0, nth_s, Nat.zero_add, Nat.reduceAdd, Nat.reduceMul, Nat.add_zero, List.length_cons, List.length_nil, List.drop_zero, List.drop_succ_cons, List.take_succ_cons, List.take_zero, List.take_nil, true_and, and_true, Int.toNat_natCast, List.append_nil, List.nil_append, List.cons_append, ldB (o0.box n0 (by omega)), clB (o0.box n0 (by omega)), ldBL (o0.box n0 (by omega)), clBL (o0.box n0 (by omega))]
      have := hk6 _ _ w0
      have hj : judgeK x base clean l k = 2 := by
        unfold judgeK
        rw [if_pos]
        rcases hfl with ⟨h1, h2, h3⟩ | ⟨h1, h2⟩
        · subst h3; simp at e0; exact .inr e0
        · exact .inl h1
      rw [hj] at this
      exact this
    | false =>
    try simp (disch := first | assumption | omega | (simp only [Int.ofNat_eq_natCast, neg_one]; done) | (simp only [Int.ofNat_eq_natCast, neg_one]; omega)) only [tysW, w_bindJ, w_logJ, w_ct, w_cf, w_gtt, w_gft, w_gtf, w_gff, w_pt, w_pf, w_lret, w_e0, w_e1, w_e2, w_nil, w_fun, w_nt, w_nf, w_add, w_sub, w_eqt, w_eqf, w_net, w_nef, w_ltt, w_ltf, w_let, w_lef, w_gtt', w_gtf', w_get, w_gef, toNat_of, of_add, cast_add, nth_0, nth_s, Nat.zero_add, Nat.reduceAdd, Nat.reduceMul, Nat.add_zero, List.length_cons, List.length_nil, List.drop_zero, List.drop_succ_cons, List.take_succ_cons, List.take_zero, List.take_nil, true_and, and_true, Int.toNat_natCast, List.append_nil, List.nil_append, List.cons_append]
    have hfit : fitsK x base clean l = true ∧ fl = floorK x base l := by
      rcases hfl with ⟨h1, h2, h3⟩ | ⟨h1, h2⟩
      · exact ⟨h1, h2⟩
      · subst h2; simp at e0
    obtain ⟨hfit, hfl2⟩ := hfit
    have hwk : wI k.a 0 maxT = true := by
      cases e : wI k.a 0 maxT with
      | true => rfl
      | false => rw [e] at e0; simp at e0
    have hn2 : ¬ (fitsK x base clean l = false ∨ wI k.a 0 maxT = false) := by simp [hfit, hwk]
    have hfu : fullK x l = true → 0 < len := fun e => by
      have h1 : (l.length : Int) = x.keep := by simpa [fullK] using e
      have := (chk_keep (fits_iff.1 hfit).1).1
      omega
    rw [loopJ_succ, hB]
    unfold X30_1
    try simp (disch := first | assumption | omega | (simp only [Int.ofNat_eq_natCast, neg_one]; done) | (simp only [Int.ofNat_eq_natCast, neg_one]; omega)) only [tysW, w_bindJ, w_logJ, w_ct, w_cf, w_gtt, w_gft, w_gtf, w_gff, w_pt, w_pf, w_lret, w_e0, w_e1, w_e2, w_nil, w_fun, w_nt, w_nf, w_add, w_sub, w_eqt, w_eqf, w_net, w_nef, w_ltt, w_ltf, w_let, w_lef, w_gtt', w_gtf', w_get, w_gef, toNat_of, of_add, cast_add, nth_0, nth_s, Nat.zero_add, Nat.reduceAdd, Nat.reduceMul, Nat.add_zero, List.length_cons, List.length_nil, List.drop_zero, List.drop_succ_cons, List.take_succ_cons, List.take_zero, List.take_nil, true_and, and_true, Int.toNat_natCast, List.append_nil, List.nil_append, List.cons_append, ldB (w0.box d6 (by omega)), clB (w0.box d6 (by omega)), ldBL (w0.box d6 (by omega)), clBL (w0.box d6 (by omega))]
    refine wp_boxA w0 hp6 fun k1a y1 _ m1 => ?_
    try simp (disch := first | assumption | omega | (simp only [Int.ofNat_eq_natCast, neg_one]; done) | (simp only [Int.ofNat_eq_natCast, neg_one]; omega)) only [tysW, w_bindJ, w_logJ, w_ct, w_cf, w_gtt, w_gft, w_gtf, w_gff, w_pt, w_pf, w_lret, w_e0, w_e1, w_e2, w_nil, w_fun, w_nt, w_nf, w_add, w_sub, w_eqt, w_eqf, w_net, w_nef, w_ltt, w_ltf, w_let, w_lef, w_gtt', w_gtf', w_get, w_gef, toNat_of, of_add, cast_add, nth_0, nth_s, Nat.zero_add, Nat.reduceAdd, Nat.reduceMul, Nat.add_zero, List.length_cons, List.length_nil, List.drop_zero, List.drop_succ_cons, List.take_succ_cons, List.take_zero, List.take_nil, true_and, and_true, Int.toNat_natCast, List.append_nil, List.nil_append, List.cons_append]
    refine wp_putF y1 hp6 m1 w0.le (by exact Nat.le_refl 2) rfl fun k1b x1 n1 _ => ?_
    simp only [overL] at n1
    try simp (disch := first | assumption | omega | (simp only [Int.ofNat_eq_natCast, neg_one]; done) | (simp only [Int.ofNat_eq_natCast, neg_one]; omega)) only [tysW, w_bindJ, w_logJ, w_ct, w_cf, w_gtt, w_gft, w_gtf, w_gff, w_pt, w_pf, w_lret, w_e0, w_e1, w_e2, w_nil, w_fun, w_nt, w_nf, w_add, w_sub, w_eqt, w_eqf, w_net, w_nef, w_ltt, w_ltf, w_let, w_lef, w_gtt', w_gtf', w_get, w_gef, toNat_of, of_add, cast_add, nth_0, nth_s, Nat.zero_add, Nat.reduceAdd, Nat.reduceMul, Nat.add_zero, List.length_cons, List.length_nil, List.drop_zero, List.drop_succ_cons, List.take_succ_cons, List.take_zero, List.take_nil, true_and, and_true, Int.toNat_natCast, List.append_nil, List.nil_append, List.cons_append, ldB n1, clB n1, ldBL n1, clBL n1]
    refine ValS.go x1 hp6 (s101 (d := d + 1) hN x1.fresh base clean (r6.from u6.fresh x1).row hl k (x1.box B2 (by omega)) (x1.box B3 (by omega))) fun k1c s1c w1 o1 => ?_
    cases e1 : twinAny l k with
    | true =>
      try simp (disch := first | assumption | omega | (simp only [Int.ofNat_eq_natCast, neg_one]; done) | (simp only [Int.ofNat_eq_natCast, neg_one]; omega)) only [tysW, w_bindJ, w_logJ, w_ct, w_cf, w_gtt, w_gft, w_gtf, w_gff, w_pt, w_pf, w_lret, w_e0, w_e1, w_e2, w_nil, w_fun, w_nt, w_nf, w_add, w_sub, w_eqt, w_eqf, w_net, w_nef, w_ltt, w_ltf, w_let, w_lef, w_gtt', w_gtf', w_get, w_gef, toNat_of, of_add, cast_add, nth_0, nth_s, Nat.zero_add, Nat.reduceAdd, Nat.reduceMul, Nat.add_zero, List.length_cons, List.length_nil, List.drop_zero, List.drop_succ_cons, List.take_succ_cons, List.take_zero, List.take_nil, true_and, and_true, Int.toNat_natCast, List.append_nil, List.nil_append, List.cons_append, ldB (o1.box n1 (by omega)), clB (o1.box n1 (by omega)), ldBL (o1.box n1 (by omega)), clBL (o1.box n1 (by omega))]
      have := hk6 _ _ w1
      have hj : judgeK x base clean l k = 7 := by
        unfold judgeK
        rw [if_neg hn2, if_pos e1]
      rw [hj] at this
      exact this
    | false =>
    try simp (disch := first | assumption | omega | (simp only [Int.ofNat_eq_natCast, neg_one]; done) | (simp only [Int.ofNat_eq_natCast, neg_one]; omega)) only [tysW, w_bindJ, w_logJ, w_ct, w_cf, w_gtt, w_gft, w_gtf, w_gff, w_pt, w_pf, w_lret, w_e0, w_e1, w_e2, w_nil, w_fun, w_nt, w_nf, w_add, w_sub, w_eqt, w_eqf, w_net, w_nef, w_ltt, w_ltf, w_let, w_lef, w_gtt', w_gtf', w_get, w_gef, toNat_of, of_add, cast_add, nth_0, nth_s, Nat.zero_add, Nat.reduceAdd, Nat.reduceMul, Nat.add_zero, List.length_cons, List.length_nil, List.drop_zero, List.drop_succ_cons, List.take_succ_cons, List.take_zero, List.take_nil, true_and, and_true, Int.toNat_natCast, List.append_nil, List.nil_append, List.cons_append]
    rw [loopJ_succ, hB]
    unfold X30_1
    try simp (disch := first | assumption | omega | (simp only [Int.ofNat_eq_natCast, neg_one]; done) | (simp only [Int.ofNat_eq_natCast, neg_one]; omega)) only [tysW, w_bindJ, w_logJ, w_ct, w_cf, w_gtt, w_gft, w_gtf, w_gff, w_pt, w_pf, w_lret, w_e0, w_e1, w_e2, w_nil, w_fun, w_nt, w_nf, w_add, w_sub, w_eqt, w_eqf, w_net, w_nef, w_ltt, w_ltf, w_let, w_lef, w_gtt', w_gtf', w_get, w_gef, toNat_of, of_add, cast_add, nth_0, nth_s, Nat.zero_add, Nat.reduceAdd, Nat.reduceMul, Nat.add_zero, List.length_cons, List.length_nil, List.drop_zero, List.drop_succ_cons, List.take_succ_cons, List.take_zero, List.take_nil, true_and, and_true, Int.toNat_natCast, List.append_nil, List.nil_append, List.cons_append, ldB (w1.box d6 (by omega)), clB (w1.box d6 (by omega)), ldBL (w1.box d6 (by omega)), clBL (w1.box d6 (by omega))]
    refine wp_boxA w1 hp6 fun k2a y2 _ m2 => ?_
    try simp (disch := first | assumption | omega | (simp only [Int.ofNat_eq_natCast, neg_one]; done) | (simp only [Int.ofNat_eq_natCast, neg_one]; omega)) only [tysW, w_bindJ, w_logJ, w_ct, w_cf, w_gtt, w_gft, w_gtf, w_gff, w_pt, w_pf, w_lret, w_e0, w_e1, w_e2, w_nil, w_fun, w_nt, w_nf, w_add, w_sub, w_eqt, w_eqf, w_net, w_nef, w_ltt, w_ltf, w_let, w_lef, w_gtt', w_gtf', w_get, w_gef, toNat_of, of_add, cast_add, nth_0, nth_s, Nat.zero_add, Nat.reduceAdd, Nat.reduceMul, Nat.add_zero, List.length_cons, List.length_nil, List.drop_zero, List.drop_succ_cons, List.take_succ_cons, List.take_zero, List.take_nil, true_and, and_true, Int.toNat_natCast, List.append_nil, List.nil_append, List.cons_append]
    refine wp_putF y2 hp6 m2 w1.le (by exact Nat.le_refl 2) rfl fun k2b x2 n2 _ => ?_
    simp only [overL] at n2
    try simp (disch := first | assumption | omega | (simp only [Int.ofNat_eq_natCast, neg_one]; done) | (simp only [Int.ofNat_eq_natCast, neg_one]; omega)) only [tysW, w_bindJ, w_logJ, w_ct, w_cf, w_gtt, w_gft, w_gtf, w_gff, w_pt, w_pf, w_lret, w_e0, w_e1, w_e2, w_nil, w_fun, w_nt, w_nf, w_add, w_sub, w_eqt, w_eqf, w_net, w_nef, w_ltt, w_ltf, w_let, w_lef, w_gtt', w_gtf', w_get, w_gef, toNat_of, of_add, cast_add, nth_0, nth_s, Nat.zero_add, Nat.reduceAdd, Nat.reduceMul, Nat.add_zero, List.length_cons, List.length_nil, List.drop_zero, List.drop_succ_cons, List.take_succ_cons, List.take_zero, List.take_nil, true_and, and_true, Int.toNat_natCast, List.append_nil, List.nil_append, List.cons_append, ldB n2, clB n2, ldBL n2, clBL n2]
    refine ValS.go x2 hp6 (s103 (d := d + 1) hN x2.fresh fl k x base clean (r6.from u6.fresh x2).row hfu (x2.box B3 (by omega)) (by have := x2.le; omega) (x2.box D4 (by omega)) (x2.box B1 (by omega)) (by have := x2.le; omega) (x2.box B2 (by omega)) (by have := x2.le; omega)) fun k2c s2c w2 o2 => ?_
    cases e2 : (decide (k.a < fl) || (fullK x l && aheadK l k)) with
    | true =>
      try simp (disch := first | assumption | omega | (simp only [Int.ofNat_eq_natCast, neg_one]; done) | (simp only [Int.ofNat_eq_natCast, neg_one]; omega)) only [tysW, w_bindJ, w_logJ, w_ct, w_cf, w_gtt, w_gft, w_gtf, w_gff, w_pt, w_pf, w_lret, w_e0, w_e1, w_e2, w_nil, w_fun, w_nt, w_nf, w_add, w_sub, w_eqt, w_eqf, w_net, w_nef, w_ltt, w_ltf, w_let, w_lef, w_gtt', w_gtf', w_get, w_gef, toNat_of, of_add, cast_add, nth_0, nth_s, Nat.zero_add, Nat.reduceAdd, Nat.reduceMul, Nat.add_zero, List.length_cons, List.length_nil, List.drop_zero, List.drop_succ_cons, List.take_succ_cons, List.take_zero, List.take_nil, true_and, and_true, Int.toNat_natCast, List.append_nil, List.nil_append, List.cons_append, ldB (o2.box n2 (by omega)), clB (o2.box n2 (by omega)), ldBL (o2.box n2 (by omega)), clBL (o2.box n2 (by omega))]
      have := hk6 _ _ w2
      have hj : judgeK x base clean l k = 6 := by
        unfold judgeK
        rw [if_neg hn2, if_neg (by simp [e1]), if_pos (by rw [← hfl2]; simpa using e2)]
      rw [hj] at this
      exact this
    | false =>
    try simp (disch := first | assumption | omega | (simp only [Int.ofNat_eq_natCast, neg_one]; done) | (simp only [Int.ofNat_eq_natCast, neg_one]; omega)) only [tysW, w_bindJ, w_logJ, w_ct, w_cf, w_gtt, w_gft, w_gtf, w_gff, w_pt, w_pf, w_lret, w_e0, w_e1, w_e2, w_nil, w_fun, w_nt, w_nf, w_add, w_sub, w_eqt, w_eqf, w_net, w_nef, w_ltt, w_ltf, w_let, w_lef, w_gtt', w_gtf', w_get, w_gef, toNat_of, of_add, cast_add, nth_0, nth_s, Nat.zero_add, Nat.reduceAdd, Nat.reduceMul, Nat.add_zero, List.length_cons, List.length_nil, List.drop_zero, List.drop_succ_cons, List.take_succ_cons, List.take_zero, List.take_nil, true_and, and_true, Int.toNat_natCast, List.append_nil, List.nil_append, List.cons_append]
    rw [loopJ_succ, hB]
    unfold X30_1
    try simp (disch := first | assumption | omega | (simp only [Int.ofNat_eq_natCast, neg_one]; done) | (simp only [Int.ofNat_eq_natCast, neg_one]; omega)) only [tysW, w_bindJ, w_logJ, w_ct, w_cf, w_gtt, w_gft, w_gtf, w_gff, w_pt, w_pf, w_lret, w_e0, w_e1, w_e2, w_nil, w_fun, w_nt, w_nf, w_add, w_sub, w_eqt, w_eqf, w_net, w_nef, w_ltt, w_ltf, w_let, w_lef, w_gtt', w_gtf', w_get, w_gef, toNat_of, of_add, cast_add, nth_0, nth_s, Nat.zero_add, Nat.reduceAdd, Nat.reduceMul, Nat.add_zero, List.length_cons, List.length_nil, List.drop_zero, List.drop_succ_cons, List.take_succ_cons, List.take_zero, List.take_nil, true_and, and_true, Int.toNat_natCast, List.append_nil, List.nil_append, List.cons_append, ldB (w2.box d6 (by omega)), clB (w2.box d6 (by omega)), ldBL (w2.box d6 (by omega)), clBL (w2.box d6 (by omega))]
    refine wp_boxA w2 hp6 fun k3a y3 _ m3 => ?_
    try simp (disch := first | assumption | omega | (simp only [Int.ofNat_eq_natCast, neg_one]; done) | (simp only [Int.ofNat_eq_natCast, neg_one]; omega)) only [tysW, w_bindJ, w_logJ, w_ct, w_cf, w_gtt, w_gft, w_gtf, w_gff, w_pt, w_pf, w_lret, w_e0, w_e1, w_e2, w_nil, w_fun, w_nt, w_nf, w_add, w_sub, w_eqt, w_eqf, w_net, w_nef, w_ltt, w_ltf, w_let, w_lef, w_gtt', w_gtf', w_get, w_gef, toNat_of, of_add, cast_add, nth_0, nth_s, Nat.zero_add, Nat.reduceAdd, Nat.reduceMul, Nat.add_zero, List.length_cons, List.length_nil, List.drop_zero, List.drop_succ_cons, List.take_succ_cons, List.take_zero, List.take_nil, true_and, and_true, Int.toNat_natCast, List.append_nil, List.nil_append, List.cons_append]
    refine wp_putF y3 hp6 m3 w2.le (by exact Nat.le_refl 2) rfl fun k3b x3 n3 _ => ?_
    simp only [overL] at n3
    try simp (disch := first | assumption | omega | (simp only [Int.ofNat_eq_natCast, neg_one]; done) | (simp only [Int.ofNat_eq_natCast, neg_one]; omega)) only [tysW, w_bindJ, w_logJ, w_ct, w_cf, w_gtt, w_gft, w_gtf, w_gff, w_pt, w_pf, w_lret, w_e0, w_e1, w_e2, w_nil, w_fun, w_nt, w_nf, w_add, w_sub, w_eqt, w_eqf, w_net, w_nef, w_ltt, w_ltf, w_let, w_lef, w_gtt', w_gtf', w_get, w_gef, toNat_of, of_add, cast_add, nth_0, nth_s, Nat.zero_add, Nat.reduceAdd, Nat.reduceMul, Nat.add_zero, List.length_cons, List.length_nil, List.drop_zero, List.drop_succ_cons, List.take_succ_cons, List.take_zero, List.take_nil, true_and, and_true, Int.toNat_natCast, List.append_nil, List.nil_append, List.cons_append, ldB n3, clB n3, ldBL n3, clBL n3]
    refine ValS.go x3 hp6 (s105 (d := d + 5) x3.fresh x base clean (r6.from u6.fresh x3).row (x3.box B1 (by omega)) (by have := x3.le; omega) (x3.box B2 (by omega)) (by have := x3.le; omega)) fun k3c s3c w3 o3 => ?_
    cases e3 : (fullK x l && decide (clean = 0)) with
    | true =>
      try simp (disch := first | assumption | omega | (simp only [Int.ofNat_eq_natCast, neg_one]; done) | (simp only [Int.ofNat_eq_natCast, neg_one]; omega)) only [tysW, w_bindJ, w_logJ, w_ct, w_cf, w_gtt, w_gft, w_gtf, w_gff, w_pt, w_pf, w_lret, w_e0, w_e1, w_e2, w_nil, w_fun, w_nt, w_nf, w_add, w_sub, w_eqt, w_eqf, w_net, w_nef, w_ltt, w_ltf, w_let, w_lef, w_gtt', w_gtf', w_get, w_gef, toNat_of, of_add, cast_add, nth_0, nth_s, Nat.zero_add, Nat.reduceAdd, Nat.reduceMul, Nat.add_zero, List.length_cons, List.length_nil, List.drop_zero, List.drop_succ_cons, List.take_succ_cons, List.take_zero, List.take_nil, true_and, and_true, Int.toNat_natCast, List.append_nil, List.nil_append, List.cons_append, ldB (o3.box n3 (by omega)), clB (o3.box n3 (by omega)), ldBL (o3.box n3 (by omega)), clBL (o3.box n3 (by omega))]
      have := hk6 _ _ w3
      have hj : judgeK x base clean l k = 12 := by
        unfold judgeK
        rw [if_neg hn2, if_neg (by simp [e1]), if_neg (by rw [← hfl2]; simpa using e2), if_pos (by simpa using e3)]
      rw [hj] at this
      exact this
    | false =>
    try simp (disch := first | assumption | omega | (simp only [Int.ofNat_eq_natCast, neg_one]; done) | (simp only [Int.ofNat_eq_natCast, neg_one]; omega)) only [tysW, w_bindJ, w_logJ, w_ct, w_cf, w_gtt, w_gft, w_gtf, w_gff, w_pt, w_pf, w_lret, w_e0, w_e1, w_e2, w_nil, w_fun, w_nt, w_nf, w_add, w_sub, w_eqt, w_eqf, w_net, w_nef, w_ltt, w_ltf, w_let, w_lef, w_gtt', w_gtf', w_get, w_gef, toNat_of, of_add, cast_add, nth_0, nth_s, Nat.zero_add, Nat.reduceAdd, Nat.reduceMul, Nat.add_zero, List.length_cons, List.length_nil, List.drop_zero, List.drop_succ_cons, List.take_succ_cons, List.take_zero, List.take_nil, true_and, and_true, Int.toNat_natCast, List.append_nil, List.nil_append, List.cons_append]
    rw [loopJ_succ, hB]
    unfold X30_1
    try simp (disch := first | assumption | omega | (simp only [Int.ofNat_eq_natCast, neg_one]; done) | (simp only [Int.ofNat_eq_natCast, neg_one]; omega)) only [tysW, w_bindJ, w_logJ, w_ct, w_cf, w_gtt, w_gft, w_gtf, w_gff, w_pt, w_pf, w_lret, w_e0, w_e1, w_e2, w_nil, w_fun, w_nt, w_nf, w_add, w_sub, w_eqt, w_eqf, w_net, w_nef, w_ltt, w_ltf, w_let, w_lef, w_gtt', w_gtf', w_get, w_gef, toNat_of, of_add, cast_add, nth_0, nth_s, Nat.zero_add, Nat.reduceAdd, Nat.reduceMul, Nat.add_zero, List.length_cons, List.length_nil, List.drop_zero, List.drop_succ_cons, List.take_succ_cons, List.take_zero, List.take_nil, true_and, and_true, Int.toNat_natCast, List.append_nil, List.nil_append, List.cons_append]
    have := hk6 _ _ w3
    have hj : judgeK x base clean l k = 0 := by
      unfold judgeK
      rw [if_neg hn2, if_neg (by simp [e1]), if_neg (by rw [← hfl2]; simpa using e2), if_neg (by simpa using e3)]
    rw [hj] at this
    exact this
  exact key _ (fun _ _ _ _ => rfl) N (by omega)
end
end Go.Ev.R
namespace Go.Ev.R
open Go Go.RowKit
theorem blt_min {C : CallT} (ts : Array TypeId) (t : TypeId) (cs : Array Bool) (a b : Int) (k : Value → Nat → AM) (s : Nat) : blt0 P C .min ts t cs [vi a, vi b] k s = k (vi (min a b)) s := by
  have h : pureRun P (builtin .min ts t cs ⟨[vi a, vi b]⟩) = some (.value (vi (min a b))) := by
    have h1 : Builtin.min_ ts t ⟨[vi a, vi b]⟩ = pure (.int .i64 (if b < a then b else a)) := rfl
    have h2 : (if b < a then b else a) = min a b := by split <;> omega
    rw [h2] at h1
    have : builtin .min ts t cs ⟨[vi a, vi b]⟩ = (do pure (Next.value (← Builtin.min_ ts t ⟨[vi a, vi b]⟩))) := rfl
    rw [this, h1]
    rfl
  unfold blt0 abuiltin
  dsimp only
  rw [h]
  rfl
/-- A list that was made. -/
def Own (h : T) (s : Nat) (p : Option Addr) (len : Nat) (l : List K3) : Prop :=
  l.length = len ∧ (p = none ∧ len = 0 ∨ ∃ n f, p = some ⟨n, 0, none⟩ ∧ s ≤ n ∧ h.get n = some (.cells ⟨l.flatMap kv⟩ 48 (f, 0)) ∧ (f = 0 ∨ f = 4 ∧ len ≠ 0))
theorem Own.sl {h : T} {s : Nat} {p : Option Addr} {len : Nat} {l : List K3} (o : Own h s p len l) : Sl EK h p len len l := by
  obtain ⟨hl, ⟨rfl, rfl⟩ | ⟨n, f, rfl, _, hg, hf⟩⟩ := o
  · obtain rfl := List.eq_nil_of_length_eq_zero hl
    exact .nil _
  · exact .own hg (hf.imp id fun h => h.1) hl
theorem Own.from {h h' : T} {s s0 s' : Nat} {p : Option Addr} {len : Nat} {l : List K3} (o : Own h s p len l) (hf : ∀ n, s0 ≤ n → h.get n = none) (g : From s0 h h' s') : Own h' s p len l := by
  obtain ⟨hl, ho | ⟨n, f, rfl, h1, hg, hff⟩⟩ := o
  · exact ⟨hl, .inl ho⟩
  · exact ⟨hl, .inr ⟨n, f, rfl, h1, by rw [g.keep n (lt_of_some hf ⟨_, hg⟩)]; exact hg, hff⟩⟩
theorem Own.less {h : T} {s s' : Nat} {p : Option Addr} {len : Nat} {l : List K3} (o : Own h s p len l) (hs : s' ≤ s) : Own h s' p len l := by
  obtain ⟨hl, ho | ⟨n, f, rfl, h1, hg, hff⟩⟩ := o
  · exact ⟨hl, .inl ho⟩
  · exact ⟨hl, .inr ⟨n, f, rfl, by omega, hg, hff⟩⟩
theorem Own.but {h h' : T} {s s' : Nat} {p : Option Addr} {len : Nat} {l : List K3} (o : Own h s p len l) (hf : ∀ n, s' ≤ n → h.get n = none) (e : ∀ i, s ≤ i → i < s' → h'.get i = h.get i) : Own h' s p len l := by
  obtain ⟨hl, ho | ⟨n, f, rfl, h1, hg, hff⟩⟩ := o
  · exact ⟨hl, .inl ho⟩
  · exact ⟨hl, .inr ⟨n, f, rfl, h1, by rw [e n h1 (lt_of_some hf ⟨_, hg⟩)]; exact hg, hff⟩⟩
def pickZ (x n : Int) : Int := if n ≤ 0 then 0 else x % n
def smallS (x : SU) : SU := ⟨1 + pickZ x.keep 20, pickZ x.horizon 100, 1, 1 + pickZ x.budget 6, 1⟩
theorem pick_rng {x n : Int} (h : 0 < n) : 0 ≤ pickZ x n ∧ pickZ x n < n := by
  unfold pickZ
  rw [if_neg (by omega)]
  exact ⟨Int.emod_nonneg _ (by omega), Int.emod_lt_of_pos _ h⟩
def tickN (x : SU) (clean : Int) (len : Nat) : Int := min x.budget ((len : Int) - clean)
section
variable {N d : Nat} (hN : 100000 ≤ N) {h : T} {s : Nat} (hf : ∀ n, s ≤ n → h.get n = none)
include hf
include hN
omit hN in
theorem s115o {p : Option Addr} {len cap : Nat} {l : List K3} (r : Sl EK h p len cap l) (hl : len ≤ 100000) : PureS (D N (d + 1)) 115 [.slice p len cap] h s (fun v h' s' => ∃ p', v = .slice p' len len ∧ Own h' s p' len l) := by
  refine PureS.of hf fun K pw Z g hp hk => ?_
  rw [D_115]; unfold F115; rw [app1_eq]
  cases p with
  | none =>
    obtain ⟨rfl, rfl⟩ := r.emp rfl
    try simp (disch := first | assumption | omega | (simp only [Int.ofNat_eq_natCast, neg_one]; done) | (simp only [Int.ofNat_eq_natCast, neg_one]; omega)) only [tysW, w_bindJ, w_logJ, w_ct, w_cf, w_gtt, w_gft, w_gtf, w_gff, w_pt, w_pf, w_lret, w_e0, w_e1, w_e2, w_nil, w_fun, w_nt, w_nf, w_add, w_sub, w_eqt, w_eqf, w_net, w_nef, w_ltt, w_ltf, w_let, w_lef, w_gtt', w_gtf', w_get, w_gef, toNat_of, of_add, cast_add, nth_0, nth_s, Nat.zero_add, Nat.reduceAdd, Nat.reduceMul, Nat.add_zero, List.length_cons, List.length_nil, List.drop_zero, List.drop_succ_cons, List.take_succ_cons, List.take_zero, List.take_nil, true_and, and_true, Int.toNat_natCast, List.append_nil, List.nil_append, List.cons_append]
    exact hk _ _ _ g ⟨_, rfl, r.row.1, .inl ⟨rfl, rfl⟩⟩
  | some a =>
    try simp (disch := first | assumption | omega | (simp only [Int.ofNat_eq_natCast, neg_one]; done) | (simp only [Int.ofNat_eq_natCast, neg_one]; omega)) only [tysW, w_bindJ, w_logJ, w_ct, w_cf, w_gtt, w_gft, w_gtf, w_gff, w_pt, w_pf, w_lret, w_e0, w_e1, w_e2, w_nil, w_fun, w_nt, w_nf, w_add, w_sub, w_eqt, w_eqf, w_net, w_nef, w_ltt, w_ltf, w_let, w_lef, w_gtt', w_gtf', w_get, w_gef, toNat_of, of_add, cast_add, nth_0, nth_s, Nat.zero_add, Nat.reduceAdd, Nat.reduceMul, Nat.add_zero, List.length_cons, List.length_nil, List.drop_zero, List.drop_succ_cons, List.take_succ_cons, List.take_zero, List.take_nil, true_and, and_true, Int.toNat_natCast, List.append_nil, List.nil_append, List.cons_append]
    refine wp_newF g hp fun h1 g1 c1 b1 => ?_
    try simp (disch := first | assumption | omega | (simp only [Int.ofNat_eq_natCast, neg_one]; done) | (simp only [Int.ofNat_eq_natCast, neg_one]; omega)) only [tysW, w_bindJ, w_logJ, w_ct, w_cf, w_gtt, w_gft, w_gtf, w_gff, w_pt, w_pf, w_lret, w_e0, w_e1, w_e2, w_nil, w_fun, w_nt, w_nf, w_add, w_sub, w_eqt, w_eqf, w_net, w_nef, w_ltt, w_ltf, w_let, w_lef, w_gtt', w_gtf', w_get, w_gef, toNat_of, of_add, cast_add, nth_0, nth_s, Nat.zero_add, Nat.reduceAdd, Nat.reduceMul, Nat.add_zero, List.length_cons, List.length_nil, List.drop_zero, List.drop_succ_cons, List.take_succ_cons, List.take_zero, List.take_nil, true_and, and_true, Int.toNat_natCast, List.append_nil, List.nil_append, List.cons_append]
    by_cases h0 : len = 0
    · subst h0
      have hl0 := List.eq_nil_of_length_eq_zero r.row.1
      subst hl0
      exact wp_ap_none (by omega) (by omega) (hk _ _ _ g1 ⟨_, rfl, rfl, .inr ⟨s, 0, rfl, Nat.le_refl _, b1, .inl rfl⟩⟩)
    · have hrow := (r.from hf g1).row
      refine Sl.addK (E := EK) (l := []) (Sl.own (len := 0) b1 (.inl rfl) rfl) hrow (fun _ => rfl) h0 (by omega) (by omega) (g1.fresh _ (Nat.le_refl _)) (hp _ (by omega)) (fun m o sp e => ?_) fun h2 b2 e2 => ?_
      · cases e
        exact ⟨hp _ (Nat.le_refl _), by omega, _, _, _, _, b1, .inl rfl⟩
      · rw [Nat.zero_add]
        have g2 : From s h h2 (s + 1 + 1) := ⟨by omega, fun n hn => by rw [e2 n (fun _ => by show n ≠ s; omega) (by omega)]; exact g1.keep n hn, fun n hn => by rw [e2 n (fun _ => by show n ≠ s; omega) (by omega)]; exact g1.fresh n (by omega)⟩
        exact hk _ _ _ g2 ⟨_, rfl, r.row.1, .inr ⟨s + 1, 4, rfl, by omega, b2, .inr ⟨rfl, h0⟩⟩⟩
theorem s43 (x : SU) (base clean : Int) {p : Option Addr} {len cap : Nat} {l : List K3} (r : Sl EK h p len cap l) (hl : len ≤ 10000) : PureS (D N (d + 7)) 43 [suval x, shval base p len cap clean] h s (fun v h' s' =>
    if fitsK x base clean l = true then ∃ p', v = .tuple ⟨[shval base p' len len (clean + tickN x clean len), vi (tickN x clean len), vi 0]⟩ ∧ Own h' s p' len l else v = .tuple ⟨[shval 0 none 0 0 0, vi 0, vi 2]⟩) := by
  refine PureS.of hf fun K pw Z g hp hk => ?_
  rw [D_43]; unfold F43; rw [app2_eq]
  unfold X43_2
  refine wp_boxA g hp fun h1 g1 c1 b1 => ?_
  refine wp_boxA g1 hp fun h2 g2 c2 b2 => ?_
  try simp (disch := first | assumption | omega | (simp only [Int.ofNat_eq_natCast, neg_one]; done) | (simp only [Int.ofNat_eq_natCast, neg_one]; omega)) only [tysW, w_bindJ, w_logJ, w_ct, w_cf, w_gtt, w_gft, w_gtf, w_gff, w_pt, w_pf, w_lret, w_e0, w_e1, w_e2, w_nil, w_fun, w_nt, w_nf, w_add, w_sub, w_eqt, w_eqf, w_net, w_nef, w_ltt, w_ltf, w_let, w_lef, w_gtt', w_gtf', w_get, w_gef, toNat_of, of_add, cast_add, nth_0, nth_s, Nat.zero_add, Nat.reduceAdd, Nat.reduceMul, Nat.add_zero, List.length_cons, List.length_nil, List.drop_zero, List.drop_succ_cons, List.take_succ_cons, List.take_zero, List.take_nil, true_and, and_true, Int.toNat_natCast, List.append_nil, List.nil_append, List.cons_append]
  refine wp_boxA g2 hp fun h3 g3 c3 b3 => ?_
  replace b1 := (c2.trans c3).box b1 (by omega)
  replace b2 := c3.box b2 (by omega)
  simp only [suv, shv] at b1 b2
  have r0 := r.from hf g3
  try simp (disch := first | assumption | omega | (simp only [Int.ofNat_eq_natCast, neg_one]; done) | (simp only [Int.ofNat_eq_natCast, neg_one]; omega)) only [tysW, w_bindJ, w_logJ, w_ct, w_cf, w_gtt, w_gft, w_gtf, w_gff, w_pt, w_pf, w_lret, w_e0, w_e1, w_e2, w_nil, w_fun, w_nt, w_nf, w_add, w_sub, w_eqt, w_eqf, w_net, w_nef, w_ltt, w_ltf, w_let, w_lef, w_gtt', w_gtf', w_get, w_gef, toNat_of, of_add, cast_add, nth_0, nth_s, Nat.zero_add, Nat.reduceAdd, Nat.reduceMul, Nat.add_zero, List.length_cons, List.length_nil, List.drop_zero, List.drop_succ_cons, List.take_succ_cons, List.take_zero, List.take_nil, true_and, and_true, Int.toNat_natCast, List.append_nil, List.nil_append, List.cons_append, ldB b1, clB b1, ldBL b1, clBL b1, ldB b2, clB b2, ldBL b2, clBL b2]
  refine ValS.go g3 hp (s31 (d := d) hN g3.fresh x base clean r0 hl) fun h4 s4 g4 c4 => ?_
  have l4 := c4.le
  have B3 := c4.box b3 (by omega)
  have hlen := r.row.1
  cases e1 : fitsK x base clean l with
  | false =>
    try simp (disch := first | assumption | omega | (simp only [Int.ofNat_eq_natCast, neg_one]; done) | (simp only [Int.ofNat_eq_natCast, neg_one]; omega)) only [tysW, w_bindJ, w_logJ, w_ct, w_cf, w_gtt, w_gft, w_gtf, w_gff, w_pt, w_pf, w_lret, w_e0, w_e1, w_e2, w_nil, w_fun, w_nt, w_nf, w_add, w_sub, w_eqt, w_eqf, w_net, w_nef, w_ltt, w_ltf, w_let, w_lef, w_gtt', w_gtf', w_get, w_gef, toNat_of, of_add, cast_add, nth_0, nth_s, Nat.zero_add, Nat.reduceAdd, Nat.reduceMul, Nat.add_zero, List.length_cons, List.length_nil, List.drop_zero, List.drop_succ_cons, List.take_succ_cons, List.take_zero, List.take_nil, true_and, and_true, Int.toNat_natCast, List.append_nil, List.nil_append, List.cons_append, show errI false = 2 from rfl]
    refine wp_putF g4 hp B3 (by omega) (by exact Nat.le_refl 3) rfl fun h5 g5 b5 e5 => ?_
    simp only [overL] at b5
    try simp (disch := first | assumption | omega | (simp only [Int.ofNat_eq_natCast, neg_one]; done) | (simp only [Int.ofNat_eq_natCast, neg_one]; omega)) only [tysW, w_bindJ, w_logJ, w_ct, w_cf, w_gtt, w_gft, w_gtf, w_gff, w_pt, w_pf, w_lret, w_e0, w_e1, w_e2, w_nil, w_fun, w_nt, w_nf, w_add, w_sub, w_eqt, w_eqf, w_net, w_nef, w_ltt, w_ltf, w_let, w_lef, w_gtt', w_gtf', w_get, w_gef, toNat_of, of_add, cast_add, nth_0, nth_s, Nat.zero_add, Nat.reduceAdd, Nat.reduceMul, Nat.add_zero, List.length_cons, List.length_nil, List.drop_zero, List.drop_succ_cons, List.take_succ_cons, List.take_zero, List.take_nil, true_and, and_true, Int.toNat_natCast, List.append_nil, List.nil_append, List.cons_append, ldB b5, clB b5, ldBL b5, clBL b5]
    refine hk _ _ _ g5 ?_
    rw [if_neg (by simp [e1])]
    rfl
  | true =>
    obtain ⟨f1, f2, f3, f4, f5, f6⟩ := fits_iff.1 e1
    obtain ⟨q1, q2, q3, q4, q5, q6⟩ := chk_keep f1
    rw [hlen] at f3 f5
    try simp (disch := first | assumption | omega | (simp only [Int.ofNat_eq_natCast, neg_one]; done) | (simp only [Int.ofNat_eq_natCast, neg_one]; omega)) only [tysW, w_bindJ, w_logJ, w_ct, w_cf, w_gtt, w_gft, w_gtf, w_gff, w_pt, w_pf, w_lret, w_e0, w_e1, w_e2, w_nil, w_fun, w_nt, w_nf, w_add, w_sub, w_eqt, w_eqf, w_net, w_nef, w_ltt, w_ltf, w_let, w_lef, w_gtt', w_gtf', w_get, w_gef, toNat_of, of_add, cast_add, nth_0, nth_s, Nat.zero_add, Nat.reduceAdd, Nat.reduceMul, Nat.add_zero, List.length_cons, List.length_nil, List.drop_zero, List.drop_succ_cons, List.take_succ_cons, List.take_zero, List.take_nil, true_and, and_true, Int.toNat_natCast, List.append_nil, List.nil_append, List.cons_append, ldB (c4.box b1 (by omega)), clB (c4.box b1 (by omega)), ldBL (c4.box b1 (by omega)), clBL (c4.box b1 (by omega)), ldB (c4.box b2 (by omega)), clB (c4.box b2 (by omega)), ldBL (c4.box b2 (by omega)), clBL (c4.box b2 (by omega)), show errI true = 0 from rfl, blt_min]
    refine PureS.goL g4 hp (s115o (d := d + 5) g4.fresh (r0.from g3.fresh c4) (by omega)) fun v h5 s5 ts5 ws5 g5 c5 hv hw5 ht5 => ?_
    obtain ⟨p', rfl, ow⟩ := hv
    have l5 := c5.le
    have B2 := (c4.trans c5).box b2 (by omega)
    have B3 := (c4.trans c5).box b3 (by omega)
    have ht : min x.budget ((len : Int) - clean) = tickN x clean len := rfl
    have htn : 0 ≤ tickN x clean len ∧ tickN x clean len ≤ (len : Int) - clean := by unfold tickN; omega
    unfold X43_1
    try simp (disch := first | assumption | omega | (simp only [Int.ofNat_eq_natCast, neg_one]; done) | (simp only [Int.ofNat_eq_natCast, neg_one]; omega)) only [tysW, w_bindJ, w_logJ, w_ct, w_cf, w_gtt, w_gft, w_gtf, w_gff, w_pt, w_pf, w_lret, w_e0, w_e1, w_e2, w_nil, w_fun, w_nt, w_nf, w_add, w_sub, w_eqt, w_eqf, w_net, w_nef, w_ltt, w_ltf, w_let, w_lef, w_gtt', w_gtf', w_get, w_gef, toNat_of, of_add, cast_add, nth_0, nth_s, Nat.zero_add, Nat.reduceAdd, Nat.reduceMul, Nat.add_zero, List.length_cons, List.length_nil, List.drop_zero, List.drop_succ_cons, List.take_succ_cons, List.take_zero, List.take_nil, true_and, and_true, Int.toNat_natCast, List.append_nil, List.nil_append, List.cons_append, ldB B2, clB B2, ldBL B2, clBL B2, ht]
    refine wp_putL g5 hp B3 (by omega) (by exact Nat.le_refl 3) rfl fun h6 g6 b6 e6 => ?_
    simp only [overL] at b6
    rw [wp_guard, if_pos (by repeat' (first | exact dynOk_nil _ _ | refine dyn_skip' ?_ | refine dyn_cons ?_ ?_ | exact allF_nil _ _ | refine allF_cons ?_ ?_ | exact disj_below hw5 (by omega) | exact disjA hw5 (by omega) | exact disjB hw5 (by omega) | exact disjC hw5 (by assumption) | exact disjD (fun m hm => by have := hw5 m hm; omega) | exact disjN _ | exact disj1 (by omega) | exact disj2 (by omega) | exact disj3 (by assumption)))]
    try simp (disch := first | assumption | omega | (simp only [Int.ofNat_eq_natCast, neg_one]; done) | (simp only [Int.ofNat_eq_natCast, neg_one]; omega)) only [tysW, w_bindJ, w_logJ, w_ct, w_cf, w_gtt, w_gft, w_gtf, w_gff, w_pt, w_pf, w_lret, w_e0, w_e1, w_e2, w_nil, w_fun, w_nt, w_nf, w_add, w_sub, w_eqt, w_eqf, w_net, w_nef, w_ltt, w_ltf, w_let, w_lef, w_gtt', w_gtf', w_get, w_gef, toNat_of, of_add, cast_add, nth_0, nth_s, Nat.zero_add, Nat.reduceAdd, Nat.reduceMul, Nat.add_zero, List.length_cons, List.length_nil, List.drop_zero, List.drop_succ_cons, List.take_succ_cons, List.take_zero, List.take_nil, true_and, and_true, Int.toNat_natCast, List.append_nil, List.nil_append, List.cons_append, ldB b6, clB b6, ldBL b6, clBL b6]
    refine hk _ _ _ g6 ?_
    rw [if_pos e1]
    refine ⟨p', rfl, ?_⟩
    obtain ⟨hl', ho | ⟨n, f, rfl, o1, o2, o3⟩⟩ := ow
    · exact ⟨hl', .inl ho⟩
    · exact ⟨hl', .inr ⟨n, f, rfl, by omega, by rw [e6 n (by omega)]; exact o2, o3⟩⟩
end
end Go.Ev.R
namespace Go.Ev.R
open Go Go.RowKit
abbrev Z3 : List Value := [.int .i64 0, .int .i64 0, .int .i64 0]
theorem rep_zero (n : Nat) : replL Z3 n = (List.replicate n (⟨0, 0, 0⟩ : K3)).flatMap kv := by
  induction n with
  | zero => rfl
  | succ n ih => rw [List.replicate_succ, List.flatMap_cons, ← ih]; rfl
theorem EK.flat_length' (n : Nat) : ((List.replicate n (⟨0, 0, 0⟩ : K3)).flatMap kv).length = n * 3 := by
  have := EK.flat_length (List.replicate n (⟨0, 0, 0⟩ : K3))
  rw [List.length_replicate] at this; exact this
theorem _root_.Go.Ev.Enc.overs {α : Type} (E : Enc α) (A B C D : List α) (h : B.length = D.length) : overL ((A ++ B ++ C).flatMap E.f) (A.length * E.z) (D.flatMap E.f) = (A ++ D ++ C).flatMap E.f := by
  have h1 := overL_app (A.flatMap E.f) (B.flatMap E.f ++ C.flatMap E.f) (D.flatMap E.f) 0
  rw [overL_app0 _ _ _ (by rw [E.flat_length, E.flat_length, h]), Nat.add_zero, E.flat_length] at h1
  rw [List.append_assoc, List.append_assoc, List.flatMap_append, List.flatMap_append, List.flatMap_append, List.flatMap_append]
  exact h1
theorem flat_len (l : List K3) : (l.flatMap kv).length = l.length * 3 := EK.flat_length l
noncomputable def apI (m o len cap n : Nat) (sp : Option Nat) (k : Value → Nat → AM) (s : Nat) : AM :=
  bif Nat.ble (len + n) 1000000 && true && true && true && Nat.ble len cap then (bif Nat.beq n 0 then k (.slice (some ⟨m, o, sp⟩) len cap) s else bif Nat.ble (len + n) cap then aput m (o + len * 3) (replL Z3 n) (fun _ => k (.slice (some ⟨m, o, sp⟩) (len + n) cap)) s else bif Nat.beq (replL Z3 n).length (n * 3) && (replL Z3 n).all Value.oneCell' then acells m o (len * 3) (fun q => akill sp.isSome m 3 (fun _ => agrown 48 3 (q ++ replL Z3 n) (fun b => k (.slice (some ⟨b, 0, none⟩) (len + n) (len + n))))) s else .fail) else .fail
theorem ap_I (m o len cap n : Nat) (hn : n ≤ 1000000) (sp : Option Nat) (k : Value → Nat → AM) (s : Nat) : aappend P ⟨[44, 3]⟩ (.slice (some ⟨m, o, sp⟩) len cap) (.int .i64 (n : Int)) k s = apI m o len cap n sp k s := by
  have e : alenD (.int .i64) (.int .i64 (n : Int)) = some n := by
    unfold alenD
    simp only [decide_eq_true (show (0 : Int) ≤ (n : Int) by omega), decide_eq_true (show (n : Int) ≤ 1000000 by omega), Bool.and_self, cond_true, Int.toNat_natCast]
  have hz : zeroT P 48 = some (.agg ⟨Z3⟩) := by kernel_rfl
  have hzs : zsize P 48 3 = true := by kernel_rfl
  have hi : (P.info? 48).map (fun i => (i.size, Nat.ble i.bytes 100000, Nat.beq i.bytes 0)) = some (3, true, false) := by kernel_rfl
  unfold aappend
  rw [show (⟨[44, 3]⟩ : Array TypeId)[0]? = some 44 from rfl, show (⟨[44, 3]⟩ : Array TypeId)[1]? = some 3 from rfl]
  dsimp only
  rw [show P.underlying 44 = some (.slice 48) by kernel_rfl, show P.underlying 3 = some (.int .i64) by kernel_rfl]
  dsimp only
  rw [e]
  cases hinf : P.info? 48 with
  | none => rw [hinf] at hi; cases hi
  | some inf =>
    rw [hinf] at hi
    have hi := Option.some.inj hi
    obtain ⟨h1, h2⟩ := Prod.mk.inj hi
    obtain ⟨h3, h4⟩ := Prod.mk.inj h2
    dsimp only
    rw [h1, h3, h4, hzs]
    unfold apI afirstD
    rw [hz]
    rfl
/-- Zeros behind a list that stays. -/
theorem wp_zeros {h : T} {s m o len cap n : Nat} {sp : Option Nat} {l : List K3} (r : Sl EK h (some ⟨m, o, sp⟩) len cap l) (hx : sp.isSome = true) (hc : cap ≠ 0) (hn : n ≠ 0) (hn2 : len + n ≤ 1000000) (hgt : cap < len + n) (hs : h.get s = none) {pw : Nat → Prop} {Z : Value → T → Prop} (hw : pw s) {k : Value → Nat → AM}
    (hk : ∀ h2 : T, h2.get s = some (.cells ⟨(l ++ List.replicate n (⟨0, 0, 0⟩ : K3)).flatMap kv⟩ 48 (4, 0)) → (∀ n, n ≠ s → h2.get n = h.get n) → (k (.slice (some ⟨s, 0, none⟩) (len + n) (len + n)) (s + 1)).wp pw Z h2) :
    (apI m o len cap n sp k s).wp pw Z h := by
  have hle := r.le
  unfold apI
  rw [show Nat.ble (len + n) 1000000 = true by rw [Nat.ble_eq]; omega, show Nat.ble len cap = true by rw [Nat.ble_eq]; omega, show Nat.beq n 0 = false from beq_no hn, show Nat.ble (len + n) cap = false by rw [← Bool.not_eq_true, Nat.ble_eq]; omega]
  have hz : (replL Z3 n).length = n * 3 := by rw [rep_zero, EK.flat_length' n]
  have ho : (replL Z3 n).all Value.oneCell' = true := by rw [rep_zero]; exact one_kv _
  simp only [Bool.and_self, cond_true, cond_false, hz, beq_yes, ho]
  obtain ⟨cs, t, f, g, hg, hf⟩ := r.ok hc
  have hg : h.get m = some (.cells cs t (f, g)) := hg
  have hold : ((cs.toList.drop o).take (len * 3)) = l.flatMap kv := by
    rcases r.row.2.2 with h0 | ⟨_, c', t', f', h3, h4⟩
    · have h0 : len * 3 = 0 := h0
      rw [h0, List.take_zero]
      have : l = [] := List.eq_nil_of_length_eq_zero (by rw [r.row.1]; omega)
      rw [this]; rfl
    · have h3 : h.get m = some (.cells c' t' f') := h3
      rw [hg] at h3
      cases h3
      exact h4
  rw [wp_cells, hg]
  dsimp only
  rw [hold]
  refine ⟨r.row.2.1, ?_⟩
  unfold akill
  rw [wp_get, hg]
  dsimp only
  rw [hx]
  simp only [Bool.true_or, cond_true]
  unfold agrown
  rw [wp_anew, hs]
  exact ⟨hw, hk _ (by rw [get_eq, rep_zero, List.flatMap_append]) fun n h2 => get_ne (Ne.symm h2)⟩
theorem cp_44 (b o len cap : Nat) (sp : Option Nat) (q : Option Addr) (n c : Nat) (k : Value → Nat → AM) (s : Nat) : acopy P ⟨[44, 44]⟩ (.slice (some ⟨b, o, sp⟩) len cap) (.slice q n c) k s = bif Nat.beq (Nat.min n len) 0 then k (.int .i64 (Nat.min n len : Nat)) s else afirst 3 (Nat.min n len) (.slice q n c) (fun l => aput b o l (fun _ => k (.int .i64 (Nat.min n len : Nat)))) s := by kernel_rfl
theorem cap_44 (a : Addr) (n c : Nat) (k : Value → Nat → AM) (s : Nat) : acap P ⟨[44]⟩ (.slice (some a) n c) k s = .get a.block fun
      | .cells d _ f => match f.1 with
        | 0 => k (.int .i64 (c : Nat)) s
        | z + 1 => bif !a.spot.isSome && Nat.beq (a.off + c * z) d.size then .fail else k (.int .i64 (c : Nat)) s
      | _ => .fail := by kernel_rfl
section
variable {N d : Nat} (hN : 100000 ≤ N) {h : T} {s : Nat} (hf : ∀ n, s ≤ n → h.get n = none)
include hf
theorem s116 {p q : Option Addr} {len i : Nat} {l : List K3} {x : K3} (r : Sl EK h p len len l) (hl : len ≤ 10000) (hi : i ≤ len) (hsp : ∀ m o sp, p = some ⟨m, o, sp⟩ → (∃ c t f g, h.get m = some (.cells c t (f, g)) ∧ (sp.isSome || Nat.beq f 0) = true) ∧ (len ≠ 0 → sp.isSome = true)) (rx : Row EK h q 1 [x]) :
    PureS (D N (d + 1)) 116 [.slice p len len, vi i, .slice q 1 1] h s (fun v h' s' => ∃ n, v = .slice (some ⟨n, 0, none⟩) (len + 1) (len + 1) ∧ s ≤ n ∧ h'.get n = some (.cells ⟨(l.take i ++ x :: l.drop i).flatMap kv⟩ 48 (4, 0))) := by
  refine PureS.of hf fun K pw Z g hp hk => ?_
  rw [D_116]; unfold F116; rw [app3_eq]
  unfold X116_2
  have hlen := r.row.1
  try simp (disch := first | assumption | omega | (simp only [Int.ofNat_eq_natCast, neg_one]; done) | (simp only [Int.ofNat_eq_natCast, neg_one]; omega)) only [tysW, w_bindJ, w_logJ, w_ct, w_cf, w_gtt, w_gft, w_gtf, w_gff, w_pt, w_pf, w_lret, w_e0, w_e1, w_e2, w_nil, w_fun, w_nt, w_nf, w_add, w_sub, w_eqt, w_eqf, w_net, w_nef, w_ltt, w_ltf, w_let, w_lef, w_gtt', w_gtf', w_get, w_gef, toNat_of, of_add, cast_add, nth_0, nth_s, Nat.zero_add, Nat.reduceAdd, Nat.reduceMul, Nat.add_zero, List.length_cons, List.length_nil, List.drop_zero, List.drop_succ_cons, List.take_succ_cons, List.take_zero, List.take_nil, true_and, and_true, Int.toNat_natCast, List.append_nil, List.nil_append, List.cons_append]
  refine r.cut (ab_from (by omega) (Nat.le_refl _) .i64) (by omega) (by omega) (by omega) (by omega) fun p1 r1 _ => ?_
  by_cases hil : i = len
  · subst hil
    try simp (disch := first | assumption | omega | (simp only [Int.ofNat_eq_natCast, neg_one]; done) | (simp only [Int.ofNat_eq_natCast, neg_one]; omega)) only [tysW, w_bindJ, w_logJ, w_ct, w_cf, w_gtt, w_gft, w_gtf, w_gff, w_pt, w_pf, w_lret, w_e0, w_e1, w_e2, w_nil, w_fun, w_nt, w_nf, w_add, w_sub, w_eqt, w_eqf, w_net, w_nef, w_ltt, w_ltf, w_let, w_lef, w_gtt', w_gtf', w_get, w_gef, toNat_of, of_add, cast_add, nth_0, nth_s, Nat.zero_add, Nat.reduceAdd, Nat.reduceMul, Nat.add_zero, List.length_cons, List.length_nil, List.drop_zero, List.drop_succ_cons, List.take_succ_cons, List.take_zero, List.take_nil, true_and, and_true, Int.toNat_natCast, List.append_nil, List.nil_append, List.cons_append]
    refine Sl.addN (E := EK) r rx (fun _ => rfl) (by decide) (by omega) (by omega) (hf _ (Nat.le_refl _)) (hp _ (Nat.le_refl _)) (fun m o sp e => ?_) fun h2 b2 e2 => ?_
    · exact (hsp m o sp e).1
    · refine hk _ _ _ ⟨by omega, fun n hn => e2 n (by omega), fun n hn => by rw [e2 n (by omega)]; exact hf n (by omega)⟩ ⟨s, rfl, Nat.le_refl _, ?_⟩
      rw [← hlen, List.take_length, List.drop_length]
      exact b2
  · cases hpp : p with
    | none => subst hpp; have := r.non rfl; omega
    | some a =>
      obtain ⟨m, o, sp⟩ := a
      subst hpp
      have h1 := (hsp m o sp rfl).2 (by omega)
      obtain ⟨c0, t0, f0, g0, h20, hf0⟩ := r.ok (by omega)
      have h20 : h.get m = some (.cells c0 t0 (f0, g0)) := h20
      have hcap : ∀ k s', (acap P ⟨[44]⟩ (.slice (some ⟨m, o, sp⟩) len len) k s').wp pw Z h = (k (vi len) s').wp pw Z h := fun k s' => by
        rw [cap_44, wp_get, h20]
        dsimp only
        rw [h1]
        cases f0 <;> rfl
      have e1 : (len : Int) + 1 - (i : Int) = ((len + 1 - i : Nat) : Int) := by omega
      have hc0 : Sl EK h (some ⟨m, o + 0 * 3, sp⟩) (i - 0) (len - 0) (l.take i) := ⟨by simpa using r.row.take hi, by omega, fun h => (by cases h), fun _ => ⟨c0, t0, f0, g0, h20, hf0⟩⟩
      try simp (disch := first | assumption | omega | (simp only [Int.ofNat_eq_natCast, neg_one]; done) | (simp only [Int.ofNat_eq_natCast, neg_one]; omega)) only [tysW, w_bindJ, w_logJ, w_ct, w_cf, w_gtt, w_gft, w_gtf, w_gff, w_pt, w_pf, w_lret, w_e0, w_e1, w_e2, w_nil, w_fun, w_nt, w_nf, w_add, w_sub, w_eqt, w_eqf, w_net, w_nef, w_ltt, w_ltf, w_let, w_lef, w_gtt', w_gtf', w_get, w_gef, toNat_of, of_add, cast_add, nth_0, nth_s, Nat.zero_add, Nat.reduceAdd, Nat.reduceMul, Nat.add_zero, List.length_cons, List.length_nil, List.drop_zero, List.drop_succ_cons, List.take_succ_cons, List.take_zero, List.take_nil, true_and, and_true, Int.toNat_natCast, List.append_nil, List.nil_append, List.cons_append]
      rw [hcap]
      try simp (disch := first | assumption | omega | (simp only [Int.ofNat_eq_natCast, neg_one]; done) | (simp only [Int.ofNat_eq_natCast, neg_one]; omega)) only [tysW, w_bindJ, w_logJ, w_ct, w_cf, w_gtt, w_gft, w_gtf, w_gff, w_pt, w_pf, w_lret, w_e0, w_e1, w_e2, w_nil, w_fun, w_nt, w_nf, w_add, w_sub, w_eqt, w_eqf, w_net, w_nef, w_ltt, w_ltf, w_let, w_lef, w_gtt', w_gtf', w_get, w_gef, toNat_of, of_add, cast_add, nth_0, nth_s, Nat.zero_add, Nat.reduceAdd, Nat.reduceMul, Nat.add_zero, List.length_cons, List.length_nil, List.drop_zero, List.drop_succ_cons, List.take_succ_cons, List.take_zero, List.take_nil, true_and, and_true, Int.toNat_natCast, List.append_nil, List.nil_append, List.cons_append]
      rw [wp_sl_to (z := 3) h20 hf0 hi (by omega)]
      try simp (disch := first | assumption | omega | (simp only [Int.ofNat_eq_natCast, neg_one]; done) | (simp only [Int.ofNat_eq_natCast, neg_one]; omega)) only [tysW, w_bindJ, w_logJ, w_ct, w_cf, w_gtt, w_gft, w_gtf, w_gff, w_pt, w_pf, w_lret, w_e0, w_e1, w_e2, w_nil, w_fun, w_nt, w_nf, w_add, w_sub, w_eqt, w_eqf, w_net, w_nef, w_ltt, w_ltf, w_let, w_lef, w_gtt', w_gtf', w_get, w_gef, toNat_of, of_add, cast_add, nth_0, nth_s, Nat.zero_add, Nat.reduceAdd, Nat.reduceMul, Nat.add_zero, List.length_cons, List.length_nil, List.drop_zero, List.drop_succ_cons, List.take_succ_cons, List.take_zero, List.take_nil, true_and, and_true, Int.toNat_natCast, List.append_nil, List.nil_append, List.cons_append]
      rw [show (len : Int) + ((1 : Nat) : Int) - (i : Int) = ((len + 1 - i : Nat) : Int) by omega, ap_I _ _ _ _ _ (by omega)]
      refine wp_zeros hc0 h1 (by omega) (by omega) (by omega) (by omega) (hf _ (Nat.le_refl _)) (hp _ (Nat.le_refl _)) fun h3 b3 e3 => ?_
      have g3 : From s h h3 (s + 1) := ⟨by omega, fun n hn => e3 n (by omega), fun n hn => by rw [e3 n (by omega)]; exact hf n (by omega)⟩
      try simp (disch := first | assumption | omega | (simp only [Int.ofNat_eq_natCast, neg_one]; done) | (simp only [Int.ofNat_eq_natCast, neg_one]; omega)) only [tysW, w_bindJ, w_logJ, w_ct, w_cf, w_gtt, w_gft, w_gtf, w_gff, w_pt, w_pf, w_lret, w_e0, w_e1, w_e2, w_nil, w_fun, w_nt, w_nf, w_add, w_sub, w_eqt, w_eqf, w_net, w_nef, w_ltt, w_ltf, w_let, w_lef, w_gtt', w_gtf', w_get, w_gef, toNat_of, of_add, cast_add, nth_0, nth_s, Nat.zero_add, Nat.reduceAdd, Nat.reduceMul, Nat.add_zero, List.length_cons, List.length_nil, List.drop_zero, List.drop_succ_cons, List.take_succ_cons, List.take_zero, List.take_nil, true_and, and_true, Int.toNat_natCast, List.append_nil, List.nil_append, List.cons_append, Nat.sub_zero]
      rw [show i + (len + 1 - i) = len + 1 by omega] at *
      have hrep : l.take i ++ List.replicate (len + 1 - i) (⟨0, 0, 0⟩ : K3) = l.take i ++ [⟨0, 0, 0⟩] ++ List.replicate (len - i) ⟨0, 0, 0⟩ := by
        rw [show len + 1 - i = (len - i) + 1 by omega, List.replicate_succ, List.append_assoc]; rfl
      rw [hrep] at b3
      have hti : (l.take i).length = i := by rw [List.length_take]; omega
      rw [wp_sl_from (z := 3) b3 (.inr rfl) (by omega) (Nat.le_refl _) (by omega)]
      rw [cp_44, show Nat.min 1 (len + 1 - i) = 1 by show min 1 _ = 1; omega, show Nat.beq 1 0 = false from rfl]
      simp only [cond_false]
      have rx3 := g3.row hf rx
      rw [wp_first (z := 3) (n := 1) (by decide) (by decide) (show Cells h3 q (1 * 3) ([x].flatMap EK.f) from rx3.2)]
      have hov : overL ((l.take i ++ [(⟨0, 0, 0⟩ : K3)] ++ List.replicate (len - i) (⟨0, 0, 0⟩ : K3)).flatMap kv) (0 + i * 3) ([x].flatMap EK.f) = (l.take i ++ [x] ++ List.replicate (len - i) (⟨0, 0, 0⟩ : K3)).flatMap kv := by
        have := EK.overs (l.take i) [⟨0, 0, 0⟩] (List.replicate (len - i) ⟨0, 0, 0⟩) [x] rfl
        rw [hti] at this
        rw [Nat.zero_add]; exact this
      refine wp_putF g3 hp b3 (Nat.le_refl _) (by rw [flat_len, show (([x] : List K3).flatMap EK.f).length = 3 from rfl]; simp; omega) rfl fun h4 g4 b4 e4 => ?_
      rw [hov] at b4
      try simp (disch := first | assumption | omega | (simp only [Int.ofNat_eq_natCast, neg_one]; done) | (simp only [Int.ofNat_eq_natCast, neg_one]; omega)) only [tysW, w_bindJ, w_logJ, w_ct, w_cf, w_gtt, w_gft, w_gtf, w_gff, w_pt, w_pf, w_lret, w_e0, w_e1, w_e2, w_nil, w_fun, w_nt, w_nf, w_add, w_sub, w_eqt, w_eqf, w_net, w_nef, w_ltt, w_ltf, w_let, w_lef, w_gtt', w_gtf', w_get, w_gef, toNat_of, of_add, cast_add, nth_0, nth_s, Nat.zero_add, Nat.reduceAdd, Nat.reduceMul, Nat.add_zero, List.length_cons, List.length_nil, List.drop_zero, List.drop_succ_cons, List.take_succ_cons, List.take_zero, List.take_nil, true_and, and_true, Int.toNat_natCast, List.append_nil, List.nil_append, List.cons_append]
      refine (Sl.own (E := EK) (len := len + 1) b4 (.inr rfl) (by simp; omega)).cutL (ab_from (i := i + 1) (by omega) (Nat.le_refl _) .i64) (by omega) (by omega) (by omega) (by omega) fun p4 ts4 r4 hp4 _ => ?_
      have r5 := r.from hf g4
      try simp (disch := first | assumption | omega | (simp only [Int.ofNat_eq_natCast, neg_one]; done) | (simp only [Int.ofNat_eq_natCast, neg_one]; omega)) only [tysW, w_bindJ, w_logJ, w_ct, w_cf, w_gtt, w_gft, w_gtf, w_gff, w_pt, w_pf, w_lret, w_e0, w_e1, w_e2, w_nil, w_fun, w_nt, w_nf, w_add, w_sub, w_eqt, w_eqf, w_net, w_nef, w_ltt, w_ltf, w_let, w_lef, w_gtt', w_gtf', w_get, w_gef, toNat_of, of_add, cast_add, nth_0, nth_s, Nat.zero_add, Nat.reduceAdd, Nat.reduceMul, Nat.add_zero, List.length_cons, List.length_nil, List.drop_zero, List.drop_succ_cons, List.take_succ_cons, List.take_zero, List.take_nil, true_and, and_true, Int.toNat_natCast, List.append_nil, List.nil_append, List.cons_append]
      refine r5.cutL (ab_from (by omega) (Nat.le_refl _) .i64) (by omega) (by omega) (by omega) (by omega) fun p5 ts5 r5' hp5 _ => ?_
      have hp4 := hp4 (by omega)
      have hq4 : ∃ sp4, p4 = some ⟨s, 0 + (i + 1) * 3, sp4⟩ := by
        cases hp4' : p4 with
        | none => rw [hp4'] at r4; have := r4.non rfl; omega
        | some a =>
          obtain ⟨a1, a2, a3⟩ := a
          rw [hp4'] at hp4
          obtain ⟨h5, h6⟩ := hp4
          have h5 : a1 = s := h5
          have h6 : a2 = 0 + (i + 1) * 3 := h6
          subst h5; subst h6
          exact ⟨_, rfl⟩
      obtain ⟨sp4, rfl⟩ := hq4
      have hl5 : ((l.drop i).take (len - i)) = l.drop i := List.take_of_length_le (by simp; omega)
      rw [hl5] at r5'
      have hov2 : overL ((l.take i ++ [x] ++ List.replicate (len - i) (⟨0, 0, 0⟩ : K3)).flatMap kv) (0 + (i + 1) * 3) ((l.drop i).flatMap EK.f) = (l.take i ++ x :: l.drop i).flatMap kv := by
        have := EK.overs (l.take i ++ [x]) (List.replicate (len - i) ⟨0, 0, 0⟩) [] (l.drop i) (by simp; omega)
        rw [List.append_nil, List.append_nil, List.length_append, hti] at this
        rw [Nat.zero_add]
        have e9 : l.take i ++ x :: l.drop i = l.take i ++ [x] ++ l.drop i := by rw [List.append_assoc]; rfl
        rw [e9]
        exact this
      try simp (disch := first | assumption | omega | (simp only [Int.ofNat_eq_natCast, neg_one]; done) | (simp only [Int.ofNat_eq_natCast, neg_one]; omega)) only [tysW, w_bindJ, w_logJ, w_ct, w_cf, w_gtt, w_gft, w_gtf, w_gff, w_pt, w_pf, w_lret, w_e0, w_e1, w_e2, w_nil, w_fun, w_nt, w_nf, w_add, w_sub, w_eqt, w_eqf, w_net, w_nef, w_ltt, w_ltf, w_let, w_lef, w_gtt', w_gtf', w_get, w_gef, toNat_of, of_add, cast_add, nth_0, nth_s, Nat.zero_add, Nat.reduceAdd, Nat.reduceMul, Nat.add_zero, List.length_cons, List.length_nil, List.drop_zero, List.drop_succ_cons, List.take_succ_cons, List.take_zero, List.take_nil, true_and, and_true, Int.toNat_natCast, List.append_nil, List.nil_append, List.cons_append]
      refine log_wp (W := fun n => s ≤ n) (Q := fun v h' s' => s' = s + 1 ∧ From s h h' (s + 1) ∧ h'.get s = some (.cells ⟨(l.take i ++ x :: l.drop i).flatMap kv⟩ 48 (4, 0))) ?_ hp ?_
      · rw [cp_44, show Nat.min (len - i) (len + 1 - (i + 1)) = len - i by show min _ _ = _; omega, show Nat.beq (len - i) 0 = false from beq_no (by omega)]
        simp only [cond_false]
        rw [wp_first (z := 3) (n := len - i) (by omega) (by decide) (show Cells h4 p5 ((len - i) * 3) ((l.drop i).flatMap EK.f) from r5'.row.2)]
        refine wp_putF (s0 := s) (h0 := h) (pw := fun n => s ≤ n) g4 (fun n hn => hn) b4 (Nat.le_refl _) ?_ (show ((l.drop i).flatMap kv).all Value.oneCell' = true from one_kv _) fun h6 g6 b6 e6 => ?_
        · rw [flat_len, show ((l.drop i).flatMap EK.f).length = (l.drop i).length * 3 from EK.flat_length _]
          simp; omega
        · rw [Nat.zero_add] at hov2
          rw [hov2] at b6
          exact ⟨_, _, rfl, rfl, g6, b6⟩
      · rintro v h6 s6 ts6 ws6 ⟨rfl, g6, b6⟩ _ _
        rw [wp_guard, if_pos (by repeat' (first | exact dynOk_nil _ _ | refine dyn_skip' ?_ | refine dyn_cons ?_ ?_ | exact allF_nil _ _ | refine allF_cons ?_ ?_))]
        exact hk _ _ _ g6 ⟨s, rfl, Nat.le_refl _, b6⟩
end
end Go.Ev.R

/- The law AdmitTells, part 1: what the functions answer, by their terms. No condition. -/
import Derived.Test.YtnffkmnjpnlleaaAdmitTellsP0
set_option linter.unusedVariables false
set_option linter.unusedSimpArgs false
set_option maxRecDepth 100000
namespace Go.Ev.R
open Go Go.RowKit
theorem shr1 {P : Program} (t yt : TypeId) (cx cy : Bool) (k1 k2 : IntKind) (a : Int) (k : Value → Nat → AM) (s : Nat) : shrX P t yt cx cy (.int k1 a) (.int k2 1) k s = k (.int k1 (a.fdiv (2 ^ (min 1 k1.bits)))) s := shr_eq t yt cx cy k1 k2 a 1 k s
section
variable {N d : Nat} (hN : 100000 ≤ N) {h : T} {s : Nat} (hf : ∀ n, s ≤ n → h.get n = none)
include hN hf
theorem s122 {p : Option Addr} {len cap : Nat} {l : List K3} (r : Row EK h p len l) (hl : len ≤ 10000) (x : K3) (hrise : risingK l = true) : ValS (D N (d + 4)) 122 [.slice p len cap, kval x, .func (.func 107) ⟨[]⟩ ⟨[]⟩] h s (.tuple ⟨[.int .i64 (plK x l : Int), .bool (atK x l)]⟩) := by
  refine ValS.mk fun K pw Z hp hk => ?_
  rw [D_122]; unfold F122; rw [app3_eq]
  simp (disch := omega) only [tys, bindJ_eq, logJ_eq, wp_box, wp_aput, wp_anew, wp_cond, wp_guard, gd_true, gd_false, pick_eq, add_eq, sub_eq, eq_eq, ne_eq, lt_eq, le_eq, gt_eq, ge_eq, shr_eq, shl_eq, quo_eq, rem_eq, not_eq, wp_log_ret, wp_log_anew, ext0, ext1, ext2, nil_eq, get_ne, get_eq, nth_0, nth_s, cells_agg, cells_int, cells_bool, cells_slice, cells_ptr, ro_zero, one_int, one_bool, one_slice, one_ptr, arr_size, overL, Nat.zero_add, Nat.reduceAdd, Nat.add_zero, List.length_cons, List.length_nil, List.all_cons, List.all_nil, Nat.reduceLeDiff, Nat.ble_eq, Bool.and_true, Bool.not_false, Bool.and_self, decide_true, List.drop_zero, List.drop_succ_cons, List.take_succ_cons, List.take_zero, List.take_nil, true_and, and_true, Int.ofNat_eq_natCast, neg_one, Int.toNat_natCast, Int.natCast_zero, Int.natCast_one, Int.cast_ofNat_Int, List.append_nil, List.nil_append, hf, hp, kval]
  have hb : (h.set s (.cells ⟨kv x⟩ 48 (0, 0))).get s = some (.cells ⟨kv x⟩ 48 (0, 0)) := get_eq
  have hf1 : ∀ n, s + 1 ≤ n → (h.set s (.cells ⟨kv x⟩ 48 (0, 0))).get n = none := (fun n hn => by simp (disch := omega) only [get_ne, hf])
  have hk1 : ∀ n, n < s → (h.set s (.cells ⟨kv x⟩ 48 (0, 0))).get n = h.get n := fun n hn => by simp (disch := omega) only [get_ne]
  have r0 : Row EK (h.set s (.cells ⟨kv x⟩ 48 (0, 0))) p len l := r.grow hf ⟨hk1, fun n hn => hf1 n hn⟩
  replace hk : ∀ h' s', s + 1 ≤ s' → Grow (s + 1) (h.set s (.cells ⟨kv x⟩ 48 (0, 0))) h' s' → (K (.tuple ⟨[.int .i64 (plK x l : Int), .bool (atK x l)]⟩) s').wp pw Z h' := fun h' s' hs' g' => hk h' s' (by omega) ⟨fun n hn => by rw [g'.keep n (by omega), hk1 n hn], g'.fresh⟩
  generalize h.set s (.cells ⟨kv x⟩ 48 (0, 0)) = h0 at *
  have loop : ∀ (J : Value → Nat → AM) (hJ : ∀ (i : Nat) (h1 : T) (s1 : Nat), i ≤ len → plK x l = i → s + 1 ≤ s1 → Grow (s + 1) h0 h1 s1 → (J (.int .i64 (i : Int)) s1).wp pw Z h1) (B : (Value → Value → Nat → AM) → Value → Value → Nat → AM) (hB : ∀ H u i s', B H u i s' = X122_3 N (D N (d + 3)) K (.slice p len cap) (.pointer (some ⟨s, 0, none⟩)) (.func (.func 107) ⟨[]⟩ ⟨[]⟩) J H u i s') (m i j : Nat) (h1 : T) (s1 : Nat), j - i < m → i ≤ j → j ≤ len → (∀ k y, k + 1 = i → l[k]? = some y → lessK y x = true) → (∀ y, l[j]? = some y → lessK y x = false) → s + 1 ≤ s1 → Grow (s + 1) h0 h1 s1 →
      (loopJ m 2 (fun _ _ _ => AM.fail) B (.int .i64 (i : Int)) (.int .i64 (j : Int)) s1).wp pw Z h1 := by
    intro J hJ B hB m
    induction m with
    | zero => intro i j h1 s1 h2; omega
    | succ m ih =>
      intro i j h1 s1 hm hij hjl hi hj hs1 g1
      have r1 := r0.grow hf1 g1
      have hb1 : h1.get s = some (.cells ⟨kv x⟩ 48 (0, 0)) := by rw [g1.keep s (by omega)]; exact hb
      rw [loopJ_succ, hB]
      unfold X122_3
      simp (disch := omega) only [tys, bindJ_eq, logJ_eq, wp_box, wp_load, wp_cells, wp_aput, wp_anew, wp_cond, wp_guard, gd_true, gd_false, pick_eq, add_eq, sub_eq, eq_eq, ne_eq, lt_eq, le_eq, gt_eq, ge_eq, shr_eq, shl_eq, quo_eq, rem_eq, not_eq, wp_log_load, wp_log_cells, wp_log_ret, wp_log_anew, ext0, ext1, ext2, nil_eq, get_ne, get_eq, nth_0, nth_s, cells_agg, cells_int, cells_bool, cells_slice, cells_ptr, ro_zero, one_int, one_bool, one_slice, one_ptr, arr_size, overL, Nat.zero_add, Nat.reduceAdd, Nat.add_zero, List.length_cons, List.length_nil, List.all_cons, List.all_nil, Nat.reduceLeDiff, Nat.ble_eq, Bool.and_true, Bool.not_false, Bool.and_self, decide_true, List.drop_zero, List.drop_succ_cons, List.take_succ_cons, List.take_zero, List.take_nil, true_and, and_true, Int.ofNat_eq_natCast, neg_one, Int.toNat_natCast, Int.natCast_zero, Int.natCast_one, Int.cast_ofNat_Int, List.append_nil, List.nil_append]
      by_cases hlt : i < j
      · obtain ⟨y, hy⟩ := get_some (l := l) (i := (i + j) / 2) (by rw [r.1]; omega)
        have e1 : ((i : Int) + (j : Int)) / 2 = (((i + j) / 2 : Nat) : Int) := by omega
        have e2 : (((i + j) / 2 : Nat) : Int) + 1 = (((i + j) / 2 + 1 : Nat) : Int) := by omega
        simp (disch := omega) only [tys, bindJ_eq, logJ_eq, wp_box, wp_aput, wp_anew, wp_cond, wp_guard, gd_true, gd_false, pick_eq, add_eq, sub_eq, eq_eq, ne_eq, lt_eq, le_eq, gt_eq, ge_eq, shr_eq, shl_eq, quo_eq, rem_eq, not_eq, wp_log_ret, wp_log_anew, ext0, ext1, ext2, nil_eq, get_ne, get_eq, nth_0, nth_s, cells_agg, cells_int, cells_bool, cells_slice, cells_ptr, ro_zero, one_int, one_bool, one_slice, one_ptr, arr_size, overL, Nat.zero_add, Nat.reduceAdd, Nat.add_zero, List.length_cons, List.length_nil, List.all_cons, List.all_nil, Nat.reduceLeDiff, Nat.ble_eq, Bool.and_true, Bool.not_false, Bool.and_self, decide_true, List.drop_zero, List.drop_succ_cons, List.take_succ_cons, List.take_zero, List.take_nil, true_and, and_true, Int.ofNat_eq_natCast, neg_one, Int.toNat_natCast, Int.natCast_zero, Int.natCast_one, Int.cast_ofNat_Int, List.append_nil, List.nil_append, show (i : Int) < (j : Int) by omega, if_true, wrap_id (a := (i : Int) + (j : Int)) (by omega) (by omega), cv_3_168, cv_168_3, shr1, half ((i : Int) + (j : Int)) (by omega) (by omega), e1, xa3 r1 (j := (((i + j) / 2 : Nat) : Int)) (by omega) (by omega), row3L r1 hy, box3L hb1, iv_107, List.cons_append]
        refine (s107 hN g1.fresh y x).log (fun n hn => hp n (by omega)) fun h2 s2 ts2 ws2 hs2 g2 hw2 => ?_
        simp (disch := omega) only [tys, bindJ_eq, logJ_eq, wp_box, wp_aput, wp_anew, wp_cond, wp_guard, gd_true, gd_false, pick_eq, add_eq, sub_eq, eq_eq, ne_eq, lt_eq, le_eq, gt_eq, ge_eq, shr_eq, shl_eq, quo_eq, rem_eq, not_eq, wp_log_ret, wp_log_anew, ext0, ext1, ext2, nil_eq, get_ne, get_eq, nth_0, nth_s, cells_agg, cells_int, cells_bool, cells_slice, cells_ptr, ro_zero, one_int, one_bool, one_slice, one_ptr, arr_size, overL, Nat.zero_add, Nat.reduceAdd, Nat.add_zero, List.length_cons, List.length_nil, List.all_cons, List.all_nil, Nat.reduceLeDiff, Nat.ble_eq, Bool.and_true, Bool.not_false, Bool.and_self, decide_true, List.drop_zero, List.drop_succ_cons, List.take_succ_cons, List.take_zero, List.take_nil, true_and, and_true, Int.ofNat_eq_natCast, neg_one, Int.toNat_natCast, Int.natCast_zero, Int.natCast_one, Int.cast_ofNat_Int, List.append_nil, List.nil_append, ordK_lt, e2, wrap_id (a := (((i + j) / 2 + 1 : Nat) : Int)) (by omega) (by omega)]
        cases hyx : lessK y x with
        | true =>
          simp only [if_true]
          exact ih ((i + j) / 2 + 1) j h2 s2 (by omega) (by omega) hjl (fun k z hk hz => by
            obtain rfl : k = (i + j) / 2 := by omega
            rw [hy] at hz; cases hz; exact hyx) hj (by omega) (g1.trans hs1 g2)
        | false =>
          simp only [Bool.false_eq_true, if_false]
          exact ih i ((i + j) / 2) h2 s2 (by omega) (by omega) (by omega) hi (fun z hz => by rw [hy] at hz; cases hz; exact hyx) (by omega) (g1.trans hs1 g2)
      · obtain rfl : i = j := by omega
        simp only [Int.lt_irrefl, decide_false, Bool.false_eq_true, if_false]
        exact hJ i h1 s1 hjl (pl_rise hrise (by rw [r.1]; exact hjl) hi hj) hs1 g1
  refine loop _ (fun i h1 s1 hil hpl hs1 g1 => ?_) _ (fun _ _ _ _ => rfl) N 0 len h0 (s + 1) (by omega) (by omega) (by omega) (fun k y hk => by omega) (fun y hy => ?_) (Nat.le_refl _) (.refl hf1)
  · have r1 := r0.grow hf1 g1
    have hb1 : h1.get s = some (.cells ⟨kv x⟩ 48 (0, 0)) := by rw [g1.keep s (by omega)]; exact hb
    simp (disch := omega) only [tys, bindJ_eq, logJ_eq, wp_box, wp_load, wp_cells, wp_aput, wp_anew, wp_cond, wp_guard, gd_true, gd_false, pick_eq, add_eq, sub_eq, eq_eq, ne_eq, lt_eq, le_eq, gt_eq, ge_eq, shr_eq, shl_eq, quo_eq, rem_eq, not_eq, wp_log_load, wp_log_cells, wp_log_ret, wp_log_anew, ext0, ext1, ext2, nil_eq, get_ne, get_eq, nth_0, nth_s, cells_agg, cells_int, cells_bool, cells_slice, cells_ptr, ro_zero, one_int, one_bool, one_slice, one_ptr, arr_size, overL, Nat.zero_add, Nat.reduceAdd, Nat.add_zero, List.length_cons, List.length_nil, List.all_cons, List.all_nil, Nat.reduceLeDiff, Nat.ble_eq, Bool.and_true, Bool.not_false, Bool.and_self, decide_true, List.drop_zero, List.drop_succ_cons, List.take_succ_cons, List.take_zero, List.take_nil, true_and, and_true, Int.ofNat_eq_natCast, neg_one, Int.toNat_natCast, Int.natCast_zero, Int.natCast_one, Int.cast_ofNat_Int, List.append_nil, List.nil_append]
    by_cases hil : i < len
    · obtain ⟨y, hy⟩ := get_some (l := l) (i := i) (by rw [r.1]; omega)
      have hat : atK x l = sameK y x := by unfold atK; rw [hpl, hy]
      simp (disch := omega) only [tys, bindJ_eq, logJ_eq, wp_box, wp_aput, wp_anew, wp_cond, wp_guard, gd_true, gd_false, pick_eq, add_eq, sub_eq, eq_eq, ne_eq, lt_eq, le_eq, gt_eq, ge_eq, shr_eq, shl_eq, quo_eq, rem_eq, not_eq, wp_log_ret, wp_log_anew, ext0, ext1, ext2, nil_eq, get_ne, get_eq, nth_0, nth_s, cells_agg, cells_int, cells_bool, cells_slice, cells_ptr, ro_zero, one_int, one_bool, one_slice, one_ptr, arr_size, overL, Nat.zero_add, Nat.reduceAdd, Nat.add_zero, List.length_cons, List.length_nil, List.all_cons, List.all_nil, Nat.reduceLeDiff, Nat.ble_eq, Bool.and_true, Bool.not_false, Bool.and_self, decide_true, List.drop_zero, List.drop_succ_cons, List.take_succ_cons, List.take_zero, List.take_nil, true_and, and_true, Int.ofNat_eq_natCast, neg_one, Int.toNat_natCast, Int.natCast_zero, Int.natCast_one, Int.cast_ofNat_Int, List.append_nil, List.nil_append, show (i : Int) < (len : Int) by omega, if_true, X122_2, X122_1, xa3 r1 (j := (i : Int)) (by omega) (by omega), row3L r1 hy, box3L hb1, iv_107, List.cons_append]
      refine (s107 hN g1.fresh y x).log (fun n hn => hp n (by omega)) fun h2 s2 ts2 ws2 hs2 g2 hw2 => ?_
      simp (disch := omega) only [tys, bindJ_eq, logJ_eq, wp_box, wp_aput, wp_anew, wp_cond, wp_guard, gd_true, gd_false, pick_eq, add_eq, sub_eq, eq_eq, ne_eq, lt_eq, le_eq, gt_eq, ge_eq, shr_eq, shl_eq, quo_eq, rem_eq, not_eq, wp_log_ret, wp_log_anew, ext0, ext1, ext2, nil_eq, get_ne, get_eq, nth_0, nth_s, cells_agg, cells_int, cells_bool, cells_slice, cells_ptr, ro_zero, one_int, one_bool, one_slice, one_ptr, arr_size, overL, Nat.zero_add, Nat.reduceAdd, Nat.add_zero, List.length_cons, List.length_nil, List.all_cons, List.all_nil, Nat.reduceLeDiff, Nat.ble_eq, Bool.and_true, Bool.not_false, Bool.and_self, decide_true, List.drop_zero, List.drop_succ_cons, List.take_succ_cons, List.take_zero, List.take_nil, true_and, and_true, Int.ofNat_eq_natCast, neg_one, Int.toNat_natCast, Int.natCast_zero, Int.natCast_one, Int.cast_ofNat_Int, List.append_nil, List.nil_append, if_true, ordK_eq]
      rw [hpl, hat] at hk
      exact hk _ _ (by omega) (g1.trans hs1 g2)
    · have hat : atK x l = false := by unfold atK; rw [hpl, List.getElem?_eq_none (by rw [r.1]; omega)]
      simp (disch := omega) only [tys, bindJ_eq, logJ_eq, wp_box, wp_aput, wp_anew, wp_cond, wp_guard, gd_true, gd_false, pick_eq, add_eq, sub_eq, eq_eq, ne_eq, lt_eq, le_eq, gt_eq, ge_eq, shr_eq, shl_eq, quo_eq, rem_eq, not_eq, wp_log_ret, wp_log_anew, ext0, ext1, ext2, nil_eq, get_ne, get_eq, nth_0, nth_s, cells_agg, cells_int, cells_bool, cells_slice, cells_ptr, ro_zero, one_int, one_bool, one_slice, one_ptr, arr_size, overL, Nat.zero_add, Nat.reduceAdd, Nat.add_zero, List.length_cons, List.length_nil, List.all_cons, List.all_nil, Nat.reduceLeDiff, Nat.ble_eq, Bool.and_true, Bool.not_false, Bool.and_self, decide_true, List.drop_zero, List.drop_succ_cons, List.take_succ_cons, List.take_zero, List.take_nil, true_and, and_true, Int.ofNat_eq_natCast, neg_one, Int.toNat_natCast, Int.natCast_zero, Int.natCast_one, Int.cast_ofNat_Int, List.append_nil, List.nil_append, show ¬ (i : Int) < (len : Int) by omega, decide_false, Bool.false_eq_true, if_false, X122_2, X122_1]
      rw [hpl, hat] at hk
      exact hk _ _ (by omega) g1
  · have := (List.getElem?_eq_some_iff.1 hy).1
    rw [r.1] at this; omega
end
end Go.Ev.R
namespace Go.Ev.R
open Go Go.RowKit
def findK (x : K3) (l : List K3) : List Value := if risingK l = true then [.int .i64 (plK x l : Int), .bool (atK x l)] else [.int .i64 0, .bool false]
section
variable {N d : Nat} (hN : 100000 ≤ N) {h : T} {s : Nat} (hf : ∀ n, s ≤ n → h.get n = none)
include hN hf
theorem s61 {p : Option Addr} {len cap : Nat} {l : List K3} (r : Row EK h p len l) (hl : len ≤ 10000) (h0 : p = none → len = 0 ∧ cap = 0) (x : K3) : ValS (D N (d + 6)) 61 [.slice p len cap, kval x] h s (.tuple ⟨findK x l⟩) := by
  refine ValS.mk fun K pw Z hp hk => ?_
  rw [D_61]; unfold F61; rw [app2_eq]
  simp (disch := omega) only [tys, bindJ_eq, logJ_eq, wp_box, wp_aput, wp_anew, wp_cond, wp_guard, gd_true, gd_false, pick_eq, add_eq, sub_eq, eq_eq, ne_eq, lt_eq, le_eq, gt_eq, ge_eq, shr_eq, shl_eq, quo_eq, rem_eq, not_eq, wp_log_ret, wp_log_anew, ext0, ext1, ext2, nil_eq, get_ne, get_eq, nth_0, nth_s, cells_agg, cells_int, cells_bool, cells_slice, cells_ptr, ro_zero, one_int, one_bool, one_slice, one_ptr, arr_size, overL, Nat.zero_add, Nat.reduceAdd, Nat.add_zero, List.length_cons, List.length_nil, List.all_cons, List.all_nil, Nat.reduceLeDiff, Nat.ble_eq, Bool.and_true, Bool.not_false, Bool.and_self, decide_true, List.drop_zero, List.drop_succ_cons, List.take_succ_cons, List.take_zero, List.take_nil, true_and, and_true, Int.ofNat_eq_natCast, neg_one, Int.toNat_natCast, Int.natCast_zero, Int.natCast_one, Int.cast_ofNat_Int, List.append_nil, List.nil_append, hf, hp, kval]
  have hb : (h.set s (.cells ⟨kv x⟩ 48 (0, 0))).get s = some (.cells ⟨kv x⟩ 48 (0, 0)) := get_eq
  have hf1 : ∀ n, s + 1 ≤ n → (h.set s (.cells ⟨kv x⟩ 48 (0, 0))).get n = none := (fun n hn => by simp (disch := omega) only [get_ne, hf])
  have hk1 : ∀ n, n < s → (h.set s (.cells ⟨kv x⟩ 48 (0, 0))).get n = h.get n := fun n hn => by simp (disch := omega) only [get_ne]
  have r0 : Row EK (h.set s (.cells ⟨kv x⟩ 48 (0, 0))) p len l := r.grow hf ⟨hk1, fun n hn => hf1 n hn⟩
  replace hk : ∀ h' s', s + 1 ≤ s' → Grow (s + 1) (h.set s (.cells ⟨kv x⟩ 48 (0, 0))) h' s' → (K (.tuple ⟨findK x l⟩) s').wp pw Z h' := fun h' s' hs' g' => hk h' s' (by omega) ⟨fun n hn => by rw [g'.keep n (by omega), hk1 n hn], g'.fresh⟩
  generalize h.set s (.cells ⟨kv x⟩ 48 (0, 0)) = h0' at *
  refine (s106 hN hf1 r0 hl h0).use (fun n hn => hp n (by omega)) fun h1 s1 hs1 g1 => ?_
  cases hr : risingK l with
  | false =>
    simp (disch := omega) only [tys, bindJ_eq, logJ_eq, wp_box, wp_aput, wp_anew, wp_cond, wp_guard, gd_true, gd_false, pick_eq, add_eq, sub_eq, eq_eq, ne_eq, lt_eq, le_eq, gt_eq, ge_eq, shr_eq, shl_eq, quo_eq, rem_eq, not_eq, wp_log_ret, wp_log_anew, ext0, ext1, ext2, nil_eq, get_ne, get_eq, nth_0, nth_s, cells_agg, cells_int, cells_bool, cells_slice, cells_ptr, ro_zero, one_int, one_bool, one_slice, one_ptr, arr_size, overL, Nat.zero_add, Nat.reduceAdd, Nat.add_zero, List.length_cons, List.length_nil, List.all_cons, List.all_nil, Nat.reduceLeDiff, Nat.ble_eq, Bool.and_true, Bool.not_false, Bool.and_self, decide_true, List.drop_zero, List.drop_succ_cons, List.take_succ_cons, List.take_zero, List.take_nil, true_and, and_true, Int.ofNat_eq_natCast, neg_one, Int.toNat_natCast, Int.natCast_zero, Int.natCast_one, Int.cast_ofNat_Int, List.append_nil, List.nil_append, Bool.not_false, if_true]
    simp only [findK, hr, Bool.false_eq_true, if_false] at hk
    exact hk h1 s1 hs1 g1
  | true =>
    have r1 := r0.grow hf1 g1
    have hb1 : h1.get s = some (.cells ⟨kv x⟩ 48 (0, 0)) := by rw [g1.keep s (by omega)]; exact hb
    simp (disch := omega) only [tys, bindJ_eq, logJ_eq, wp_box, wp_aput, wp_anew, wp_cond, wp_guard, gd_true, gd_false, pick_eq, add_eq, sub_eq, eq_eq, ne_eq, lt_eq, le_eq, gt_eq, ge_eq, shr_eq, shl_eq, quo_eq, rem_eq, not_eq, wp_log_ret, wp_log_anew, ext0, ext1, ext2, nil_eq, get_ne, get_eq, nth_0, nth_s, cells_agg, cells_int, cells_bool, cells_slice, cells_ptr, ro_zero, one_int, one_bool, one_slice, one_ptr, arr_size, overL, Nat.zero_add, Nat.reduceAdd, Nat.add_zero, List.length_cons, List.length_nil, List.all_cons, List.all_nil, Nat.reduceLeDiff, Nat.ble_eq, Bool.and_true, Bool.not_false, Bool.and_self, decide_true, List.drop_zero, List.drop_succ_cons, List.take_succ_cons, List.take_zero, List.take_nil, true_and, and_true, Int.ofNat_eq_natCast, neg_one, Int.toNat_natCast, Int.natCast_zero, Int.natCast_one, Int.cast_ofNat_Int, List.append_nil, List.nil_append, Bool.not_true, Bool.false_eq_true, if_false, box3 hb1]
    refine (s122 hN g1.fresh r1 hl x hr).use (fun n hn => hp n (by omega)) fun h2 s2 hs2 g2 => ?_
    simp (disch := omega) only [tys, bindJ_eq, logJ_eq, wp_box, wp_aput, wp_anew, wp_cond, wp_guard, gd_true, gd_false, pick_eq, add_eq, sub_eq, eq_eq, ne_eq, lt_eq, le_eq, gt_eq, ge_eq, shr_eq, shl_eq, quo_eq, rem_eq, not_eq, wp_log_ret, wp_log_anew, ext0, ext1, ext2, nil_eq, get_ne, get_eq, nth_0, nth_s, cells_agg, cells_int, cells_bool, cells_slice, cells_ptr, ro_zero, one_int, one_bool, one_slice, one_ptr, arr_size, overL, Nat.zero_add, Nat.reduceAdd, Nat.add_zero, List.length_cons, List.length_nil, List.all_cons, List.all_nil, Nat.reduceLeDiff, Nat.ble_eq, Bool.and_true, Bool.not_false, Bool.and_self, decide_true, List.drop_zero, List.drop_succ_cons, List.take_succ_cons, List.take_zero, List.take_nil, true_and, and_true, Int.ofNat_eq_natCast, neg_one, Int.toNat_natCast, Int.natCast_zero, Int.natCast_one, Int.cast_ofNat_Int, List.append_nil, List.nil_append]
    simp only [findK, hr, if_true] at hk
    exact hk h2 s2 (by omega) (g1.trans hs1 g2)
theorem s117 {p : Option Addr} {len cap : Nat} {l : List K3} (r : Row EK h p len l) (hl : len ≤ 10000) (x : K3) : ValS (D N (d + 3)) 117 [.slice p len cap, kval x] h s (.tuple ⟨findK x l⟩) := by
  refine ValS.mk fun K pw Z hp hk => ?_
  rw [D_117]; unfold F117; rw [app2_eq]
  simp (disch := omega) only [tys, bindJ_eq, logJ_eq, wp_box, wp_aput, wp_anew, wp_cond, wp_guard, gd_true, gd_false, pick_eq, add_eq, sub_eq, eq_eq, ne_eq, lt_eq, le_eq, gt_eq, ge_eq, shr_eq, shl_eq, quo_eq, rem_eq, not_eq, wp_log_ret, wp_log_anew, ext0, ext1, ext2, nil_eq, get_ne, get_eq, nth_0, nth_s, cells_agg, cells_int, cells_bool, cells_slice, cells_ptr, ro_zero, one_int, one_bool, one_slice, one_ptr, arr_size, overL, Nat.zero_add, Nat.reduceAdd, Nat.add_zero, List.length_cons, List.length_nil, List.all_cons, List.all_nil, Nat.reduceLeDiff, Nat.ble_eq, Bool.and_true, Bool.not_false, Bool.and_self, decide_true, List.drop_zero, List.drop_succ_cons, List.take_succ_cons, List.take_zero, List.take_nil, true_and, and_true, Int.ofNat_eq_natCast, neg_one, Int.toNat_natCast, Int.natCast_zero, Int.natCast_one, Int.cast_ofNat_Int, List.append_nil, List.nil_append, hf, hp, kval]
  have hb : (h.set s (.cells ⟨kv x⟩ 48 (0, 0))).get s = some (.cells ⟨kv x⟩ 48 (0, 0)) := get_eq
  have hf1 : ∀ n, s + 1 ≤ n → (h.set s (.cells ⟨kv x⟩ 48 (0, 0))).get n = none := (fun n hn => by simp (disch := omega) only [get_ne, hf])
  have hk1 : ∀ n, n < s → (h.set s (.cells ⟨kv x⟩ 48 (0, 0))).get n = h.get n := fun n hn => by simp (disch := omega) only [get_ne]
  have r0 : Row EK (h.set s (.cells ⟨kv x⟩ 48 (0, 0))) p len l := r.grow hf ⟨hk1, fun n hn => hf1 n hn⟩
  replace hk : ∀ h' s', s + 1 ≤ s' → Grow (s + 1) (h.set s (.cells ⟨kv x⟩ 48 (0, 0))) h' s' → (K (.tuple ⟨findK x l⟩) s').wp pw Z h' := fun h' s' hs' g' => hk h' s' (by omega) ⟨fun n hn => by rw [g'.keep n (by omega), hk1 n hn], g'.fresh⟩
  generalize h.set s (.cells ⟨kv x⟩ 48 (0, 0)) = h0 at *
  refine (s119 hN hf1 r0 hl).use (fun n hn => hp n (by omega)) fun h1 s1 hs1 g1 => ?_
  cases hr : risingK l with
  | false =>
    simp (disch := omega) only [tys, bindJ_eq, logJ_eq, wp_box, wp_aput, wp_anew, wp_cond, wp_guard, gd_true, gd_false, pick_eq, add_eq, sub_eq, eq_eq, ne_eq, lt_eq, le_eq, gt_eq, ge_eq, shr_eq, shl_eq, quo_eq, rem_eq, not_eq, wp_log_ret, wp_log_anew, ext0, ext1, ext2, nil_eq, get_ne, get_eq, nth_0, nth_s, cells_agg, cells_int, cells_bool, cells_slice, cells_ptr, ro_zero, one_int, one_bool, one_slice, one_ptr, arr_size, overL, Nat.zero_add, Nat.reduceAdd, Nat.add_zero, List.length_cons, List.length_nil, List.all_cons, List.all_nil, Nat.reduceLeDiff, Nat.ble_eq, Bool.and_true, Bool.not_false, Bool.and_self, decide_true, List.drop_zero, List.drop_succ_cons, List.take_succ_cons, List.take_zero, List.take_nil, true_and, and_true, Int.ofNat_eq_natCast, neg_one, Int.toNat_natCast, Int.natCast_zero, Int.natCast_one, Int.cast_ofNat_Int, List.append_nil, List.nil_append, Bool.not_false, if_true]
    simp only [findK, hr, Bool.false_eq_true, if_false] at hk
    exact hk h1 s1 hs1 g1
  | true =>
    simp (disch := omega) only [tys, bindJ_eq, logJ_eq, wp_box, wp_aput, wp_anew, wp_cond, wp_guard, gd_true, gd_false, pick_eq, add_eq, sub_eq, eq_eq, ne_eq, lt_eq, le_eq, gt_eq, ge_eq, shr_eq, shl_eq, quo_eq, rem_eq, not_eq, wp_log_ret, wp_log_anew, ext0, ext1, ext2, nil_eq, get_ne, get_eq, nth_0, nth_s, cells_agg, cells_int, cells_bool, cells_slice, cells_ptr, ro_zero, one_int, one_bool, one_slice, one_ptr, arr_size, overL, Nat.zero_add, Nat.reduceAdd, Nat.add_zero, List.length_cons, List.length_nil, List.all_cons, List.all_nil, Nat.reduceLeDiff, Nat.ble_eq, Bool.and_true, Bool.not_false, Bool.and_self, decide_true, List.drop_zero, List.drop_succ_cons, List.take_succ_cons, List.take_zero, List.take_nil, true_and, and_true, Int.ofNat_eq_natCast, neg_one, Int.toNat_natCast, Int.natCast_zero, Int.natCast_one, Int.cast_ofNat_Int, List.append_nil, List.nil_append, Bool.not_true, Bool.false_eq_true, if_false]
    simp only [findK, hr, if_true] at hk
    have loop : ∀ (J : Value → Nat → AM) (hJ : ∀ (i : Nat) (h1 : T) (s1 : Nat), i ≤ len → plK x l = i → s + 1 ≤ s1 → Grow (s + 1) h0 h1 s1 → (J (.int .i64 (i : Int)) s1).wp pw Z h1) (B : (Value → Nat → AM) → Value → Nat → AM) (hB : ∀ H i s', B H i s' = X117_5 N (D N (d + 2)) K (.slice p len cap) J (.pointer (some ⟨s, 0, none⟩)) H i s') (m i : Nat) (h1 : T) (s1 : Nat), len - i < m → i ≤ len → (∀ k y, k < i → l[k]? = some y → lessK y x = true) → s + 1 ≤ s1 → Grow (s + 1) h0 h1 s1 →
        (loopJ m 1 (fun _ _ => AM.fail) B (.int .i64 (i : Int)) s1).wp pw Z h1 := by
      intro J hJ B hB m
      induction m with
      | zero => intro i h1 s1 h2; omega
      | succ m ih =>
        intro i h1 s1 hm hil hi hs1 g1
        have r1 := r0.grow hf1 g1
        have hb1 : h1.get s = some (.cells ⟨kv x⟩ 48 (0, 0)) := by rw [g1.keep s (by omega)]; exact hb
        rw [loopJ_succ, hB]
        unfold X117_5
        simp (disch := omega) only [tys, bindJ_eq, logJ_eq, wp_box, wp_aput, wp_anew, wp_cond, wp_guard, gd_true, gd_false, pick_eq, add_eq, sub_eq, eq_eq, ne_eq, lt_eq, le_eq, gt_eq, ge_eq, shr_eq, shl_eq, quo_eq, rem_eq, not_eq, wp_log_ret, wp_log_anew, ext0, ext1, ext2, nil_eq, get_ne, get_eq, nth_0, nth_s, cells_agg, cells_int, cells_bool, cells_slice, cells_ptr, ro_zero, one_int, one_bool, one_slice, one_ptr, arr_size, overL, Nat.zero_add, Nat.reduceAdd, Nat.add_zero, List.length_cons, List.length_nil, List.all_cons, List.all_nil, Nat.reduceLeDiff, Nat.ble_eq, Bool.and_true, Bool.not_false, Bool.and_self, decide_true, List.drop_zero, List.drop_succ_cons, List.take_succ_cons, List.take_zero, List.take_nil, true_and, and_true, Int.ofNat_eq_natCast, neg_one, Int.toNat_natCast, Int.natCast_zero, Int.natCast_one, Int.cast_ofNat_Int, List.append_nil, List.nil_append]
        by_cases hlt : i < len
        · obtain ⟨y, hy⟩ := get_some (l := l) (i := i) (by rw [r.1]; omega)
          have e2 : (i : Int) + 1 = ((i + 1 : Nat) : Int) := by omega
          simp (disch := omega) only [tys, bindJ_eq, logJ_eq, wp_box, wp_aput, wp_anew, wp_cond, wp_guard, gd_true, gd_false, pick_eq, add_eq, sub_eq, eq_eq, ne_eq, lt_eq, le_eq, gt_eq, ge_eq, shr_eq, shl_eq, quo_eq, rem_eq, not_eq, wp_log_ret, wp_log_anew, ext0, ext1, ext2, nil_eq, get_ne, get_eq, nth_0, nth_s, cells_agg, cells_int, cells_bool, cells_slice, cells_ptr, ro_zero, one_int, one_bool, one_slice, one_ptr, arr_size, overL, Nat.zero_add, Nat.reduceAdd, Nat.add_zero, List.length_cons, List.length_nil, List.all_cons, List.all_nil, Nat.reduceLeDiff, Nat.ble_eq, Bool.and_true, Bool.not_false, Bool.and_self, decide_true, List.drop_zero, List.drop_succ_cons, List.take_succ_cons, List.take_zero, List.take_nil, true_and, and_true, Int.ofNat_eq_natCast, neg_one, Int.toNat_natCast, Int.natCast_zero, Int.natCast_one, Int.cast_ofNat_Int, List.append_nil, List.nil_append, show (i : Int) < (len : Int) by omega, if_true, X117_4, X117_3, xa3 r1 (j := (i : Int)) (by omega) (by omega), row3L r1 hy, box3L hb1]
          refine (s121 g1.fresh y x).log (fun n hn => hp n (by omega)) fun h2 s2 ts2 ws2 hs2 g2 hw2 => ?_
          simp (disch := omega) only [tys, bindJ_eq, logJ_eq, wp_box, wp_aput, wp_anew, wp_cond, wp_guard, gd_true, gd_false, pick_eq, add_eq, sub_eq, eq_eq, ne_eq, lt_eq, le_eq, gt_eq, ge_eq, shr_eq, shl_eq, quo_eq, rem_eq, not_eq, wp_log_ret, wp_log_anew, ext0, ext1, ext2, nil_eq, get_ne, get_eq, nth_0, nth_s, cells_agg, cells_int, cells_bool, cells_slice, cells_ptr, ro_zero, one_int, one_bool, one_slice, one_ptr, arr_size, overL, Nat.zero_add, Nat.reduceAdd, Nat.add_zero, List.length_cons, List.length_nil, List.all_cons, List.all_nil, Nat.reduceLeDiff, Nat.ble_eq, Bool.and_true, Bool.not_false, Bool.and_self, decide_true, List.drop_zero, List.drop_succ_cons, List.take_succ_cons, List.take_zero, List.take_nil, true_and, and_true, Int.ofNat_eq_natCast, neg_one, Int.toNat_natCast, Int.natCast_zero, Int.natCast_one, Int.cast_ofNat_Int, List.append_nil, List.nil_append, if_true, e2, wrap_id (a := ((i + 1 : Nat) : Int)) (by omega) (by omega)]
          cases hyx : lessK y x with
          | true =>
            simp only [if_true]
            exact ih (i + 1) h2 s2 (by omega) (by omega) (fun k z hk hz => by
              rcases Nat.lt_or_ge k i with h3 | h3
              · exact hi k z h3 hz
              · obtain rfl : k = i := by omega
                rw [hy] at hz; cases hz; exact hyx) (by omega) (g1.trans hs1 g2)
          | false =>
            simp only [Bool.false_eq_true, if_false]
            exact hJ i h2 s2 hil (pl_eq (by rw [r.1]; omega) hi (fun z hz => by rw [hy] at hz; cases hz; exact hyx)) (by omega) (g1.trans hs1 g2)
        · simp (disch := omega) only [tys, bindJ_eq, logJ_eq, wp_box, wp_aput, wp_anew, wp_cond, wp_guard, gd_true, gd_false, pick_eq, add_eq, sub_eq, eq_eq, ne_eq, lt_eq, le_eq, gt_eq, ge_eq, shr_eq, shl_eq, quo_eq, rem_eq, not_eq, wp_log_ret, wp_log_anew, ext0, ext1, ext2, nil_eq, get_ne, get_eq, nth_0, nth_s, cells_agg, cells_int, cells_bool, cells_slice, cells_ptr, ro_zero, one_int, one_bool, one_slice, one_ptr, arr_size, overL, Nat.zero_add, Nat.reduceAdd, Nat.add_zero, List.length_cons, List.length_nil, List.all_cons, List.all_nil, Nat.reduceLeDiff, Nat.ble_eq, Bool.and_true, Bool.not_false, Bool.and_self, decide_true, List.drop_zero, List.drop_succ_cons, List.take_succ_cons, List.take_zero, List.take_nil, true_and, and_true, Int.ofNat_eq_natCast, neg_one, Int.toNat_natCast, Int.natCast_zero, Int.natCast_one, Int.cast_ofNat_Int, List.append_nil, List.nil_append, show ¬ (i : Int) < (len : Int) by omega, decide_false, Bool.false_eq_true, if_false, X117_4, X117_3]
          exact hJ i h1 s1 hil (pl_eq (by rw [r.1]; omega) hi (fun z hz => by
            have := (List.getElem?_eq_some_iff.1 hz).1
            rw [r.1] at this; omega)) hs1 g1
    refine loop _ (fun i h1 s1 hil hpl hs1 g1 => ?_) _ (fun _ _ _ => rfl) N 0 h1 s1 (by omega) (by omega) (fun k y hk => by omega) hs1 g1
    have r1 := r0.grow hf1 g1
    have hb1 : h1.get s = some (.cells ⟨kv x⟩ 48 (0, 0)) := by rw [g1.keep s (by omega)]; exact hb
    unfold X117_2
    simp (disch := omega) only [tys, bindJ_eq, logJ_eq, wp_box, wp_aput, wp_anew, wp_cond, wp_guard, gd_true, gd_false, pick_eq, add_eq, sub_eq, eq_eq, ne_eq, lt_eq, le_eq, gt_eq, ge_eq, shr_eq, shl_eq, quo_eq, rem_eq, not_eq, wp_log_ret, wp_log_anew, ext0, ext1, ext2, nil_eq, get_ne, get_eq, nth_0, nth_s, cells_agg, cells_int, cells_bool, cells_slice, cells_ptr, ro_zero, one_int, one_bool, one_slice, one_ptr, arr_size, overL, Nat.zero_add, Nat.reduceAdd, Nat.add_zero, List.length_cons, List.length_nil, List.all_cons, List.all_nil, Nat.reduceLeDiff, Nat.ble_eq, Bool.and_true, Bool.not_false, Bool.and_self, decide_true, List.drop_zero, List.drop_succ_cons, List.take_succ_cons, List.take_zero, List.take_nil, true_and, and_true, Int.ofNat_eq_natCast, neg_one, Int.toNat_natCast, Int.natCast_zero, Int.natCast_one, Int.cast_ofNat_Int, List.append_nil, List.nil_append]
    by_cases hil : i < len
    · obtain ⟨y, hy⟩ := get_some (l := l) (i := i) (by rw [r.1]; omega)
      have hat : atK x l = sameK y x := by unfold atK; rw [hpl, hy]
      simp (disch := omega) only [tys, bindJ_eq, logJ_eq, wp_box, wp_aput, wp_anew, wp_cond, wp_guard, gd_true, gd_false, pick_eq, add_eq, sub_eq, eq_eq, ne_eq, lt_eq, le_eq, gt_eq, ge_eq, shr_eq, shl_eq, quo_eq, rem_eq, not_eq, wp_log_ret, wp_log_anew, ext0, ext1, ext2, nil_eq, get_ne, get_eq, nth_0, nth_s, cells_agg, cells_int, cells_bool, cells_slice, cells_ptr, ro_zero, one_int, one_bool, one_slice, one_ptr, arr_size, overL, Nat.zero_add, Nat.reduceAdd, Nat.add_zero, List.length_cons, List.length_nil, List.all_cons, List.all_nil, Nat.reduceLeDiff, Nat.ble_eq, Bool.and_true, Bool.not_false, Bool.and_self, decide_true, List.drop_zero, List.drop_succ_cons, List.take_succ_cons, List.take_zero, List.take_nil, true_and, and_true, Int.ofNat_eq_natCast, neg_one, Int.toNat_natCast, Int.natCast_zero, Int.natCast_one, Int.cast_ofNat_Int, List.append_nil, List.nil_append, show (i : Int) < (len : Int) by omega, if_true, xa3 r1 (j := (i : Int)) (by omega) (by omega), row3L r1 hy, box3L hb1, X117_1, kv]
      rw [hpl, hat] at hk
      exact hk _ _ (by omega) g1
    · have hat : atK x l = false := by unfold atK; rw [hpl, List.getElem?_eq_none (by rw [r.1]; omega)]
      simp (disch := omega) only [tys, bindJ_eq, logJ_eq, wp_box, wp_aput, wp_anew, wp_cond, wp_guard, gd_true, gd_false, pick_eq, add_eq, sub_eq, eq_eq, ne_eq, lt_eq, le_eq, gt_eq, ge_eq, shr_eq, shl_eq, quo_eq, rem_eq, not_eq, wp_log_ret, wp_log_anew, ext0, ext1, ext2, nil_eq, get_ne, get_eq, nth_0, nth_s, cells_agg, cells_int, cells_bool, cells_slice, cells_ptr, ro_zero, one_int, one_bool, one_slice, one_ptr, arr_size, overL, Nat.zero_add, Nat.reduceAdd, Nat.add_zero, List.length_cons, List.length_nil, List.all_cons, List.all_nil, Nat.reduceLeDiff, Nat.ble_eq, Bool.and_true, Bool.not_false, Bool.and_self, decide_true, List.drop_zero, List.drop_succ_cons, List.take_succ_cons, List.take_zero, List.take_nil, true_and, and_true, Int.ofNat_eq_natCast, neg_one, Int.toNat_natCast, Int.natCast_zero, Int.natCast_one, Int.cast_ofNat_Int, List.append_nil, List.nil_append, show ¬ (i : Int) < (len : Int) by omega, decide_false, Bool.false_eq_true, if_false, X117_1]
      rw [hpl, hat] at hk
      exact hk _ _ (by omega) g1
end
end Go.Ev.R
namespace Go.Ev.R
open Go Go.RowKit
theorem eqb_4 (a b : Bool) (k : Value → Nat → AM) (s : Nat) : eqX P 4 4 false false (.bool a) (.bool b) k s = k (.bool (a == b)) s := by cases a <;> cases b <;> kernel_rfl
section
variable {N d : Nat} (hN : 100000 ≤ N) {h : T} {s : Nat} (hf : ∀ n, s ≤ n → h.get n = none)
include hN hf
theorem s60 {p q : Option Addr} {len cap cap' : Nat} {l : List K3} (r : Row EK h p len l) (r' : Row EK h q len l) (hl : len ≤ 10000) : ValS (D N (d + 1)) 60 [.slice p len cap, .slice q len cap'] h s (.bool true) := by
  refine ValS.mk fun K pw Z hp hk => ?_
  rw [D_60]; unfold F60; rw [app2_eq]
  simp (disch := omega) only [tys, bindJ_eq, logJ_eq, wp_box, wp_aput, wp_anew, wp_cond, wp_guard, gd_true, gd_false, pick_eq, add_eq, sub_eq, eq_eq, ne_eq, lt_eq, le_eq, gt_eq, ge_eq, shr_eq, shl_eq, quo_eq, rem_eq, not_eq, wp_log_ret, wp_log_anew, ext0, ext1, ext2, nil_eq, get_ne, get_eq, nth_0, nth_s, cells_agg, cells_int, cells_bool, cells_slice, cells_ptr, ro_zero, one_int, one_bool, one_slice, one_ptr, arr_size, overL, Nat.zero_add, Nat.reduceAdd, Nat.add_zero, List.length_cons, List.length_nil, List.all_cons, List.all_nil, Nat.reduceLeDiff, Nat.ble_eq, Bool.and_true, Bool.not_false, Bool.and_self, decide_true, List.drop_zero, List.drop_succ_cons, List.take_succ_cons, List.take_zero, List.take_nil, true_and, and_true, Int.ofNat_eq_natCast, neg_one, Int.toNat_natCast, Int.natCast_zero, Int.natCast_one, Int.cast_ofNat_Int, List.append_nil, List.nil_append]
  have loop : ∀ (B : (Value → Value → Nat → AM) → Value → Value → Nat → AM) (hB : ∀ H u i s, B H u i s = X60_2 N (D N d) K (.slice p len cap) (.slice q len cap') (fun v s => K v s) H u i s) (m i : Nat), len - i < m → i ≤ len →
      (loopJ m 2 (fun _ _ _ => AM.fail) B (.bool true) (.int .i64 (i : Int)) s).wp pw Z h := by
    intro B hB m
    induction m with
    | zero => intro i hm; omega
    | succ m ih =>
      intro i hm hil
      rw [loopJ_succ, hB]
      unfold X60_2
      simp (disch := omega) only [tys, bindJ_eq, logJ_eq, wp_box, wp_aput, wp_anew, wp_cond, wp_guard, gd_true, gd_false, pick_eq, add_eq, sub_eq, eq_eq, ne_eq, lt_eq, le_eq, gt_eq, ge_eq, shr_eq, shl_eq, quo_eq, rem_eq, not_eq, wp_log_ret, wp_log_anew, ext0, ext1, ext2, nil_eq, get_ne, get_eq, nth_0, nth_s, cells_agg, cells_int, cells_bool, cells_slice, cells_ptr, ro_zero, one_int, one_bool, one_slice, one_ptr, arr_size, overL, Nat.zero_add, Nat.reduceAdd, Nat.add_zero, List.length_cons, List.length_nil, List.all_cons, List.all_nil, Nat.reduceLeDiff, Nat.ble_eq, Bool.and_true, Bool.not_false, Bool.and_self, decide_true, List.drop_zero, List.drop_succ_cons, List.take_succ_cons, List.take_zero, List.take_nil, true_and, and_true, Int.ofNat_eq_natCast, neg_one, Int.toNat_natCast, Int.natCast_zero, Int.natCast_one, Int.cast_ofNat_Int, List.append_nil, List.nil_append, if_true]
      unfold X60_1
      by_cases hi : i < len
      · obtain ⟨x, hx⟩ := get_some (l := l) (i := i) (by rw [r.1]; omega)
        have e3 : (i : Int) + 1 = ((i + 1 : Nat) : Int) := by omega
        simp (disch := omega) only [tys, bindJ_eq, logJ_eq, wp_box, wp_aput, wp_anew, wp_cond, wp_guard, gd_true, gd_false, pick_eq, add_eq, sub_eq, eq_eq, ne_eq, lt_eq, le_eq, gt_eq, ge_eq, shr_eq, shl_eq, quo_eq, rem_eq, not_eq, wp_log_ret, wp_log_anew, ext0, ext1, ext2, nil_eq, get_ne, get_eq, nth_0, nth_s, cells_agg, cells_int, cells_bool, cells_slice, cells_ptr, ro_zero, one_int, one_bool, one_slice, one_ptr, arr_size, overL, Nat.zero_add, Nat.reduceAdd, Nat.add_zero, List.length_cons, List.length_nil, List.all_cons, List.all_nil, Nat.reduceLeDiff, Nat.ble_eq, Bool.and_true, Bool.not_false, Bool.and_self, decide_true, List.drop_zero, List.drop_succ_cons, List.take_succ_cons, List.take_zero, List.take_nil, true_and, and_true, Int.ofNat_eq_natCast, neg_one, Int.toNat_natCast, Int.natCast_zero, Int.natCast_one, Int.cast_ofNat_Int, List.append_nil, List.nil_append, show (i : Int) < (len : Int) by omega, if_true, xa3 r (j := (i : Int)) (by omega) (by omega), xa3 r' (j := (i : Int)) (by omega) (by omega), row3L r hx, row3L r' hx, kv, e3, wrap_id (a := ((i + 1 : Nat) : Int)) (by omega) (by omega)]
        exact ih (i + 1) (by omega) (by omega)
      · simp (disch := omega) only [tys, bindJ_eq, logJ_eq, wp_box, wp_aput, wp_anew, wp_cond, wp_guard, gd_true, gd_false, pick_eq, add_eq, sub_eq, eq_eq, ne_eq, lt_eq, le_eq, gt_eq, ge_eq, shr_eq, shl_eq, quo_eq, rem_eq, not_eq, wp_log_ret, wp_log_anew, ext0, ext1, ext2, nil_eq, get_ne, get_eq, nth_0, nth_s, cells_agg, cells_int, cells_bool, cells_slice, cells_ptr, ro_zero, one_int, one_bool, one_slice, one_ptr, arr_size, overL, Nat.zero_add, Nat.reduceAdd, Nat.add_zero, List.length_cons, List.length_nil, List.all_cons, List.all_nil, Nat.reduceLeDiff, Nat.ble_eq, Bool.and_true, Bool.not_false, Bool.and_self, decide_true, List.drop_zero, List.drop_succ_cons, List.take_succ_cons, List.take_zero, List.take_nil, true_and, and_true, Int.ofNat_eq_natCast, neg_one, Int.toNat_natCast, Int.natCast_zero, Int.natCast_one, Int.cast_ofNat_Int, List.append_nil, List.nil_append, show ¬ (i : Int) < (len : Int) by omega, decide_false, if_true, Bool.false_eq_true, if_false]
        exact hk h s (Nat.le_refl _) (.refl hf)
  exact loop _ (fun _ _ _ _ => rfl) N 0 (by omega) (by omega)
end
end Go.Ev.R
namespace Go.Ev.R
open Go Go.RowKit
def insK (x : K3) (m : List K3) : List K3 := m.take (plK x m) ++ x :: m.drop (plK x m)
end Go.Ev.R
namespace Go.Ev.R
open Go Go.RowKit
theorem same_iff {x y : K3} : sameK x y = true ↔ x = y := by
  obtain ⟨a, b, c⟩ := x
  obtain ⟨a', b', c'⟩ := y
  simp [sameK]
theorem less_self (x : K3) : lessK x x = false := by simp [lessK]
theorem pl_le (x : K3) : ∀ l : List K3, plK x l ≤ l.length
  | [] => Nat.le_refl _
  | y :: l => by
    have := pl_le x l
    unfold plK
    split
    · simp; omega
    · simp
theorem pl_lt {x : K3} : ∀ {l : List K3} {k : Nat} {y : K3}, k < plK x l → l[k]? = some y → lessK y x = true
  | z :: l, k, y, h, hy => by
    unfold plK at h
    split at h
    · rename_i hz
      cases k with
      | zero => simp at hy; subst hy; exact hz
      | succ k => exact pl_lt (l := l) (k := k) (by omega) (by simpa using hy)
    · omega
theorem pl_at {x : K3} : ∀ {l : List K3} {y : K3}, l[plK x l]? = some y → lessK y x = false
  | z :: l, y, hy => by
    unfold plK at hy
    split at hy
    · exact pl_at (l := l) (by simpa using hy)
    · rename_i hz
      simp at hy; subst hy; simpa using hz
theorem upTo_of {p : K3 → K3 → Bool} {l : List K3} (h : ∀ i x y, l[i]? = some x → l[i + 1]? = some y → p x y = true) : ∀ n, upTo p l n = true
  | 0 => rfl
  | n + 1 => by
    show (upTo p l n && _) = true
    rw [upTo_of h n]
    cases hx : l[n]? with
    | none => rfl
    | some x =>
      cases hy : l[n + 1]? with
      | none => rfl
      | some y => exact h n x y hx hy
theorem ins_at (x : K3) (m : List K3) (i : Nat) : (insK x m)[i]? = if i < plK x m then m[i]? else if i = plK x m then some x else m[i - 1]? := by
  have hk := pl_le x m
  unfold insK
  generalize plK x m = k at *
  have htk : (m.take k).length = k := by rw [List.length_take]; omega
  by_cases h1 : i < k
  · rw [if_pos h1, List.getElem?_append_left (by omega), List.getElem?_take, if_pos h1]
  · rw [if_neg h1, List.getElem?_append_right (by omega), htk]
    by_cases h2 : i = k
    · subst h2; rw [if_pos rfl, Nat.sub_self]; rfl
    · rw [if_neg h2]
      obtain ⟨j, hj⟩ : ∃ j, i - k = j + 1 := ⟨i - k - 1, by omega⟩
      rw [hj, List.getElem?_cons_succ, List.getElem?_drop]
      congr 1; omega
theorem ins_rise {x : K3} {m : List K3} (h : risingK m = true) (hn : atK x m = false) : risingK (insK x m) = true := by
  refine upTo_of (fun i a b ha hb => ?_) _
  rw [ins_at] at ha hb
  by_cases h1 : i < plK x m
  · rw [if_pos h1] at ha
    by_cases h2 : i + 1 < plK x m
    · rw [if_pos h2] at hb
      exact rise_lt h ha (Nat.lt_succ_self i) hb
    · rw [if_neg h2, if_pos (by omega)] at hb
      cases hb
      exact pl_lt h1 ha
  · rw [if_neg h1] at ha
    rw [if_neg (by omega), if_neg (by omega), Nat.add_sub_cancel] at hb
    by_cases h2 : i = plK x m
    · rw [if_pos h2] at ha
      cases ha
      subst h2
      have h3 := pl_at hb
      unfold atK at hn
      rw [hb] at hn
      rw [← less_iff, h3]
      simpa using hn
    · rw [if_neg h2] at ha
      exact rise_lt h ha (by omega) hb
theorem ins_mem {x y : K3} {m : List K3} (h : y = x ∨ y ∈ m) : y ∈ insK x m := by
  unfold insK
  rcases h with rfl | h
  · simp
  · have := List.take_append_drop (plK x m) m
    rw [← this] at h
    rcases List.mem_append.1 h with h | h
    · exact List.mem_append.2 (.inl h)
    · exact List.mem_append.2 (.inr (List.mem_cons_of_mem _ h))
theorem found {x : K3} {m : List K3} (h : risingK m = true) (hm : x ∈ m) : atK x m = true := by
  obtain ⟨j, hj⟩ := List.getElem?_of_mem hm
  have hl := (List.getElem?_eq_some_iff.1 hj).1
  have : plK x m = j := pl_eq (by omega) (fun k y hk hy => rise_lt h hy hk hj) (fun y hy => by rw [hj] at hy; cases hy; exact less_self x)
  unfold atK
  rw [this, hj]
  exact same_iff.2 rfl
theorem at_is {x : K3} {m : List K3} (h : atK x m = true) : m[plK x m]? = some x := by
  unfold atK at h
  split at h
  · rename_i y hy
    rw [hy, same_iff.1 h]
  · cases h
end Go.Ev.R
namespace Go.Ev.R
open Go Go.RowKit
/-- A setup. -/
structure SU where
  keep : Int
  horizon : Int
  ahead : Int
  budget : Int
  window : Int
def maxT : Int := 1099511627776
def wI (n lo hi : Int) : Bool := decide (lo ≤ n) && decide (n ≤ hi)
def chkS (s : SU) : Bool := wI s.keep 1 200 && (wI s.horizon 0 1099511627776 && (wI s.ahead 0 1073741824 && (wI s.budget 1 200 && wI s.window 1 32)))
def twinAny (l : List K3) (k : K3) : Bool := l.any fun x => twinK x k
/-- From a place on: stamps within, no twins ahead. -/
def goodFrom (base : Int) (l : List K3) (i : Nat) : Prop := ∀ j k, i ≤ j → l[j]? = some k → wI k.a base maxT = true ∧ twinAny (l.take j) k = false
instance (base : Int) (l : List K3) (i : Nat) : Decidable (goodFrom base l i) := by
  by_cases h : ∀ j < l.length, i ≤ j → ∀ k ∈ l[j]?, wI k.a base maxT = true ∧ twinAny (l.take j) k = false
  · exact .isTrue fun j k hj hk => h j (List.getElem?_eq_some_iff.1 hk).1 hj k hk
  · exact .isFalse fun hg => h fun j _ hj k hk => hg j k hj hk
def fitsK (s : SU) (base clean : Int) (l : List K3) : Bool := chkS s && (wI base 0 maxT && (decide ((l.length : Int) ≤ s.keep) && (risingK l && (wI clean 0 l.length && decide (goodFrom base l 0)))))
def newK (base : Int) (l : List K3) : Int := match l[l.length - 1]? with | some k => k.a | none => base
def fullK (s : SU) (l : List K3) : Bool := decide ((l.length : Int) = s.keep)
def floorK (s : SU) (base : Int) (l : List K3) : Int :=
  if fullK s l = true then (match l[0]? with | some k => max (max base (newK base l - s.horizon)) k.a | none => max base (newK base l - s.horizon)) else max base (newK base l - s.horizon)
/-- The first key is behind. -/
def aheadK (l : List K3) (k : K3) : Bool := match l[0]? with | some x => lessK k x | none => false
def judgeK (s : SU) (base clean : Int) (l : List K3) (k : K3) : Int :=
  if fitsK s base clean l = false ∨ wI k.a 0 maxT = false then 2
  else if twinAny l k = true then 7
  else if k.a < floorK s base l ∨ (fullK s l = true ∧ aheadK l k = true) then 6
  else if fullK s l = true ∧ clean = 0 then 12
  else 0
def restK (s : SU) (l : List K3) : List K3 := if fullK s l = true then l.drop 1 else l
def baseP (s : SU) (base : Int) (l : List K3) : Int := if fullK s l = true then (match l[0]? with | some k => k.a | none => base) else base
def cleanP (s : SU) (clean : Int) (l : List K3) (k : K3) : Int := min (if fullK s l = true then clean - 1 else clean) (plK k (restK s l) : Int)
theorem wI_iff {n lo hi : Int} : wI n lo hi = true ↔ lo ≤ n ∧ n ≤ hi := by simp [wI]
theorem fits_iff {s : SU} {base clean : Int} {l : List K3} : fitsK s base clean l = true ↔ chkS s = true ∧ (0 ≤ base ∧ base ≤ maxT) ∧ (l.length : Int) ≤ s.keep ∧ risingK l = true ∧ (0 ≤ clean ∧ clean ≤ l.length) ∧ goodFrom base l 0 := by
  simp [fitsK, wI_iff]
theorem chk_keep {s : SU} (h : chkS s = true) : 1 ≤ s.keep ∧ s.keep ≤ 200 ∧ 0 ≤ s.horizon ∧ s.horizon ≤ maxT ∧ 1 ≤ s.budget ∧ s.budget ≤ 200 := by
  simp [chkS, wI_iff, maxT] at h ⊢; omega
theorem twin_iff {l : List K3} {k : K3} : twinAny l k = false ↔ ∀ x ∈ l, twinK x k = false := by simp [twinAny]
theorem twin_comm (x y : K3) : twinK x y = twinK y x := by simp [twinK, eq_comm]
theorem rise_drop {l : List K3} (h : risingK l = true) (n : Nat) : risingK (l.drop n) = true := by
  refine upTo_of (fun i x y hx hy => ?_) _
  rw [List.getElem?_drop] at hx hy
  exact rise_lt h hx (by omega) hy
/-- Stamps rise. -/
theorem less_le {x y : K3} (h : lessK x y = true) : x.a ≤ y.a := by
  unfold lessK at h
  split at h
  · omega
  · simp at h; omega
theorem less_total {x y : K3} (h : lessK x y = false) : lessK y x = true ∨ x = y := by
  obtain ⟨a, b, c⟩ := x
  obtain ⟨a', b', c'⟩ := y
  simp only [lessK] at *
  by_cases h1 : a = a'
  · subst h1
    by_cases h2 : b = b'
    · subst h2
      simp at h ⊢; omega
    · simp [h2, Ne.symm h2] at h ⊢; omega
  · simp [h1, Ne.symm h1] at h ⊢; omega
theorem at_twin {k : K3} {l : List K3} (h : twinAny l k = false) : atK k l = false := by
  unfold atK
  split
  · rename_i y hy
    have := twin_iff.1 h y (List.mem_of_getElem? hy)
    cases e : sameK y k with
    | false => rfl
    | true => rw [same_iff.1 e] at this; simp [twinK] at this
  · rfl
theorem good_iff {base : Int} {l : List K3} : goodFrom base l 0 ↔ (∀ x ∈ l, base ≤ x.a ∧ x.a ≤ maxT) ∧ l.Pairwise (fun x y => twinK x y = false) := by
  constructor
  · intro h
    refine ⟨fun x hx => ?_, List.pairwise_iff_getElem.2 fun i j hi hj hij => ?_⟩
    · obtain ⟨j, hj⟩ := List.getElem?_of_mem hx
      exact wI_iff.1 (h j x (Nat.zero_le _) hj).1
    · have := (h j l[j] (Nat.zero_le _) (List.getElem?_eq_getElem hj)).2
      refine twin_iff.1 this _ ?_
      rw [List.mem_take_iff_getElem]
      exact ⟨i, by omega, rfl⟩
  · rintro ⟨h1, h2⟩ j k _ hk
    refine ⟨wI_iff.2 (h1 k (List.mem_of_getElem? hk)), twin_iff.2 fun x hx => ?_⟩
    rw [List.mem_take_iff_getElem] at hx
    obtain ⟨i, hi, rfl⟩ := hx
    obtain ⟨hj, rfl⟩ := List.getElem?_eq_some_iff.1 hk
    exact List.pairwise_iff_getElem.1 h2 i j (by omega) hj (by omega)
theorem pair_ins {l : List K3} (h : l.Pairwise (fun x y => twinK x y = false)) {k : K3} (hk : twinAny l k = false) : (insK k l).Pairwise (fun x y => twinK x y = false) := by
  unfold insK
  have h0 := h
  rw [← List.take_append_drop (plK k l) l, List.pairwise_append] at h0
  obtain ⟨h1, h2, h3⟩ := h0
  have ht := twin_iff.1 hk
  refine List.pairwise_append.2 ⟨h1, List.pairwise_cons.2 ⟨fun y hy => ?_, h2⟩, fun x hx y hy => ?_⟩
  · rw [twin_comm]; exact ht y (List.mem_of_mem_drop hy)
  · rcases List.mem_cons.1 hy with rfl | hy
    · exact ht x (List.mem_of_mem_take hx)
    · exact h3 x hx y hy
theorem mem_ins {x y : K3} {m : List K3} : y ∈ insK x m ↔ y = x ∨ y ∈ m := by
  refine ⟨fun h => ?_, ins_mem⟩
  unfold insK at h
  rcases List.mem_append.1 h with h | h
  · exact .inr (List.mem_of_mem_take h)
  · rcases List.mem_cons.1 h with h | h
    · exact .inl h
    · exact .inr (List.mem_of_mem_drop h)
theorem ins_length (x : K3) (m : List K3) : (insK x m).length = m.length + 1 := by
  unfold insK
  have := pl_le x m
  simp; omega
/-- The last stamp is the greatest. -/
theorem new_ge {b : Int} {m : List K3} (h : risingK m = true) {x : K3} (hx : x ∈ m) : x.a ≤ newK b m := by
  obtain ⟨j, hj⟩ := List.getElem?_of_mem hx
  have hl := (List.getElem?_eq_some_iff.1 hj).1
  obtain ⟨y, hy⟩ := get_some (l := m) (i := m.length - 1) (by omega)
  unfold newK
  rw [hy]
  dsimp only
  rcases Nat.lt_or_ge j (m.length - 1) with h1 | h1
  · exact less_le (rise_lt h hj h1 hy)
  · obtain rfl : j = m.length - 1 := by omega
    rw [hj] at hy
    cases hy; exact Int.le_refl _
theorem new_is (b : Int) (m : List K3) : (m = [] ∧ newK b m = b) ∨ ∃ x ∈ m, newK b m = x.a := by
  unfold newK
  cases e : m[m.length - 1]? with
  | none =>
    rw [List.getElem?_eq_none_iff] at e
    exact .inl ⟨List.eq_nil_of_length_eq_zero (by omega), rfl⟩
  | some x => exact .inr ⟨x, List.mem_of_getElem? e, rfl⟩
theorem judge_ok {s : SU} {base clean : Int} {l : List K3} {k : K3} (h : judgeK s base clean l k = 0) :
    fitsK s base clean l = true ∧ (0 ≤ k.a ∧ k.a ≤ maxT) ∧ twinAny l k = false ∧ floorK s base l ≤ k.a ∧ (fullK s l = true → aheadK l k = false ∧ clean ≠ 0) := by
  unfold judgeK at h
  split at h
  · cases h
  · rename_i h1
    split at h
    · cases h
    · rename_i h2
      split at h
      · cases h
      · rename_i h3
        split at h
        · cases h
        · rename_i h4
          refine ⟨?_, ?_, by simpa using h2, ?_, fun hf => ⟨?_, fun hc => h4 ⟨hf, hc⟩⟩⟩
          · cases e : fitsK s base clean l with
            | true => rfl
            | false => exact absurd (.inl e) h1
          · refine wI_iff.1 ?_
            cases e : wI k.a 0 maxT with
            | true => rfl
            | false => exact absurd (.inr e) h1
          · rcases Int.lt_or_le k.a (floorK s base l) with h5 | h5
            · exact absurd (.inl h5) h3
            · exact h5
          · cases e : aheadK l k with
            | false => rfl
            | true => exact absurd (.inr ⟨hf, e⟩) h3
theorem floor_ge (s : SU) (base : Int) (l : List K3) : base ≤ floorK s base l ∧ newK base l - s.horizon ≤ floorK s base l := by
  unfold floorK
  split
  · split <;> omega
  · omega
theorem floor_le (s : SU) (base : Int) (l : List K3) : floorK s base l ≤ max (max base (newK base l - s.horizon)) (baseP s base l) := by
  unfold floorK baseP
  split
  · split <;> omega
  · omega
/-- What is put fits, and floor and newest do not fall. -/
theorem put_fits {s : SU} {base clean : Int} {l : List K3} {k : K3} (h : judgeK s base clean l k = 0) :
    fitsK s (baseP s base l) (cleanP s clean l k) (insK k (restK s l)) = true ∧ floorK s base l ≤ floorK s (baseP s base l) (insK k (restK s l)) ∧ newK base l ≤ newK (baseP s base l) (insK k (restK s l)) ∧
      atK k (restK s l) = false ∧ cleanP s clean l k ≤ clean ∧ risingK (restK s l) = true := by
  obtain ⟨hf, hk, htw, hfl, hfu⟩ := judge_ok h
  obtain ⟨hc, hb, hlen, hr, hcl, hg⟩ := fits_iff.1 hf
  obtain ⟨hg1, hg2⟩ := good_iff.1 hg
  obtain ⟨k1, k2, k3, k4, k5, k6⟩ := chk_keep hc
  have hrr : risingK (restK s l) = true := by unfold restK; split; exact rise_drop hr 1; exact hr
  have hsub : ∀ x ∈ restK s l, x ∈ l := by unfold restK; split; exact fun x hx => List.mem_of_mem_drop hx; exact fun x hx => hx
  have htr : twinAny (restK s l) k = false := twin_iff.2 fun x hx => twin_iff.1 htw x (hsub x hx)
  have hat := at_twin htr
  have hri := ins_rise hrr hat
  have hpr : (restK s l).Pairwise (fun x y => twinK x y = false) := by unfold restK; split; exact hg2.drop; exact hg2
  have hbf : baseP s base l ≤ floorK s base l ∧ base ≤ baseP s base l ∧ baseP s base l ≤ maxT ∧ ∀ x ∈ restK s l, baseP s base l ≤ x.a := by
    unfold baseP floorK restK
    split
    · rename_i hfull
      cases e : l[0]? with
      | none =>
        rw [List.getElem?_eq_none_iff] at e
        have : (l.length : Int) = s.keep := by simpa [fullK] using hfull
        omega
      | some y =>
        dsimp only
        have hy := hg1 y (List.mem_of_getElem? e)
        refine ⟨by omega, hy.1, hy.2, fun x hx => ?_⟩
        obtain ⟨j, hj⟩ := List.getElem?_of_mem hx
        rw [List.getElem?_drop] at hj
        exact less_le (rise_lt hr e (by omega) hj)
    · exact ⟨by omega, Int.le_refl _, hb.2, fun x hx => (hg1 x hx).1⟩
  have hnew : newK base l ≤ newK (baseP s base l) (insK k (restK s l)) := by
    have hkn := new_ge (b := baseP s base l) hri (mem_ins.2 (.inl rfl))
    rcases new_is base l with ⟨_, e⟩ | ⟨x, hx, e⟩
    · rw [e]; omega
    · rw [e]
      by_cases hx0 : x ∈ restK s l
      · exact new_ge hri (mem_ins.2 (.inr hx0))
      · unfold restK at hx0
        split at hx0
        · rename_i hfull
          obtain ⟨j, hj⟩ := List.getElem?_of_mem hx
          cases j with
          | zero =>
            have : x.a ≤ floorK s base l := by
              unfold floorK
              rw [if_pos hfull, hj]
              dsimp only; omega
            omega
          | succ j =>
            refine absurd (List.mem_of_getElem? (i := j) ?_) hx0
            rw [List.getElem?_drop, Nat.add_comm]; exact hj
        · exact absurd hx hx0
  have hlr : (restK s l).length + 1 ≤ s.keep ∧ (fullK s l = true → 1 ≤ clean) := by
    unfold restK
    split
    · rename_i hfull
      have e : (l.length : Int) = s.keep := by simpa [fullK] using hfull
      refine ⟨by rw [List.length_drop]; omega, fun _ => ?_⟩
      have := (hfu hfull).2
      omega
    · rename_i hfull
      have e : ¬ (l.length : Int) = s.keep := by simpa [fullK] using hfull
      exact ⟨by omega, fun h => absurd h hfull⟩
  have hpl := pl_le k (restK s l)
  have hcp : 0 ≤ cleanP s clean l k ∧ cleanP s clean l k ≤ clean ∧ cleanP s clean l k ≤ (restK s l).length := by
    unfold cleanP
    split
    · rename_i hfull
      have := hlr.2 hfull
      omega
    · omega
  refine ⟨fits_iff.2 ⟨hc, ⟨by omega, hbf.2.2.1⟩, ?_, hri, ⟨hcp.1, ?_⟩, good_iff.2 ⟨fun x hx => ?_, pair_ins hpr htr⟩⟩, ?_, hnew, hat, hcp.2.1, hrr⟩
  · rw [ins_length]; have := hlr.1; omega
  · rw [ins_length]; omega
  · rcases mem_ins.1 hx with rfl | hx
    · exact ⟨by omega, hk.2⟩
    · exact ⟨hbf.2.2.2 x hx, (hg1 x (hsub x hx)).2⟩
  · have h1 := floor_ge s (baseP s base l) (insK k (restK s l))
    have h2 := floor_le s base l
    omega
/-- The keys are the last ones of all. -/
theorem put_all {s : SU} {base clean : Int} {l all : List K3} {k : K3} {n : Nat} (hn : s.keep = (n : Int)) (h : judgeK s base clean l k = 0) (hra : risingK all = true) (hl : l = all.drop (all.length - n)) :
    atK k all = false ∧ risingK (insK k all) = true ∧ insK k (restK s l) = (insK k all).drop ((insK k all).length - n) := by
  obtain ⟨hf, hk, htw, hfl, hfu⟩ := judge_ok h
  obtain ⟨hc, hb, hlen, hr, hcl, hg⟩ := fits_iff.1 hf
  obtain ⟨k1, k2, k3, k4, k5, k6⟩ := chk_keep hc
  have hll : l.length = all.length - (all.length - n) := by rw [hl, List.length_drop]
  have hgl : ∀ i, l[i]? = all[all.length - n + i]? := fun i => by rw [hl, List.getElem?_drop]
  generalize hm : all.length - n = m at *
  have hpl := pl_le k l
  have hpk : plK k all = m + plK k l := by
    refine pl_eq (by omega) (fun j y hj hy => ?_) (fun y hy => ?_)
    · by_cases hjm : j < m
      · have hfull : fullK s l = true := by simp [fullK]; omega
        obtain ⟨z, hz⟩ := get_some (l := l) (i := 0) (by omega)
        have h0 := (hfu hfull).1
        unfold aheadK at h0
        rw [hz] at h0
        have hzk : lessK z k = true := by
          rcases less_total h0 with h1 | h1
          · exact h1
          · have := twin_iff.1 htw z (List.mem_of_getElem? hz)
            rw [h1] at this; simp [twinK] at this
        rw [hgl, Nat.add_zero] at hz
        exact less_trans (rise_lt hra hy hjm hz) hzk
      · refine pl_lt (l := l) (k := j - m) (by omega) ?_
        rw [hgl, show m + (j - m) = j by omega]; exact hy
    · refine pl_at (l := l) ?_
      rw [hgl]; exact hy
  have hat : atK k all = false := by
    have := at_twin htw
    unfold atK at this ⊢
    rw [hpk, ← hgl]; exact this
  refine ⟨hat, ins_rise hra hat, ?_⟩
  rw [ins_length]
  unfold restK
  have hpa := pl_le k all
  split
  · rename_i hfull
    have e : (l.length : Int) = s.keep := by simpa [fullK] using hfull
    obtain ⟨z, hz⟩ := get_some (l := l) (i := 0) (by omega)
    have h0 := (hfu hfull).1
    unfold aheadK at h0
    rw [hz] at h0
    have hzk : lessK z k = true := by
      rcases less_total h0 with h1 | h1
      · exact h1
      · have := twin_iff.1 htw z (List.mem_of_getElem? hz)
        rw [h1] at this; simp [twinK] at this
    have hp1 : plK k l = plK k (l.drop 1) + 1 := by
      cases l with
      | nil => simp at hz
      | cons a l => simp at hz; subst hz; simp [plK, hzk]
    unfold insK
    rw [hpk, hp1, show all.length + 1 - n = m + 1 by omega, List.drop_append, List.length_take, List.drop_take]
    rw [show m + 1 - min (m + (plK k (l.drop 1) + 1)) all.length = 0 by omega, show m + (plK k (l.drop 1) + 1) - (m + 1) = plK k (l.drop 1) by omega, List.drop_zero]
    rw [show l.drop 1 = all.drop (m + 1) by rw [hl, List.drop_drop], List.drop_drop]
    rw [show m + 1 + plK k (all.drop (m + 1)) = m + (plK k (all.drop (m + 1)) + 1) by omega]
  · rename_i hfull
    have e : ¬ (l.length : Int) = s.keep := by simpa [fullK] using hfull
    have hm0 : m = 0 := by omega
    rw [show all.length + 1 - n = 0 by omega, List.drop_zero, hl, hm0, List.drop_zero]
end Go.Ev.R

/- The law EntryPlace, part 1: what the functions answer, by their terms. No condition. -/
import Derived.Test.YtgadiajhhjfmbaaEntryPlaceP0
set_option linter.unusedVariables false
set_option linter.unusedSimpArgs false
set_option maxRecDepth 100000
namespace Go.Ev.R
open Go Go.RowKit
theorem nat_dec (m n : Nat) : decide ((m : Int) = (n : Int)) = decide (m = n) := by
  by_cases h : m = n
  · subst h; simp
  · have : ¬ ((m : Int) = (n : Int)) := by omega
    rw [decide_eq_false h, decide_eq_false this]
def risingK (l : List K3) : Bool := upTo lessK l (l.length - 1)
theorem upTo_and (p q : K3 → K3 → Bool) (l : List K3) : ∀ n, (upTo p l n && upTo q l n) = upTo (fun x y => p x y && q x y) l n
  | 0 => rfl
  | n + 1 => by
    simp only [upTo]
    rw [← upTo_and p q l n]
    cases l[n]? with
    | none => simp
    | some x => cases l[n + 1]? with
      | none => simp
      | some y =>
        dsimp only
        cases upTo p l n <;> cases upTo q l n <;> cases p x y <;> cases q x y <;> rfl
theorem less_iff (x y : K3) : (!lessK y x && !sameK y x) = lessK x y := by
  obtain ⟨a, b, c⟩ := x
  obtain ⟨a', b', c'⟩ := y
  simp only [lessK, sameK]
  rcases Int.lt_trichotomy a a' with h1 | h1 | h1
  · simp [show ¬ a' = a by omega, show ¬ a = a' by omega, show ¬ a' < a by omega, h1]
  · subst h1
    rcases Int.lt_trichotomy b b' with h2 | h2 | h2
    · simp [show ¬ b' = b by omega, show ¬ b = b' by omega, show ¬ b' < b by omega, h2]
    · subst h2
      rcases Int.lt_trichotomy c c' with h3 | h3 | h3
      · simp [show ¬ c' = c by omega, show ¬ c' < c by omega, h3]
      · subst h3; simp
      · simp [h3]; omega
    · simp [show ¬ b' = b by omega, show ¬ b = b' by omega, show ¬ b < b' by omega, h2]
  · simp [show ¬ a' = a by omega, show ¬ a = a' by omega, show ¬ a < a' by omega, h1]
theorem rising_of (l : List K3) : (sortedK l && apartK l) = risingK l := by
  unfold sortedK apartK risingK
  rw [upTo_and]
  congr 1
  funext x y
  exact less_iff x y
section
variable {N d : Nat} (hN : 100000 ≤ N) {h : T} {s : Nat} (hf : ∀ n, s ≤ n → h.get n = none)
include hN hf
theorem s21 {p : Option Addr} {len cap : Nat} {l : List K3} (r : Row EK h p len l) (hl : len ≤ 10000) (h0 : p = none → len = 0 ∧ cap = 0) : ValS (D N (d + 5)) 21 [.slice p len cap] h s (.bool (risingK l)) := by
  refine ValS.mk fun K pw Z hp hk => ?_
  rw [D_21]; unfold F21; rw [app1_eq]
  refine (s53 hN hf r hl).use hp fun h1 s1 hs1 g1 => ?_
  rw [← rising_of] at hk
  simp (disch := omega) only [tys, bindJ_eq, logJ_eq, wp_box, wp_load, wp_cells, wp_aput, wp_anew, wp_cond, wp_guard, gd_true, gd_false, pick_eq, add_eq, sub_eq, eq_eq, ne_eq, lt_eq, le_eq, gt_eq, ge_eq, shr_eq, shl_eq, quo_eq, rem_eq, not_eq, wp_log_load, wp_log_cells, wp_log_ret, wp_log_anew, ext0, ext1, ext2, nil_eq, get_ne, get_eq, nth_0, nth_s, cells_agg, cells_int, cells_bool, cells_slice, cells_ptr, ro_zero, one_int, one_bool, one_slice, one_ptr, arr_size, overL, Nat.zero_add, Nat.reduceAdd, Nat.add_zero, List.length_cons, List.length_nil, List.all_cons, List.all_nil, Nat.reduceLeDiff, Nat.ble_eq, Bool.and_true, Bool.not_false, Bool.and_self, decide_true, List.drop_zero, List.drop_succ_cons, List.take_succ_cons, List.take_zero, List.take_nil, true_and, and_true, Int.ofNat_eq_natCast, neg_one, Int.toNat_natCast, Int.natCast_zero, Int.natCast_one, Int.cast_ofNat_Int, List.append_nil, List.nil_append]
  cases hso : sortedK l with
  | false =>
    rw [hso] at hk
    simp only [Bool.false_eq_true, if_false, Bool.false_and] at hk ⊢
    exact hk _ _ hs1 g1
  | true =>
    rw [hso] at hk
    simp only [if_true, Bool.true_and] at hk ⊢
    refine (s55 g1.fresh (r.grow hf g1) (by omega) h0).use (fun n hn => hp n (by omega)) fun v h2 s2 hs2 g2 hv => ?_
    obtain ⟨p', rfl, ho⟩ := hv
    obtain ⟨n, hn⟩ : ∃ n, len ≠ 0 → p' = some ⟨n, 0, none⟩ ∧ s1 ≤ n ∧ h2.get n = some (.cells ⟨l.flatMap kv⟩ 23 (4, 0)) := by
      by_cases h0 : len = 0
      · exact ⟨0, fun h => absurd h0 h⟩
      · obtain ⟨n, hn⟩ := ho.2 h0
        exact ⟨n, fun _ => hn⟩
    by_cases hz : len = 0
    · subst hz
      refine s54 (n := s2) hN g2.fresh r.1 hl (fun h => absurd rfl h) p' (fun h => absurd rfl h) _ pw Z (fun n hn => hp n (by omega)) (fun n hn => hp n (by omega)) fun v h3 s3 hs3 hv => ?_
      obtain ⟨hb, q, m, c', rfl, hm⟩ := hv
      simp (disch := omega) only [tys, bindJ_eq, logJ_eq, wp_box, wp_load, wp_cells, wp_aput, wp_anew, wp_cond, wp_guard, gd_true, gd_false, pick_eq, add_eq, sub_eq, eq_eq, ne_eq, lt_eq, le_eq, gt_eq, ge_eq, shr_eq, shl_eq, quo_eq, rem_eq, not_eq, wp_log_load, wp_log_cells, wp_log_ret, wp_log_anew, ext0, ext1, ext2, nil_eq, get_ne, get_eq, nth_0, nth_s, cells_agg, cells_int, cells_bool, cells_slice, cells_ptr, ro_zero, one_int, one_bool, one_slice, one_ptr, arr_size, overL, Nat.zero_add, Nat.reduceAdd, Nat.add_zero, List.length_cons, List.length_nil, List.all_cons, List.all_nil, Nat.reduceLeDiff, Nat.ble_eq, Bool.and_true, Bool.not_false, Bool.and_self, decide_true, List.drop_zero, List.drop_succ_cons, List.take_succ_cons, List.take_zero, List.take_nil, true_and, and_true, Int.ofNat_eq_natCast, neg_one, Int.toNat_natCast, Int.natCast_zero, Int.natCast_one, Int.cast_ofNat_Int, List.append_nil, List.nil_append]
      rw [← hm] at hk
      have hd : decide ((m : Int) = 0) = decide (m = 0) := by by_cases h : m = 0 <;> simp [h]
      rw [hd]
      exact hk _ _ (by omega) ⟨fun x hx => by rw [hb.keep x (by omega) (by omega), g2.keep x (by omega), g1.keep x hx], hb.fresh⟩
    · obtain ⟨hn1, hn2, hn3⟩ := hn hz
      refine s54 (n := n) hN g2.fresh r.1 hl (fun _ => hn3) p' (fun _ => hn1) _ pw Z (fun x hx => hp x (by omega)) (fun n hn => hp n (by omega)) fun v h3 s3 hs3 hv => ?_
      obtain ⟨hb, q, m, c', rfl, hm⟩ := hv
      simp (disch := omega) only [tys, bindJ_eq, logJ_eq, wp_box, wp_load, wp_cells, wp_aput, wp_anew, wp_cond, wp_guard, gd_true, gd_false, pick_eq, add_eq, sub_eq, eq_eq, ne_eq, lt_eq, le_eq, gt_eq, ge_eq, shr_eq, shl_eq, quo_eq, rem_eq, not_eq, wp_log_load, wp_log_cells, wp_log_ret, wp_log_anew, ext0, ext1, ext2, nil_eq, get_ne, get_eq, nth_0, nth_s, cells_agg, cells_int, cells_bool, cells_slice, cells_ptr, ro_zero, one_int, one_bool, one_slice, one_ptr, arr_size, overL, Nat.zero_add, Nat.reduceAdd, Nat.add_zero, List.length_cons, List.length_nil, List.all_cons, List.all_nil, Nat.reduceLeDiff, Nat.ble_eq, Bool.and_true, Bool.not_false, Bool.and_self, decide_true, List.drop_zero, List.drop_succ_cons, List.take_succ_cons, List.take_zero, List.take_nil, true_and, and_true, Int.ofNat_eq_natCast, neg_one, Int.toNat_natCast, Int.natCast_zero, Int.natCast_one, Int.cast_ofNat_Int, List.append_nil, List.nil_append]
      rw [← hm] at hk
      have hd : decide ((m : Int) = (len : Int)) = decide (m = len) := nat_dec m len
      rw [hd]
      exact hk _ _ (by omega) ⟨fun x hx => by rw [hb.keep x (by omega) (by omega), g2.keep x (by omega), g1.keep x hx], hb.fresh⟩
end
end Go.Ev.R
namespace Go.Ev.R
open Go Go.RowKit
def plK (x : K3) : List K3 → Nat
  | [] => 0
  | y :: l => if lessK y x = true then plK x l + 1 else 0
theorem pl_eq {x : K3} : ∀ {l : List K3} {i : Nat}, i ≤ l.length → (∀ k y, k < i → l[k]? = some y → lessK y x = true) → (∀ y, l[i]? = some y → lessK y x = false) → plK x l = i
  | [], i, h, _, _ => by obtain rfl : i = 0 := by simpa using h
                         rfl
  | y :: l, 0, _, _, h => by
    have := h y rfl
    simp [plK, this]
  | y :: l, i + 1, h0, h1, h2 => by
    have a := h1 0 y (by omega) rfl
    have b := pl_eq (x := x) (l := l) (i := i) (by simpa using h0) (fun k z hk hz => h1 (k + 1) z (by omega) hz) (fun z hz => h2 z hz)
    simp [plK, a, b]
def atK (x : K3) (l : List K3) : Bool := match l[plK x l]? with
  | some y => sameK y x
  | none => false
theorem less_trans {x y z : K3} (h1 : lessK x y = true) (h2 : lessK y z = true) : lessK x z = true := by
  obtain ⟨a, b, c⟩ := x
  obtain ⟨a', b', c'⟩ := y
  obtain ⟨a'', b'', c''⟩ := z
  simp only [lessK] at *
  by_cases e1 : a = a'
  · subst e1
    by_cases e2 : a = a''
    · subst e2
      simp only [if_true] at *
      by_cases e3 : b = b'
      · subst e3
        by_cases e4 : b = b''
        · subst e4
          simp only [if_true, decide_eq_true_eq] at *; omega
        · simp only [if_true, e4, if_false, decide_eq_true_eq] at *; omega
      · by_cases e4 : b' = b''
        · subst e4
          simp only [if_true, e3, if_false, decide_eq_true_eq] at *; omega
        · simp only [e3, e4, if_false, decide_eq_true_eq] at *
          rw [if_neg (by omega)]; simp; omega
    · simp only [e2, if_true, if_false, decide_eq_true_eq] at *; omega
  · by_cases e2 : a' = a''
    · subst e2
      simp only [e1, if_true, if_false, decide_eq_true_eq] at *; omega
    · simp only [e1, e2, if_false, decide_eq_true_eq] at *
      rw [if_neg (by omega)]; simp; omega
theorem upTo_get {p : K3 → K3 → Bool} {l : List K3} : ∀ {n i : Nat} {x y : K3}, upTo p l n = true → i < n → l[i]? = some x → l[i + 1]? = some y → p x y = true
  | n + 1, i, x, y, h, hi, hx, hy => by
    have h : (upTo p l n && (match l[n]?, l[n + 1]? with | some x, some y => p x y | _, _ => true)) = true := h
    rw [Bool.and_eq_true] at h
    rcases Nat.lt_or_ge i n with h1 | h1
    · exact upTo_get h.1 h1 hx hy
    · obtain rfl : i = n := by omega
      have := h.2
      rw [hx, hy] at this
      exact this
theorem rise_lt {l : List K3} (h : risingK l = true) {i : Nat} {x : K3} (hx : l[i]? = some x) : ∀ {j : Nat} {y : K3}, i < j → l[j]? = some y → lessK x y = true
  | j + 1, y, hij, hy => by
    have hj : j + 1 < l.length := (List.getElem?_eq_some_iff.1 hy).1
    obtain ⟨z, hz⟩ := get_some (l := l) (i := j) (by omega)
    have h1 : lessK z y = true := upTo_get (n := l.length - 1) h (by omega) hz hy
    rcases Nat.lt_or_ge i j with h2 | h2
    · exact less_trans (rise_lt h hx h2 hz) h1
    · obtain rfl : i = j := by omega
      rw [hx] at hz
      cases hz; exact h1
theorem pl_rise {l : List K3} (h : risingK l = true) {x : K3} {i : Nat} (hi : i ≤ l.length) (h1 : ∀ k y, k + 1 = i → l[k]? = some y → lessK y x = true) (h2 : ∀ y, l[i]? = some y → lessK y x = false) : plK x l = i := by
  refine pl_eq hi (fun k y hk hy => ?_) h2
  obtain ⟨j, rfl⟩ : ∃ j, i = j + 1 := ⟨i - 1, by omega⟩
  obtain ⟨z, hz⟩ := get_some (l := l) (i := j) (by omega)
  have h3 := h1 j z rfl hz
  rcases Nat.lt_or_ge k j with h4 | h4
  · exact less_trans (rise_lt h hy h4 hz) h3
  · obtain rfl : k = j := by omega
    rw [hy] at hz
    cases hz; exact h3
theorem ordK_eq (x y : K3) : decide (ordK x y = 0) = sameK x y := by
  obtain ⟨a, b, c⟩ := x
  obtain ⟨a', b', c'⟩ := y
  simp only [ordK, firstNZ, cmpI, sameK]
  rcases Int.lt_trichotomy a a' with h1 | h1 | h1
  · simp [h1, show ¬ a = a' by omega]
  · subst h1
    rcases Int.lt_trichotomy b b' with h2 | h2 | h2
    · simp [h2, show ¬ b = b' by omega]
    · subst h2
      rcases Int.lt_trichotomy c c' with h3 | h3 | h3
      · simp [h3, show ¬ c = c' by omega]
      · subst h3; simp
      · simp [h3, show ¬ c < c' by omega, show ¬ c = c' by omega]
    · simp [h2, show ¬ b < b' by omega, show ¬ b = b' by omega]
  · simp [h1, show ¬ a < a' by omega, show ¬ a = a' by omega]
theorem box3 {h : T} {n : Nat} {x : K3} {t : TypeId} {f : Nat × Nat} (hg : h.get n = some (.cells ⟨kv x⟩ t f)) {pw : Nat → Prop} {Z : Value → T → Prop} (k : List Value → Nat → AM) (s : Nat) :
    (acells n 0 3 k s).wp pw Z h = (k (kv x) s).wp pw Z h := by
  have r : Row EK h (some ⟨n, 0, none⟩) 1 [x] := .of_cells (t := t) (f := f) (by rw [hg]; simp [EK]) rfl
  have := row3 r (i := 0) (x := x) rfl (pw := pw) (Z := Z) k s
  exact this
theorem box3L {h : T} {n : Nat} {x : K3} {t : TypeId} {f : Nat × Nat} (hg : h.get n = some (.cells ⟨kv x⟩ t f)) {pw : Nat → Prop} {Z : Value → T → Prop} (q : List Value → Value) (k : LogT) (s : Nat) :
    (AM.log (acells n 0 3 (fun l s => .ret (pk (q l) s)) s) (logU k)).wp pw Z h = (k (q (kv x)) [n] [] s).wp pw Z h := by
  have r : Row EK h (some ⟨n, 0, none⟩) 1 [x] := .of_cells (t := t) (f := f) (by rw [hg]; simp [EK]) rfl
  exact row3L r (i := 0) (x := x) rfl q k s
theorem half (a : Int) (h0 : 0 ≤ a) (h1 : a < 1000000) : IntKind.wrap .i64 ((IntKind.wrap .u64 a).fdiv (2 ^ (min 1 (IntKind.bits .u64)))) = a / 2 := by
  rw [wrap_in .u64 a (.inr ⟨rfl, by omega, by omega⟩)]
  have : (2 : Int) ^ (min 1 (IntKind.bits .u64)) = 2 := by rfl
  rw [this, Int.fdiv_eq_ediv_of_nonneg _ (by omega), wrap_id (by omega) (by omega)]
end Go.Ev.R
namespace Go.Ev.R
open Go Go.RowKit
theorem shr1 {P : Program} (t yt : TypeId) (cx cy : Bool) (k1 k2 : IntKind) (a : Int) (k : Value → Nat → AM) (s : Nat) : shrX P t yt cx cy (.int k1 a) (.int k2 1) k s = k (.int k1 (a.fdiv (2 ^ (min 1 k1.bits)))) s := shr_eq t yt cx cy k1 k2 a 1 k s
section
variable {N d : Nat} (hN : 100000 ≤ N) {h : T} {s : Nat} (hf : ∀ n, s ≤ n → h.get n = none)
include hN hf
theorem s51 {p : Option Addr} {len cap : Nat} {l : List K3} (r : Row EK h p len l) (hl : len ≤ 10000) (x : K3) (hrise : risingK l = true) : ValS (D N (d + 4)) 51 [.slice p len cap, kval x, .func (.func 52) ⟨[]⟩ ⟨[]⟩] h s (.tuple ⟨[.int .i64 (plK x l : Int), .bool (atK x l)]⟩) := by
  refine ValS.mk fun K pw Z hp hk => ?_
  rw [D_51]; unfold F51; rw [app3_eq]
  simp (disch := omega) only [tys, bindJ_eq, logJ_eq, wp_box, wp_aput, wp_anew, wp_cond, wp_guard, gd_true, gd_false, pick_eq, add_eq, sub_eq, eq_eq, ne_eq, lt_eq, le_eq, gt_eq, ge_eq, shr_eq, shl_eq, quo_eq, rem_eq, not_eq, wp_log_ret, wp_log_anew, ext0, ext1, ext2, nil_eq, get_ne, get_eq, nth_0, nth_s, cells_agg, cells_int, cells_bool, cells_slice, cells_ptr, ro_zero, one_int, one_bool, one_slice, one_ptr, arr_size, overL, Nat.zero_add, Nat.reduceAdd, Nat.add_zero, List.length_cons, List.length_nil, List.all_cons, List.all_nil, Nat.reduceLeDiff, Nat.ble_eq, Bool.and_true, Bool.not_false, Bool.and_self, decide_true, List.drop_zero, List.drop_succ_cons, List.take_succ_cons, List.take_zero, List.take_nil, true_and, and_true, Int.ofNat_eq_natCast, neg_one, Int.toNat_natCast, Int.natCast_zero, Int.natCast_one, Int.cast_ofNat_Int, List.append_nil, List.nil_append, hf, hp, kval]
  have hb : (h.set s (.cells ⟨kv x⟩ 23 (0, 0))).get s = some (.cells ⟨kv x⟩ 23 (0, 0)) := get_eq
  have hf1 : ∀ n, s + 1 ≤ n → (h.set s (.cells ⟨kv x⟩ 23 (0, 0))).get n = none := (fun n hn => by simp (disch := omega) only [get_ne, hf])
  have hk1 : ∀ n, n < s → (h.set s (.cells ⟨kv x⟩ 23 (0, 0))).get n = h.get n := fun n hn => by simp (disch := omega) only [get_ne]
  have r0 : Row EK (h.set s (.cells ⟨kv x⟩ 23 (0, 0))) p len l := r.grow hf ⟨hk1, fun n hn => hf1 n hn⟩
  replace hk : ∀ h' s', s + 1 ≤ s' → Grow (s + 1) (h.set s (.cells ⟨kv x⟩ 23 (0, 0))) h' s' → (K (.tuple ⟨[.int .i64 (plK x l : Int), .bool (atK x l)]⟩) s').wp pw Z h' := fun h' s' hs' g' => hk h' s' (by omega) ⟨fun n hn => by rw [g'.keep n (by omega), hk1 n hn], g'.fresh⟩
  generalize h.set s (.cells ⟨kv x⟩ 23 (0, 0)) = h0 at *
  have loop : ∀ (J : Value → Nat → AM) (hJ : ∀ (i : Nat) (h1 : T) (s1 : Nat), i ≤ len → plK x l = i → s + 1 ≤ s1 → Grow (s + 1) h0 h1 s1 → (J (.int .i64 (i : Int)) s1).wp pw Z h1) (B : (Value → Value → Nat → AM) → Value → Value → Nat → AM) (hB : ∀ H u i s', B H u i s' = X51_3 N (D N (d + 3)) K (.slice p len cap) (.pointer (some ⟨s, 0, none⟩)) (.func (.func 52) ⟨[]⟩ ⟨[]⟩) J H u i s') (m i j : Nat) (h1 : T) (s1 : Nat), j - i < m → i ≤ j → j ≤ len → (∀ k y, k + 1 = i → l[k]? = some y → lessK y x = true) → (∀ y, l[j]? = some y → lessK y x = false) → s + 1 ≤ s1 → Grow (s + 1) h0 h1 s1 →
      (loopJ m 2 (fun _ _ _ => AM.fail) B (.int .i64 (i : Int)) (.int .i64 (j : Int)) s1).wp pw Z h1 := by
    intro J hJ B hB m
    induction m with
    | zero => intro i j h1 s1 h2; omega
    | succ m ih =>
      intro i j h1 s1 hm hij hjl hi hj hs1 g1
      have r1 := r0.grow hf1 g1
      have hb1 : h1.get s = some (.cells ⟨kv x⟩ 23 (0, 0)) := by rw [g1.keep s (by omega)]; exact hb
      rw [loopJ_succ, hB]
      unfold X51_3
      simp (disch := omega) only [tys, bindJ_eq, logJ_eq, wp_box, wp_load, wp_cells, wp_aput, wp_anew, wp_cond, wp_guard, gd_true, gd_false, pick_eq, add_eq, sub_eq, eq_eq, ne_eq, lt_eq, le_eq, gt_eq, ge_eq, shr_eq, shl_eq, quo_eq, rem_eq, not_eq, wp_log_load, wp_log_cells, wp_log_ret, wp_log_anew, ext0, ext1, ext2, nil_eq, get_ne, get_eq, nth_0, nth_s, cells_agg, cells_int, cells_bool, cells_slice, cells_ptr, ro_zero, one_int, one_bool, one_slice, one_ptr, arr_size, overL, Nat.zero_add, Nat.reduceAdd, Nat.add_zero, List.length_cons, List.length_nil, List.all_cons, List.all_nil, Nat.reduceLeDiff, Nat.ble_eq, Bool.and_true, Bool.not_false, Bool.and_self, decide_true, List.drop_zero, List.drop_succ_cons, List.take_succ_cons, List.take_zero, List.take_nil, true_and, and_true, Int.ofNat_eq_natCast, neg_one, Int.toNat_natCast, Int.natCast_zero, Int.natCast_one, Int.cast_ofNat_Int, List.append_nil, List.nil_append]
      by_cases hlt : i < j
      · obtain ⟨y, hy⟩ := get_some (l := l) (i := (i + j) / 2) (by rw [r.1]; omega)
        have e1 : ((i : Int) + (j : Int)) / 2 = (((i + j) / 2 : Nat) : Int) := by omega
        have e2 : (((i + j) / 2 : Nat) : Int) + 1 = (((i + j) / 2 + 1 : Nat) : Int) := by omega
        simp (disch := omega) only [tys, bindJ_eq, logJ_eq, wp_box, wp_aput, wp_anew, wp_cond, wp_guard, gd_true, gd_false, pick_eq, add_eq, sub_eq, eq_eq, ne_eq, lt_eq, le_eq, gt_eq, ge_eq, shr_eq, shl_eq, quo_eq, rem_eq, not_eq, wp_log_ret, wp_log_anew, ext0, ext1, ext2, nil_eq, get_ne, get_eq, nth_0, nth_s, cells_agg, cells_int, cells_bool, cells_slice, cells_ptr, ro_zero, one_int, one_bool, one_slice, one_ptr, arr_size, overL, Nat.zero_add, Nat.reduceAdd, Nat.add_zero, List.length_cons, List.length_nil, List.all_cons, List.all_nil, Nat.reduceLeDiff, Nat.ble_eq, Bool.and_true, Bool.not_false, Bool.and_self, decide_true, List.drop_zero, List.drop_succ_cons, List.take_succ_cons, List.take_zero, List.take_nil, true_and, and_true, Int.ofNat_eq_natCast, neg_one, Int.toNat_natCast, Int.natCast_zero, Int.natCast_one, Int.cast_ofNat_Int, List.append_nil, List.nil_append, show (i : Int) < (j : Int) by omega, if_true, wrap_id (a := (i : Int) + (j : Int)) (by omega) (by omega), cv_3_103, cv_103_3, shr1, half ((i : Int) + (j : Int)) (by omega) (by omega), e1, xa3 r1 (j := (((i + j) / 2 : Nat) : Int)) (by omega) (by omega), row3L r1 hy, box3L hb1, iv_52, List.cons_append]
        refine (s52 hN g1.fresh y x).log (fun n hn => hp n (by omega)) fun h2 s2 ts2 ws2 hs2 g2 hw2 => ?_
        simp (disch := omega) only [tys, bindJ_eq, logJ_eq, wp_box, wp_aput, wp_anew, wp_cond, wp_guard, gd_true, gd_false, pick_eq, add_eq, sub_eq, eq_eq, ne_eq, lt_eq, le_eq, gt_eq, ge_eq, shr_eq, shl_eq, quo_eq, rem_eq, not_eq, wp_log_ret, wp_log_anew, ext0, ext1, ext2, nil_eq, get_ne, get_eq, nth_0, nth_s, cells_agg, cells_int, cells_bool, cells_slice, cells_ptr, ro_zero, one_int, one_bool, one_slice, one_ptr, arr_size, overL, Nat.zero_add, Nat.reduceAdd, Nat.add_zero, List.length_cons, List.length_nil, List.all_cons, List.all_nil, Nat.reduceLeDiff, Nat.ble_eq, Bool.and_true, Bool.not_false, Bool.and_self, decide_true, List.drop_zero, List.drop_succ_cons, List.take_succ_cons, List.take_zero, List.take_nil, true_and, and_true, Int.ofNat_eq_natCast, neg_one, Int.toNat_natCast, Int.natCast_zero, Int.natCast_one, Int.cast_ofNat_Int, List.append_nil, List.nil_append, ordK_lt, e2, wrap_id (a := (((i + j) / 2 + 1 : Nat) : Int)) (by omega) (by omega)]
        cases hyx : lessK y x with
        | true =>
          simp only [if_true]
          exact ih ((i + j) / 2 + 1) j h2 s2 (by omega) (by omega) hjl (fun k z hk hz => by
            obtain rfl : k = (i + j) / 2 := by omega
            rw [hy] at hz; cases hz; exact hyx) hj (by omega) (g1.trans hs1 g2)
        | false =>
          simp only [Bool.false_eq_true, if_false]
          exact ih i ((i + j) / 2) h2 s2 (by omega) (by omega) (by omega) hi (fun z hz => by rw [hy] at hz; cases hz; exact hyx) (by omega) (g1.trans hs1 g2)
      · obtain rfl : i = j := by omega
        simp only [Int.lt_irrefl, decide_false, Bool.false_eq_true, if_false]
        exact hJ i h1 s1 hjl (pl_rise hrise (by rw [r.1]; exact hjl) hi hj) hs1 g1
  refine loop _ (fun i h1 s1 hil hpl hs1 g1 => ?_) _ (fun _ _ _ _ => rfl) N 0 len h0 (s + 1) (by omega) (by omega) (by omega) (fun k y hk => by omega) (fun y hy => ?_) (Nat.le_refl _) (.refl hf1)
  · have r1 := r0.grow hf1 g1
    have hb1 : h1.get s = some (.cells ⟨kv x⟩ 23 (0, 0)) := by rw [g1.keep s (by omega)]; exact hb
    simp (disch := omega) only [tys, bindJ_eq, logJ_eq, wp_box, wp_load, wp_cells, wp_aput, wp_anew, wp_cond, wp_guard, gd_true, gd_false, pick_eq, add_eq, sub_eq, eq_eq, ne_eq, lt_eq, le_eq, gt_eq, ge_eq, shr_eq, shl_eq, quo_eq, rem_eq, not_eq, wp_log_load, wp_log_cells, wp_log_ret, wp_log_anew, ext0, ext1, ext2, nil_eq, get_ne, get_eq, nth_0, nth_s, cells_agg, cells_int, cells_bool, cells_slice, cells_ptr, ro_zero, one_int, one_bool, one_slice, one_ptr, arr_size, overL, Nat.zero_add, Nat.reduceAdd, Nat.add_zero, List.length_cons, List.length_nil, List.all_cons, List.all_nil, Nat.reduceLeDiff, Nat.ble_eq, Bool.and_true, Bool.not_false, Bool.and_self, decide_true, List.drop_zero, List.drop_succ_cons, List.take_succ_cons, List.take_zero, List.take_nil, true_and, and_true, Int.ofNat_eq_natCast, neg_one, Int.toNat_natCast, Int.natCast_zero, Int.natCast_one, Int.cast_ofNat_Int, List.append_nil, List.nil_append]
    by_cases hil : i < len
    · obtain ⟨y, hy⟩ := get_some (l := l) (i := i) (by rw [r.1]; omega)
      have hat : atK x l = sameK y x := by unfold atK; rw [hpl, hy]
      simp (disch := omega) only [tys, bindJ_eq, logJ_eq, wp_box, wp_aput, wp_anew, wp_cond, wp_guard, gd_true, gd_false, pick_eq, add_eq, sub_eq, eq_eq, ne_eq, lt_eq, le_eq, gt_eq, ge_eq, shr_eq, shl_eq, quo_eq, rem_eq, not_eq, wp_log_ret, wp_log_anew, ext0, ext1, ext2, nil_eq, get_ne, get_eq, nth_0, nth_s, cells_agg, cells_int, cells_bool, cells_slice, cells_ptr, ro_zero, one_int, one_bool, one_slice, one_ptr, arr_size, overL, Nat.zero_add, Nat.reduceAdd, Nat.add_zero, List.length_cons, List.length_nil, List.all_cons, List.all_nil, Nat.reduceLeDiff, Nat.ble_eq, Bool.and_true, Bool.not_false, Bool.and_self, decide_true, List.drop_zero, List.drop_succ_cons, List.take_succ_cons, List.take_zero, List.take_nil, true_and, and_true, Int.ofNat_eq_natCast, neg_one, Int.toNat_natCast, Int.natCast_zero, Int.natCast_one, Int.cast_ofNat_Int, List.append_nil, List.nil_append, show (i : Int) < (len : Int) by omega, if_true, X51_2, X51_1, xa3 r1 (j := (i : Int)) (by omega) (by omega), row3L r1 hy, box3L hb1, iv_52, List.cons_append]
      refine (s52 hN g1.fresh y x).log (fun n hn => hp n (by omega)) fun h2 s2 ts2 ws2 hs2 g2 hw2 => ?_
      simp (disch := omega) only [tys, bindJ_eq, logJ_eq, wp_box, wp_aput, wp_anew, wp_cond, wp_guard, gd_true, gd_false, pick_eq, add_eq, sub_eq, eq_eq, ne_eq, lt_eq, le_eq, gt_eq, ge_eq, shr_eq, shl_eq, quo_eq, rem_eq, not_eq, wp_log_ret, wp_log_anew, ext0, ext1, ext2, nil_eq, get_ne, get_eq, nth_0, nth_s, cells_agg, cells_int, cells_bool, cells_slice, cells_ptr, ro_zero, one_int, one_bool, one_slice, one_ptr, arr_size, overL, Nat.zero_add, Nat.reduceAdd, Nat.add_zero, List.length_cons, List.length_nil, List.all_cons, List.all_nil, Nat.reduceLeDiff, Nat.ble_eq, Bool.and_true, Bool.not_false, Bool.and_self, decide_true, List.drop_zero, List.drop_succ_cons, List.take_succ_cons, List.take_zero, List.take_nil, true_and, and_true, Int.ofNat_eq_natCast, neg_one, Int.toNat_natCast, Int.natCast_zero, Int.natCast_one, Int.cast_ofNat_Int, List.append_nil, List.nil_append, if_true, ordK_eq]
      rw [hpl, hat] at hk
      exact hk _ _ (by omega) (g1.trans hs1 g2)
    · have hat : atK x l = false := by unfold atK; rw [hpl, List.getElem?_eq_none (by rw [r.1]; omega)]
      simp (disch := omega) only [tys, bindJ_eq, logJ_eq, wp_box, wp_aput, wp_anew, wp_cond, wp_guard, gd_true, gd_false, pick_eq, add_eq, sub_eq, eq_eq, ne_eq, lt_eq, le_eq, gt_eq, ge_eq, shr_eq, shl_eq, quo_eq, rem_eq, not_eq, wp_log_ret, wp_log_anew, ext0, ext1, ext2, nil_eq, get_ne, get_eq, nth_0, nth_s, cells_agg, cells_int, cells_bool, cells_slice, cells_ptr, ro_zero, one_int, one_bool, one_slice, one_ptr, arr_size, overL, Nat.zero_add, Nat.reduceAdd, Nat.add_zero, List.length_cons, List.length_nil, List.all_cons, List.all_nil, Nat.reduceLeDiff, Nat.ble_eq, Bool.and_true, Bool.not_false, Bool.and_self, decide_true, List.drop_zero, List.drop_succ_cons, List.take_succ_cons, List.take_zero, List.take_nil, true_and, and_true, Int.ofNat_eq_natCast, neg_one, Int.toNat_natCast, Int.natCast_zero, Int.natCast_one, Int.cast_ofNat_Int, List.append_nil, List.nil_append, show ¬ (i : Int) < (len : Int) by omega, decide_false, Bool.false_eq_true, if_false, X51_2, X51_1]
      rw [hpl, hat] at hk
      exact hk _ _ (by omega) g1
  · have := (List.getElem?_eq_some_iff.1 hy).1
    rw [r.1] at this; omega
end
end Go.Ev.R
namespace Go.Ev.R
open Go Go.RowKit
def findK (x : K3) (l : List K3) : List Value := if risingK l = true then [.int .i64 (plK x l : Int), .bool (atK x l)] else [.int .i64 0, .bool false]
section
variable {N d : Nat} (hN : 100000 ≤ N) {h : T} {s : Nat} (hf : ∀ n, s ≤ n → h.get n = none)
include hN hf
theorem s15 {p : Option Addr} {len cap : Nat} {l : List K3} (r : Row EK h p len l) (hl : len ≤ 10000) (h0 : p = none → len = 0 ∧ cap = 0) (x : K3) : ValS (D N (d + 6)) 15 [.slice p len cap, kval x] h s (.tuple ⟨findK x l⟩) := by
  refine ValS.mk fun K pw Z hp hk => ?_
  rw [D_15]; unfold F15; rw [app2_eq]
  simp (disch := omega) only [tys, bindJ_eq, logJ_eq, wp_box, wp_aput, wp_anew, wp_cond, wp_guard, gd_true, gd_false, pick_eq, add_eq, sub_eq, eq_eq, ne_eq, lt_eq, le_eq, gt_eq, ge_eq, shr_eq, shl_eq, quo_eq, rem_eq, not_eq, wp_log_ret, wp_log_anew, ext0, ext1, ext2, nil_eq, get_ne, get_eq, nth_0, nth_s, cells_agg, cells_int, cells_bool, cells_slice, cells_ptr, ro_zero, one_int, one_bool, one_slice, one_ptr, arr_size, overL, Nat.zero_add, Nat.reduceAdd, Nat.add_zero, List.length_cons, List.length_nil, List.all_cons, List.all_nil, Nat.reduceLeDiff, Nat.ble_eq, Bool.and_true, Bool.not_false, Bool.and_self, decide_true, List.drop_zero, List.drop_succ_cons, List.take_succ_cons, List.take_zero, List.take_nil, true_and, and_true, Int.ofNat_eq_natCast, neg_one, Int.toNat_natCast, Int.natCast_zero, Int.natCast_one, Int.cast_ofNat_Int, List.append_nil, List.nil_append, hf, hp, kval]
  have hb : (h.set s (.cells ⟨kv x⟩ 23 (0, 0))).get s = some (.cells ⟨kv x⟩ 23 (0, 0)) := get_eq
  have hf1 : ∀ n, s + 1 ≤ n → (h.set s (.cells ⟨kv x⟩ 23 (0, 0))).get n = none := (fun n hn => by simp (disch := omega) only [get_ne, hf])
  have hk1 : ∀ n, n < s → (h.set s (.cells ⟨kv x⟩ 23 (0, 0))).get n = h.get n := fun n hn => by simp (disch := omega) only [get_ne]
  have r0 : Row EK (h.set s (.cells ⟨kv x⟩ 23 (0, 0))) p len l := r.grow hf ⟨hk1, fun n hn => hf1 n hn⟩
  replace hk : ∀ h' s', s + 1 ≤ s' → Grow (s + 1) (h.set s (.cells ⟨kv x⟩ 23 (0, 0))) h' s' → (K (.tuple ⟨findK x l⟩) s').wp pw Z h' := fun h' s' hs' g' => hk h' s' (by omega) ⟨fun n hn => by rw [g'.keep n (by omega), hk1 n hn], g'.fresh⟩
  generalize h.set s (.cells ⟨kv x⟩ 23 (0, 0)) = h0' at *
  refine (s21 hN hf1 r0 hl h0).use (fun n hn => hp n (by omega)) fun h1 s1 hs1 g1 => ?_
  cases hr : risingK l with
  | false =>
    simp (disch := omega) only [tys, bindJ_eq, logJ_eq, wp_box, wp_aput, wp_anew, wp_cond, wp_guard, gd_true, gd_false, pick_eq, add_eq, sub_eq, eq_eq, ne_eq, lt_eq, le_eq, gt_eq, ge_eq, shr_eq, shl_eq, quo_eq, rem_eq, not_eq, wp_log_ret, wp_log_anew, ext0, ext1, ext2, nil_eq, get_ne, get_eq, nth_0, nth_s, cells_agg, cells_int, cells_bool, cells_slice, cells_ptr, ro_zero, one_int, one_bool, one_slice, one_ptr, arr_size, overL, Nat.zero_add, Nat.reduceAdd, Nat.add_zero, List.length_cons, List.length_nil, List.all_cons, List.all_nil, Nat.reduceLeDiff, Nat.ble_eq, Bool.and_true, Bool.not_false, Bool.and_self, decide_true, List.drop_zero, List.drop_succ_cons, List.take_succ_cons, List.take_zero, List.take_nil, true_and, and_true, Int.ofNat_eq_natCast, neg_one, Int.toNat_natCast, Int.natCast_zero, Int.natCast_one, Int.cast_ofNat_Int, List.append_nil, List.nil_append, Bool.not_false, if_true]
    simp only [findK, hr, Bool.false_eq_true, if_false] at hk
    exact hk h1 s1 hs1 g1
  | true =>
    have r1 := r0.grow hf1 g1
    have hb1 : h1.get s = some (.cells ⟨kv x⟩ 23 (0, 0)) := by rw [g1.keep s (by omega)]; exact hb
    simp (disch := omega) only [tys, bindJ_eq, logJ_eq, wp_box, wp_aput, wp_anew, wp_cond, wp_guard, gd_true, gd_false, pick_eq, add_eq, sub_eq, eq_eq, ne_eq, lt_eq, le_eq, gt_eq, ge_eq, shr_eq, shl_eq, quo_eq, rem_eq, not_eq, wp_log_ret, wp_log_anew, ext0, ext1, ext2, nil_eq, get_ne, get_eq, nth_0, nth_s, cells_agg, cells_int, cells_bool, cells_slice, cells_ptr, ro_zero, one_int, one_bool, one_slice, one_ptr, arr_size, overL, Nat.zero_add, Nat.reduceAdd, Nat.add_zero, List.length_cons, List.length_nil, List.all_cons, List.all_nil, Nat.reduceLeDiff, Nat.ble_eq, Bool.and_true, Bool.not_false, Bool.and_self, decide_true, List.drop_zero, List.drop_succ_cons, List.take_succ_cons, List.take_zero, List.take_nil, true_and, and_true, Int.ofNat_eq_natCast, neg_one, Int.toNat_natCast, Int.natCast_zero, Int.natCast_one, Int.cast_ofNat_Int, List.append_nil, List.nil_append, Bool.not_true, Bool.false_eq_true, if_false, box3 hb1]
    refine (s51 hN g1.fresh r1 hl x hr).use (fun n hn => hp n (by omega)) fun h2 s2 hs2 g2 => ?_
    simp (disch := omega) only [tys, bindJ_eq, logJ_eq, wp_box, wp_aput, wp_anew, wp_cond, wp_guard, gd_true, gd_false, pick_eq, add_eq, sub_eq, eq_eq, ne_eq, lt_eq, le_eq, gt_eq, ge_eq, shr_eq, shl_eq, quo_eq, rem_eq, not_eq, wp_log_ret, wp_log_anew, ext0, ext1, ext2, nil_eq, get_ne, get_eq, nth_0, nth_s, cells_agg, cells_int, cells_bool, cells_slice, cells_ptr, ro_zero, one_int, one_bool, one_slice, one_ptr, arr_size, overL, Nat.zero_add, Nat.reduceAdd, Nat.add_zero, List.length_cons, List.length_nil, List.all_cons, List.all_nil, Nat.reduceLeDiff, Nat.ble_eq, Bool.and_true, Bool.not_false, Bool.and_self, decide_true, List.drop_zero, List.drop_succ_cons, List.take_succ_cons, List.take_zero, List.take_nil, true_and, and_true, Int.ofNat_eq_natCast, neg_one, Int.toNat_natCast, Int.natCast_zero, Int.natCast_one, Int.cast_ofNat_Int, List.append_nil, List.nil_append]
    simp only [findK, hr, if_true] at hk
    exact hk h2 s2 (by omega) (g1.trans hs1 g2)
end
end Go.Ev.R
namespace Go.Ev.R
open Go Go.RowKit
theorem eqb_4 (a b : Bool) (k : Value → Nat → AM) (s : Nat) : eqX P 4 4 false false (.bool a) (.bool b) k s = k (.bool (a == b)) s := by cases a <;> cases b <;> kernel_rfl
section
variable {N d : Nat} (hN : 100000 ≤ N) {h : T} {s : Nat} (hf : ∀ n, s ≤ n → h.get n = none)
include hN hf
theorem s25 {p : Option Addr} {len cap : Nat} {l : List K3} (r : Row EK h p len l) (hl : len ≤ 10000) (h0 : p = none → len = 0 ∧ cap = 0) (x : K3) (n : Int) (b : Bool) (hfi : findK x l = [.int .i64 n, .bool b]) : ValS (D N (d + 7)) 25 [.slice p len cap, kval x, .int .i64 n, .bool b] h s (.bool true) := by
  refine ValS.mk fun K pw Z hp hk => ?_
  rw [D_25]; unfold F25; rw [app4_eq]
  simp (disch := omega) only [tys, bindJ_eq, logJ_eq, wp_box, wp_aput, wp_anew, wp_cond, wp_guard, gd_true, gd_false, pick_eq, add_eq, sub_eq, eq_eq, ne_eq, lt_eq, le_eq, gt_eq, ge_eq, shr_eq, shl_eq, quo_eq, rem_eq, not_eq, wp_log_ret, wp_log_anew, ext0, ext1, ext2, nil_eq, get_ne, get_eq, nth_0, nth_s, cells_agg, cells_int, cells_bool, cells_slice, cells_ptr, ro_zero, one_int, one_bool, one_slice, one_ptr, arr_size, overL, Nat.zero_add, Nat.reduceAdd, Nat.add_zero, List.length_cons, List.length_nil, List.all_cons, List.all_nil, Nat.reduceLeDiff, Nat.ble_eq, Bool.and_true, Bool.not_false, Bool.and_self, decide_true, List.drop_zero, List.drop_succ_cons, List.take_succ_cons, List.take_zero, List.take_nil, true_and, and_true, Int.ofNat_eq_natCast, neg_one, Int.toNat_natCast, Int.natCast_zero, Int.natCast_one, Int.cast_ofNat_Int, List.append_nil, List.nil_append, hf, hp, kval]
  have hb : (h.set s (.cells ⟨kv x⟩ 23 (0, 0))).get s = some (.cells ⟨kv x⟩ 23 (0, 0)) := get_eq
  have hf1 : ∀ n, s + 1 ≤ n → (h.set s (.cells ⟨kv x⟩ 23 (0, 0))).get n = none := (fun n hn => by simp (disch := omega) only [get_ne, hf])
  have hk1 : ∀ n, n < s → (h.set s (.cells ⟨kv x⟩ 23 (0, 0))).get n = h.get n := fun n hn => by simp (disch := omega) only [get_ne]
  have r0 : Row EK (h.set s (.cells ⟨kv x⟩ 23 (0, 0))) p len l := r.grow hf ⟨hk1, fun n hn => hf1 n hn⟩
  replace hk : ∀ h' s', s + 1 ≤ s' → Grow (s + 1) (h.set s (.cells ⟨kv x⟩ 23 (0, 0))) h' s' → (K (.bool true) s').wp pw Z h' := fun h' s' hs' g' => hk h' s' (by omega) ⟨fun n hn => by rw [g'.keep n (by omega), hk1 n hn], g'.fresh⟩
  generalize h.set s (.cells ⟨kv x⟩ 23 (0, 0)) = h0' at *
  simp (disch := omega) only [tys, bindJ_eq, logJ_eq, wp_box, wp_aput, wp_anew, wp_cond, wp_guard, gd_true, gd_false, pick_eq, add_eq, sub_eq, eq_eq, ne_eq, lt_eq, le_eq, gt_eq, ge_eq, shr_eq, shl_eq, quo_eq, rem_eq, not_eq, wp_log_ret, wp_log_anew, ext0, ext1, ext2, nil_eq, get_ne, get_eq, nth_0, nth_s, cells_agg, cells_int, cells_bool, cells_slice, cells_ptr, ro_zero, one_int, one_bool, one_slice, one_ptr, arr_size, overL, Nat.zero_add, Nat.reduceAdd, Nat.add_zero, List.length_cons, List.length_nil, List.all_cons, List.all_nil, Nat.reduceLeDiff, Nat.ble_eq, Bool.and_true, Bool.not_false, Bool.and_self, decide_true, List.drop_zero, List.drop_succ_cons, List.take_succ_cons, List.take_zero, List.take_nil, true_and, and_true, Int.ofNat_eq_natCast, neg_one, Int.toNat_natCast, Int.natCast_zero, Int.natCast_one, Int.cast_ofNat_Int, List.append_nil, List.nil_append, box3 hb]
  refine (s15 hN hf1 r0 hl h0 x).use (fun n hn => hp n (by omega)) fun h1 s1 hs1 g1 => ?_
  rw [hfi]
  simp (disch := omega) only [tys, bindJ_eq, logJ_eq, wp_box, wp_aput, wp_anew, wp_cond, wp_guard, gd_true, gd_false, pick_eq, add_eq, sub_eq, eq_eq, ne_eq, lt_eq, le_eq, gt_eq, ge_eq, shr_eq, shl_eq, quo_eq, rem_eq, not_eq, wp_log_ret, wp_log_anew, ext0, ext1, ext2, nil_eq, get_ne, get_eq, nth_0, nth_s, cells_agg, cells_int, cells_bool, cells_slice, cells_ptr, ro_zero, one_int, one_bool, one_slice, one_ptr, arr_size, overL, Nat.zero_add, Nat.reduceAdd, Nat.add_zero, List.length_cons, List.length_nil, List.all_cons, List.all_nil, Nat.reduceLeDiff, Nat.ble_eq, Bool.and_true, Bool.not_false, Bool.and_self, decide_true, List.drop_zero, List.drop_succ_cons, List.take_succ_cons, List.take_zero, List.take_nil, true_and, and_true, Int.ofNat_eq_natCast, neg_one, Int.toNat_natCast, Int.natCast_zero, Int.natCast_one, Int.cast_ofNat_Int, List.append_nil, List.nil_append, if_true, eqb_4]
  cases b <;> exact hk h1 s1 hs1 g1
theorem s13 : ValS (D N (d + 8)) 13 [] h s (.bool true) := by
  refine ValS.mk fun K pw Z hp hk => ?_
  rw [D_13]; unfold F13; rw [app0_eq]
  refine (s24 hf 1 1 1).use (fun n hn => hp n (by omega)) fun h1 s1 hs1 g1 => ?_
  refine (s24 g1.fresh 3 1 1).use (fun n hn => hp n (by omega)) fun h2 s2 hs2 g2 => ?_
  refine (s24 g2.fresh 5 1 1).use (fun n hn => hp n (by omega)) fun h3 s3 hs3 g3 => ?_
  simp (disch := omega) only [tys, bindJ_eq, logJ_eq, wp_box, wp_load, wp_cells, wp_aput, wp_anew, wp_cond, wp_guard, gd_true, gd_false, pick_eq, add_eq, sub_eq, eq_eq, ne_eq, lt_eq, le_eq, gt_eq, ge_eq, shr_eq, shl_eq, quo_eq, rem_eq, not_eq, wp_log_load, wp_log_cells, wp_log_ret, wp_log_anew, ext0, ext1, ext2, nil_eq, get_ne, get_eq, nth_0, nth_s, cells_agg, cells_int, cells_bool, cells_slice, cells_ptr, ro_zero, one_int, one_bool, one_slice, one_ptr, arr_size, overL, Nat.zero_add, Nat.reduceAdd, Nat.add_zero, List.length_cons, List.length_nil, List.all_cons, List.all_nil, Nat.reduceLeDiff, Nat.ble_eq, Bool.and_true, Bool.not_false, Bool.and_self, decide_true, List.drop_zero, List.drop_succ_cons, List.take_succ_cons, List.take_zero, List.take_nil, true_and, and_true, Int.ofNat_eq_natCast, neg_one, Int.toNat_natCast, Int.natCast_zero, Int.natCast_one, Int.cast_ofNat_Int, List.append_nil, List.nil_append, g3.fresh, hp, kval, kv]
  have hb : (h3.set s3 (.cells ⟨[.int .i64 1, .int .i64 1, .int .i64 1, .int .i64 3, .int .i64 1, .int .i64 1, .int .i64 5, .int .i64 1, .int .i64 1]⟩ 23 (0, 0))).get s3 = some (.cells ⟨([⟨1, 1, 1⟩, ⟨3, 1, 1⟩, ⟨5, 1, 1⟩] : List K3).flatMap kv⟩ 23 (0, 0)) := get_eq
  have g4 : Grow s h (h3.set s3 (.cells ⟨[.int .i64 1, .int .i64 1, .int .i64 1, .int .i64 3, .int .i64 1, .int .i64 1, .int .i64 5, .int .i64 1, .int .i64 1]⟩ 23 (0, 0))) (s3 + 1) := ⟨fun n hn => by simp (disch := omega) only [get_ne, g1.keep, g2.keep, g3.keep, g3.fresh], fun n hn => by simp (disch := omega) only [get_ne, g1.keep, g2.keep, g3.keep, g3.fresh]⟩
  generalize h3.set s3 (.cells ⟨[.int .i64 1, .int .i64 1, .int .i64 1, .int .i64 3, .int .i64 1, .int .i64 1, .int .i64 5, .int .i64 1, .int .i64 1]⟩ 23 (0, 0)) = h4 at *
  have r : Row EK h4 (some ⟨s3, 0, none⟩) 3 [⟨1, 1, 1⟩, ⟨3, 1, 1⟩, ⟨5, 1, 1⟩] := .of_cells hb rfl
  refine (s24 g4.fresh 5 3 1).use (fun n hn => hp n (by omega)) fun h5 s5 hs5 g5 => ?_
  refine (s24 g5.fresh 5 3 2).use (fun n hn => hp n (by omega)) fun h6 s6 hs6 g6 => ?_
  refine (s17 hN g6.fresh ⟨5, 3, 1⟩ ⟨5, 3, 2⟩).use (fun n hn => hp n (by omega)) fun h7 s7 hs7 g7 => ?_
  rw [show lessK ⟨5, 3, 1⟩ ⟨5, 3, 2⟩ = true by rfl]
  simp (disch := omega) only [tys, bindJ_eq, logJ_eq, wp_box, wp_aput, wp_anew, wp_cond, wp_guard, gd_true, gd_false, pick_eq, add_eq, sub_eq, eq_eq, ne_eq, lt_eq, le_eq, gt_eq, ge_eq, shr_eq, shl_eq, quo_eq, rem_eq, not_eq, wp_log_ret, wp_log_anew, ext0, ext1, ext2, nil_eq, get_ne, get_eq, nth_0, nth_s, cells_agg, cells_int, cells_bool, cells_slice, cells_ptr, ro_zero, one_int, one_bool, one_slice, one_ptr, arr_size, overL, Nat.zero_add, Nat.reduceAdd, Nat.add_zero, List.length_cons, List.length_nil, List.all_cons, List.all_nil, Nat.reduceLeDiff, Nat.ble_eq, Bool.and_true, Bool.not_false, Bool.and_self, decide_true, List.drop_zero, List.drop_succ_cons, List.take_succ_cons, List.take_zero, List.take_nil, true_and, and_true, Int.ofNat_eq_natCast, neg_one, Int.toNat_natCast, Int.natCast_zero, Int.natCast_one, Int.cast_ofNat_Int, List.append_nil, List.nil_append, if_true]
  refine (s24 g7.fresh 5 3 1).use (fun n hn => hp n (by omega)) fun h8 s8 hs8 g8 => ?_
  refine (s24 g8.fresh 8 3 1).use (fun n hn => hp n (by omega)) fun h9 s9 hs9 g9 => ?_
  refine (s19 g9.fresh ⟨5, 3, 1⟩ ⟨8, 3, 1⟩).use (fun n hn => hp n (by omega)) fun h10 s10 hs10 g10 => ?_
  rw [show twinK ⟨5, 3, 1⟩ ⟨8, 3, 1⟩ = true by rfl]
  unfold X13_1
  simp (disch := omega) only [tys, bindJ_eq, logJ_eq, wp_box, wp_aput, wp_anew, wp_cond, wp_guard, gd_true, gd_false, pick_eq, add_eq, sub_eq, eq_eq, ne_eq, lt_eq, le_eq, gt_eq, ge_eq, shr_eq, shl_eq, quo_eq, rem_eq, not_eq, wp_log_ret, wp_log_anew, ext0, ext1, ext2, nil_eq, get_ne, get_eq, nth_0, nth_s, cells_agg, cells_int, cells_bool, cells_slice, cells_ptr, ro_zero, one_int, one_bool, one_slice, one_ptr, arr_size, overL, Nat.zero_add, Nat.reduceAdd, Nat.add_zero, List.length_cons, List.length_nil, List.all_cons, List.all_nil, Nat.reduceLeDiff, Nat.ble_eq, Bool.and_true, Bool.not_false, Bool.and_self, decide_true, List.drop_zero, List.drop_succ_cons, List.take_succ_cons, List.take_zero, List.take_nil, true_and, and_true, Int.ofNat_eq_natCast, neg_one, Int.toNat_natCast, Int.natCast_zero, Int.natCast_one, Int.cast_ofNat_Int, List.append_nil, List.nil_append, if_true]
  refine (s24 g10.fresh 3 1 1).use (fun n hn => hp n (by omega)) fun h11 s11 hs11 g11 => ?_
  have g : Grow (s3 + 1) h4 h11 s11 := (((((((g5.trans (by omega) g6).trans (by omega) g7).trans (by omega) g8).trans (by omega) g9).trans (by omega) g10).trans (by omega) g11))
  refine (s25 hN g11.fresh (r.grow g4.fresh g) (by omega) (fun h => by cases h) ⟨3, 1, 1⟩ 1 true rfl).use (fun n hn => hp n (by omega)) fun h12 s12 hs12 g12 => ?_
  simp (disch := omega) only [tys, bindJ_eq, logJ_eq, wp_box, wp_aput, wp_anew, wp_cond, wp_guard, gd_true, gd_false, pick_eq, add_eq, sub_eq, eq_eq, ne_eq, lt_eq, le_eq, gt_eq, ge_eq, shr_eq, shl_eq, quo_eq, rem_eq, not_eq, wp_log_ret, wp_log_anew, ext0, ext1, ext2, nil_eq, get_ne, get_eq, nth_0, nth_s, cells_agg, cells_int, cells_bool, cells_slice, cells_ptr, ro_zero, one_int, one_bool, one_slice, one_ptr, arr_size, overL, Nat.zero_add, Nat.reduceAdd, Nat.add_zero, List.length_cons, List.length_nil, List.all_cons, List.all_nil, Nat.reduceLeDiff, Nat.ble_eq, Bool.and_true, Bool.not_false, Bool.and_self, decide_true, List.drop_zero, List.drop_succ_cons, List.take_succ_cons, List.take_zero, List.take_nil, true_and, and_true, Int.ofNat_eq_natCast, neg_one, Int.toNat_natCast, Int.natCast_zero, Int.natCast_one, Int.cast_ofNat_Int, List.append_nil, List.nil_append, if_true]
  refine (s24 g12.fresh 4 0 0).use (fun n hn => hp n (by omega)) fun h13 s13 hs13 g13 => ?_
  have g' : Grow (s3 + 1) h4 h13 s13 := (g.trans (by omega) g12).trans (by omega) g13
  refine (s25 hN g13.fresh (r.grow g4.fresh g') (by omega) (fun h => by cases h) ⟨4, 0, 0⟩ 2 false rfl).use (fun n hn => hp n (by omega)) fun h14 s14 hs14 g14 => ?_
  exact hk _ _ (by omega) (g4.trans (by omega) (g'.trans (by omega) g14))
end
end Go.Ev.R

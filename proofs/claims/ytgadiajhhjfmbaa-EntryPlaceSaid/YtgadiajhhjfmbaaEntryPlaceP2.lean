/- The law EntryPlace, part 2: what the functions answer, by their terms. No condition. -/
import Derived.Test.YtgadiajhhjfmbaaEntryPlaceP1
set_option linter.unusedVariables false
set_option linter.unusedSimpArgs false
set_option maxRecDepth 100000
namespace Go.Ev
open Go Go.RowKit
theorem runL_ex (m : AM) : ∀ (h : T) (ts ws : List Nat) (o : Out), m.runL h ts ws = some o → (∀ n x, h.get n = some x → ∃ y, o.h.get n = some y) ∧ (∀ n ∈ o.ts, n ∈ ts ∨ ∃ y, o.h.get n = some y) := by
  have keep : ∀ (h : T) (n m : Nat) (o x : Obj), h.get m = some x → ∃ y, (h.set n o).get m = some y := fun h n m o x e => by
    by_cases hn : n = m
    · subst hn; exact ⟨o, get_eq⟩
    · exact ⟨x, by rw [get_ne hn]; exact e⟩
  induction m with
  | ret v => intro h ts ws o e; rw [AM.runL_ret] at e; obtain rfl := Option.some.inj e; exact ⟨fun n x e => ⟨x, e⟩, fun _ h => .inl h⟩
  | get n k ih =>
    intro h ts ws o e; rw [AM.runL_get] at e
    split at e
    · rename_i x hx
      obtain ⟨a, b⟩ := ih _ _ _ _ _ e
      refine ⟨a, fun i hi => ?_⟩
      rcases b i hi with h1 | h1
      · rcases List.mem_cons.1 h1 with rfl | h1
        · exact .inr (a _ _ hx)
        · exact .inl h1
      · exact .inr h1
    · cases e
  | put n x k ih =>
    intro h ts ws o e; rw [AM.runL_put] at e
    split at e
    · obtain ⟨a, b⟩ := ih _ _ _ _ e
      refine ⟨fun i y hy => ?_, fun i hi => ?_⟩
      · obtain ⟨z, hz⟩ := keep h n i x y hy
        exact a i z hz
      · rcases b i hi with h1 | h1
        · rcases List.mem_cons.1 h1 with rfl | h1
          · exact .inr (a _ _ get_eq)
          · exact .inl h1
        · exact .inr h1
    · cases e
  | new n x k ih =>
    intro h ts ws o e; rw [AM.runL_new] at e
    split at e
    · cases e
    · obtain ⟨a, b⟩ := ih _ _ _ _ e
      refine ⟨fun i y hy => ?_, fun i hi => ?_⟩
      · obtain ⟨z, hz⟩ := keep h n i x y hy
        exact a i z hz
      · rcases b i hi with h1 | h1
        · rcases List.mem_cons.1 h1 with rfl | h1
          · exact .inr (a _ _ get_eq)
          · exact .inl h1
        · exact .inr h1
  | log m k ihm ihk =>
    intro h ts ws o e; rw [AM.runL_log] at e
    split at e
    · rename_i v h' ts' ws' hm
      obtain ⟨a, b⟩ := ihk _ _ _ _ _ _ _ e
      obtain ⟨c, d⟩ := ihm _ _ _ _ hm
      refine ⟨fun i y hy => ?_, fun i hi => ?_⟩
      · obtain ⟨z, hz⟩ := c i y hy
        exact a i z hz
      · rcases b i hi with h1 | h1
        · rcases List.mem_append.1 h1 with h1 | h1
          · rcases d i h1 with h2 | ⟨y, hy⟩
            · cases h2
            · exact .inr (a i y hy)
          · exact .inl h1
        · exact .inr h1
    · cases e
  | fail => intro h ts ws o e; rw [AM.runL_fail] at e; cases e
theorem log_wp {pw : Nat → Prop} {Z : Value → T → Prop} {h : T} {m : AM} {W : Nat → Prop} {Q : Value → T → Nat → Prop} (e : m.wp W (fun u h' => ∃ v s', u = pk v s' ∧ Q v h' s') h) (hW : ∀ n, W n → pw n) {j : LogT}
    (hk : ∀ v h' s' ts ws, Q v h' s' → (∀ n ∈ ws, W n ∧ ∃ y, h'.get n = some y) → (∀ n ∈ ts, ∃ y, h'.get n = some y) → (j v ts ws s').wp pw Z h') : (AM.log m (logU j)).wp pw Z h := by
  obtain ⟨u, h', ts, ws, r, ⟨v, s', rfl, hq⟩, p⟩ := wp_runL _ _ _ _ e
  have r0 : m.runL h [] [] = some ⟨pk v s', h', ts, ws⟩ := by simpa using r [] []
  obtain ⟨-, b⟩ := runL_ex m _ _ _ _ r0
  obtain ⟨-, -, c⟩ := AM.mem_ts m _ _ _ _ r0
  have hts : ∀ n ∈ ts, ∃ y, h'.get n = some y := fun n hn => (b n hn).resolve_left (fun h => by cases h)
  rw [log_run r0 fun n hn => hW n (p n hn)]
  exact hk v h' s' ts ws hq (fun n hn => ⟨p n hn, hts n ((c n hn).resolve_left (fun h => by cases h))⟩) hts
theorem lt_of_some {h : T} {s n : Nat} (hf : ∀ n, s ≤ n → h.get n = none) (hy : ∃ y, h.get n = some y) : n < s := by
  obtain ⟨y, hy⟩ := hy
  rcases Nat.lt_or_ge n s with h1 | h1
  · exact h1
  · rw [hf n h1] at hy; cases hy
theorem PureS.logB {C : CallT} {f : Nat} {args : List Value} {h : T} {s : Nat} {Q : Value → T → Nat → Prop} (hc : PureS C f args h s Q) {j : LogT} {pw : Nat → Prop} {Z : Value → T → Prop} (hp : ∀ n, s ≤ n → pw n)
    (hk : ∀ v h' s' ts ws, s ≤ s' → Grow s h h' s' → Q v h' s' → (∀ n ∈ ws, s ≤ n ∧ n < s') → (∀ n ∈ ts, n < s') → (j v ts ws s').wp pw Z h') : (AM.log (C f args (fun v s => .ret (pk v s)) s) (logU j)).wp pw Z h := by
  refine log_wp (W := fun n => s ≤ n) (Q := fun v h' s' => s ≤ s' ∧ Grow s h h' s' ∧ Q v h' s') ?_ hp fun v h' s' ts ws hq hw ht => hk v h' s' ts ws hq.1 hq.2.1 hq.2.2 (fun n hn => ⟨(hw n hn).1, lt_of_some hq.2.1.fresh (hw n hn).2⟩) (fun n hn => lt_of_some hq.2.1.fresh (ht n hn))
  exact hc (fun v s => .ret (pk v s)) _ _ (fun n h => h.elim) (fun n h => h) (fun v h' s' hs hq => ⟨v, s', rfl, hs, hq.1, hq.2⟩)
/-- Reads below, writes above. -/
theorem disj_lt {a b : List Nat} {s : Nat} (ha : ∀ n ∈ a, s ≤ n) (hb : ∀ n ∈ b, n < s) : disj a b = true := disj_of (fun n => s ≤ n) ha fun m hm => by have := hb m hm; omega
theorem disj_gt {a b : List Nat} {s : Nat} (ha : ∀ n ∈ a, n < s) (hb : ∀ n ∈ b, s ≤ n) : disj a b = true := disj_of (fun n => n < s) ha fun m hm => by have := hb m hm; omega
theorem nil_of_none {a : List Nat} {p : Nat → Prop} (h : ∀ n ∈ a, False ∧ p n) : a = [] := by
  cases a with
  | nil => rfl
  | cons x a => exact (h x (List.mem_cons_self ..)).1.elim
end Go.Ev
namespace Go.Ev.R
open Go Go.RowKit
theorem run_sl_from {z n o len cap : Nat} {q : Option Nat} {c : Array Value} {t : TypeId} {f g : Nat} {h : T} (hg : h.get n = some (.cells c t (f, g))) (hf : f = 0 ∨ f = z + 1) {i : Nat} (hi : i ≤ len) (hl : len ≤ cap) (hc : cap ≠ 0) (kd : IntKind) (s : Nat) :
    (slS z (some ⟨n, o, q⟩) len cap (some (.int kd (i : Int))) none none (fun v s => .ret (pk v s)) s).runL h [] [] = some ⟨pk (.slice (some ⟨n, o + i * z, q⟩) (len - i) (cap - i)) s, h, [n], []⟩ := by
  have hb : abounds len cap (some (.int kd (i : Int))) none none = some (i, len, cap) := by
    simp [abounds, abound, hi, hl]
    rw [show Nat.ble i len = true by rw [Nat.ble_eq]; exact hi, show Nat.ble len cap = true by rw [Nat.ble_eq]; exact hl]; rfl
  unfold slS
  rw [hb]
  dsimp only
  rw [show Nat.beq cap 0 = false from beq_no hc]
  simp only [cond_false]
  rw [AM.runL_get, hg]
  have : (Nat.beq f 0 || Nat.beq f (z + 1)) = true := by rcases hf with rfl | rfl <;> simp
  dsimp only
  rw [this]
  rfl
/-- The list as it grows. -/
def AllK (h : T) (p : Option Addr) (len cap : Nat) (m : List K3) : Prop :=
  (m = [] ∧ p = none ∧ len = 0 ∧ cap = 0) ∨ (m.length = len ∧ cap = len ∧ len ≠ 0 ∧ ∃ n, p = some ⟨n, 0, none⟩ ∧ h.get n = some (.cells ⟨m.flatMap kv⟩ 23 (4, 0)))
theorem AllK.row {h : T} {p : Option Addr} {len cap : Nat} {m : List K3} (a : AllK h p len cap m) : Row EK h p len m ∧ (p = none → len = 0 ∧ cap = 0) ∧ m.length = len := by
  rcases a with ⟨rfl, rfl, rfl, rfl⟩ | ⟨h1, rfl, h2, n, rfl, h3⟩
  · exact ⟨.nil _ _, fun _ => ⟨rfl, rfl⟩, rfl⟩
  · exact ⟨.of_cells h3 h1, fun h => (by cases h), h1⟩
theorem AllK.keep {h h' : T} {p : Option Addr} {len cap : Nat} {m : List K3} {s s' : Nat} (a : AllK h p len cap m) (hf : ∀ n, s ≤ n → h.get n = none) (g : Grow s h h' s') : AllK h' p len cap m := by
  rcases a with ⟨rfl, rfl, rfl, rfl⟩ | ⟨h1, rfl, h2, n, rfl, h3⟩
  · exact .inl ⟨rfl, rfl, rfl, rfl⟩
  · have hn : n < s := lt_of_some hf ⟨_, h3⟩
    exact .inr ⟨h1, rfl, h2, n, rfl, by rw [g.keep n hn]; exact h3⟩
theorem flat3 (l : List K3) : (l.flatMap kv).length = l.length * 3 := EK.flat_length l
def insK (x : K3) (m : List K3) : List K3 := m.take (plK x m) ++ x :: m.drop (plK x m)
section
variable {N d : Nat} (hN : 100000 ≤ N) {h : T} {s : Nat} (hf : ∀ n, s ≤ n → h.get n = none)
include hN hf
omit hN in
theorem s14o {p : Option Addr} {len cap : Nat} {l : List K3} (r : Row EK h p len l) (hl : len ≤ 100000) : PureS (D N (d + 1)) 14 [.slice p len cap] h s (fun v h' s' => ∃ n f, v = .slice (some ⟨n, 0, none⟩) len len ∧ s ≤ n ∧ n < s' ∧ h'.get n = some (.cells ⟨l.flatMap kv⟩ 23 (f, 0)) ∧ (f = 0 ∨ f = 4)) := by
  refine PureS.mk fun K pw Z hp hk => ?_
  rw [D_14]; unfold F14; rw [app1_eq]
  simp (disch := omega) only [tys, bindJ_eq, logJ_eq, wp_box, wp_load, wp_cells, wp_aput, wp_anew, wp_cond, wp_guard, gd_true, gd_false, pick_eq, add_eq, sub_eq, eq_eq, ne_eq, lt_eq, le_eq, gt_eq, ge_eq, shr_eq, shl_eq, quo_eq, rem_eq, not_eq, wp_log_load, wp_log_cells, wp_log_ret, wp_log_anew, ext0, ext1, ext2, nil_eq, get_ne, get_eq, nth_0, nth_s, cells_agg, cells_int, cells_bool, cells_slice, cells_ptr, ro_zero, one_int, one_bool, one_slice, one_ptr, arr_size, overL, Nat.zero_add, Nat.reduceAdd, Nat.add_zero, List.length_cons, List.length_nil, List.all_cons, List.all_nil, Nat.reduceLeDiff, Nat.ble_eq, Bool.and_true, Bool.not_false, Bool.and_self, decide_true, List.drop_zero, List.drop_succ_cons, List.take_succ_cons, List.take_zero, List.take_nil, true_and, and_true, Int.ofNat_eq_natCast, neg_one, Int.toNat_natCast, Int.natCast_zero, Int.natCast_one, Int.cast_ofNat_Int, List.append_nil, List.nil_append, hf, hp]
  by_cases h0 : len = 0
  · subst h0
    obtain rfl := List.eq_nil_of_length_eq_zero r.1
    exact wp_ap_none (by omega) (by omega) (hk _ _ _ (by omega) ⟨fun n hn => by simp (disch := omega) only [get_ne, hf], fun n hn => by simp (disch := omega) only [get_ne, hf]⟩ ⟨s, 0, rfl, Nat.le_refl _, by omega, get_eq, .inl rfl⟩)
  · refine wp_ap_own (by decide) h0 (by omega) (m := s) (t := 23) (f := 0) (g := 0) (old := []) (by simp (disch := omega) only [get_eq]) rfl (.inl rfl) ((r.set hf (Nat.le_refl _)).2) (by exact one_kv l) (by simp (disch := omega) only [get_ne, hf]) (by omega) (hp _ (by omega)) (hp _ (by omega)) fun h2 h2a h2b => ?_
    rw [Nat.zero_add]
    exact hk _ _ _ (by omega) ⟨fun n hn => by rw [h2b n (by omega) (by omega)]; simp (disch := omega) only [get_ne], fun n hn => by rw [h2b n (by omega) (by omega)]; simp (disch := omega) only [get_ne, hf]⟩ ⟨s + 1, 4, rfl, by omega, by omega, h2a, .inr rfl⟩
omit hN in
theorem ins_some {n len : Nat} {m l : List K3} (hm : m.length = len) (hlen : len ≠ 0) (hl : len ≤ 60) (hg : h.get n = some (.cells ⟨m.flatMap kv⟩ 23 (4, 0))) {pl : Option Addr} {lenl capl : Nat} (rl : Row EK h pl lenl l) {i : Nat} {x : K3} (hx : l[i]? = some x) (hi : i < lenl) (hll : lenl ≤ 60) {k : Nat} (hk : k ≤ len) (hkx : k = plK x m)
    {K : KV} {j88 : Value → Value → Nat → AM} {v79 : Value} {pw : Nat → Prop} {Z : Value → T → Prop} (hp : ∀ n, s ≤ n → pw n)
    (hq : ∀ p' h' s', s ≤ s' → Grow s h h' s' → AllK h' p' (len + 1) (len + 1) (insK x m) → (D N (d + 5) 21 [.slice p' (len + 1) (len + 1)] (fun v159 s => notX P 4 v159 (fun v160 s => condX v160 (K (.bool false) s) (j88 v79 (.slice p' (len + 1) (len + 1)) s)) s) s').wp pw Z h') :
    (AM.log (slS 3 (some ⟨n, 0, none⟩) len len none (some (.int .i64 (k : Int))) none (fun v s => AM.ret (pk v s)) s) (logU ((fun v139 ts140 ws141 s => AM.log (D N (d + 5) 14 [v139] (fun v s => AM.ret (pk v s)) s) (logU (X6_10 N (D N (d + 5)) K (.slice pl lenl capl) (.int .i64 (i : Int)) (.slice (some ⟨n, 0, none⟩) len len) (.int .i64 (k : Int)) ts140 ws141 j88 v79))) : LogT))).wp pw Z h := by
  have hns : n < s := lt_of_some hf ⟨_, hg⟩
  have r : Row EK h (some ⟨n, 0, none⟩) len m := .of_cells hg hm
  refine log_wp (W := fun _ => False) (Q := fun v h' s' => v = .slice (some ⟨n, 0, none⟩) k len ∧ h' = h ∧ s' = s) (by rw [wp_sl_to hg (.inr rfl) hk hlen]; exact ⟨_, _, rfl, by simp, rfl, rfl⟩) (fun _ h => h.elim) ?_
  rintro v h' s' ts140 ws141 ⟨rfl, rfl, rfl⟩ hw hts
  obtain rfl := nil_of_none hw
  have ht140 : ∀ n ∈ ts140, n < s' := fun n hn => lt_of_some hf (hts n hn)
  refine PureS.logB (s14o (N := N) (d := d + 4) hf (r.take hk) (by omega)) hp ?_
  rintro v h1 s1 ts143 ws143 hs1 g1 ⟨n1, f1, rfl, hn1, hn1', hg1, hf1⟩ hw143 ht143
  have rl1 := rl.grow hf g1
  have hbl : ∀ h0 : lenl ≠ 0, blk pl < s' := fun h0 => by
    rcases rl.2.2 with h2 | ⟨_, c, t, f, h3, _⟩
    · have : lenl * 3 = 0 := h2
      omega
    · exact lt_of_some hf ⟨_, h3⟩
  have hbl := hbl (by omega)
  unfold X6_10
  simp (disch := omega) only [tys, bindJ_eq, logJ_eq, wp_box, wp_aput, wp_anew, wp_cond, wp_guard, gd_true, gd_false, pick_eq, add_eq, sub_eq, eq_eq, ne_eq, lt_eq, le_eq, gt_eq, ge_eq, shr_eq, shl_eq, quo_eq, rem_eq, not_eq, wp_log_ret, wp_log_anew, ext0, ext1, ext2, nil_eq, get_ne, get_eq, nth_0, nth_s, cells_agg, cells_int, cells_bool, cells_slice, cells_ptr, ro_zero, one_int, one_bool, one_slice, one_ptr, arr_size, overL, Nat.zero_add, Nat.reduceAdd, Nat.add_zero, List.length_cons, List.length_nil, List.all_cons, List.all_nil, Nat.reduceLeDiff, Nat.ble_eq, Bool.and_true, Bool.not_false, Bool.and_self, decide_true, List.drop_zero, List.drop_succ_cons, List.take_succ_cons, List.take_zero, List.take_nil, true_and, and_true, Int.ofNat_eq_natCast, neg_one, Int.toNat_natCast, Int.natCast_zero, Int.natCast_one, Int.cast_ofNat_Int, List.append_nil, List.nil_append, xa3 rl1 (j := (i : Int)) (by omega) (by omega), row3L rl1 hx, kv, g1.fresh, hp]
  have hgs : (h1.set s1 (.cells ⟨[.int .i64 x.a, .int .i64 x.b, .int .i64 x.c]⟩ 23 (0, 0))).get s1 = some (.cells ⟨([x] : List K3).flatMap kv⟩ 23 (0, 0)) := by rw [get_eq]; rfl
  have gs : Grow s1 h1 (h1.set s1 (.cells ⟨[.int .i64 x.a, .int .i64 x.b, .int .i64 x.c]⟩ 23 (0, 0))) (s1 + 1) := ⟨fun n hn => by simp (disch := omega) only [get_ne, g1.fresh], fun n hn => by simp (disch := omega) only [get_ne, g1.fresh]⟩
  generalize h1.set s1 (.cells ⟨[.int .i64 x.a, .int .i64 x.b, .int .i64 x.c]⟩ 23 (0, 0)) = h2 at *
  have hg2 : h2.get n1 = some (.cells ⟨(m.take k).flatMap kv⟩ 23 (f1, 0)) := by rw [gs.keep n1 hn1']; exact hg1
  have hx2 : Row EK h2 (some ⟨s1, 0, none⟩) 1 [x] := .of_cells hgs rfl
  have htk : (m.take k).length = k := by rw [List.length_take, hm]; omega
  refine log_wp (W := fun a => a = n1 ∨ s1 + 1 ≤ a) (Q := fun v h' s' => v = .slice (some ⟨s1 + 1, 0, none⟩) (k + 1) (k + 1) ∧ s' = s1 + 1 + 1 ∧ h'.get (s1 + 1) = some (.cells ⟨(m.take k).flatMap kv ++ kv x⟩ 23 (4, 0)) ∧ ∀ a, a ≠ n1 → a ≠ s1 + 1 → h'.get a = h2.get a) ?_ (fun a ha => hp a (by omega)) ?_
  · refine wp_ap_own (by decide) (by omega) (by omega) (m := n1) hg2 (by rw [flat3, htk]) hf1 hx2.2 (by exact one_kv [x]) (gs.fresh _ (by omega)) (by omega) (.inl rfl) (.inr (Nat.le_refl _)) fun h3 h3a h3b => ?_
    refine ⟨_, _, rfl, rfl, rfl, ?_, h3b⟩
    rw [h3a]
    simp [EK]
  rintro v h3 s3 ts153 ws154 ⟨rfl, rfl, hg3, hk3⟩ hw154 ht153
  have hgn : h3.get n = some (.cells ⟨m.flatMap kv⟩ 23 (4, 0)) := by rw [hk3 n (by omega) (by omega), gs.keep n (by omega), g1.keep n hns]; exact hg
  have hf3 : ∀ a, s1 + 1 + 1 ≤ a → h3.get a = none := fun a ha => by rw [hk3 a (by omega) (by omega)]; exact gs.fresh a (by omega)
  have g3 : Grow s' h' h3 (s1 + 1 + 1) := ⟨fun a ha => by rw [hk3 a (by omega) (by omega), gs.keep a (by omega), g1.keep a ha], hf3⟩
  rw [log_run (run_sl_from hgn (.inr rfl) hk (Nat.le_refl _) hlen .i64 _) (fun a ha => by cases ha)]
  unfold X6_9
  rw [ap_24_24]
  have r3 : Row EK h3 (some ⟨n, 0 + k * 3, none⟩) (len - k) (m.drop k) := (Row.of_cells (E := EK) (q := none) hgn hm).drop k
  have hfin : ∀ p' h4 s4, s1 + 1 + 1 ≤ s4 → Grow (s1 + 1) h3 h4 s4 → AllK h4 p' (len + 1) (len + 1) (insK x m) → (guardX (dy [o, o, (ts140, []), (ts143, ws143), o, o, o, ([blk pl], []), ([s1], [s1]), (ts153, ws154), o, o, ([n], []), o, o] [[], [], [7, 8, 12], [7, 8, 12], [], [], [], [2, 3, 12], [2, 3, 12], [12], [], [], [2, 3, 7, 8, 9], [], []]) (D N (d + 5) 21 [.slice p' (len + 1) (len + 1)] (fun v159 s => notX P 4 v159 (fun v160 s => condX v160 (K (.bool false) s) (j88 v79 (.slice p' (len + 1) (len + 1)) s)) s) s4) AM.fail).wp pw Z h4 := by
    intro p' h4 s4 hs4 g4 ha
    rw [wp_guard, if_pos]
    · exact hq p' h4 s4 (by omega) ⟨fun a ha => by rw [g4.keep a (by omega), g3.keep a ha], g4.fresh⟩ ha
    · have one : ∀ (a b : Nat), a < b → ∀ c ∈ [a], c < b := fun a b h c hc => by simp at hc; omega
      have one' : ∀ (a b : Nat), b ≤ a → ∀ c ∈ [a], b ≤ c := fun a b h c hc => by simp at hc; omega
      repeat' (first | exact dynOk_nil _ _ | refine dyn_skip' ?_ | refine dyn_cons ?_ ?_ | exact allF_nil _ _ | refine allF_cons ?_ ?_)
      · exact disj_lt (fun a ha => (hw143 a ha).1) (one (blk pl) _ hbl)
      · exact disj_gt (fun a ha => (hw143 a ha).2) (one' s1 s1 (Nat.le_refl _))
      · exact disj_lt (fun a ha => (hw143 a ha).1) (one n _ hns)
      · exact disj_lt (s := s1) (one' s1 s1 (Nat.le_refl _)) (fun a ha => by have := ht140 a ha; omega)
      · exact disj_lt (s := s1) (one' s1 s1 (Nat.le_refl _)) ht143
      · exact disj_lt (s := s1) (one' s1 s1 (Nat.le_refl _)) (one n _ (by omega))
      · exact disj_lt (s := s') (fun a ha => by have := (hw154 a ha).1; omega) (one n _ hns)
  have hins : insK x m = m.take k ++ x :: m.drop k := by unfold insK; rw [← hkx]
  have hinl : (insK x m).length = len + 1 := by rw [hins, List.length_append, htk, List.length_cons, List.length_drop, hm]; omega
  have hinf : (insK x m).flatMap kv = ((m.take k).flatMap kv ++ kv x) ++ (m.drop k).flatMap kv := by rw [hins, List.flatMap_append, List.flatMap_cons, List.append_assoc]
  by_cases h0 : len - k = 0
  · rw [h0]
    refine log_wp (W := fun _ => False) (Q := fun v h' s' => v = .slice (some ⟨s1 + 1, 0, none⟩) (k + 1) (k + 1) ∧ h' = h3 ∧ s' = s1 + 1 + 1) (wp_ap_none (by omega) (by omega) (by exact ⟨_, _, rfl, rfl, rfl, rfl⟩)) (fun _ h => h.elim) ?_
    rintro v h4 s4 ts ws ⟨rfl, rfl, rfl⟩ _ _
    obtain rfl : k = len := by omega
    refine hfin _ _ _ (Nat.le_refl _) ⟨fun _ _ => rfl, hf3⟩ (.inr ⟨hinl, rfl, by omega, s1 + 1, rfl, ?_⟩)
    rw [hg3, hinf, List.drop_eq_nil_of_le (by omega)]
    simp
  · refine log_wp (W := fun a => a = s1 + 1 ∨ s1 + 1 + 1 ≤ a) (Q := fun v h' s' => v = .slice (some ⟨s1 + 1 + 1, 0, none⟩) (k + 1 + (len - k)) (k + 1 + (len - k)) ∧ s' = s1 + 1 + 1 + 1 ∧ h'.get (s1 + 1 + 1) = some (.cells ⟨((m.take k).flatMap kv ++ kv x) ++ (m.drop k).flatMap kv⟩ 23 (4, 0)) ∧ ∀ a, a ≠ s1 + 1 → a ≠ s1 + 1 + 1 → h'.get a = h3.get a) ?_ (fun a ha => hp a (by omega)) ?_
    · refine wp_ap_own (by decide) h0 (by omega) (m := s1 + 1) hg3 (by rw [List.length_append, flat3, htk]; show k * 3 + 3 = (k + 1) * 3; omega) (.inr rfl) r3.2 (by exact one_kv _) (hf3 _ (by omega)) (by omega) (.inl rfl) (.inr (Nat.le_refl _)) fun h4 h4a h4b => ?_
      exact ⟨_, _, rfl, rfl, rfl, h4a, h4b⟩
    rintro v h4 s4 ts ws ⟨rfl, rfl, hg4, hk4⟩ _ _
    rw [show k + 1 + (len - k) = len + 1 by omega]
    refine hfin _ _ _ (by omega) ⟨fun a ha => hk4 a (by omega) (by omega), fun a ha => by rw [hk4 a (by omega) (by omega)]; exact hf3 a (by omega)⟩ (.inr ⟨hinl, rfl, by omega, s1 + 1 + 1, rfl, ?_⟩)
    rw [hg4, hinf]
omit hN in
theorem ins_none {l : List K3} {pl : Option Addr} {lenl capl : Nat} (rl : Row EK h pl lenl l) {i : Nat} {x : K3} (hx : l[i]? = some x) (hi : i < lenl) (hll : lenl ≤ 60)
    {K : KV} {j88 : Value → Value → Nat → AM} {v79 : Value} {pw : Nat → Prop} {Z : Value → T → Prop} (hp : ∀ n, s ≤ n → pw n)
    (hq : ∀ p' h' s', s ≤ s' → Grow s h h' s' → AllK h' p' 1 1 [x] → (D N (d + 5) 21 [.slice p' 1 1] (fun v159 s => notX P 4 v159 (fun v160 s => condX v160 (K (.bool false) s) (j88 v79 (.slice p' 1 1) s)) s) s').wp pw Z h') :
    (AM.log (slS 3 none 0 0 none (some (.int .i64 0)) none (fun v s => AM.ret (pk v s)) s) (logU ((fun v139 ts140 ws141 s => AM.log (D N (d + 5) 14 [v139] (fun v s => AM.ret (pk v s)) s) (logU (X6_10 N (D N (d + 5)) K (.slice pl lenl capl) (.int .i64 (i : Int)) (.slice none 0 0) (.int .i64 0) ts140 ws141 j88 v79))) : LogT))).wp pw Z h := by
  rw [log_run (m := slS 3 none 0 0 none (some (.int .i64 0)) none (fun v s => .ret (pk v s)) s) (v := .slice none 0 0) (s := s) (h' := h) (ts := []) (ws := []) rfl (fun a ha => by cases ha)]
  refine PureS.logB (s14o (N := N) (d := d + 4) hf (Row.nil (E := EK) h none) (by omega)) hp ?_
  rintro v h1 s1 ts143 ws143 hs1 g1 ⟨n1, f1, rfl, hn1, hn1', hg1, hf1⟩ hw143 ht143
  have rl1 := rl.grow hf g1
  have hbl : ∀ h0 : lenl ≠ 0, blk pl < s := fun h0 => by
    rcases rl.2.2 with h2 | ⟨_, c, t, f, h3, _⟩
    · have : lenl * 3 = 0 := h2
      omega
    · exact lt_of_some hf ⟨_, h3⟩
  have hbl := hbl (by omega)
  unfold X6_10
  simp (disch := omega) only [tys, bindJ_eq, logJ_eq, wp_box, wp_aput, wp_anew, wp_cond, wp_guard, gd_true, gd_false, pick_eq, add_eq, sub_eq, eq_eq, ne_eq, lt_eq, le_eq, gt_eq, ge_eq, shr_eq, shl_eq, quo_eq, rem_eq, not_eq, wp_log_ret, wp_log_anew, ext0, ext1, ext2, nil_eq, get_ne, get_eq, nth_0, nth_s, cells_agg, cells_int, cells_bool, cells_slice, cells_ptr, ro_zero, one_int, one_bool, one_slice, one_ptr, arr_size, overL, Nat.zero_add, Nat.reduceAdd, Nat.add_zero, List.length_cons, List.length_nil, List.all_cons, List.all_nil, Nat.reduceLeDiff, Nat.ble_eq, Bool.and_true, Bool.not_false, Bool.and_self, decide_true, List.drop_zero, List.drop_succ_cons, List.take_succ_cons, List.take_zero, List.take_nil, true_and, and_true, Int.ofNat_eq_natCast, neg_one, Int.toNat_natCast, Int.natCast_zero, Int.natCast_one, Int.cast_ofNat_Int, List.append_nil, List.nil_append, xa3 rl1 (j := (i : Int)) (by omega) (by omega), row3L rl1 hx, kv, g1.fresh, hp]
  have hgs : (h1.set s1 (.cells ⟨[.int .i64 x.a, .int .i64 x.b, .int .i64 x.c]⟩ 23 (0, 0))).get s1 = some (.cells ⟨([x] : List K3).flatMap kv⟩ 23 (0, 0)) := by rw [get_eq]; rfl
  have gs : Grow s1 h1 (h1.set s1 (.cells ⟨[.int .i64 x.a, .int .i64 x.b, .int .i64 x.c]⟩ 23 (0, 0))) (s1 + 1) := ⟨fun n hn => by simp (disch := omega) only [get_ne, g1.fresh], fun n hn => by simp (disch := omega) only [get_ne, g1.fresh]⟩
  generalize h1.set s1 (.cells ⟨[.int .i64 x.a, .int .i64 x.b, .int .i64 x.c]⟩ 23 (0, 0)) = h2 at *
  have hg2 : h2.get n1 = some (.cells ⟨([] : List K3).flatMap kv⟩ 23 (f1, 0)) := by rw [gs.keep n1 hn1']; exact hg1
  have hx2 : Row EK h2 (some ⟨s1, 0, none⟩) 1 [x] := .of_cells hgs rfl
  refine log_wp (W := fun a => a = n1 ∨ s1 + 1 ≤ a) (Q := fun v h' s' => v = .slice (some ⟨s1 + 1, 0, none⟩) 1 1 ∧ s' = s1 + 1 + 1 ∧ h'.get (s1 + 1) = some (.cells ⟨kv x⟩ 23 (4, 0)) ∧ ∀ a, a ≠ n1 → a ≠ s1 + 1 → h'.get a = h2.get a) ?_ (fun a ha => hp a (by omega)) ?_
  · refine wp_ap_own (by decide) (by omega) (by omega) (m := n1) hg2 rfl hf1 hx2.2 (by exact one_kv [x]) (gs.fresh _ (by omega)) (by omega) (.inl rfl) (.inr (Nat.le_refl _)) fun h3 h3a h3b => ?_
    refine ⟨_, _, rfl, rfl, rfl, ?_, h3b⟩
    rw [h3a]
    simp [EK]
  rintro v h3 s3 ts153 ws154 ⟨rfl, rfl, hg3, hk3⟩ hw154 ht153
  have hf3 : ∀ a, s1 + 1 + 1 ≤ a → h3.get a = none := fun a ha => by rw [hk3 a (by omega) (by omega)]; exact gs.fresh a (by omega)
  have g3 : Grow s h h3 (s1 + 1 + 1) := ⟨fun a ha => by rw [hk3 a (by omega) (by omega), gs.keep a (by omega), g1.keep a ha], hf3⟩
  rw [log_run (m := slS 3 none 0 0 (some (.int .i64 0)) none none (fun v s => .ret (pk v s)) (s1 + 1 + 1)) (v := .slice none 0 0) (s := s1 + 1 + 1) (h' := h3) (ts := []) (ws := []) rfl (fun a ha => by cases ha)]
  unfold X6_9
  rw [ap_24_24]
  have hfin : ∀ p' h4 s4, s1 + 1 + 1 ≤ s4 → Grow (s1 + 1) h3 h4 s4 → AllK h4 p' 1 1 [x] → (guardX (dy [o, o, ([], []), (ts143, ws143), o, o, o, ([blk pl], []), ([s1], [s1]), (ts153, ws154), o, o, ([], []), o, o] [[], [], [7, 8, 12], [7, 8, 12], [], [], [], [2, 3, 12], [2, 3, 12], [12], [], [], [2, 3, 7, 8, 9], [], []]) (D N (d + 5) 21 [.slice p' 1 1] (fun v159 s => notX P 4 v159 (fun v160 s => condX v160 (K (.bool false) s) (j88 v79 (.slice p' 1 1) s)) s) s4) AM.fail).wp pw Z h4 := by
    intro p' h4 s4 hs4 g4 ha
    rw [wp_guard, if_pos]
    · exact hq p' h4 s4 (by omega) ⟨fun a ha => by rw [g4.keep a (by omega), g3.keep a ha], g4.fresh⟩ ha
    · have one : ∀ (a b : Nat), a < b → ∀ c ∈ [a], c < b := fun a b h c hc => by simp at hc; omega
      have one' : ∀ (a b : Nat), b ≤ a → ∀ c ∈ [a], b ≤ c := fun a b h c hc => by simp at hc; omega
      repeat' (first | exact dynOk_nil _ _ | refine dyn_skip' ?_ | refine dyn_cons ?_ ?_ | exact allF_nil _ _ | refine allF_cons ?_ ?_)
      all_goals first
        | exact disj_lt (fun a ha => (hw143 a ha).1) (one (blk pl) _ hbl)
        | exact disj_gt (fun a ha => (hw143 a ha).2) (one' s1 s1 (Nat.le_refl _))
        | exact disj_lt (s := s1) (one' s1 s1 (Nat.le_refl _)) ht143
        | exact disj_of (fun _ => True) (fun _ _ => trivial) (fun a ha => by cases ha)
  refine log_wp (W := fun _ => False) (Q := fun v h' s' => v = .slice (some ⟨s1 + 1, 0, none⟩) 1 1 ∧ h' = h3 ∧ s' = s1 + 1 + 1) (wp_ap_none (by omega) (by omega) (by exact ⟨_, _, rfl, rfl, rfl, rfl⟩)) (fun _ h => h.elim) ?_
  rintro v h4 s4 ts ws ⟨rfl, rfl, rfl⟩ _ _
  refine hfin _ _ _ (Nat.le_refl _) ⟨fun _ _ => rfl, hf3⟩ (.inr ⟨rfl, rfl, by omega, s1 + 1, rfl, ?_⟩)
  rw [hg3]; simp
end
end Go.Ev.R
namespace Go.Ev.R
open Go Go.RowKit
theorem same_iff {x y : K3} : sameK x y = true ↔ x = y := by
  obtain ⟨a, b, c⟩ := x
  obtain ⟨a', b', c'⟩ := y
  simp [sameK]
theorem less_self (x : K3) : lessK x x = false := by simp [lessK]
theorem pl_le (x : K3) : ∀ l : List K3, plK x l ≤ l.length
  | [] => Nat.le_refl _
  | y :: l => by
    have := pl_le x l
    unfold plK
    split
    · simp; omega
    · simp
theorem pl_lt {x : K3} : ∀ {l : List K3} {k : Nat} {y : K3}, k < plK x l → l[k]? = some y → lessK y x = true
  | z :: l, k, y, h, hy => by
    unfold plK at h
    split at h
    · rename_i hz
      cases k with
      | zero => simp at hy; subst hy; exact hz
      | succ k => exact pl_lt (l := l) (k := k) (by omega) (by simpa using hy)
    · omega
theorem pl_at {x : K3} : ∀ {l : List K3} {y : K3}, l[plK x l]? = some y → lessK y x = false
  | z :: l, y, hy => by
    unfold plK at hy
    split at hy
    · exact pl_at (l := l) (by simpa using hy)
    · rename_i hz
      simp at hy; subst hy; simpa using hz
theorem upTo_of {p : K3 → K3 → Bool} {l : List K3} (h : ∀ i x y, l[i]? = some x → l[i + 1]? = some y → p x y = true) : ∀ n, upTo p l n = true
  | 0 => rfl
  | n + 1 => by
    show (upTo p l n && _) = true
    rw [upTo_of h n]
    cases hx : l[n]? with
    | none => rfl
    | some x =>
      cases hy : l[n + 1]? with
      | none => rfl
      | some y => exact h n x y hx hy
theorem ins_at (x : K3) (m : List K3) (i : Nat) : (insK x m)[i]? = if i < plK x m then m[i]? else if i = plK x m then some x else m[i - 1]? := by
  have hk := pl_le x m
  unfold insK
  generalize plK x m = k at *
  have htk : (m.take k).length = k := by rw [List.length_take]; omega
  by_cases h1 : i < k
  · rw [if_pos h1, List.getElem?_append_left (by omega), List.getElem?_take, if_pos h1]
  · rw [if_neg h1, List.getElem?_append_right (by omega), htk]
    by_cases h2 : i = k
    · subst h2; rw [if_pos rfl, Nat.sub_self]; rfl
    · rw [if_neg h2]
      obtain ⟨j, hj⟩ : ∃ j, i - k = j + 1 := ⟨i - k - 1, by omega⟩
      rw [hj, List.getElem?_cons_succ, List.getElem?_drop]
      congr 1; omega
theorem ins_rise {x : K3} {m : List K3} (h : risingK m = true) (hn : atK x m = false) : risingK (insK x m) = true := by
  refine upTo_of (fun i a b ha hb => ?_) _
  rw [ins_at] at ha hb
  by_cases h1 : i < plK x m
  · rw [if_pos h1] at ha
    by_cases h2 : i + 1 < plK x m
    · rw [if_pos h2] at hb
      exact rise_lt h ha (Nat.lt_succ_self i) hb
    · rw [if_neg h2, if_pos (by omega)] at hb
      cases hb
      exact pl_lt h1 ha
  · rw [if_neg h1] at ha
    rw [if_neg (by omega), if_neg (by omega), Nat.add_sub_cancel] at hb
    by_cases h2 : i = plK x m
    · rw [if_pos h2] at ha
      cases ha
      subst h2
      have h3 := pl_at hb
      unfold atK at hn
      rw [hb] at hn
      rw [← less_iff, h3]
      simpa using hn
    · rw [if_neg h2] at ha
      exact rise_lt h ha (by omega) hb
theorem ins_mem {x y : K3} {m : List K3} (h : y = x ∨ y ∈ m) : y ∈ insK x m := by
  unfold insK
  rcases h with rfl | h
  · simp
  · have := List.take_append_drop (plK x m) m
    rw [← this] at h
    rcases List.mem_append.1 h with h | h
    · exact List.mem_append.2 (.inl h)
    · exact List.mem_append.2 (.inr (List.mem_cons_of_mem _ h))
theorem found {x : K3} {m : List K3} (h : risingK m = true) (hm : x ∈ m) : atK x m = true := by
  obtain ⟨j, hj⟩ := List.getElem?_of_mem hm
  have hl := (List.getElem?_eq_some_iff.1 hj).1
  have : plK x m = j := pl_eq (by omega) (fun k y hk hy => rise_lt h hy hk hj) (fun y hy => by rw [hj] at hy; cases hy; exact less_self x)
  unfold atK
  rw [this, hj]
  exact same_iff.2 rfl
theorem at_is {x : K3} {m : List K3} (h : atK x m = true) : m[plK x m]? = some x := by
  unfold atK at h
  split at h
  · rename_i y hy
    rw [hy, same_iff.1 h]
  · cases h
end Go.Ev.R
namespace Go.Ev.R
open Go Go.RowKit
theorem beq_same (x : K3) : sameK x x = true := same_iff.2 rfl
section
variable {N d : Nat} (hN : 100000 ≤ N) {h : T} {s : Nat} (hf : ∀ n, s ≤ n → h.get n = none)
include hN hf
theorem s6 {p : Option Addr} {len cap : Nat} {l : List K3} (r : Row EK h p len l) : ValS (D N (d + 9)) 6 [.slice p len cap] h s (.bool true) := by
  refine ValS.mk fun K pw Z hp hk => ?_
  rw [D_6]; unfold F6; rw [app1_eq]
  refine (s13 hN hf).use (fun n hn => hp n (by omega)) fun h0 s0 hs0 g0 => ?_
  have r0 := r.grow hf g0
  replace hk : ∀ h' s', s0 ≤ s' → Grow s0 h0 h' s' → (K (.bool true) s').wp pw Z h' := fun h' s' hs' g' => hk h' s' (by omega) (g0.trans hs0 g')
  have hp0 : ∀ n, s0 ≤ n → pw n := fun n hn => hp n (by omega)
  have hf0 := g0.fresh
  simp (disch := omega) only [tys, bindJ_eq, logJ_eq, wp_box, wp_aput, wp_anew, wp_cond, wp_guard, gd_true, gd_false, pick_eq, add_eq, sub_eq, eq_eq, ne_eq, lt_eq, le_eq, gt_eq, ge_eq, shr_eq, shl_eq, quo_eq, rem_eq, not_eq, wp_log_ret, wp_log_anew, ext0, ext1, ext2, nil_eq, get_ne, get_eq, nth_0, nth_s, cells_agg, cells_int, cells_bool, cells_slice, cells_ptr, ro_zero, one_int, one_bool, one_slice, one_ptr, arr_size, overL, Nat.zero_add, Nat.reduceAdd, Nat.add_zero, List.length_cons, List.length_nil, List.all_cons, List.all_nil, Nat.reduceLeDiff, Nat.ble_eq, Bool.and_true, Bool.not_false, Bool.and_self, decide_true, List.drop_zero, List.drop_succ_cons, List.take_succ_cons, List.take_zero, List.take_nil, true_and, and_true, Int.ofNat_eq_natCast, neg_one, Int.toNat_natCast, Int.natCast_zero, Int.natCast_one, Int.cast_ofNat_Int, List.append_nil, List.nil_append]
  by_cases hl : (60 : Int) < (len : Int)
  · simp (disch := omega) only [tys, bindJ_eq, logJ_eq, wp_box, wp_aput, wp_anew, wp_cond, wp_guard, gd_true, gd_false, pick_eq, add_eq, sub_eq, eq_eq, ne_eq, lt_eq, le_eq, gt_eq, ge_eq, shr_eq, shl_eq, quo_eq, rem_eq, not_eq, wp_log_ret, wp_log_anew, ext0, ext1, ext2, nil_eq, get_ne, get_eq, nth_0, nth_s, cells_agg, cells_int, cells_bool, cells_slice, cells_ptr, ro_zero, one_int, one_bool, one_slice, one_ptr, arr_size, overL, Nat.zero_add, Nat.reduceAdd, Nat.add_zero, List.length_cons, List.length_nil, List.all_cons, List.all_nil, Nat.reduceLeDiff, Nat.ble_eq, Bool.and_true, Bool.not_false, Bool.and_self, decide_true, List.drop_zero, List.drop_succ_cons, List.take_succ_cons, List.take_zero, List.take_nil, true_and, and_true, Int.ofNat_eq_natCast, neg_one, Int.toNat_natCast, Int.natCast_zero, Int.natCast_one, Int.cast_ofNat_Int, List.append_nil, List.nil_append, hl, if_true]
    exact hk _ _ (Nat.le_refl _) (.refl hf0)
  · simp (disch := omega) only [tys, bindJ_eq, logJ_eq, wp_box, wp_aput, wp_anew, wp_cond, wp_guard, gd_true, gd_false, pick_eq, add_eq, sub_eq, eq_eq, ne_eq, lt_eq, le_eq, gt_eq, ge_eq, shr_eq, shl_eq, quo_eq, rem_eq, not_eq, wp_log_ret, wp_log_anew, ext0, ext1, ext2, nil_eq, get_ne, get_eq, nth_0, nth_s, cells_agg, cells_int, cells_bool, cells_slice, cells_ptr, ro_zero, one_int, one_bool, one_slice, one_ptr, arr_size, overL, Nat.zero_add, Nat.reduceAdd, Nat.add_zero, List.length_cons, List.length_nil, List.all_cons, List.all_nil, Nat.reduceLeDiff, Nat.ble_eq, Bool.and_true, Bool.not_false, Bool.and_self, decide_true, List.drop_zero, List.drop_succ_cons, List.take_succ_cons, List.take_zero, List.take_nil, true_and, and_true, Int.ofNat_eq_natCast, neg_one, Int.toNat_natCast, Int.natCast_zero, Int.natCast_one, Int.cast_ofNat_Int, List.append_nil, List.nil_append, hl, decide_false, Bool.false_eq_true, if_false]
    -- they are put in, one by one
    have loop1 : ∀ (J : Value → Value → Nat → AM) (hJ : ∀ (u : Value) (p' : Option Addr) (n : Nat) (m : List K3) (h1 : T) (s1 : Nat), AllK h1 p' n n m → n ≤ 60 → risingK m = true → (∀ y ∈ l, y ∈ m) → s0 ≤ s1 → Grow s0 h0 h1 s1 → (J u (.slice p' n n) s1).wp pw Z h1)
        (B : (Value → Value → Value → Nat → AM) → Value → Value → Value → Nat → AM) (hB : ∀ H u v i s', B H u v i s' = X6_12 N (D N (d + 8)) K (.slice p len cap) J H u v i s') (fuel i : Nat) (u : Value) (p' : Option Addr) (n : Nat) (m : List K3) (h1 : T) (s1 : Nat), len - i < fuel → i ≤ len → AllK h1 p' n n m → n ≤ i → risingK m = true → (∀ k y, k < i → l[k]? = some y → y ∈ m) → s0 ≤ s1 → Grow s0 h0 h1 s1 →
        (loopJ fuel 3 (fun _ _ _ _ => AM.fail) B u (.slice p' n n) (.int .i64 (i : Int)) s1).wp pw Z h1 := by
      intro J hJ B hB fuel
      induction fuel with
      | zero => intro i u p' n m h1 s1 h2; omega
      | succ fuel ih =>
        intro i u p' n m h1 s1 hfu hil ha hni hri hin hs1 g1
        have rl := r0.grow hf0 g1
        obtain ⟨ra, ha0, hml⟩ := ha.row
        rw [loopJ_succ, hB]
        unfold X6_12
        simp (disch := omega) only [tys, bindJ_eq, logJ_eq, wp_box, wp_aput, wp_anew, wp_cond, wp_guard, gd_true, gd_false, pick_eq, add_eq, sub_eq, eq_eq, ne_eq, lt_eq, le_eq, gt_eq, ge_eq, shr_eq, shl_eq, quo_eq, rem_eq, not_eq, wp_log_ret, wp_log_anew, ext0, ext1, ext2, nil_eq, get_ne, get_eq, nth_0, nth_s, cells_agg, cells_int, cells_bool, cells_slice, cells_ptr, ro_zero, one_int, one_bool, one_slice, one_ptr, arr_size, overL, Nat.zero_add, Nat.reduceAdd, Nat.add_zero, List.length_cons, List.length_nil, List.all_cons, List.all_nil, Nat.reduceLeDiff, Nat.ble_eq, Bool.and_true, Bool.not_false, Bool.and_self, decide_true, List.drop_zero, List.drop_succ_cons, List.take_succ_cons, List.take_zero, List.take_nil, true_and, and_true, Int.ofNat_eq_natCast, neg_one, Int.toNat_natCast, Int.natCast_zero, Int.natCast_one, Int.cast_ofNat_Int, List.append_nil, List.nil_append]
        by_cases hlt : i < len
        · obtain ⟨x, hx⟩ := get_some (l := l) (i := i) (by rw [r.1]; omega)
          have e3 : (i : Int) + 1 = ((i + 1 : Nat) : Int) := by omega
          simp (disch := omega) only [tys, bindJ_eq, logJ_eq, wp_box, wp_aput, wp_anew, wp_cond, wp_guard, gd_true, gd_false, pick_eq, add_eq, sub_eq, eq_eq, ne_eq, lt_eq, le_eq, gt_eq, ge_eq, shr_eq, shl_eq, quo_eq, rem_eq, not_eq, wp_log_ret, wp_log_anew, ext0, ext1, ext2, nil_eq, get_ne, get_eq, nth_0, nth_s, cells_agg, cells_int, cells_bool, cells_slice, cells_ptr, ro_zero, one_int, one_bool, one_slice, one_ptr, arr_size, overL, Nat.zero_add, Nat.reduceAdd, Nat.add_zero, List.length_cons, List.length_nil, List.all_cons, List.all_nil, Nat.reduceLeDiff, Nat.ble_eq, Bool.and_true, Bool.not_false, Bool.and_self, decide_true, List.drop_zero, List.drop_succ_cons, List.take_succ_cons, List.take_zero, List.take_nil, true_and, and_true, Int.ofNat_eq_natCast, neg_one, Int.toNat_natCast, Int.natCast_zero, Int.natCast_one, Int.cast_ofNat_Int, List.append_nil, List.nil_append, show (i : Int) < (len : Int) by omega, if_true, xa3 rl (j := (i : Int)) (by omega) (by omega), row3 rl hx, e3, wrap_id (a := ((i + 1 : Nat) : Int)) (by omega) (by omega)]
          refine (s15 (d := d + 2) hN g1.fresh ra (by omega) ha0 x).use (fun n hn => hp0 n (by omega)) fun h2 s2 hs2 g2 => ?_
          have hpl := pl_le x m
          have hfi : findK x m = [.int .i64 (plK x m : Int), .bool (atK x m)] := by unfold findK; rw [if_pos hri]
          rw [hfi]
          simp (disch := omega) only [tys, bindJ_eq, logJ_eq, wp_box, wp_aput, wp_anew, wp_cond, wp_guard, gd_true, gd_false, pick_eq, add_eq, sub_eq, eq_eq, ne_eq, lt_eq, le_eq, gt_eq, ge_eq, shr_eq, shl_eq, quo_eq, rem_eq, not_eq, wp_log_ret, wp_log_anew, ext0, ext1, ext2, nil_eq, get_ne, get_eq, nth_0, nth_s, cells_agg, cells_int, cells_bool, cells_slice, cells_ptr, ro_zero, one_int, one_bool, one_slice, one_ptr, arr_size, overL, Nat.zero_add, Nat.reduceAdd, Nat.add_zero, List.length_cons, List.length_nil, List.all_cons, List.all_nil, Nat.reduceLeDiff, Nat.ble_eq, Bool.and_true, Bool.not_false, Bool.and_self, decide_true, List.drop_zero, List.drop_succ_cons, List.take_succ_cons, List.take_zero, List.take_nil, true_and, and_true, Int.ofNat_eq_natCast, neg_one, Int.toNat_natCast, Int.natCast_zero, Int.natCast_one, Int.cast_ofNat_Int, List.append_nil, List.nil_append, show ¬ ((plK x m : Int) < 0) by omega, show ¬ ((n : Int) < (plK x m : Int)) by omega, decide_false, Bool.not_false, if_true]
          unfold X6_11
          simp (disch := omega) only [tys, bindJ_eq, logJ_eq, wp_box, wp_aput, wp_anew, wp_cond, wp_guard, gd_true, gd_false, pick_eq, add_eq, sub_eq, eq_eq, ne_eq, lt_eq, le_eq, gt_eq, ge_eq, shr_eq, shl_eq, quo_eq, rem_eq, not_eq, wp_log_ret, wp_log_anew, ext0, ext1, ext2, nil_eq, get_ne, get_eq, nth_0, nth_s, cells_agg, cells_int, cells_bool, cells_slice, cells_ptr, ro_zero, one_int, one_bool, one_slice, one_ptr, arr_size, overL, Nat.zero_add, Nat.reduceAdd, Nat.add_zero, List.length_cons, List.length_nil, List.all_cons, List.all_nil, Nat.reduceLeDiff, Nat.ble_eq, Bool.and_true, Bool.not_false, Bool.and_self, decide_true, List.drop_zero, List.drop_succ_cons, List.take_succ_cons, List.take_zero, List.take_nil, true_and, and_true, Int.ofNat_eq_natCast, neg_one, Int.toNat_natCast, Int.natCast_zero, Int.natCast_one, Int.cast_ofNat_Int, List.append_nil, List.nil_append, Bool.false_eq_true, if_false]
          have rl2 := rl.grow g1.fresh g2
          have ra2 := ra.grow g1.fresh g2
          have ha2 := ha.keep g1.fresh g2
          cases hat : atK x m with
          | true =>
            have hy := at_is hat
            have hyl := (List.getElem?_eq_some_iff.1 hy).1
            simp (disch := omega) only [tys, bindJ_eq, logJ_eq, wp_box, wp_aput, wp_anew, wp_cond, wp_guard, gd_true, gd_false, pick_eq, add_eq, sub_eq, eq_eq, ne_eq, lt_eq, le_eq, gt_eq, ge_eq, shr_eq, shl_eq, quo_eq, rem_eq, not_eq, wp_log_ret, wp_log_anew, ext0, ext1, ext2, nil_eq, get_ne, get_eq, nth_0, nth_s, cells_agg, cells_int, cells_bool, cells_slice, cells_ptr, ro_zero, one_int, one_bool, one_slice, one_ptr, arr_size, overL, Nat.zero_add, Nat.reduceAdd, Nat.add_zero, List.length_cons, List.length_nil, List.all_cons, List.all_nil, Nat.reduceLeDiff, Nat.ble_eq, Bool.and_true, Bool.not_false, Bool.and_self, decide_true, List.drop_zero, List.drop_succ_cons, List.take_succ_cons, List.take_zero, List.take_nil, true_and, and_true, Int.ofNat_eq_natCast, neg_one, Int.toNat_natCast, Int.natCast_zero, Int.natCast_one, Int.cast_ofNat_Int, List.append_nil, List.nil_append, if_true]
            unfold X6_8
            simp (disch := omega) only [tys, bindJ_eq, logJ_eq, wp_box, wp_aput, wp_anew, wp_cond, wp_guard, gd_true, gd_false, pick_eq, add_eq, sub_eq, eq_eq, ne_eq, lt_eq, le_eq, gt_eq, ge_eq, shr_eq, shl_eq, quo_eq, rem_eq, not_eq, wp_log_ret, wp_log_anew, ext0, ext1, ext2, nil_eq, get_ne, get_eq, nth_0, nth_s, cells_agg, cells_int, cells_bool, cells_slice, cells_ptr, ro_zero, one_int, one_bool, one_slice, one_ptr, arr_size, overL, Nat.zero_add, Nat.reduceAdd, Nat.add_zero, List.length_cons, List.length_nil, List.all_cons, List.all_nil, Nat.reduceLeDiff, Nat.ble_eq, Bool.and_true, Bool.not_false, Bool.and_self, decide_true, List.drop_zero, List.drop_succ_cons, List.take_succ_cons, List.take_zero, List.take_nil, true_and, and_true, Int.ofNat_eq_natCast, neg_one, Int.toNat_natCast, Int.natCast_zero, Int.natCast_one, Int.cast_ofNat_Int, List.append_nil, List.nil_append, show ¬ ((plK x m : Int) = (n : Int)) by omega, decide_false, Bool.not_false, if_true, xa3 ra2 (j := (plK x m : Int)) (by omega) (by omega), row3L ra2 hy]
            unfold X6_7
            simp (disch := omega) only [tys, bindJ_eq, logJ_eq, wp_box, wp_aput, wp_anew, wp_cond, wp_guard, gd_true, gd_false, pick_eq, add_eq, sub_eq, eq_eq, ne_eq, lt_eq, le_eq, gt_eq, ge_eq, shr_eq, shl_eq, quo_eq, rem_eq, not_eq, wp_log_ret, wp_log_anew, ext0, ext1, ext2, nil_eq, get_ne, get_eq, nth_0, nth_s, cells_agg, cells_int, cells_bool, cells_slice, cells_ptr, ro_zero, one_int, one_bool, one_slice, one_ptr, arr_size, overL, Nat.zero_add, Nat.reduceAdd, Nat.add_zero, List.length_cons, List.length_nil, List.all_cons, List.all_nil, Nat.reduceLeDiff, Nat.ble_eq, Bool.and_true, Bool.not_false, Bool.and_self, decide_true, List.drop_zero, List.drop_succ_cons, List.take_succ_cons, List.take_zero, List.take_nil, true_and, and_true, Int.ofNat_eq_natCast, neg_one, Int.toNat_natCast, Int.natCast_zero, Int.natCast_one, Int.cast_ofNat_Int, List.append_nil, List.nil_append, if_true, Bool.not_false, xa3 rl2 (j := (i : Int)) (by omega) (by omega), row3L rl2 hx, row3L ra2 hy]
            unfold X6_6
            simp (disch := omega) only [tys, bindJ_eq, logJ_eq, wp_box, wp_aput, wp_anew, wp_cond, wp_guard, gd_true, gd_false, pick_eq, add_eq, sub_eq, eq_eq, ne_eq, lt_eq, le_eq, gt_eq, ge_eq, shr_eq, shl_eq, quo_eq, rem_eq, not_eq, wp_log_ret, wp_log_anew, ext0, ext1, ext2, nil_eq, get_ne, get_eq, nth_0, nth_s, cells_agg, cells_int, cells_bool, cells_slice, cells_ptr, ro_zero, one_int, one_bool, one_slice, one_ptr, arr_size, overL, Nat.zero_add, Nat.reduceAdd, Nat.add_zero, List.length_cons, List.length_nil, List.all_cons, List.all_nil, Nat.reduceLeDiff, Nat.ble_eq, Bool.and_true, Bool.not_false, Bool.and_self, decide_true, List.drop_zero, List.drop_succ_cons, List.take_succ_cons, List.take_zero, List.take_nil, true_and, and_true, Int.ofNat_eq_natCast, neg_one, Int.toNat_natCast, Int.natCast_zero, Int.natCast_one, Int.cast_ofNat_Int, List.append_nil, List.nil_append, if_true, Bool.not_false, row3L rl2 hx, kv, eq_self, Bool.not_true, Bool.false_eq_true, if_false]
            exact ih (i + 1) u p' n m h2 s2 (by omega) (by omega) ha2 (by omega) hri (fun k y hk hy' => by
              rcases Nat.lt_or_ge k i with h3 | h3
              · exact hin k y h3 hy'
              · obtain rfl : k = i := by omega
                rw [hx] at hy'; cases hy'
                exact List.mem_of_getElem? hy) (by omega) (g1.trans hs1 g2)
          | false =>
            simp (disch := omega) only [tys, bindJ_eq, logJ_eq, wp_box, wp_aput, wp_anew, wp_cond, wp_guard, gd_true, gd_false, pick_eq, add_eq, sub_eq, eq_eq, ne_eq, lt_eq, le_eq, gt_eq, ge_eq, shr_eq, shl_eq, quo_eq, rem_eq, not_eq, wp_log_ret, wp_log_anew, ext0, ext1, ext2, nil_eq, get_ne, get_eq, nth_0, nth_s, cells_agg, cells_int, cells_bool, cells_slice, cells_ptr, ro_zero, one_int, one_bool, one_slice, one_ptr, arr_size, overL, Nat.zero_add, Nat.reduceAdd, Nat.add_zero, List.length_cons, List.length_nil, List.all_cons, List.all_nil, Nat.reduceLeDiff, Nat.ble_eq, Bool.and_true, Bool.not_false, Bool.and_self, decide_true, List.drop_zero, List.drop_succ_cons, List.take_succ_cons, List.take_zero, List.take_nil, true_and, and_true, Int.ofNat_eq_natCast, neg_one, Int.toNat_natCast, Int.natCast_zero, Int.natCast_one, Int.cast_ofNat_Int, List.append_nil, List.nil_append, Bool.false_eq_true, if_false]
            have fin : ∀ p'' h3 s3, s2 ≤ s3 → Grow s2 h2 h3 s3 → AllK h3 p'' (n + 1) (n + 1) (insK x m) → (D N (d + 8) 21 [.slice p'' (n + 1) (n + 1)] (fun v159 s => notX P 4 v159 (fun v160 s => condX v160 (K (.bool false) s) (loopJ fuel 3 (fun _ _ _ _ => AM.fail) B u (.slice p'' (n + 1) (n + 1)) (.int .i64 ((i + 1 : Nat) : Int)) s)) s) s3).wp pw Z h3 := by
              intro p'' h3 s3 hs3 g3 ha3
              obtain ⟨ra3, ha30, hml3⟩ := ha3.row
              refine (s21 (d := d + 3) hN g3.fresh ra3 (by omega) ha30).use (fun n hn => hp0 n (by omega)) fun h4 s4 hs4 g4 => ?_
              rw [ins_rise hri hat]
              simp (disch := omega) only [tys, bindJ_eq, logJ_eq, wp_box, wp_aput, wp_anew, wp_cond, wp_guard, gd_true, gd_false, pick_eq, add_eq, sub_eq, eq_eq, ne_eq, lt_eq, le_eq, gt_eq, ge_eq, shr_eq, shl_eq, quo_eq, rem_eq, not_eq, wp_log_ret, wp_log_anew, ext0, ext1, ext2, nil_eq, get_ne, get_eq, nth_0, nth_s, cells_agg, cells_int, cells_bool, cells_slice, cells_ptr, ro_zero, one_int, one_bool, one_slice, one_ptr, arr_size, overL, Nat.zero_add, Nat.reduceAdd, Nat.add_zero, List.length_cons, List.length_nil, List.all_cons, List.all_nil, Nat.reduceLeDiff, Nat.ble_eq, Bool.and_true, Bool.not_false, Bool.and_self, decide_true, List.drop_zero, List.drop_succ_cons, List.take_succ_cons, List.take_zero, List.take_nil, true_and, and_true, Int.ofNat_eq_natCast, neg_one, Int.toNat_natCast, Int.natCast_zero, Int.natCast_one, Int.cast_ofNat_Int, List.append_nil, List.nil_append, Bool.not_true, Bool.false_eq_true, if_false]
              exact ih (i + 1) u p'' (n + 1) (insK x m) h4 s4 (by omega) (by omega) (ha3.keep g3.fresh g4) (by omega) (ins_rise hri hat) (fun k y hk hy' => by
                refine ins_mem ?_
                rcases Nat.lt_or_ge k i with h5 | h5
                · exact .inr (hin k y h5 hy')
                · obtain rfl : k = i := by omega
                  rw [hx] at hy'; cases hy'
                  exact .inl rfl) (by omega) ((g1.trans hs1 g2).trans (by omega) (g3.trans hs3 g4))
            rcases ha2 with ⟨rfl, rfl, rfl, _⟩ | ⟨h1', _, hne, q, rfl, hg⟩
            · exact ins_none (d := d + 3) g2.fresh rl2 hx (by omega) (by omega) (fun n hn => hp0 n (by omega)) (fun p'' h3 s3 hs3 g3 ha3 => fin p'' h3 s3 hs3 g3 ha3)
            · exact ins_some (d := d + 3) g2.fresh h1' hne (by omega) hg rl2 hx (by omega) (by omega) (by omega) rfl (fun n hn => hp0 n (by omega)) (fun p'' h3 s3 hs3 g3 ha3 => fin p'' h3 s3 hs3 g3 ha3)
        · simp (disch := omega) only [tys, bindJ_eq, logJ_eq, wp_box, wp_aput, wp_anew, wp_cond, wp_guard, gd_true, gd_false, pick_eq, add_eq, sub_eq, eq_eq, ne_eq, lt_eq, le_eq, gt_eq, ge_eq, shr_eq, shl_eq, quo_eq, rem_eq, not_eq, wp_log_ret, wp_log_anew, ext0, ext1, ext2, nil_eq, get_ne, get_eq, nth_0, nth_s, cells_agg, cells_int, cells_bool, cells_slice, cells_ptr, ro_zero, one_int, one_bool, one_slice, one_ptr, arr_size, overL, Nat.zero_add, Nat.reduceAdd, Nat.add_zero, List.length_cons, List.length_nil, List.all_cons, List.all_nil, Nat.reduceLeDiff, Nat.ble_eq, Bool.and_true, Bool.not_false, Bool.and_self, decide_true, List.drop_zero, List.drop_succ_cons, List.take_succ_cons, List.take_zero, List.take_nil, true_and, and_true, Int.ofNat_eq_natCast, neg_one, Int.toNat_natCast, Int.natCast_zero, Int.natCast_one, Int.cast_ofNat_Int, List.append_nil, List.nil_append, show ¬ (i : Int) < (len : Int) by omega, decide_false, Bool.false_eq_true, if_false]
          refine hJ u p' n m h1 s1 ha (by omega) hri (fun y hy => ?_) hs1 g1
          obtain ⟨k, hk⟩ := List.getElem?_of_mem hy
          have := (List.getElem?_eq_some_iff.1 hk).1
          rw [r.1] at this
          exact hin k y (by omega) hk
    refine loop1 _ (fun u p' n m h1 s1 ha hn hri hin hs1 g1 => ?_) _ (fun _ _ _ _ _ => rfl) N 0 (.bool false) none 0 [] h0 s0 (by omega) (by omega) (.inl ⟨rfl, rfl, rfl, rfl⟩) (by omega) rfl (fun k y hk => by omega) (Nat.le_refl _) (.refl hf0)
    -- each is found
    have loop2 : ∀ (B : (Value → Value → Nat → AM) → Value → Value → Nat → AM) (hB : ∀ H u i s', B H u i s' = X6_5 N (D N (d + 8)) K (.slice p len cap) (.slice p' n n) (fun s => K (.bool true) s) H u i s') (fuel i : Nat) (u : Value) (h2 : T) (s2 : Nat), len - i < fuel → i ≤ len → s1 ≤ s2 → Grow s1 h1 h2 s2 →
        (loopJ fuel 2 (fun _ _ _ => AM.fail) B u (.int .i64 (i : Int)) s2).wp pw Z h2 := by
      intro B hB fuel
      induction fuel with
      | zero => intro i u h2 s2 hfu; omega
      | succ fuel ih =>
        intro i u h2 s2 hfu hil hs2 g2
        have rl := r0.grow hf0 (g1.trans hs1 g2)
        have ha2 := ha.keep g1.fresh g2
        obtain ⟨ra, ha0, hml⟩ := ha2.row
        rw [loopJ_succ, hB]
        unfold X6_5
        simp (disch := omega) only [tys, bindJ_eq, logJ_eq, wp_box, wp_aput, wp_anew, wp_cond, wp_guard, gd_true, gd_false, pick_eq, add_eq, sub_eq, eq_eq, ne_eq, lt_eq, le_eq, gt_eq, ge_eq, shr_eq, shl_eq, quo_eq, rem_eq, not_eq, wp_log_ret, wp_log_anew, ext0, ext1, ext2, nil_eq, get_ne, get_eq, nth_0, nth_s, cells_agg, cells_int, cells_bool, cells_slice, cells_ptr, ro_zero, one_int, one_bool, one_slice, one_ptr, arr_size, overL, Nat.zero_add, Nat.reduceAdd, Nat.add_zero, List.length_cons, List.length_nil, List.all_cons, List.all_nil, Nat.reduceLeDiff, Nat.ble_eq, Bool.and_true, Bool.not_false, Bool.and_self, decide_true, List.drop_zero, List.drop_succ_cons, List.take_succ_cons, List.take_zero, List.take_nil, true_and, and_true, Int.ofNat_eq_natCast, neg_one, Int.toNat_natCast, Int.natCast_zero, Int.natCast_one, Int.cast_ofNat_Int, List.append_nil, List.nil_append]
        by_cases hlt : i < len
        · obtain ⟨x, hx⟩ := get_some (l := l) (i := i) (by rw [r.1]; omega)
          have e3 : (i : Int) + 1 = ((i + 1 : Nat) : Int) := by omega
          simp (disch := omega) only [tys, bindJ_eq, logJ_eq, wp_box, wp_aput, wp_anew, wp_cond, wp_guard, gd_true, gd_false, pick_eq, add_eq, sub_eq, eq_eq, ne_eq, lt_eq, le_eq, gt_eq, ge_eq, shr_eq, shl_eq, quo_eq, rem_eq, not_eq, wp_log_ret, wp_log_anew, ext0, ext1, ext2, nil_eq, get_ne, get_eq, nth_0, nth_s, cells_agg, cells_int, cells_bool, cells_slice, cells_ptr, ro_zero, one_int, one_bool, one_slice, one_ptr, arr_size, overL, Nat.zero_add, Nat.reduceAdd, Nat.add_zero, List.length_cons, List.length_nil, List.all_cons, List.all_nil, Nat.reduceLeDiff, Nat.ble_eq, Bool.and_true, Bool.not_false, Bool.and_self, decide_true, List.drop_zero, List.drop_succ_cons, List.take_succ_cons, List.take_zero, List.take_nil, true_and, and_true, Int.ofNat_eq_natCast, neg_one, Int.toNat_natCast, Int.natCast_zero, Int.natCast_one, Int.cast_ofNat_Int, List.append_nil, List.nil_append, show (i : Int) < (len : Int) by omega, if_true, xa3 rl (j := (i : Int)) (by omega) (by omega), row3 rl hx]
          refine (s15 (d := d + 2) hN g2.fresh ra (by omega) ha0 x).use (fun n hn => hp0 n (by omega)) fun h3 s3 hs3 g3 => ?_
          have hat := found hri (hin x (List.mem_of_getElem? hx))
          have hy := at_is hat
          have hyl := (List.getElem?_eq_some_iff.1 hy).1
          have hfi : findK x m = [.int .i64 (plK x m : Int), .bool true] := by unfold findK; rw [if_pos hri, hat]
          rw [hfi]
          have rl2 := rl.grow g2.fresh g3
          have ra2 := ra.grow g2.fresh g3
          simp (disch := omega) only [tys, bindJ_eq, logJ_eq, wp_box, wp_aput, wp_anew, wp_cond, wp_guard, gd_true, gd_false, pick_eq, add_eq, sub_eq, eq_eq, ne_eq, lt_eq, le_eq, gt_eq, ge_eq, shr_eq, shl_eq, quo_eq, rem_eq, not_eq, wp_log_ret, wp_log_anew, ext0, ext1, ext2, nil_eq, get_ne, get_eq, nth_0, nth_s, cells_agg, cells_int, cells_bool, cells_slice, cells_ptr, ro_zero, one_int, one_bool, one_slice, one_ptr, arr_size, overL, Nat.zero_add, Nat.reduceAdd, Nat.add_zero, List.length_cons, List.length_nil, List.all_cons, List.all_nil, Nat.reduceLeDiff, Nat.ble_eq, Bool.and_true, Bool.not_false, Bool.and_self, decide_true, List.drop_zero, List.drop_succ_cons, List.take_succ_cons, List.take_zero, List.take_nil, true_and, and_true, Int.ofNat_eq_natCast, neg_one, Int.toNat_natCast, Int.natCast_zero, Int.natCast_one, Int.cast_ofNat_Int, List.append_nil, List.nil_append, Bool.not_true, Bool.not_false, if_true]
          unfold X6_4
          simp (disch := omega) only [tys, bindJ_eq, logJ_eq, wp_box, wp_aput, wp_anew, wp_cond, wp_guard, gd_true, gd_false, pick_eq, add_eq, sub_eq, eq_eq, ne_eq, lt_eq, le_eq, gt_eq, ge_eq, shr_eq, shl_eq, quo_eq, rem_eq, not_eq, wp_log_ret, wp_log_anew, ext0, ext1, ext2, nil_eq, get_ne, get_eq, nth_0, nth_s, cells_agg, cells_int, cells_bool, cells_slice, cells_ptr, ro_zero, one_int, one_bool, one_slice, one_ptr, arr_size, overL, Nat.zero_add, Nat.reduceAdd, Nat.add_zero, List.length_cons, List.length_nil, List.all_cons, List.all_nil, Nat.reduceLeDiff, Nat.ble_eq, Bool.and_true, Bool.not_false, Bool.and_self, decide_true, List.drop_zero, List.drop_succ_cons, List.take_succ_cons, List.take_zero, List.take_nil, true_and, and_true, Int.ofNat_eq_natCast, neg_one, Int.toNat_natCast, Int.natCast_zero, Int.natCast_one, Int.cast_ofNat_Int, List.append_nil, List.nil_append, Bool.not_false, if_true, show ¬ ((n : Int) ≤ (plK x m : Int)) by omega, decide_false]
          unfold X6_3
          simp (disch := omega) only [tys, bindJ_eq, logJ_eq, wp_box, wp_aput, wp_anew, wp_cond, wp_guard, gd_true, gd_false, pick_eq, add_eq, sub_eq, eq_eq, ne_eq, lt_eq, le_eq, gt_eq, ge_eq, shr_eq, shl_eq, quo_eq, rem_eq, not_eq, wp_log_ret, wp_log_anew, ext0, ext1, ext2, nil_eq, get_ne, get_eq, nth_0, nth_s, cells_agg, cells_int, cells_bool, cells_slice, cells_ptr, ro_zero, one_int, one_bool, one_slice, one_ptr, arr_size, overL, Nat.zero_add, Nat.reduceAdd, Nat.add_zero, List.length_cons, List.length_nil, List.all_cons, List.all_nil, Nat.reduceLeDiff, Nat.ble_eq, Bool.and_true, Bool.not_false, Bool.and_self, decide_true, List.drop_zero, List.drop_succ_cons, List.take_succ_cons, List.take_zero, List.take_nil, true_and, and_true, Int.ofNat_eq_natCast, neg_one, Int.toNat_natCast, Int.natCast_zero, Int.natCast_one, Int.cast_ofNat_Int, List.append_nil, List.nil_append, Bool.not_false, Bool.false_eq_true, if_false, if_true, xa3 ra2 (j := (plK x m : Int)) (by omega) (by omega), row3L ra2 hy]
          unfold X6_2
          simp (disch := omega) only [tys, bindJ_eq, logJ_eq, wp_box, wp_aput, wp_anew, wp_cond, wp_guard, gd_true, gd_false, pick_eq, add_eq, sub_eq, eq_eq, ne_eq, lt_eq, le_eq, gt_eq, ge_eq, shr_eq, shl_eq, quo_eq, rem_eq, not_eq, wp_log_ret, wp_log_anew, ext0, ext1, ext2, nil_eq, get_ne, get_eq, nth_0, nth_s, cells_agg, cells_int, cells_bool, cells_slice, cells_ptr, ro_zero, one_int, one_bool, one_slice, one_ptr, arr_size, overL, Nat.zero_add, Nat.reduceAdd, Nat.add_zero, List.length_cons, List.length_nil, List.all_cons, List.all_nil, Nat.reduceLeDiff, Nat.ble_eq, Bool.and_true, Bool.not_false, Bool.and_self, decide_true, List.drop_zero, List.drop_succ_cons, List.take_succ_cons, List.take_zero, List.take_nil, true_and, and_true, Int.ofNat_eq_natCast, neg_one, Int.toNat_natCast, Int.natCast_zero, Int.natCast_one, Int.cast_ofNat_Int, List.append_nil, List.nil_append, Bool.not_false, if_true, row3L ra2 hy, xa3 rl2 (j := (i : Int)) (by omega) (by omega), row3L rl2 hx]
          unfold X6_1
          simp (disch := omega) only [tys, bindJ_eq, logJ_eq, wp_box, wp_aput, wp_anew, wp_cond, wp_guard, gd_true, gd_false, pick_eq, add_eq, sub_eq, eq_eq, ne_eq, lt_eq, le_eq, gt_eq, ge_eq, shr_eq, shl_eq, quo_eq, rem_eq, not_eq, wp_log_ret, wp_log_anew, ext0, ext1, ext2, nil_eq, get_ne, get_eq, nth_0, nth_s, cells_agg, cells_int, cells_bool, cells_slice, cells_ptr, ro_zero, one_int, one_bool, one_slice, one_ptr, arr_size, overL, Nat.zero_add, Nat.reduceAdd, Nat.add_zero, List.length_cons, List.length_nil, List.all_cons, List.all_nil, Nat.reduceLeDiff, Nat.ble_eq, Bool.and_true, Bool.not_false, Bool.and_self, decide_true, List.drop_zero, List.drop_succ_cons, List.take_succ_cons, List.take_zero, List.take_nil, true_and, and_true, Int.ofNat_eq_natCast, neg_one, Int.toNat_natCast, Int.natCast_zero, Int.natCast_one, Int.cast_ofNat_Int, List.append_nil, List.nil_append, Bool.not_false, if_true, row3L rl2 hx, kv, eq_self, Bool.not_true, Bool.false_eq_true, if_false, e3, wrap_id (a := ((i + 1 : Nat) : Int)) (by omega) (by omega)]
          exact ih (i + 1) u h3 s3 (by omega) (by omega) (by omega) (g2.trans hs2 g3)
        · simp (disch := omega) only [tys, bindJ_eq, logJ_eq, wp_box, wp_aput, wp_anew, wp_cond, wp_guard, gd_true, gd_false, pick_eq, add_eq, sub_eq, eq_eq, ne_eq, lt_eq, le_eq, gt_eq, ge_eq, shr_eq, shl_eq, quo_eq, rem_eq, not_eq, wp_log_ret, wp_log_anew, ext0, ext1, ext2, nil_eq, get_ne, get_eq, nth_0, nth_s, cells_agg, cells_int, cells_bool, cells_slice, cells_ptr, ro_zero, one_int, one_bool, one_slice, one_ptr, arr_size, overL, Nat.zero_add, Nat.reduceAdd, Nat.add_zero, List.length_cons, List.length_nil, List.all_cons, List.all_nil, Nat.reduceLeDiff, Nat.ble_eq, Bool.and_true, Bool.not_false, Bool.and_self, decide_true, List.drop_zero, List.drop_succ_cons, List.take_succ_cons, List.take_zero, List.take_nil, true_and, and_true, Int.ofNat_eq_natCast, neg_one, Int.toNat_natCast, Int.natCast_zero, Int.natCast_one, Int.cast_ofNat_Int, List.append_nil, List.nil_append, show ¬ (i : Int) < (len : Int) by omega, decide_false, Bool.false_eq_true, if_false]
          exact hk _ _ (by omega) (g1.trans hs1 g2)
    exact loop2 _ (fun _ _ _ _ => rfl) N 0 u h1 s1 (by omega) (by omega) (Nat.le_refl _) (.refl g1.fresh)
end
end Go.Ev.R

/- Proved here: for every input the Go function BoundTells returns true. No condition. -/
import Derived.Test.YtlmdegpccodbgaaPBoundTellsx2
namespace Go.Proofs.Ytlmdegpccodbgaa.Pure
open Go.RowKit Go.Proofs.Ytlmdegpccodbgaa.PBoundTells Go.Proofs.YtlmdegpccodbgaaW.PrintWords Go.Proofs.YtlmdegpccodbgaaW.PrintLast

theorem w64 {n : Int} (h : -9223372036854775808 ≤ n) (h' : n ≤ 9223372036854775807) : wrap64 n = n := by
  unfold wrap64; omega

theorem ow1 (k : Nat) (n lo hi : Int) : bound_outside.f (k + 2) [⟨n, lo, hi⟩] = some (decide (n < lo ∨ hi < n)) := by
  unfold bound_outside.f
  simp only [bound_outside.l0, rd_T54, List.length_cons, List.length_nil]
  by_cases h1 : n < lo
  · simp [h1]
  · by_cases h2 : hi < n
    · simp [h1, h2]
    · simp [h1, h2, w64]

theorem ow2 (k : Nat) (n lo hi m lo' hi' : Int) : bound_outside.f (k + 3) [⟨n, lo, hi⟩, ⟨m, lo', hi'⟩] = some (decide ((n < lo ∨ hi < n) ∨ (m < lo' ∨ hi' < m))) := by
  unfold bound_outside.f
  simp only [bound_outside.l0, rd_T54, List.length_cons, List.length_nil]
  by_cases h1 : n < lo
  · simp [h1]
  · by_cases h2 : hi < n
    · simp [h1, h2]
    · by_cases h3 : m < lo'
      · simp [h1, h2, h3, w64]
      · by_cases h4 : hi' < m
        · simp [h1, h2, h3, h4, w64]
        · simp [h1, h2, h3, h4, w64]

theorem ow3 (k : Nat) (n lo hi m lo' hi' r lo2 hi2 : Int) : bound_outside.f (k + 4) [⟨n, lo, hi⟩, ⟨m, lo', hi'⟩, ⟨r, lo2, hi2⟩] = some (decide ((n < lo ∨ hi < n) ∨ (m < lo' ∨ hi' < m) ∨ (r < lo2 ∨ hi2 < r))) := by
  unfold bound_outside.f
  simp only [bound_outside.l0, rd_T54, List.length_cons, List.length_nil]
  by_cases h1 : n < lo
  · simp [h1]
  · by_cases h2 : hi < n
    · simp [h1, h2]
    · by_cases h3 : m < lo'
      · simp [h1, h2, h3, w64]
      · by_cases h4 : hi' < m
        · simp [h1, h2, h3, h4, w64]
        · by_cases h5 : r < lo2
          · simp [h1, h2, h3, h4, h5, w64]
          · by_cases h6 : hi2 < r
            · simp [h1, h2, h3, h4, h5, h6, w64]
            · simp [h1, h2, h3, h4, h5, h6, w64]

theorem spread_l (r n : Int) (hr : 1 ≤ r) (hr' : r ≤ 16384) (hn : n ≤ 200) (d : Nat) : ∀ (k : Nat) (acc i : Int), 0 ≤ i → i + d = n → 0 ≤ acc → acc ≤ 16388 * i → d < k →
    bound_spread.l0 k r acc n i = some (acc + d * (r + 4)) := by
  induction d with
  | zero =>
    intro k acc i h0 h1 h2 h3 hk
    obtain ⟨k, rfl⟩ : ∃ m, k = m + 1 := ⟨k - 1, by omega⟩
    simp only [bound_spread.l0]; rw [if_neg (by omega)]; simp
  | succ d ih =>
    intro k acc i h0 h1 h2 h3 hk
    obtain ⟨k, rfl⟩ : ∃ m, k = m + 1 := ⟨k - 1, by omega⟩
    simp only [bound_spread.l0]; rw [if_pos (by omega)]
    rw [w64 (n := r + 4) (by omega) (by omega), w64 (n := acc + (r + 4)) (by omega) (by omega), w64 (n := i + 1) (by omega) (by omega)]
    rw [ih k (acc + (r + 4)) (i + 1) (by omega) (by omega) (by omega) (by omega) (by omega)]
    have : ((d + 1 : Nat) : Int) * (r + 4) = (d : Int) * (r + 4) + (r + 4) := by
      rw [Int.natCast_add, Int.add_mul]; simp
    rw [this]; congr 1; omega

theorem state_l (each n : Int) (he : 0 ≤ each) (he' : each ≤ 1000000000000) (hn : n ≤ 200) (d : Nat) : ∀ (k : Nat) (acc i : Int), 0 ≤ i → i + d = n → 0 ≤ acc → acc ≤ 1000000000000 * i → d < k →
    bound_state.l0 k acc each n i = some (acc + d * each) := by
  induction d with
  | zero =>
    intro k acc i h0 h1 h2 h3 hk
    obtain ⟨k, rfl⟩ : ∃ m, k = m + 1 := ⟨k - 1, by omega⟩
    simp only [bound_state.l0]; rw [if_neg (by omega)]; simp
  | succ d ih =>
    intro k acc i h0 h1 h2 h3 hk
    obtain ⟨k, rfl⟩ : ∃ m, k = m + 1 := ⟨k - 1, by omega⟩
    simp only [bound_state.l0]; rw [if_pos (by omega)]
    rw [w64 (n := acc + each) (by omega) (by omega), w64 (n := i + 1) (by omega) (by omega)]
    rw [ih k (acc + each) (i + 1) (by omega) (by omega) (by omega) (by omega) (by omega)]
    have : ((d + 1 : Nat) : Int) * each = (d : Int) * each + each := by
      rw [Int.natCast_add, Int.add_mul]; simp
    rw [this]; congr 1; omega

theorem spread_eq (n r : Int) (h0 : 0 ≤ n) (hn : n ≤ 200) (hr : 1 ≤ r) (hr' : r ≤ 16384) : bound_spread.f 300 n r = some (n * (r + 4)) := by
  obtain ⟨d, rfl⟩ := Int.eq_ofNat_of_zero_le h0
  unfold bound_spread.f
  rw [spread_l r _ hr hr' hn d 300 0 0 (by omega) (by omega) (by omega) (by omega) (by omega)]; simp

theorem sp_bd (n r : Int) (h0 : 0 ≤ n) (hn : n ≤ 200) (hr : 1 ≤ r) (hr' : r ≤ 16384) : 0 ≤ n * (r + 4) ∧ n * (r + 4) ≤ 3277600 := by
  have a : n * (r + 4) ≤ 200 * 16388 := Int.mul_le_mul hn (by omega) (by omega) (by omega)
  have b : 0 ≤ n * (r + 4) := Int.mul_nonneg h0 (by omega)
  omega

def eachOf (n m r : Int) : Int := (2 * m + 1) * (n * (r + 4) + 1) + 2

theorem each_bd (n m r : Int) (h0 : 0 ≤ n) (hn : n ≤ 200) (hm : 1 ≤ m) (hm' : m ≤ 16384) (hr : 1 ≤ r) (hr' : r ≤ 16384) : 0 ≤ (2 * m + 1) * (n * (r + 4) + 1) ∧ (2 * m + 1) * (n * (r + 4) + 1) ≤ 107404000000 := by
  obtain ⟨a, b⟩ := sp_bd n r h0 hn hr hr'
  have c : (2 * m + 1) * (n * (r + 4) + 1) ≤ 32769 * 3277601 := Int.mul_le_mul (by omega) (by omega) (by omega) (by omega)
  have d : 0 ≤ (2 * m + 1) * (n * (r + 4) + 1) := Int.mul_nonneg (by omega) (by omega)
  omega

theorem state_eq (n m r : Int) (h0 : 0 ≤ n) (hn : n ≤ 200) (hm : 1 ≤ m) (hm' : m ≤ 16384) (hr : 1 ≤ r) (hr' : r ≤ 16384) : bound_state.f 300 n m r = some (n * eachOf n m r) := by
  unfold bound_state.f
  rw [spread_eq n r h0 hn hr hr']
  simp only [Option.bind_some]
  obtain ⟨a, b⟩ := sp_bd n r h0 hn hr hr'
  obtain ⟨c, e⟩ := each_bd n m r h0 hn hm hm' hr hr'
  rw [w64 (n := 2 * m) (by omega) (by omega), w64 (n := 2 * m + 1) (by omega) (by omega), w64 (n := n * (r + 4) + 1) (by omega) (by omega), w64 (n := (2 * m + 1) * (n * (r + 4) + 1)) (by omega) (by omega), w64 (n := (2 * m + 1) * (n * (r + 4) + 1) + 2) (by omega) (by omega)]
  obtain ⟨d, rfl⟩ := Int.eq_ofNat_of_zero_le h0
  rw [state_l _ _ (by omega) (by omega) hn d 300 0 0 (by omega) (by omega) (by omega) (by omega) (by omega)]
  simp [eachOf]

theorem Spread_eq (n r : Int) : bound_Spread.f 300 n r = some (if 0 ≤ n ∧ n ≤ 200 ∧ 1 ≤ r ∧ r ≤ 16384 then (n * (r + 4), 0) else (0, 4)) := by
  unfold bound_Spread.f
  rw [ow2 297]
  simp only [Option.bind_some]
  by_cases h : 0 ≤ n ∧ n ≤ 200 ∧ 1 ≤ r ∧ r ≤ 16384
  · rw [if_pos h, if_neg (by rw [decide_eq_true_eq]; omega), spread_eq n r h.1 h.2.1 h.2.2.1 h.2.2.2]; rfl
  · rw [if_neg h, if_pos (by rw [decide_eq_true_eq]; omega)]

theorem State_eq (n m r : Int) : bound_State.f 300 n m r = some (if 0 ≤ n ∧ n ≤ 200 ∧ 1 ≤ m ∧ m ≤ 16384 ∧ 1 ≤ r ∧ r ≤ 16384 then (n * eachOf n m r, 0) else (0, 4)) := by
  unfold bound_State.f
  rw [ow3 296]
  simp only [Option.bind_some]
  by_cases h : 0 ≤ n ∧ n ≤ 200 ∧ 1 ≤ m ∧ m ≤ 16384 ∧ 1 ≤ r ∧ r ≤ 16384
  · rw [if_pos h, if_neg (by rw [decide_eq_true_eq]; omega), state_eq n m r h.1 h.2.1 h.2.2.1 h.2.2.2.1 h.2.2.2.2.1 h.2.2.2.2.2]; rfl
  · rw [if_neg h, if_pos (by rw [decide_eq_true_eq]; omega)]

theorem Ticks_eq (b u : Int) : bound_Ticks.f 300 b u = some (if 1 ≤ u ∧ u ≤ 200 then (if 0 ≤ b ∧ b ≤ 200 then ((b + u - 1) / u, 0) else (0, 4)) else (0, 2)) := by
  unfold bound_Ticks.f
  rw [ow1 298, ow1 298]
  simp only [Option.bind_some]
  by_cases h : 1 ≤ u ∧ u ≤ 200
  · rw [if_pos h, if_neg (by rw [decide_eq_true_eq]; omega)]
    by_cases h' : 0 ≤ b ∧ b ≤ 200
    · rw [if_pos h', if_neg (by rw [decide_eq_true_eq]; omega), if_neg (by omega)]
      rw [w64 (n := b + u) (by omega) (by omega), w64 (n := b + u - 1) (by omega) (by omega), Int.tdiv_eq_ediv_of_nonneg (by omega)]
      have q0 : 0 ≤ (b + u - 1) / u := Int.ediv_nonneg (by omega) (by omega)
      have q1 : (b + u - 1) / u ≤ b + u - 1 := Int.ediv_le_self _ (by omega)
      rw [w64 (by omega) (by omega)]
    · rw [if_neg h', if_pos (by rw [decide_eq_true_eq]; omega)]
  · rw [if_neg h, if_pos (by rw [decide_eq_true_eq]; omega)]

theorem awake_eq : binnaclelaw31_awake.f 300 = some true := by
  unfold binnaclelaw31_awake.f binnaclelaw31_ticks.f binnaclelaw31_spread.f binnaclelaw31_state.f
  rw [Ticks_eq, Spread_eq, State_eq]
  decide

theorem within_eq (n lo hi : Int) : binnacleref31_within.f n lo hi = some (decide (lo ≤ n ∧ n ≤ hi)) := by
  unfold binnacleref31_within.f
  by_cases h : n ≥ lo <;> simp [h]

theorem rTicks_l (u : Int) (hu : 1 ≤ u) (hu' : u ≤ 200) (d : Nat) : ∀ (k : Nat) (b n : Int), -u < b → b ≤ d → d ≤ 200 → 0 ≤ n → n + d ≤ 200 → d < k →
    binnacleref31_Ticks.l0 k b u n = some (n + (b + u - 1) / u, 0) := by
  induction d with
  | zero =>
    intro k b n h0 h1 _ h2 h3 hk
    obtain ⟨k, rfl⟩ : ∃ m, k = m + 1 := ⟨k - 1, by omega⟩
    simp only [binnacleref31_Ticks.l0]; rw [if_neg (by omega)]
    rw [Int.ediv_eq_zero_of_lt (by omega) (by omega)]; simp
  | succ d ih =>
    intro k b n h0 h1 _ h2 h3 hk
    obtain ⟨k, rfl⟩ : ∃ m, k = m + 1 := ⟨k - 1, by omega⟩
    simp only [binnacleref31_Ticks.l0]
    by_cases h : b > 0
    · rw [if_pos h, w64 (n := b - u) (by omega) (by omega), w64 (n := n + 1) (by omega) (by omega)]
      rw [ih k (b - u) (n + 1) (by omega) (by omega) (by omega) (by omega) (by omega) (by omega)]
      have e : b + u - 1 = (b - u + u - 1) + u := by omega
      rw [e, Int.add_ediv_of_dvd_right (Int.dvd_refl u), Int.ediv_self (by omega)]
      congr 2; omega
    · rw [if_neg h, Int.ediv_eq_zero_of_lt (by omega) (by omega)]; simp

theorem rTicks_eq (b u : Int) : binnacleref31_Ticks.f 300 b u = some (if 1 ≤ u ∧ u ≤ 200 then (if 0 ≤ b ∧ b ≤ 200 then ((b + u - 1) / u, 0) else (0, 4)) else (0, 2)) := by
  unfold binnacleref31_Ticks.f
  rw [within_eq, within_eq]
  simp only [Option.bind_some, decide_eq_true_eq]
  by_cases h : 1 ≤ u ∧ u ≤ 200
  · rw [if_pos h, if_pos h]
    by_cases h' : 0 ≤ b ∧ b ≤ 200
    · rw [if_pos h', if_pos h']
      rw [rTicks_l u h.1 h.2 b.toNat 300 b 0 (by omega) (by omega) (by omega) (by omega) (by omega) (by omega)]; simp
    · rw [if_neg h', if_neg h']
  · rw [if_neg h, if_neg h]

theorem rSpread_eq (n r : Int) : binnacleref31_Spread.f n r = some (if 0 ≤ n ∧ n ≤ 200 ∧ 1 ≤ r ∧ r ≤ 16384 then (n * (r + 4), 0) else (0, 4)) := by
  unfold binnacleref31_Spread.f
  rw [within_eq, within_eq]
  simp only [Option.bind_some, decide_eq_true_eq]
  by_cases h : 0 ≤ n ∧ n ≤ 200
  · rw [if_pos h]
    by_cases h' : 1 ≤ r ∧ r ≤ 16384
    · rw [if_pos h', if_pos ⟨h.1, h.2, h'.1, h'.2⟩, w64 (n := r + 4) (by omega) (by omega)]
      have := sp_bd n r h.1 h.2 h'.1 h'.2
      rw [w64 (by omega) (by omega)]
    · rw [if_neg h', if_neg (by omega)]
  · rw [if_neg h, if_neg (by omega)]

theorem rState_eq (n m r : Int) : binnacleref31_State.f n m r = some (if 0 ≤ n ∧ n ≤ 200 ∧ 1 ≤ m ∧ m ≤ 16384 ∧ 1 ≤ r ∧ r ≤ 16384 then (n * eachOf n m r, 0) else (0, 4)) := by
  unfold binnacleref31_State.f
  rw [rSpread_eq, within_eq]
  simp only [Option.bind_some, decide_eq_true_eq]
  by_cases h : 0 ≤ n ∧ n ≤ 200 ∧ 1 ≤ r ∧ r ≤ 16384
  · rw [if_pos h, if_pos rfl]
    by_cases h' : 1 ≤ m ∧ m ≤ 16384
    · rw [if_pos h', if_pos ⟨h.1, h.2.1, h'.1, h'.2, h.2.2.1, h.2.2.2⟩]
      obtain ⟨a, b⟩ := sp_bd n r h.1 h.2.1 h.2.2.1 h.2.2.2
      obtain ⟨c, e⟩ := each_bd n m r h.1 h.2.1 h'.1 h'.2 h.2.2.1 h.2.2.2
      have q : n * eachOf n m r ≤ 200 * 107404000002 := Int.mul_le_mul h.2.1 (by unfold eachOf; omega) (by unfold eachOf; omega) (by omega)
      have q' : 0 ≤ n * eachOf n m r := Int.mul_nonneg h.1 (by unfold eachOf; omega)
      rw [w64 (n := 2 * m) (by omega) (by omega), w64 (n := 2 * m + 1) (by omega) (by omega), w64 (n := n * (r + 4) + 1) (by omega) (by omega), w64 (n := (2 * m + 1) * (n * (r + 4) + 1)) (by omega) (by omega), w64 (n := (2 * m + 1) * (n * (r + 4) + 1) + 2) (by omega) (by omega)]
      change some (wrap64 (n * eachOf n m r), 0) = _
      rw [w64 (by omega) (by omega)]
    · rw [if_neg h', if_neg (by omega)]
  · rw [if_neg h, if_neg (by omega), if_neg (by omega)]

theorem BoundTells : binnaclelaw31_BoundTells.Pure := by
  intro b u n m r _ _ _ _ _
  refine ⟨300, ?_⟩
  unfold binnaclelaw31_BoundTells.f
  rw [Ticks_eq, rTicks_eq, Spread_eq, rSpread_eq, State_eq, rState_eq, awake_eq]
  simp only [Option.bind_some, if_true]

end Go.Proofs.Ytlmdegpccodbgaa.Pure

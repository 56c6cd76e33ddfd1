/- Proved here: for every input the Go function BoundGrows returns true. No condition. -/
import Derived.Test.YtlmdegpccodbgaaGrowsWalk
namespace Go.Proofs.Ytlmdegpccodbgaa.Pure
open Go.RowKit Go.Proofs.Ytlmdegpccodbgaa.PBoundGrows Go.Proofs.YtlmdegpccodbgaaW.PrintWords Go.Proofs.YtlmdegpccodbgaaW.PrintLast

theorem w64 {n : Int} (h : -9223372036854775808 ≤ n) (h' : n ≤ 9223372036854775807) : wrap64 n = n := by
  unfold wrap64; omega

theorem ow1 (k : Nat) (n lo hi : Int) : bound_outside.f (k + 2) [⟨n, lo, hi⟩] = some (decide (n < lo ∨ hi < n)) := by
  unfold bound_outside.f
  simp only [bound_outside.l0, rd_T54, List.length_cons, List.length_nil]
  by_cases h1 : n < lo
  · simp [h1]
  · by_cases h2 : hi < n
    · simp [h1, h2]
    · simp [h1, h2, w64]

theorem ow2 (k : Nat) (n lo hi m lo' hi' : Int) : bound_outside.f (k + 3) [⟨n, lo, hi⟩, ⟨m, lo', hi'⟩] = some (decide ((n < lo ∨ hi < n) ∨ (m < lo' ∨ hi' < m))) := by
  unfold bound_outside.f
  simp only [bound_outside.l0, rd_T54, List.length_cons, List.length_nil]
  by_cases h1 : n < lo
  · simp [h1]
  · by_cases h2 : hi < n
    · simp [h1, h2]
    · by_cases h3 : m < lo'
      · simp [h1, h2, h3, w64]
      · by_cases h4 : hi' < m
        · simp [h1, h2, h3, h4, w64]
        · simp [h1, h2, h3, h4, w64]

theorem ow3 (k : Nat) (n lo hi m lo' hi' r lo2 hi2 : Int) : bound_outside.f (k + 4) [⟨n, lo, hi⟩, ⟨m, lo', hi'⟩, ⟨r, lo2, hi2⟩] = some (decide ((n < lo ∨ hi < n) ∨ (m < lo' ∨ hi' < m) ∨ (r < lo2 ∨ hi2 < r))) := by
  unfold bound_outside.f
  simp only [bound_outside.l0, rd_T54, List.length_cons, List.length_nil]
  by_cases h1 : n < lo
  · simp [h1]
  · by_cases h2 : hi < n
    · simp [h1, h2]
    · by_cases h3 : m < lo'
      · simp [h1, h2, h3, w64]
      · by_cases h4 : hi' < m
        · simp [h1, h2, h3, h4, w64]
        · by_cases h5 : r < lo2
          · simp [h1, h2, h3, h4, h5, w64]
          · by_cases h6 : hi2 < r
            · simp [h1, h2, h3, h4, h5, h6, w64]
            · simp [h1, h2, h3, h4, h5, h6, w64]

theorem spread_l (r n : Int) (hr : 1 ≤ r) (hr' : r ≤ 16384) (hn : n ≤ 200) (d : Nat) : ∀ (k : Nat) (acc i : Int), 0 ≤ i → i + d = n → 0 ≤ acc → acc ≤ 16388 * i → d < k →
    bound_spread.l0 k r acc n i = some (acc + d * (r + 4)) := by
  induction d with
  | zero =>
    intro k acc i h0 h1 h2 h3 hk
    obtain ⟨k, rfl⟩ : ∃ m, k = m + 1 := ⟨k - 1, by omega⟩
    simp only [bound_spread.l0]; rw [if_neg (by omega)]; simp
  | succ d ih =>
    intro k acc i h0 h1 h2 h3 hk
    obtain ⟨k, rfl⟩ : ∃ m, k = m + 1 := ⟨k - 1, by omega⟩
    simp only [bound_spread.l0]; rw [if_pos (by omega)]
    rw [w64 (n := r + 4) (by omega) (by omega), w64 (n := acc + (r + 4)) (by omega) (by omega), w64 (n := i + 1) (by omega) (by omega)]
    rw [ih k (acc + (r + 4)) (i + 1) (by omega) (by omega) (by omega) (by omega) (by omega)]
    have : ((d + 1 : Nat) : Int) * (r + 4) = (d : Int) * (r + 4) + (r + 4) := by
      rw [Int.natCast_add, Int.add_mul]; simp
    rw [this]; congr 1; omega

theorem state_l (each n : Int) (he : 0 ≤ each) (he' : each ≤ 1000000000000) (hn : n ≤ 200) (d : Nat) : ∀ (k : Nat) (acc i : Int), 0 ≤ i → i + d = n → 0 ≤ acc → acc ≤ 1000000000000 * i → d < k →
    bound_state.l0 k acc each n i = some (acc + d * each) := by
  induction d with
  | zero =>
    intro k acc i h0 h1 h2 h3 hk
    obtain ⟨k, rfl⟩ : ∃ m, k = m + 1 := ⟨k - 1, by omega⟩
    simp only [bound_state.l0]; rw [if_neg (by omega)]; simp
  | succ d ih =>
    intro k acc i h0 h1 h2 h3 hk
    obtain ⟨k, rfl⟩ : ∃ m, k = m + 1 := ⟨k - 1, by omega⟩
    simp only [bound_state.l0]; rw [if_pos (by omega)]
    rw [w64 (n := acc + each) (by omega) (by omega), w64 (n := i + 1) (by omega) (by omega)]
    rw [ih k (acc + each) (i + 1) (by omega) (by omega) (by omega) (by omega) (by omega)]
    have : ((d + 1 : Nat) : Int) * each = (d : Int) * each + each := by
      rw [Int.natCast_add, Int.add_mul]; simp
    rw [this]; congr 1; omega

theorem spread_eq (n r : Int) (h0 : 0 ≤ n) (hn : n ≤ 200) (hr : 1 ≤ r) (hr' : r ≤ 16384) : bound_spread.f 300 n r = some (n * (r + 4)) := by
  obtain ⟨d, rfl⟩ := Int.eq_ofNat_of_zero_le h0
  unfold bound_spread.f
  rw [spread_l r _ hr hr' hn d 300 0 0 (by omega) (by omega) (by omega) (by omega) (by omega)]; simp

theorem sp_bd (n r : Int) (h0 : 0 ≤ n) (hn : n ≤ 200) (hr : 1 ≤ r) (hr' : r ≤ 16384) : 0 ≤ n * (r + 4) ∧ n * (r + 4) ≤ 3277600 := by
  have a : n * (r + 4) ≤ 200 * 16388 := Int.mul_le_mul hn (by omega) (by omega) (by omega)
  have b : 0 ≤ n * (r + 4) := Int.mul_nonneg h0 (by omega)
  omega

def eachOf (n m r : Int) : Int := (2 * m + 1) * (n * (r + 4) + 1) + 2

theorem each_bd (n m r : Int) (h0 : 0 ≤ n) (hn : n ≤ 200) (hm : 1 ≤ m) (hm' : m ≤ 16384) (hr : 1 ≤ r) (hr' : r ≤ 16384) : 0 ≤ (2 * m + 1) * (n * (r + 4) + 1) ∧ (2 * m + 1) * (n * (r + 4) + 1) ≤ 107404000000 := by
  obtain ⟨a, b⟩ := sp_bd n r h0 hn hr hr'
  have c : (2 * m + 1) * (n * (r + 4) + 1) ≤ 32769 * 3277601 := Int.mul_le_mul (by omega) (by omega) (by omega) (by omega)
  have d : 0 ≤ (2 * m + 1) * (n * (r + 4) + 1) := Int.mul_nonneg (by omega) (by omega)
  omega

theorem state_eq (n m r : Int) (h0 : 0 ≤ n) (hn : n ≤ 200) (hm : 1 ≤ m) (hm' : m ≤ 16384) (hr : 1 ≤ r) (hr' : r ≤ 16384) : bound_state.f 300 n m r = some (n * eachOf n m r) := by
  unfold bound_state.f
  rw [spread_eq n r h0 hn hr hr']
  simp only [Option.bind_some]
  obtain ⟨a, b⟩ := sp_bd n r h0 hn hr hr'
  obtain ⟨c, e⟩ := each_bd n m r h0 hn hm hm' hr hr'
  rw [w64 (n := 2 * m) (by omega) (by omega), w64 (n := 2 * m + 1) (by omega) (by omega), w64 (n := n * (r + 4) + 1) (by omega) (by omega), w64 (n := (2 * m + 1) * (n * (r + 4) + 1)) (by omega) (by omega), w64 (n := (2 * m + 1) * (n * (r + 4) + 1) + 2) (by omega) (by omega)]
  obtain ⟨d, rfl⟩ := Int.eq_ofNat_of_zero_le h0
  rw [state_l _ _ (by omega) (by omega) hn d 300 0 0 (by omega) (by omega) (by omega) (by omega) (by omega)]
  simp [eachOf]

theorem Spread_eq (n r : Int) : bound_Spread.f 300 n r = some (if 0 ≤ n ∧ n ≤ 200 ∧ 1 ≤ r ∧ r ≤ 16384 then (n * (r + 4), 0) else (0, 4)) := by
  unfold bound_Spread.f
  rw [ow2 297]
  simp only [Option.bind_some]
  by_cases h : 0 ≤ n ∧ n ≤ 200 ∧ 1 ≤ r ∧ r ≤ 16384
  · rw [if_pos h, if_neg (by rw [decide_eq_true_eq]; omega), spread_eq n r h.1 h.2.1 h.2.2.1 h.2.2.2]; rfl
  · rw [if_neg h, if_pos (by rw [decide_eq_true_eq]; omega)]

theorem State_eq (n m r : Int) : bound_State.f 300 n m r = some (if 0 ≤ n ∧ n ≤ 200 ∧ 1 ≤ m ∧ m ≤ 16384 ∧ 1 ≤ r ∧ r ≤ 16384 then (n * eachOf n m r, 0) else (0, 4)) := by
  unfold bound_State.f
  rw [ow3 296]
  simp only [Option.bind_some]
  by_cases h : 0 ≤ n ∧ n ≤ 200 ∧ 1 ≤ m ∧ m ≤ 16384 ∧ 1 ≤ r ∧ r ≤ 16384
  · rw [if_pos h, if_neg (by rw [decide_eq_true_eq]; omega), state_eq n m r h.1 h.2.1 h.2.2.1 h.2.2.2.1 h.2.2.2.2.1 h.2.2.2.2.2]; rfl
  · rw [if_neg h, if_pos (by rw [decide_eq_true_eq]; omega)]

theorem Ticks_eq (b u : Int) : bound_Ticks.f 300 b u = some (if 1 ≤ u ∧ u ≤ 200 then (if 0 ≤ b ∧ b ≤ 200 then ((b + u - 1) / u, 0) else (0, 4)) else (0, 2)) := by
  unfold bound_Ticks.f
  rw [ow1 298, ow1 298]
  simp only [Option.bind_some]
  by_cases h : 1 ≤ u ∧ u ≤ 200
  · rw [if_pos h, if_neg (by rw [decide_eq_true_eq]; omega)]
    by_cases h' : 0 ≤ b ∧ b ≤ 200
    · rw [if_pos h', if_neg (by rw [decide_eq_true_eq]; omega), if_neg (by omega)]
      rw [w64 (n := b + u) (by omega) (by omega), w64 (n := b + u - 1) (by omega) (by omega), Int.tdiv_eq_ediv_of_nonneg (by omega)]
      have q0 : 0 ≤ (b + u - 1) / u := Int.ediv_nonneg (by omega) (by omega)
      have q1 : (b + u - 1) / u ≤ b + u - 1 := Int.ediv_le_self _ (by omega)
      rw [w64 (by omega) (by omega)]
    · rw [if_neg h', if_pos (by rw [decide_eq_true_eq]; omega)]
  · rw [if_neg h, if_pos (by rw [decide_eq_true_eq]; omega)]

theorem awake_eq : binnaclelaw31_awake.f 300 = some true := by
  unfold binnaclelaw31_awake.f binnaclelaw31_ticks.f binnaclelaw31_spread.f binnaclelaw31_state.f
  rw [Ticks_eq, Spread_eq, State_eq]
  decide

theorem Pick_eq (x n : Int) (hn : 1 ≤ n) (hn' : n ≤ 1000000) : ∃ y, binnaclekit_Pick.f x n = some y ∧ 0 ≤ y ∧ y < n := by
  unfold binnaclekit_Pick.f
  have h1 := Int.tmod_lt_of_pos x (show 0 < n by omega)
  have h2 : -n < Int.tmod x n := by
    have := Int.tmod_lt_of_pos (-x) (show 0 < n by omega)
    rw [Int.neg_tmod] at this; omega
  rw [if_neg (by omega), if_neg (by omega)]
  by_cases h : Int.tmod x n < 0
  · exact ⟨Int.tmod x n + n, by rw [if_pos h, w64 (by omega) (by omega)], by omega, by omega⟩
  · exact ⟨Int.tmod x n, by rw [if_neg h], by omega, by omega⟩

theorem mx_eq (a b : Int) : a ≤ mx a b ∧ b ≤ mx a b ∧ (mx a b = a ∨ mx a b = b) := by
  unfold mx; by_cases h : a < b <;> simp [h] <;> omega

theorem sp_mono {n k r s : Int} (h0 : 0 ≤ n) (hn : n ≤ k) (hr : 1 ≤ r) (hs : r ≤ s) : n * (r + 4) ≤ k * (s + 4) :=
  Int.mul_le_mul hn (by omega) (by omega) (by omega)

theorem each_mono {n k m j r s : Int} (h0 : 0 ≤ n) (hn : n ≤ k) (hm : 1 ≤ m) (hj : m ≤ j) (hr : 1 ≤ r) (hs : r ≤ s) : eachOf n m r ≤ eachOf k j s := by
  unfold eachOf
  have a := sp_mono h0 hn hr hs
  have b : 0 ≤ n * (r + 4) := Int.mul_nonneg h0 (by omega)
  have c : (2 * m + 1) * (n * (r + 4) + 1) ≤ (2 * j + 1) * (k * (s + 4) + 1) := Int.mul_le_mul (by omega) (by omega) (by omega) (by omega)
  omega

theorem each_pos {n m r : Int} (h0 : 0 ≤ n) (hm : 1 ≤ m) (hr : 1 ≤ r) : n * (r + 4) ≤ n * eachOf n m r ∧ 1 ≤ eachOf n m r ∧ r + 4 ≤ eachOf n m r ∨ n = 0 := by
  by_cases hn : n = 0
  · exact .inr hn
  · left
    have b : 1 * (r + 4) ≤ n * (r + 4) := Int.mul_le_mul (by omega) (by omega) (by omega) (by omega)
    have c : 1 * (n * (r + 4) + 1) ≤ (2 * m + 1) * (n * (r + 4) + 1) := Int.mul_le_mul (by omega) (by omega) (by omega) (by omega)
    have d : r + 4 ≤ eachOf n m r := by unfold eachOf; omega
    exact ⟨Int.mul_le_mul (by omega) d (by omega) (by omega), by omega, d⟩

theorem zero_iff {n x : Int} (hx : 1 ≤ x) (h0 : 0 ≤ n) : (n * x == 0) = (n == 0) := by
  rw [Bool.eq_iff_iff, beq_iff_eq, beq_iff_eq]
  constructor
  · intro h
    rcases Int.mul_eq_zero.mp h with h | h <;> omega
  · intro h; subst h; simp

theorem BoundGrows : binnaclelaw31_BoundGrows.Pure := by
  intro n k m j r s _ _ _ _ _ _
  refine ⟨300, ?_⟩
  unfold binnaclelaw31_BoundGrows.f
  obtain ⟨n, e1, hn0, hn1⟩ := Pick_eq n 201 (by omega) (by omega)
  obtain ⟨k, e2, hk0, hk1⟩ := Pick_eq k 201 (by omega) (by omega)
  obtain ⟨m, e3, hm0, hm1⟩ := Pick_eq m 16384 (by omega) (by omega)
  obtain ⟨j, e4, hj0, hj1⟩ := Pick_eq j 16384 (by omega) (by omega)
  obtain ⟨r, e5, hr0, hr1⟩ := Pick_eq r 16384 (by omega) (by omega)
  obtain ⟨s, e6, hs0, hs1⟩ := Pick_eq s 16384 (by omega) (by omega)
  rw [awake_eq, e1, e2, e3, e4, e5, e6]
  simp only [Option.bind_some]
  rw [w64 (n := 1 + m) (by omega) (by omega), w64 (n := 1 + j) (by omega) (by omega), w64 (n := 1 + r) (by omega) (by omega), w64 (n := 1 + s) (by omega) (by omega)]
  obtain ⟨M1, M2, M3⟩ := mx_eq (1 + m) (1 + j)
  obtain ⟨N1, N2, N3⟩ := mx_eq n k
  obtain ⟨R1, R2, R3⟩ := mx_eq (1 + r) (1 + s)
  generalize mx (1 + m) (1 + j) = M at *
  generalize mx n k = K at *
  generalize mx (1 + r) (1 + s) = R at *
  have hE := each_mono (n := n) (k := K) (m := 1 + m) (j := M) (r := 1 + r) (s := R) (by omega) (by omega) (by omega) (by omega) (by omega) (by omega)
  have hS := sp_mono (n := n) (k := K) (r := 1 + r) (s := R) (by omega) (by omega) (by omega) (by omega)
  have hP : 0 ≤ eachOf n (1 + m) (1 + r) := by
    rcases each_pos (n := n) (m := 1 + m) (r := 1 + r) (by omega) (by omega) (by omega) with h | h
    · omega
    · subst h; unfold eachOf; simp; omega
  have hT : n * eachOf n (1 + m) (1 + r) ≤ K * eachOf K M R := Int.mul_le_mul (by omega) hE hP (by omega)
  have hC : n * (1 + r + 4) ≤ n * eachOf n (1 + m) (1 + r) := by
    rcases each_pos (n := n) (m := 1 + m) (r := 1 + r) (by omega) (by omega) (by omega) with h | h
    · exact h.1
    · subst h; simp
  have z1 : (n * eachOf n (1 + m) (1 + r) == 0) = (n == 0) := by
    rcases each_pos (n := n) (m := 1 + m) (r := 1 + r) (by omega) (by omega) (by omega) with h | h
    · exact zero_iff h.2.1 hn0
    · subst h; simp
  have z2 : (n * (1 + r + 4) == 0) = (n == 0) := zero_iff (by omega) hn0
  rw [State_eq, State_eq, Spread_eq, Spread_eq]
  rw [if_pos (by omega), if_pos (by omega), if_pos (by omega), if_pos (by omega)]
  simp only [Option.bind_some]
  rw [if_pos hT, if_pos hS, if_pos hC, z1, z2]
  simp

end Go.Proofs.Ytlmdegpccodbgaa.Pure

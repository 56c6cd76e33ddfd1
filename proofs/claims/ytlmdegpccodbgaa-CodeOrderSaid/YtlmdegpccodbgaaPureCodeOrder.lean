/- What the walk of CodeOrder tells is true: in plain Lean. No condition. -/
import Derived.Test.YtlmdegpccodbgaaHCodeOrderx2
import Derived.Lib.Bytes
set_option linter.unusedVariables false
set_option linter.unusedSimpArgs false
namespace Go.Proofs.Ytlmdegpccodbgaa.Pure
open Go Go.RowKit Go.Proofs.Ytlmdegpccodbgaa.HCodeOrder Go.Proofs.YtlmdegpccodbgaaW.PrintWords Go.Proofs.YtlmdegpccodbgaaW.PrintLast

theorem leO_le {α : Type} {f : Nat → Option α} (h : ∀ k, LeO (f k) (f (k + 1))) {a b : Nat} (hab : a ≤ b) {r : α} (hr : f a = some r) : f b = some r := by
  induction hab with
  | refl => exact hr
  | step _ ih => exact h _ _ ih

/-- The low bytes of a number, the highest first. -/
def bts (n : Int) : Nat → List Int
  | 0 => []
  | j + 1 => (n / 2 ^ (8 * j)) % 256 :: bts n j
theorem bts_length (n : Int) : ∀ j, (bts n j).length = j
  | 0 => rfl
  | j + 1 => by simp [bts, bts_length n j]
def fitsW (w : Nat) (n : Int) : Bool := w == 8 || (decide (0 ≤ n) && decide (n < 2 ^ (8 * w)))
def appW (w : Nat) : List Int → List Int → List Int × Int
  | x, [] => (x, 0)
  | x, n :: l => if fitsW w n = true then appW w (x ++ bts n w) l else ([], 4)

theorem wrap64_id {n : Int} (h : -9223372036854775808 ≤ n) (h' : n < 9223372036854775808) : wrap64 n = n := by
  unfold wrap64; omega

theorem l1_run (w n : Int) (l : List Int) (len i : Int) : ∀ (j k : Nat) (x : List Int), j ≤ 8 → x.length + j < 140737488355328 →
    code_Append.l1 (k + j + 1) w x n ((j : Int) - 1) l len i = code_Append.l0 k w (x ++ bts n j) l len (wrap64 (i + 1))
  | 0, k, x, _, _ => by
    show code_Append.l1 (k + 1) w x n (((0 : Nat) : Int) - 1) l len i = _
    rw [code_Append.l1, if_neg (by omega)]; simp [bts]
  | j + 1, k, x, hj, hx => by
    have ih := l1_run w n l len i j k (x ++ [(n / 2 ^ (8 * j)) % 256]) (by omega) (by simp; omega)
    show code_Append.l1 (k + j + 1 + 1) w x n (((j + 1 : Nat) : Int) - 1) l len i = _
    have e1 : (((j + 1 : Nat) : Int) - 1) = (j : Int) := by omega
    have e2 : wrap64 (8 * (j : Int)) = ((8 * j : Nat) : Int) := by rw [wrap64_id (by omega) (by omega)]; omega
    have e3 : wrap64 ((j : Int) - 1) = (j : Int) - 1 := wrap64_id (by omega) (by omega)
    have e4 : shr .i64 n ((8 * j : Nat) : Int) = n / 2 ^ (8 * j) := by
      unfold shr
      rw [Int.toNat_natCast, Nat.min_eq_left (show 8 * j ≤ IntKind.i64.bits by simp [IntKind.bits]; omega)]
    rw [code_Append.l1, e1, e2, e3, if_pos (by omega), if_pos (by omega), if_pos (by omega), e4, ih]
    simp [bts]

theorem shl_w {w : Nat} (hw : w = 1 ∨ w = 2 ∨ w = 4) : shl .i64 1 (wrap64 (8 * (w : Int))) = 2 ^ (8 * w) := by
  rcases hw with rfl | rfl | rfl <;> decide +kernel
theorem l0_one {w : Nat} (hw : w = 1 ∨ w = 2 ∨ w = 4 ∨ w = 8) (k : Nat) (x l : List Int) (i : Nat) (n : Int) (hn : l[i]? = some n) (hx : x.length + 8 < 140737488355328) (hl : l.length < 4294967296) :
    code_Append.l0 (k + w + 3) w x l l.length i = if fitsW w n = true then code_Append.l0 k w (x ++ bts n w) l l.length ((i + 1 : Nat) : Int) else some ([], 4) := by
  obtain ⟨hi, hv⟩ := List.getElem?_eq_some_iff.1 hn
  have hrd : rd l (i : Int) = n := by unfold rd; rw [Int.toNat_natCast, List.getD_eq_getElem?_getD, hn]; rfl
  have e1 : wrap64 ((w : Int) - 1) = (w : Int) - 1 := by rcases hw with rfl | rfl | rfl | rfl <;> decide +kernel
  have e2 : wrap64 ((i : Int) + 1) = ((i + 1 : Nat) : Int) := by rw [wrap64_id (by omega) (by omega)]; omega
  have run : ∀ b, code_Append.j1 (k + w + 2) w x n l l.length i b = if b = true then some ([], 4) else code_Append.l0 k w (x ++ bts n w) l l.length ((i + 1 : Nat) : Int) := by
    intro b
    show code_Append.j1 (k + w + 1 + 1) w x n l l.length i b = _
    rw [code_Append.j1, e1, l1_run _ _ _ _ _ w k x (by omega) (by omega), e2]
  show code_Append.l0 (k + w + 2 + 1) w x l l.length i = _
  rw [code_Append.l0, if_pos (by omega), if_pos (by omega), if_pos (by omega), hrd]
  by_cases h8 : w = 8
  · subst h8
    rw [if_neg (by omega), run]; rfl
  · have hw' : w = 1 ∨ w = 2 ∨ w = 4 := by omega
    have hf : fitsW w n = (decide (0 ≤ n) && decide (n < 2 ^ (8 * w))) := by
      unfold fitsW; rcases hw' with rfl | rfl | rfl <;> rfl
    rw [if_pos (by omega), shl_w hw', run, run, if_pos rfl, hf, if_pos (show 0 ≤ wrap64 (8 * (w : Int)) by rcases hw' with rfl | rfl | rfl <;> decide +kernel)]
    by_cases h0 : n < 0
    · rw [if_pos h0, if_neg (by simp; omega)]
    · rw [if_neg h0]
      by_cases h1 : n < 2 ^ (8 * w)
      · rw [if_neg (by simpa using h1), if_pos (by simp [h1]; omega)]
      · rw [if_pos (by simpa using h1), if_neg (by simp [h1])]
theorem l0_end (k : Nat) (w : Int) (x l : List Int) (i : Nat) (hi : l.length ≤ i) : code_Append.l0 (k + 1) w x l l.length i = some (x, 0) := by
  rw [code_Append.l0, if_neg (by omega)]

theorem l0_app {w : Nat} (hw : w = 1 ∨ w = 2 ∨ w = 4 ∨ w = 8) (l : List Int) (hl : l.length < 4294967296) : ∀ (t : List Int) (i : Nat) (x : List Int), l.drop i = t → x.length + 8 * t.length < 140737488355320 →
    code_Append.l0 (11 * t.length + 1) w x l l.length i = some (appW w x t)
  | [], i, x, ht, hx => by
    have hi : l.length ≤ i := List.drop_eq_nil_iff.1 ht
    exact l0_end _ _ _ _ _ hi
  | n :: t, i, x, ht, hx => by
    have hn : l[i]? = some n := by rw [← List.head?_drop, ht]; rfl
    have ht' : l.drop (i + 1) = t := by rw [← List.tail_drop, ht]; rfl
    have hx' : x.length + 8 * (t.length + 1) < 140737488355320 := by simpa using hx
    obtain ⟨c, hc⟩ : ∃ c, 11 * (t.length + 1) + 1 = (11 * t.length + 1 + c) + w + 3 := ⟨8 - w, by omega⟩
    have hb := bts_length n w
    have ih := l0_app hw l hl t (i + 1) (x ++ bts n w) ht' (by simp [hb]; omega)
    show code_Append.l0 (11 * (t.length + 1) + 1) w x l l.length i = _
    rw [hc, l0_one hw _ _ _ _ _ hn (by omega) hl]
    unfold appW
    split
    · exact leO_le (f := fun k => code_Append.l0 k w (x ++ bts n w) l l.length ((i + 1 : Nat) : Int)) (fun k => (code_Append.mono_l k).1 _ _ _ _ _) (Nat.le_add_right _ c) ih
    · rfl

/-- What Append tells of a width that is none. -/
theorem append_no (k : Nat) (b : List Int) (a : Int) (l : List Int) (ha : ¬ (a = 1 ∨ a = 2 ∨ a = 4 ∨ a = 8)) : code_Append.f k b a l = some ([], 2) := by
  have : code_width.f a = some false := by
    unfold code_width.f
    rw [if_neg (by omega), if_neg (by omega), if_neg (by omega)]
    congr 1
    simp; omega
  unfold code_Append.f; rw [this]; rfl
/-- What Append tells. -/
theorem append_is {w : Nat} (hw : w = 1 ∨ w = 2 ∨ w = 4 ∨ w = 8) (b l : List Int) (hb : b.length < 1000000) (hl : l.length < 1000000) {k : Nat} (hk : 11 * l.length + 1 ≤ k) : code_Append.f k b w l = some (appW w b l) := by
  have : code_width.f (w : Int) = some true := by rcases hw with rfl | rfl | rfl | rfl <;> rfl
  have hc : slices_Clone_byte_byte.f b = some b := by unfold slices_Clone_byte_byte.f; rw [if_pos (by omega)]
  refine leO_le (f := fun k => code_Append.f k b w l) (fun k => code_Append.mono _ _ _ k) hk ?_
  show code_Append.f (11 * l.length + 1) b w l = _
  unfold code_Append.f; rw [this, hc]
  exact l0_app hw l (by omega) l 0 b rfl (by omega)

def bys (l : List Int) : List UInt8 := l.map fun n => UInt8.ofNat n.toNat
theorem strs_bys (l : List Int) : (strOfNums l).toList = bys l := Lib.strOfNums_toList l
theorem emod_two (z P : Int) (hP : 0 < P) : z % (P * 256) = z % P + P * ((z / P) % 256) := by
  have h1 := Int.mul_ediv_add_emod z P
  have h2 := Int.mul_ediv_add_emod (z / P) 256
  have h3 : z / P / 256 = z / (P * 256) := Int.ediv_ediv_of_nonneg (by omega)
  have h4 := Int.mul_ediv_add_emod z (P * 256)
  rw [h3] at h2
  have h5 : P * (z / P) = P * 256 * (z / (P * 256)) + P * (z / P % 256) := by
    conv => lhs; rw [← h2]
    rw [Int.mul_add, Int.mul_assoc]
  omega

theorem bytesLess_lt : ∀ (x y : List UInt8), Op.bytesLess x y = decide (x < y)
  | [], [] => by simp [Op.bytesLess]
  | _ :: _, [] => by simp [Op.bytesLess]
  | [], _ :: _ => by simp [Op.bytesLess]
  | a :: x, b :: y => by
    have ih := bytesLess_lt x y
    by_cases h1 : a < b <;> by_cases h2 : a = b <;> by_cases h3 : x < y <;> simp [Op.bytesLess, ih, List.cons_lt_cons_iff, h1, h2, h3]

theorem pick_in (a n : Int) (hn : 0 < n) (hn' : n < 4611686018427387904) : ∃ r, binnaclekit_Pick.f a n = some r ∧ 0 ≤ r ∧ r < n := by
  unfold binnaclekit_Pick.f
  rw [if_neg (by omega), if_neg (by omega)]
  have h1 := Int.tmod_lt_of_pos a hn
  have h2 : -n < Int.tmod a n := by
    have := Int.lt_tmod_of_pos a hn
    exact this
  by_cases h : Int.tmod a n < 0
  · rw [if_pos h]
    refine ⟨_, rfl, ?_, ?_⟩ <;> (rw [wrap64_id (by omega) (by omega)]; omega)
  · rw [if_neg h]; exact ⟨_, rfl, by omega, h1⟩

theorem u8lt {a b : Int} (ha : 0 ≤ a) (ha' : a < 256) (hb : 0 ≤ b) (hb' : b < 256) : (UInt8.ofNat a.toNat < UInt8.ofNat b.toNat) ↔ a < b := by
  rw [UInt8.lt_iff_toNat_lt, UInt8.toNat_ofNat', UInt8.toNat_ofNat']
  omega
theorem u8eq {a b : Int} (ha : 0 ≤ a) (ha' : a < 256) (hb : 0 ≤ b) (hb' : b < 256) : (UInt8.ofNat a.toNat = UInt8.ofNat b.toNat) ↔ a = b := by
  rw [← UInt8.toNat_inj, UInt8.toNat_ofNat', UInt8.toNat_ofNat']
  omega
theorem bts_lt {m n : Int} : ∀ (j : Nat), (bys (bts m j) < bys (bts n j)) ↔ m % 2 ^ (8 * j) < n % 2 ^ (8 * j)
  | 0 => by simp [bts, bys, Int.emod_one]
  | j + 1 => by
    have ih := bts_lt (m := m) (n := n) j
    have hp : (0 : Int) < 2 ^ (8 * j) := Int.pow_pos (by decide +kernel)
    have e : (2 : Int) ^ (8 * (j + 1)) = 2 ^ (8 * j) * 256 := by rw [show 8 * (j + 1) = 8 * j + 8 by omega, Int.pow_add]; rfl
    have sp : ∀ z : Int, z % 2 ^ (8 * (j + 1)) = z % 2 ^ (8 * j) + 2 ^ (8 * j) * ((z / 2 ^ (8 * j)) % 256) := by
      intro z; rw [e]; exact emod_two _ _ hp
    show (UInt8.ofNat ((m / 2 ^ (8 * j)) % 256).toNat :: bys (bts m j) < UInt8.ofNat ((n / 2 ^ (8 * j)) % 256).toNat :: bys (bts n j)) ↔ _
    rw [List.cons_lt_cons_iff, ih, u8lt (by omega) (by omega) (by omega) (by omega), u8eq (by omega) (by omega) (by omega) (by omega), sp m, sp n]
    generalize (m / 2 ^ (8 * j)) % 256 = a
    generalize (n / 2 ^ (8 * j)) % 256 = b
    have h1 := Int.emod_nonneg m (show (2 : Int) ^ (8 * j) ≠ 0 by omega)
    have h2 := Int.emod_lt_of_pos m hp
    have h3 := Int.emod_nonneg n (show (2 : Int) ^ (8 * j) ≠ 0 by omega)
    have h4 := Int.emod_lt_of_pos n hp
    generalize m % 2 ^ (8 * j) = p at *
    generalize n % 2 ^ (8 * j) = q at *
    generalize (2 : Int) ^ (8 * j) = P at *
    constructor
    · rintro (h | ⟨rfl, h⟩)
      · have : P * (a + 1) ≤ P * b := Int.mul_le_mul_of_nonneg_left (by omega) (by omega)
        rw [Int.mul_add] at this; omega
      · omega
    · intro h
      by_cases hab : a < b
      · exact .inl hab
      · right
        by_cases hab' : a = b
        · subst hab'; exact ⟨rfl, by omega⟩
        · have : P * (b + 1) ≤ P * a := Int.mul_le_mul_of_nonneg_left (by omega) (by omega)
          rw [Int.mul_add] at this; omega
theorem bts_eq {m n : Int} : ∀ (j : Nat), (bys (bts m j) = bys (bts n j)) ↔ m % 2 ^ (8 * j) = n % 2 ^ (8 * j)
  | 0 => by simp [bts, bys, Int.emod_one]
  | j + 1 => by
    have ih := bts_eq (m := m) (n := n) j
    have hp : (0 : Int) < 2 ^ (8 * j) := Int.pow_pos (by decide +kernel)
    have e : (2 : Int) ^ (8 * (j + 1)) = 2 ^ (8 * j) * 256 := by rw [show 8 * (j + 1) = 8 * j + 8 by omega, Int.pow_add]; rfl
    have sp : ∀ z : Int, z % 2 ^ (8 * (j + 1)) = z % 2 ^ (8 * j) + 2 ^ (8 * j) * ((z / 2 ^ (8 * j)) % 256) := by
      intro z; rw [e]; exact emod_two _ _ hp
    show (UInt8.ofNat ((m / 2 ^ (8 * j)) % 256).toNat :: bys (bts m j) = UInt8.ofNat ((n / 2 ^ (8 * j)) % 256).toNat :: bys (bts n j)) ↔ _
    rw [List.cons_eq_cons, ih, u8eq (by omega) (by omega) (by omega) (by omega), sp m, sp n]
    generalize (m / 2 ^ (8 * j)) % 256 = a
    generalize (n / 2 ^ (8 * j)) % 256 = b
    have h1 := Int.emod_nonneg m (show (2 : Int) ^ (8 * j) ≠ 0 by omega)
    have h2 := Int.emod_lt_of_pos m hp
    have h3 := Int.emod_nonneg n (show (2 : Int) ^ (8 * j) ≠ 0 by omega)
    have h4 := Int.emod_lt_of_pos n hp
    generalize m % 2 ^ (8 * j) = p at *
    generalize n % 2 ^ (8 * j) = q at *
    generalize (2 : Int) ^ (8 * j) = P at *
    constructor
    · rintro ⟨rfl, h⟩; omega
    · intro h
      by_cases hab : a < b
      · have : P * (a + 1) ≤ P * b := Int.mul_le_mul_of_nonneg_left (by omega) (by omega)
        rw [Int.mul_add] at this; omega
      · by_cases hab' : a = b
        · subst hab'; exact ⟨rfl, by omega⟩
        · have : P * (b + 1) ≤ P * a := Int.mul_le_mul_of_nonneg_left (by omega) (by omega)
          rw [Int.mul_add] at this; omega

theorem CodeOrder : binnaclelaw25_CodeOrder.Pure := by
  intro a0 a1 a2 h0 h1 h2
  refine ⟨20, ?_⟩
  obtain ⟨r, hr, r0, r3⟩ := pick_in a2 3 (by omega) (by omega)
  have hwid : ∃ w : Nat, (w = 1 ∨ w = 2 ∨ w = 4) ∧ shl .i64 1 (IntKind.u64.wrap r) = (w : Int) ∧ 0 ≤ IntKind.u64.wrap r ∧ 0 ≤ IntKind.u64.wrap (wrap64 (8 * (w : Int))) ∧ shl .i64 1 (IntKind.u64.wrap (wrap64 (8 * (w : Int)))) = 2 ^ (8 * w) := by
    have : r = 0 ∨ r = 1 ∨ r = 2 := by omega
    rcases this with rfl | rfl | rfl
    · exact ⟨1, by omega, by decide +kernel, by decide +kernel, by decide +kernel, by decide +kernel⟩
    · exact ⟨2, by omega, by decide +kernel, by decide +kernel, by decide +kernel, by decide +kernel⟩
    · exact ⟨4, by omega, by decide +kernel, by decide +kernel, by decide +kernel, by decide +kernel⟩
  obtain ⟨w, hw, e1, e2, e3, e4⟩ := hwid
  have hP : (0 : Int) < 2 ^ (8 * w) ∧ (2 : Int) ^ (8 * w) < 4611686018427387904 := by rcases hw with rfl | rfl | rfl <;> decide +kernel
  obtain ⟨m, hm, m0, m1⟩ := pick_in a0 (2 ^ (8 * w)) hP.1 hP.2
  obtain ⟨n, hn, n0, n1⟩ := pick_in a1 (2 ^ (8 * w)) hP.1 hP.2
  have hw' : w = 1 ∨ w = 2 ∨ w = 4 ∨ w = 8 := by omega
  have A : ∀ z : Int, 0 ≤ z → z < 2 ^ (8 * w) → code_Append.f 20 [] (w : Int) [z] = some (bts z w, 0) := by
    intro z z0 z1
    rw [append_is hw' [] [z] (by simp) (by simp) (by simp)]
    have : fitsW w z = true := by unfold fitsW; simp [z0, z1]
    simp [appW, this]
  have hmm : m % 2 ^ (8 * w) = m := Int.emod_eq_of_lt m0 m1
  have hnn : n % 2 ^ (8 * w) = n := Int.emod_eq_of_lt n0 n1
  have L := bts_lt (m := m) (n := n) w
  have Q := bts_eq (m := m) (n := n) w
  rw [hmm, hnn] at L Q
  unfold binnaclelaw25_CodeOrder.f binnaclelaw25_awake.f
  rw [Option.bind_some, hr, Option.bind_some, if_pos e2, e1, if_pos e3, e4, hm, Option.bind_some, hn, Option.bind_some, A m m0 m1, Option.bind_some, A n n0 n1, Option.bind_some]
  rw [if_pos rfl, if_pos rfl, if_pos rfl, if_pos (by rw [bts_length]), if_pos (by rw [bts_length])]
  rw [bytesLess_lt, strs_bys, strs_bys]
  have L' : decide (bys (bts m w) < bys (bts n w)) = decide (m < n) := by rw [decide_eq_decide]; exact L
  rw [L', if_pos (by simp)]
  unfold binnaclekit_SameBytes.f
  rw [Option.bind_some, strs_bys, strs_bys]
  congr 1
  have : (bys (bts m w) == bys (bts n w)) = (m == n) := by
    rw [Bool.eq_iff_iff, beq_iff_eq, beq_iff_eq]; exact Q
  rw [this]; simp

end Go.Proofs.Ytlmdegpccodbgaa.Pure

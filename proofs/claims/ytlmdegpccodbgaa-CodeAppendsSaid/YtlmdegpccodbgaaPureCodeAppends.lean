/- What the walk of CodeAppends tells is true: in plain Lean. No condition. -/
import Derived.Test.YtlmdegpccodbgaaHCodeAppendsx3
import Derived.Lib.Bytes
set_option linter.unusedVariables false
set_option linter.unusedSimpArgs false
namespace Go.Proofs.Ytlmdegpccodbgaa.Pure
open Go Go.RowKit Go.Proofs.Ytlmdegpccodbgaa.HCodeAppends Go.Proofs.YtlmdegpccodbgaaW.PrintWords Go.Proofs.YtlmdegpccodbgaaW.PrintLast

theorem leO_le {α : Type} {f : Nat → Option α} (h : ∀ k, LeO (f k) (f (k + 1))) {a b : Nat} (hab : a ≤ b) {r : α} (hr : f a = some r) : f b = some r := by
  induction hab with
  | refl => exact hr
  | step _ ih => exact h _ _ ih

/-- The low bytes of a number, the highest first. -/
def bts (n : Int) : Nat → List Int
  | 0 => []
  | j + 1 => (n / 2 ^ (8 * j)) % 256 :: bts n j
theorem bts_length (n : Int) : ∀ j, (bts n j).length = j
  | 0 => rfl
  | j + 1 => by simp [bts, bts_length n j]
def fitsW (w : Nat) (n : Int) : Bool := w == 8 || (decide (0 ≤ n) && decide (n < 2 ^ (8 * w)))
def appW (w : Nat) : List Int → List Int → List Int × Int
  | x, [] => (x, 0)
  | x, n :: l => if fitsW w n = true then appW w (x ++ bts n w) l else ([], 4)

theorem wrap64_id {n : Int} (h : -9223372036854775808 ≤ n) (h' : n < 9223372036854775808) : wrap64 n = n := by
  unfold wrap64; omega

theorem l1_run (w n : Int) (l : List Int) (len i : Int) : ∀ (j k : Nat) (x : List Int), j ≤ 8 → x.length + j < 140737488355328 →
    code_Append.l1 (k + j + 1) w x n ((j : Int) - 1) l len i = code_Append.l0 k w (x ++ bts n j) l len (wrap64 (i + 1))
  | 0, k, x, _, _ => by
    show code_Append.l1 (k + 1) w x n (((0 : Nat) : Int) - 1) l len i = _
    rw [code_Append.l1, if_neg (by omega)]; simp [bts]
  | j + 1, k, x, hj, hx => by
    have ih := l1_run w n l len i j k (x ++ [(n / 2 ^ (8 * j)) % 256]) (by omega) (by simp; omega)
    show code_Append.l1 (k + j + 1 + 1) w x n (((j + 1 : Nat) : Int) - 1) l len i = _
    have e1 : (((j + 1 : Nat) : Int) - 1) = (j : Int) := by omega
    have e2 : wrap64 (8 * (j : Int)) = ((8 * j : Nat) : Int) := by rw [wrap64_id (by omega) (by omega)]; omega
    have e3 : wrap64 ((j : Int) - 1) = (j : Int) - 1 := wrap64_id (by omega) (by omega)
    have e4 : shr .i64 n ((8 * j : Nat) : Int) = n / 2 ^ (8 * j) := by
      unfold shr
      rw [Int.toNat_natCast, Nat.min_eq_left (show 8 * j ≤ IntKind.i64.bits by simp [IntKind.bits]; omega)]
    rw [code_Append.l1, e1, e2, e3, if_pos (by omega), if_pos (by omega), if_pos (by omega), e4, ih]
    simp [bts]

theorem shl_w {w : Nat} (hw : w = 1 ∨ w = 2 ∨ w = 4) : shl .i64 1 (wrap64 (8 * (w : Int))) = 2 ^ (8 * w) := by
  rcases hw with rfl | rfl | rfl <;> decide +kernel
theorem l0_one {w : Nat} (hw : w = 1 ∨ w = 2 ∨ w = 4 ∨ w = 8) (k : Nat) (x l : List Int) (i : Nat) (n : Int) (hn : l[i]? = some n) (hx : x.length + 8 < 140737488355328) (hl : l.length < 4294967296) :
    code_Append.l0 (k + w + 3) w x l l.length i = if fitsW w n = true then code_Append.l0 k w (x ++ bts n w) l l.length ((i + 1 : Nat) : Int) else some ([], 4) := by
  obtain ⟨hi, hv⟩ := List.getElem?_eq_some_iff.1 hn
  have hrd : rd l (i : Int) = n := by unfold rd; rw [Int.toNat_natCast, List.getD_eq_getElem?_getD, hn]; rfl
  have e1 : wrap64 ((w : Int) - 1) = (w : Int) - 1 := by rcases hw with rfl | rfl | rfl | rfl <;> decide +kernel
  have e2 : wrap64 ((i : Int) + 1) = ((i + 1 : Nat) : Int) := by rw [wrap64_id (by omega) (by omega)]; omega
  have run : ∀ b, code_Append.j1 (k + w + 2) w x n l l.length i b = if b = true then some ([], 4) else code_Append.l0 k w (x ++ bts n w) l l.length ((i + 1 : Nat) : Int) := by
    intro b
    show code_Append.j1 (k + w + 1 + 1) w x n l l.length i b = _
    rw [code_Append.j1, e1, l1_run _ _ _ _ _ w k x (by omega) (by omega), e2]
  show code_Append.l0 (k + w + 2 + 1) w x l l.length i = _
  rw [code_Append.l0, if_pos (by omega), if_pos (by omega), if_pos (by omega), hrd]
  by_cases h8 : w = 8
  · subst h8
    rw [if_neg (by omega), run]; rfl
  · have hw' : w = 1 ∨ w = 2 ∨ w = 4 := by omega
    have hf : fitsW w n = (decide (0 ≤ n) && decide (n < 2 ^ (8 * w))) := by
      unfold fitsW; rcases hw' with rfl | rfl | rfl <;> rfl
    rw [if_pos (by omega), shl_w hw', run, run, if_pos rfl, hf, if_pos (show 0 ≤ wrap64 (8 * (w : Int)) by rcases hw' with rfl | rfl | rfl <;> decide +kernel)]
    by_cases h0 : n < 0
    · rw [if_pos h0, if_neg (by simp; omega)]
    · rw [if_neg h0]
      by_cases h1 : n < 2 ^ (8 * w)
      · rw [if_neg (by simpa using h1), if_pos (by simp [h1]; omega)]
      · rw [if_pos (by simpa using h1), if_neg (by simp [h1])]
theorem l0_end (k : Nat) (w : Int) (x l : List Int) (i : Nat) (hi : l.length ≤ i) : code_Append.l0 (k + 1) w x l l.length i = some (x, 0) := by
  rw [code_Append.l0, if_neg (by omega)]

theorem l0_app {w : Nat} (hw : w = 1 ∨ w = 2 ∨ w = 4 ∨ w = 8) (l : List Int) (hl : l.length < 4294967296) : ∀ (t : List Int) (i : Nat) (x : List Int), l.drop i = t → x.length + 8 * t.length < 140737488355320 →
    code_Append.l0 (11 * t.length + 1) w x l l.length i = some (appW w x t)
  | [], i, x, ht, hx => by
    have hi : l.length ≤ i := List.drop_eq_nil_iff.1 ht
    exact l0_end _ _ _ _ _ hi
  | n :: t, i, x, ht, hx => by
    have hn : l[i]? = some n := by rw [← List.head?_drop, ht]; rfl
    have ht' : l.drop (i + 1) = t := by rw [← List.tail_drop, ht]; rfl
    have hx' : x.length + 8 * (t.length + 1) < 140737488355320 := by simpa using hx
    obtain ⟨c, hc⟩ : ∃ c, 11 * (t.length + 1) + 1 = (11 * t.length + 1 + c) + w + 3 := ⟨8 - w, by omega⟩
    have hb := bts_length n w
    have ih := l0_app hw l hl t (i + 1) (x ++ bts n w) ht' (by simp [hb]; omega)
    show code_Append.l0 (11 * (t.length + 1) + 1) w x l l.length i = _
    rw [hc, l0_one hw _ _ _ _ _ hn (by omega) hl]
    unfold appW
    split
    · exact leO_le (f := fun k => code_Append.l0 k w (x ++ bts n w) l l.length ((i + 1 : Nat) : Int)) (fun k => (code_Append.mono_l k).1 _ _ _ _ _) (Nat.le_add_right _ c) ih
    · rfl

/-- What Append tells of a width that is none. -/
theorem append_no (k : Nat) (b : List Int) (a : Int) (l : List Int) (ha : ¬ (a = 1 ∨ a = 2 ∨ a = 4 ∨ a = 8)) : code_Append.f k b a l = some ([], 2) := by
  have : code_width.f a = some false := by
    unfold code_width.f
    rw [if_neg (by omega), if_neg (by omega), if_neg (by omega)]
    congr 1
    simp; omega
  unfold code_Append.f; rw [this]; rfl
/-- What Append tells. -/
theorem append_is {w : Nat} (hw : w = 1 ∨ w = 2 ∨ w = 4 ∨ w = 8) (b l : List Int) (hb : b.length < 1000000) (hl : l.length < 1000000) {k : Nat} (hk : 11 * l.length + 1 ≤ k) : code_Append.f k b w l = some (appW w b l) := by
  have : code_width.f (w : Int) = some true := by rcases hw with rfl | rfl | rfl | rfl <;> rfl
  have hc : slices_Clone_byte_byte.f b = some b := by unfold slices_Clone_byte_byte.f; rw [if_pos (by omega)]
  refine leO_le (f := fun k => code_Append.f k b w l) (fun k => code_Append.mono _ _ _ k) hk ?_
  show code_Append.f (11 * l.length + 1) b w l = _
  unfold code_Append.f; rw [this, hc]
  exact l0_app hw l (by omega) l 0 b rfl (by omega)

theorem copyBytes_is (l : List Int) (h : l.length < 1000000) : binnaclekit_CopyBytes.f l = some l := by
  unfold binnaclekit_CopyBytes.f
  rw [Option.bind_some, if_pos (by simp; omega)]; simp
theorem copyInts_is (l : List Int) (h : l.length < 1000000) : binnaclekit_CopyInts.f l = some l := by
  unfold binnaclekit_CopyInts.f
  rw [Option.bind_some, if_pos (by simp; omega)]; simp
theorem sameBytes_self (l : List Int) : binnaclekit_SameBytes.f l l = some true := by
  unfold binnaclekit_SameBytes.f; simp
theorem sameInts_run (l : List Int) (hl : l.length < 4294967296) : ∀ (j i k : Nat), i + j = l.length → binnaclekit_SameInts.l0 (k + j + 1) l l i = some true
  | 0, i, k, h => by
    show binnaclekit_SameInts.l0 (k + 1) l l i = _
    rw [binnaclekit_SameInts.l0, if_neg (by omega)]
  | j + 1, i, k, h => by
    have ih := sameInts_run l hl j (i + 1) k (by omega)
    show binnaclekit_SameInts.l0 (k + j + 1 + 1) l l i = _
    have e2 : wrap64 ((i : Int) + 1) = ((i + 1 : Nat) : Int) := by rw [wrap64_id (by omega) (by omega)]; omega
    rw [binnaclekit_SameInts.l0, if_pos (by omega), if_pos (by omega), if_pos (by omega), if_pos rfl, e2, ih]
theorem sameInts_self (l : List Int) (hl : l.length < 4294967296) (k : Nat) (hk : l.length + 1 ≤ k) : binnaclekit_SameInts.f k l l = some true := by
  obtain ⟨c, rfl⟩ : ∃ c, k = c + l.length + 1 := ⟨k - (l.length + 1), by omega⟩
  unfold binnaclekit_SameInts.f
  rw [if_pos rfl]
  exact sameInts_run l hl l.length 0 c (by omega)
theorem overBytes_run : ∀ (j i k : Nat) (l : List Int), i + j = l.length → l.length < 4294967296 → ∃ r, binnaclekit_OverBytes.l0 (k + j + 1) l i = some r
  | 0, i, k, l, h, hl => by
    refine ⟨l, ?_⟩
    show binnaclekit_OverBytes.l0 (k + 1) l i = _
    rw [binnaclekit_OverBytes.l0, if_neg (by omega)]
  | j + 1, i, k, l, h, hl => by
    obtain ⟨r, ih⟩ := overBytes_run j (i + 1) k (l.set (i : Int).toNat (Go.bits .xor .u8 (rd l i) 165)) (by simp; omega) (by simpa using hl)
    refine ⟨r, ?_⟩
    show binnaclekit_OverBytes.l0 (k + j + 1 + 1) l i = _
    have e2 : wrap64 ((i : Int) + 1) = ((i + 1 : Nat) : Int) := by rw [wrap64_id (by omega) (by omega)]; omega
    rw [binnaclekit_OverBytes.l0, if_pos (by omega), if_pos (by omega), e2, ih]
theorem overBytes_is (l : List Int) (hl : l.length < 4294967296) (k : Nat) (hk : l.length + 1 ≤ k) : ∃ r, binnaclekit_OverBytes.f k l = some r := by
  obtain ⟨c, rfl⟩ : ∃ c, k = c + l.length + 1 := ⟨k - (l.length + 1), by omega⟩
  exact overBytes_run l.length 0 c l (by omega) hl

/-! ### the document's side -/
theorem u64_w (n : Int) : IntKind.u64.wrap n = n % 18446744073709551616 := by simp [IntKind.wrap, IntKind.bits, IntKind.signed]
theorem bts_snoc (x : Int) (hx : 0 ≤ x) : ∀ j, bts x (j + 1) = bts (x / 256) j ++ [x % 256]
  | 0 => by simp [bts]
  | j + 1 => by
    have ih := bts_snoc x hx j
    show (x / 2 ^ (8 * (j + 1))) % 256 :: bts x (j + 1) = (x / 256 / 2 ^ (8 * j)) % 256 :: bts (x / 256) j ++ [x % 256]
    rw [ih]
    have : x / 256 / 2 ^ (8 * j) = x / 2 ^ (8 * (j + 1)) := by
      rw [Int.ediv_ediv_of_nonneg (by omega)]
      rw [show 8 * (j + 1) = 8 + 8 * j by omega, Int.pow_add]; rfl
    rw [this]; rfl
theorem bytes_run : ∀ (j k : Nat) (arr : List Int) (x : Int), 0 ≤ x → x < 18446744073709551616 → j ≤ arr.length → arr.length ≤ 8 →
    binnacleref25_bytes.l0 (k + j + 1) arr x ((j : Int) - 1) = some (bts x j ++ arr.drop j)
  | 0, k, arr, x, h0, h1, hj, ha => by
    show binnacleref25_bytes.l0 (k + 1) arr x (((0 : Nat) : Int) - 1) = _
    rw [binnacleref25_bytes.l0, if_neg (by omega)]; simp [bts]
  | j + 1, k, arr, x, h0, h1, hj, ha => by
    have e1 : (((j + 1 : Nat) : Int) - 1) = (j : Int) := by omega
    have e3 : wrap64 ((j : Int) - 1) = (j : Int) - 1 := wrap64_id (by omega) (by omega)
    have t1 : Int.tmod x 256 = x % 256 := Int.tmod_eq_emod_of_nonneg h0
    have t2 : Int.tdiv x 256 = x / 256 := Int.tdiv_eq_ediv_of_nonneg h0
    have e5 : x / 256 % 18446744073709551616 = x / 256 := by omega
    have ih := bytes_run j k (arr.set j (x % 256 % 256)) (x / 256) (by omega) (by omega) (by simp; omega) (by simpa using ha)
    show binnacleref25_bytes.l0 (k + j + 1 + 1) arr x (((j + 1 : Nat) : Int) - 1) = _
    rw [binnacleref25_bytes.l0, e1, if_pos (by omega), if_pos (by omega), if_pos (by omega), t1, t2, u64_w, e3, Int.toNat_natCast, e5, ih, bts_snoc x h0]
    congr 1
    rw [List.append_assoc]
    congr 1
    have hj' : j < (arr.set j (x % 256 % 256)).length := by simp; omega
    rw [List.drop_eq_getElem_cons hj']
    simp [List.drop_set]
theorem bts_mod (n : Int) : ∀ j, j ≤ 8 → bts (n % 18446744073709551616) j = bts n j
  | 0, _ => rfl
  | j + 1, hj => by
    show _ :: bts _ j = _ :: bts _ j
    rw [bts_mod n j (by omega)]
    congr 1
    have : j = 0 ∨ j = 1 ∨ j = 2 ∨ j = 3 ∨ j = 4 ∨ j = 5 ∨ j = 6 ∨ j = 7 := by omega
    rcases this with rfl | rfl | rfl | rfl | rfl | rfl | rfl | rfl <;> simp only [Nat.mul_zero, Nat.reduceMul, Int.reducePow] <;> omega
theorem bytes_is {w : Nat} (hw : w = 1 ∨ w = 2 ∨ w = 4 ∨ w = 8) (n : Int) (k : Nat) (hk : 9 ≤ k) : binnacleref25_bytes.f k n w = some (bts n w) := by
  obtain ⟨c, rfl⟩ : ∃ c, k = c + w + 1 := ⟨k - (w + 1), by omega⟩
  have e1 : wrap64 ((w : Int) - 1) = (w : Int) - 1 := wrap64_id (by omega) (by omega)
  unfold binnacleref25_bytes.f
  rw [if_pos (by omega), if_pos (by omega), e1, u64_w, Int.toNat_natCast, bytes_run w c _ _ (by omega) (by omega) (by simp) (by simp; omega), bts_mod n w (by omega)]
  simp
theorem refFits_is {w : Nat} (hw : w = 1 ∨ w = 2 ∨ w = 4 ∨ w = 8) (n : Int) : binnacleref25_fits.f n w = some (fitsW w n) := by
  unfold binnacleref25_fits.f
  by_cases h8 : w = 8
  · subst h8; rw [if_pos (by omega)]; rfl
  · have hw' : w = 1 ∨ w = 2 ∨ w = 4 := by omega
    have hf : fitsW w n = (decide (0 ≤ n) && decide (n < 2 ^ (8 * w))) := by
      unfold fitsW; rcases hw' with rfl | rfl | rfl <;> rfl
    have hs : shl .i64 1 (IntKind.u64.wrap (wrap64 (8 * (w : Int)))) = 2 ^ (8 * w) := by rcases hw' with rfl | rfl | rfl <;> decide +kernel
    have hp : 0 ≤ IntKind.u64.wrap (wrap64 (8 * (w : Int))) := by rcases hw' with rfl | rfl | rfl <;> decide +kernel
    rw [if_neg (by omega), hf, hs, if_pos hp]
    by_cases h0 : 0 ≤ n
    · rw [if_pos h0]; simp [h0]
    · rw [if_neg h0]; simp [h0]
theorem refAppend_run {w : Nat} (hw : w = 1 ∨ w = 2 ∨ w = 4 ∨ w = 8) (l : List Int) (hl : l.length < 4294967296) : ∀ (t : List Int) (i k : Nat) (x : List Int), l.drop i = t → x.length + 8 * t.length < 140737488355320 →
    binnacleref25_Append.l0 (k + 9 + t.length + 1) w l x i = some (appW w x t)
  | [], i, k, x, ht, hx => by
    have hi : l.length ≤ i := List.drop_eq_nil_iff.1 ht
    show binnacleref25_Append.l0 (k + 9 + 1) w l x i = _
    rw [binnacleref25_Append.l0, if_neg (by omega)]; rfl
  | n :: t, i, k, x, ht, hx => by
    have hn : l[i]? = some n := by rw [← List.head?_drop, ht]; rfl
    obtain ⟨hi, hv⟩ := List.getElem?_eq_some_iff.1 hn
    have hrd : rd l (i : Int) = n := by unfold rd; rw [Int.toNat_natCast, List.getD_eq_getElem?_getD, hn]; rfl
    have ht' : l.drop (i + 1) = t := by rw [← List.tail_drop, ht]; rfl
    have hx' : x.length + 8 * (t.length + 1) < 140737488355320 := by simpa using hx
    have hb := bts_length n w
    have e2 : wrap64 ((i : Int) + 1) = ((i + 1 : Nat) : Int) := by rw [wrap64_id (by omega) (by omega)]; omega
    have ih := refAppend_run hw l hl t (i + 1) k (x ++ bts n w) ht' (by simp [hb]; omega)
    show binnacleref25_Append.l0 (k + 9 + t.length + 1 + 1) w l x i = _
    rw [binnacleref25_Append.l0, if_pos (Int.ofNat_lt.2 hi), if_pos (Int.natCast_nonneg i), hrd, refFits_is hw, Option.bind_some]
    unfold appW
    by_cases hf : fitsW w n = true
    · rw [if_pos hf, if_pos hf, bytes_is hw n _ (by omega), Option.bind_some, if_pos (by omega), e2, ih]
    · rw [if_neg hf, if_neg hf]
theorem refAppend_no (k : Nat) (b : List Int) (a : Int) (l : List Int) (ha : ¬ (a = 1 ∨ a = 2 ∨ a = 4 ∨ a = 8)) : binnacleref25_Append.f k b a l = some ([], 2) := by
  have : binnacleref25_width.f a = some false := by
    unfold binnacleref25_width.f
    rw [if_neg (by omega), if_neg (by omega), if_neg (by omega)]
    congr 1
    simp; omega
  unfold binnacleref25_Append.f; rw [this]; rfl
theorem refAppend_is {w : Nat} (hw : w = 1 ∨ w = 2 ∨ w = 4 ∨ w = 8) (b l : List Int) (hb : b.length < 1000000) (hl : l.length < 1000000) {k : Nat} (hk : l.length + 10 ≤ k) : binnacleref25_Append.f k b w l = some (appW w b l) := by
  have : binnacleref25_width.f (w : Int) = some true := by rcases hw with rfl | rfl | rfl | rfl <;> rfl
  obtain ⟨c, rfl⟩ : ∃ c, k = c + 9 + l.length + 1 := ⟨k - (l.length + 10), by omega⟩
  unfold binnacleref25_Append.f
  rw [this, Option.bind_some, if_pos rfl, Option.bind_some, if_pos (by simp; omega)]
  exact refAppend_run hw l (by omega) l 0 c b rfl (by omega)

theorem appW_length (w : Nat) : ∀ (l x : List Int), (appW w x l).1.length ≤ x.length + w * l.length
  | [], x => by simp [appW]
  | n :: l, x => by
    unfold appW
    split
    · have := appW_length w l (x ++ bts n w)
      rw [List.length_append, bts_length] at this
      rw [List.length_cons, Nat.mul_add]; omega
    · simp
theorem append_same (k : Nat) (b l : List Int) (a : Int) (hb : b.length ≤ 200) (hl : l.length ≤ 40) (hk : 500 ≤ k) : ∃ r, code_Append.f k b a l = some r ∧ binnacleref25_Append.f k b a l = some r ∧ r.1.length ≤ 1000 := by
  by_cases ha : a = 1 ∨ a = 2 ∨ a = 4 ∨ a = 8
  · obtain ⟨w, rfl⟩ : ∃ w : Nat, a = w := ⟨a.toNat, by omega⟩
    have hw : w = 1 ∨ w = 2 ∨ w = 4 ∨ w = 8 := by omega
    refine ⟨_, append_is hw b l (by omega) (by omega) (by omega), refAppend_is hw b l (by omega) (by omega) (by omega), ?_⟩
    have := appW_length w l b
    have h2 : w * l.length ≤ 8 * l.length := Nat.mul_le_mul_right _ (by omega)
    omega
  · exact ⟨_, append_no k b a l ha, refAppend_no k b a l ha, by simp⟩
theorem appendList_same (k : Nat) (b l : List Int) (hb : b.length ≤ 100) (hl : l.length ≤ 40) (hk : 500 ≤ k) : ∃ r, code_AppendList.f k b l = some r ∧ binnacleref25_AppendList.f k b l = some r ∧ r.1.length ≤ 1000 := by
  unfold code_AppendList.f binnacleref25_AppendList.f
  by_cases h : (l.length : Int) > 24
  · rw [if_pos h, if_pos h]; exact ⟨_, rfl, rfl, by simp⟩
  · rw [if_neg h, if_neg h]
    have h1 : code_Append.f k b 1 [(l.length : Int)] = some (b ++ [(l.length : Int) % 256], 0) := by
      have := append_is (w := 1) (by omega) b [(l.length : Int)] (by omega) (by simp) (k := k) (by simp; omega)
      rw [show ((1 : Nat) : Int) = 1 from rfl] at this
      rw [this]
      have hf : fitsW 1 (l.length : Int) = true := by unfold fitsW; simp; omega
      simp [appW, hf, bts]
    rw [h1, Option.bind_some, Option.bind_some, if_pos (by simp; omega), Option.bind_some, if_pos (by simp; omega), List.nil_append]
    obtain ⟨r, h2, h3, h4⟩ := append_same k (b ++ [(l.length : Int) % 256]) l 8 (by simp; omega) hl hk
    refine ⟨r, ?_, ?_, h4⟩
    · rw [h2]; rfl
    · rw [h3]; rfl

theorem CodeAppends : binnaclelaw25_CodeAppends.Pure := by
  intro l0 a1 l2 _ _ _ _ _ _ _
  refine ⟨2002, ?_⟩
  have hT : ∀ k, binnaclelaw25_CodeAppends.j0 (k + 1) l0 a1 l2 true = some true := fun k => by
    rw [binnaclelaw25_CodeAppends.j0, if_pos rfl]; rfl
  unfold binnaclelaw25_CodeAppends.f
  by_cases h0 : (l0.length : Int) > 100
  · rw [if_pos h0]; exact hT 2001
  rw [if_neg h0]
  by_cases h2 : (l2.length : Int) > 40
  · rw [decide_eq_true h2]; exact hT 2001
  rw [decide_eq_false h2]
  obtain ⟨r, a1', b1', c1'⟩ := append_same 2001 l0 l2 a1 (by omega) (by omega) (by omega)
  obtain ⟨q, a2', b2', c2'⟩ := appendList_same 2001 l0 l2 (by omega) (by omega) (by omega)
  obtain ⟨o1, ho1⟩ := overBytes_is r.1 (by omega) 2000 (by omega)
  obtain ⟨o2, ho2⟩ := overBytes_is q.1 (by omega) 2000 (by omega)
  rw [binnaclelaw25_CodeAppends.j0, if_neg (by simp), copyBytes_is l0 (by omega), Option.bind_some, Option.bind_some, if_pos (by simp; omega), Option.bind_some, if_pos (by omega), if_pos (by simp; omega), Option.bind_some, Int.toNat_natCast, List.take_left, copyInts_is l2 (by omega), Option.bind_some,
    a1', Option.bind_some, b1', Option.bind_some, a2', Option.bind_some, b2', Option.bind_some, sameBytes_self, Option.bind_some, if_pos rfl, if_pos rfl, sameBytes_self, Option.bind_some, if_pos rfl]
  rw [binnaclelaw25_CodeAppends.j1, ho1, Option.bind_some, ho2, Option.bind_some, if_pos (by simp), copyBytes_is l0 (by omega), Option.bind_some, Option.bind_some, if_pos (by simp; omega), sameBytes_self, Option.bind_some, if_pos rfl, sameInts_self l2 (by omega) _ (by omega), Option.bind_some, if_pos rfl]
  rfl

end Go.Proofs.Ytlmdegpccodbgaa.Pure

/- What the walk of CodeBack tells is true: in plain Lean. No condition. -/
import Derived.Test.YtlmdegpccodbgaaHCodeBackx3
import Derived.Lib.Bytes
set_option linter.unusedVariables false
set_option linter.unusedSimpArgs false
namespace Go.Proofs.Ytlmdegpccodbgaa.Pure
open Go Go.RowKit Go.Proofs.Ytlmdegpccodbgaa.HCodeBack Go.Proofs.YtlmdegpccodbgaaW.PrintWords Go.Proofs.YtlmdegpccodbgaaW.PrintLast

theorem leO_le {α : Type} {f : Nat → Option α} (h : ∀ k, LeO (f k) (f (k + 1))) {a b : Nat} (hab : a ≤ b) {r : α} (hr : f a = some r) : f b = some r := by
  induction hab with
  | refl => exact hr
  | step _ ih => exact h _ _ ih

/-- The low bytes of a number, the highest first. -/
def bts (n : Int) : Nat → List Int
  | 0 => []
  | j + 1 => (n / 2 ^ (8 * j)) % 256 :: bts n j
theorem bts_length (n : Int) : ∀ j, (bts n j).length = j
  | 0 => rfl
  | j + 1 => by simp [bts, bts_length n j]
def fitsW (w : Nat) (n : Int) : Bool := w == 8 || (decide (0 ≤ n) && decide (n < 2 ^ (8 * w)))
def appW (w : Nat) : List Int → List Int → List Int × Int
  | x, [] => (x, 0)
  | x, n :: l => if fitsW w n = true then appW w (x ++ bts n w) l else ([], 4)

theorem wrap64_id {n : Int} (h : -9223372036854775808 ≤ n) (h' : n < 9223372036854775808) : wrap64 n = n := by
  unfold wrap64; omega

theorem l1_run (w n : Int) (l : List Int) (len i : Int) : ∀ (j k : Nat) (x : List Int), j ≤ 8 → x.length + j < 140737488355328 →
    code_Append.l1 (k + j + 1) w x n ((j : Int) - 1) l len i = code_Append.l0 k w (x ++ bts n j) l len (wrap64 (i + 1))
  | 0, k, x, _, _ => by
    show code_Append.l1 (k + 1) w x n (((0 : Nat) : Int) - 1) l len i = _
    rw [code_Append.l1, if_neg (by omega)]; simp [bts]
  | j + 1, k, x, hj, hx => by
    have ih := l1_run w n l len i j k (x ++ [(n / 2 ^ (8 * j)) % 256]) (by omega) (by simp; omega)
    show code_Append.l1 (k + j + 1 + 1) w x n (((j + 1 : Nat) : Int) - 1) l len i = _
    have e1 : (((j + 1 : Nat) : Int) - 1) = (j : Int) := by omega
    have e2 : wrap64 (8 * (j : Int)) = ((8 * j : Nat) : Int) := by rw [wrap64_id (by omega) (by omega)]; omega
    have e3 : wrap64 ((j : Int) - 1) = (j : Int) - 1 := wrap64_id (by omega) (by omega)
    have e4 : shr .i64 n ((8 * j : Nat) : Int) = n / 2 ^ (8 * j) := by
      unfold shr
      rw [Int.toNat_natCast, Nat.min_eq_left (show 8 * j ≤ IntKind.i64.bits by simp [IntKind.bits]; omega)]
    rw [code_Append.l1, e1, e2, e3, if_pos (by omega), if_pos (by omega), if_pos (by omega), e4, ih]
    simp [bts]

theorem shl_w {w : Nat} (hw : w = 1 ∨ w = 2 ∨ w = 4) : shl .i64 1 (wrap64 (8 * (w : Int))) = 2 ^ (8 * w) := by
  rcases hw with rfl | rfl | rfl <;> decide +kernel
theorem l0_one {w : Nat} (hw : w = 1 ∨ w = 2 ∨ w = 4 ∨ w = 8) (k : Nat) (x l : List Int) (i : Nat) (n : Int) (hn : l[i]? = some n) (hx : x.length + 8 < 140737488355328) (hl : l.length < 4294967296) :
    code_Append.l0 (k + w + 3) w x l l.length i = if fitsW w n = true then code_Append.l0 k w (x ++ bts n w) l l.length ((i + 1 : Nat) : Int) else some ([], 4) := by
  obtain ⟨hi, hv⟩ := List.getElem?_eq_some_iff.1 hn
  have hrd : rd l (i : Int) = n := by unfold rd; rw [Int.toNat_natCast, List.getD_eq_getElem?_getD, hn]; rfl
  have e1 : wrap64 ((w : Int) - 1) = (w : Int) - 1 := by rcases hw with rfl | rfl | rfl | rfl <;> decide +kernel
  have e2 : wrap64 ((i : Int) + 1) = ((i + 1 : Nat) : Int) := by rw [wrap64_id (by omega) (by omega)]; omega
  have run : ∀ b, code_Append.j1 (k + w + 2) w x n l l.length i b = if b = true then some ([], 4) else code_Append.l0 k w (x ++ bts n w) l l.length ((i + 1 : Nat) : Int) := by
    intro b
    show code_Append.j1 (k + w + 1 + 1) w x n l l.length i b = _
    rw [code_Append.j1, e1, l1_run _ _ _ _ _ w k x (by omega) (by omega), e2]
  show code_Append.l0 (k + w + 2 + 1) w x l l.length i = _
  rw [code_Append.l0, if_pos (by omega), if_pos (by omega), if_pos (by omega), hrd]
  by_cases h8 : w = 8
  · subst h8
    rw [if_neg (by omega), run]; rfl
  · have hw' : w = 1 ∨ w = 2 ∨ w = 4 := by omega
    have hf : fitsW w n = (decide (0 ≤ n) && decide (n < 2 ^ (8 * w))) := by
      unfold fitsW; rcases hw' with rfl | rfl | rfl <;> rfl
    rw [if_pos (by omega), shl_w hw', run, run, if_pos rfl, hf, if_pos (show 0 ≤ wrap64 (8 * (w : Int)) by rcases hw' with rfl | rfl | rfl <;> decide +kernel)]
    by_cases h0 : n < 0
    · rw [if_pos h0, if_neg (by simp; omega)]
    · rw [if_neg h0]
      by_cases h1 : n < 2 ^ (8 * w)
      · rw [if_neg (by simpa using h1), if_pos (by simp [h1]; omega)]
      · rw [if_pos (by simpa using h1), if_neg (by simp [h1])]
theorem l0_end (k : Nat) (w : Int) (x l : List Int) (i : Nat) (hi : l.length ≤ i) : code_Append.l0 (k + 1) w x l l.length i = some (x, 0) := by
  rw [code_Append.l0, if_neg (by omega)]

theorem l0_app {w : Nat} (hw : w = 1 ∨ w = 2 ∨ w = 4 ∨ w = 8) (l : List Int) (hl : l.length < 4294967296) : ∀ (t : List Int) (i : Nat) (x : List Int), l.drop i = t → x.length + 8 * t.length < 140737488355320 →
    code_Append.l0 (11 * t.length + 1) w x l l.length i = some (appW w x t)
  | [], i, x, ht, hx => by
    have hi : l.length ≤ i := List.drop_eq_nil_iff.1 ht
    exact l0_end _ _ _ _ _ hi
  | n :: t, i, x, ht, hx => by
    have hn : l[i]? = some n := by rw [← List.head?_drop, ht]; rfl
    have ht' : l.drop (i + 1) = t := by rw [← List.tail_drop, ht]; rfl
    have hx' : x.length + 8 * (t.length + 1) < 140737488355320 := by simpa using hx
    obtain ⟨c, hc⟩ : ∃ c, 11 * (t.length + 1) + 1 = (11 * t.length + 1 + c) + w + 3 := ⟨8 - w, by omega⟩
    have hb := bts_length n w
    have ih := l0_app hw l hl t (i + 1) (x ++ bts n w) ht' (by simp [hb]; omega)
    show code_Append.l0 (11 * (t.length + 1) + 1) w x l l.length i = _
    rw [hc, l0_one hw _ _ _ _ _ hn (by omega) hl]
    unfold appW
    split
    · exact leO_le (f := fun k => code_Append.l0 k w (x ++ bts n w) l l.length ((i + 1 : Nat) : Int)) (fun k => (code_Append.mono_l k).1 _ _ _ _ _) (Nat.le_add_right _ c) ih
    · rfl

/-- What Append tells of a width that is none. -/
theorem append_no (k : Nat) (b : List Int) (a : Int) (l : List Int) (ha : ¬ (a = 1 ∨ a = 2 ∨ a = 4 ∨ a = 8)) : code_Append.f k b a l = some ([], 2) := by
  have : code_width.f a = some false := by
    unfold code_width.f
    rw [if_neg (by omega), if_neg (by omega), if_neg (by omega)]
    congr 1
    simp; omega
  unfold code_Append.f; rw [this]; rfl
/-- What Append tells. -/
theorem append_is {w : Nat} (hw : w = 1 ∨ w = 2 ∨ w = 4 ∨ w = 8) (b l : List Int) (hb : b.length < 1000000) (hl : l.length < 1000000) {k : Nat} (hk : 11 * l.length + 1 ≤ k) : code_Append.f k b w l = some (appW w b l) := by
  have : code_width.f (w : Int) = some true := by rcases hw with rfl | rfl | rfl | rfl <;> rfl
  have hc : slices_Clone_byte_byte.f b = some b := by unfold slices_Clone_byte_byte.f; rw [if_pos (by omega)]
  refine leO_le (f := fun k => code_Append.f k b w l) (fun k => code_Append.mono _ _ _ k) hk ?_
  show code_Append.f (11 * l.length + 1) b w l = _
  unfold code_Append.f; rw [this, hc]
  exact l0_app hw l (by omega) l 0 b rfl (by omega)

/-! ### numbers out of bytes -/
def isByte (x : Int) : Prop := 0 ≤ x ∧ x < 256
def allBytes (l : List Int) : Prop := ∀ x ∈ l, isByte x
theorem allBytes_drop {l : List Int} (h : allBytes l) (n : Nat) : allBytes (l.drop n) := fun x hx => h x (List.mem_of_mem_drop hx)
theorem allBytes_take {l : List Int} (h : allBytes l) (n : Nat) : allBytes (l.take n) := fun x hx => h x (List.mem_of_mem_take hx)
theorem allBytes_append {l m : List Int} (h : allBytes l) (k : allBytes m) : allBytes (l ++ m) := fun x hx => by
  rcases List.mem_append.1 hx with q | q
  · exact h x q
  · exact k x q
theorem allBytes_bts (n : Int) : ∀ j, allBytes (bts n j)
  | 0 => fun x hx => by simp [bts] at hx
  | j + 1 => fun x hx => by
    rcases List.mem_cons.1 hx with rfl | hx
    · exact ⟨Int.emod_nonneg _ (by decide), Int.emod_lt_of_pos _ (by decide)⟩
    · exact allBytes_bts n j x hx
theorem allBytes_of_wf {l : List Int} (h : ∀ x ∈ l, (Lit.int .u8 x).wf = true) : allBytes l := fun x hx => by
  have : 0 ≤ x ∧ x ≤ 255 := by simpa [Lit.wf, IntKind.min, IntKind.max, IntKind.signed, IntKind.bits] using h x hx
  exact ⟨this.1, by omega⟩
/-- The number that bytes come to, the highest first. -/
def valL (l : List Int) : Int := l.foldl (fun v b => 256 * v + b) 0
theorem valL_snoc (l : List Int) (b : Int) : valL (l ++ [b]) = 256 * valL l + b := by simp [valL]
theorem fold_from (l : List Int) : ∀ v : Int, l.foldl (fun v b => 256 * v + b) v = v * 2 ^ (8 * l.length) + valL l := by
  induction l with
  | nil => intro v; simp [valL]
  | cons a l ih =>
    intro v
    have e : (2 : Int) ^ (8 * (a :: l).length) = 256 * 2 ^ (8 * l.length) := by rw [List.length_cons, show 8 * (l.length + 1) = 8 + 8 * l.length by omega, Int.pow_add]; rfl
    have h1 := ih (256 * v + a)
    have h2 : valL (a :: l) = (256 * 0 + a) * 2 ^ (8 * l.length) + valL l := ih (256 * 0 + a)
    show l.foldl (fun v b => 256 * v + b) (256 * v + a) = _
    rw [h1, h2, e, Int.add_mul, Int.add_mul]
    have h3 : v * (256 * 2 ^ (8 * l.length)) = 256 * v * 2 ^ (8 * l.length) := by rw [← Int.mul_assoc, Int.mul_comm v 256]
    rw [h3]; omega
theorem valL_cons (a : Int) (l : List Int) : valL (a :: l) = a * 2 ^ (8 * l.length) + valL l := by
  have := fold_from l (256 * 0 + a)
  show l.foldl (fun v b => 256 * v + b) (256 * 0 + a) = _
  rw [this, show (256 * 0 + a) = a by omega]
theorem valL_bounds : ∀ (l : List Int), allBytes l → 0 ≤ valL l ∧ valL l < 2 ^ (8 * l.length)
  | [], _ => by simp [valL]
  | a :: l, h => by
    have ih := valL_bounds l (fun x hx => h x (List.mem_cons_of_mem _ hx))
    have ha := h a List.mem_cons_self
    have e : (2 : Int) ^ (8 * (a :: l).length) = 256 * 2 ^ (8 * l.length) := by rw [List.length_cons, show 8 * (l.length + 1) = 8 + 8 * l.length by omega, Int.pow_add]; rfl
    rw [valL_cons, e]
    have hp : (0 : Int) < 2 ^ (8 * l.length) := Int.pow_pos (by decide)
    generalize (2 : Int) ^ (8 * l.length) = P at *
    have h1 : 0 ≤ a * P := Int.mul_nonneg ha.1 (by omega)
    have h2 : a * P ≤ 255 * P := Int.mul_le_mul_of_nonneg_right (by have := ha.2; omega) (by omega)
    omega
theorem emod_two' (z P : Int) (hP : 0 < P) : z % (P * 256) = z % P + P * ((z / P) % 256) := by
  have h1 := Int.mul_ediv_add_emod z P
  have h2 := Int.mul_ediv_add_emod (z / P) 256
  have h3 : z / P / 256 = z / (P * 256) := Int.ediv_ediv_of_nonneg (by omega)
  have h4 := Int.mul_ediv_add_emod z (P * 256)
  rw [h3] at h2
  have h5 : P * (z / P) = P * 256 * (z / (P * 256)) + P * (z / P % 256) := by
    conv => lhs; rw [← h2]
    rw [Int.mul_add, Int.mul_assoc]
  omega
theorem valL_bts (n : Int) : ∀ j, valL (bts n j) = n % 2 ^ (8 * j)
  | 0 => by simp [bts, valL, Int.emod_one]
  | j + 1 => by
    have hp : (0 : Int) < 2 ^ (8 * j) := Int.pow_pos (by decide)
    have e : (2 : Int) ^ (8 * (j + 1)) = 2 ^ (8 * j) * 256 := by rw [show 8 * (j + 1) = 8 * j + 8 by omega, Int.pow_add]; rfl
    show valL ((n / 2 ^ (8 * j)) % 256 :: bts n j) = _
    rw [valL_cons, bts_length, valL_bts n j, e, emod_two' n _ hp, Int.mul_comm]; omega
theorem bts_valL : ∀ (l : List Int), allBytes l → ∀ z : Int, 0 ≤ z → bts (z * 2 ^ (8 * l.length) + valL l) l.length = l
  | [], _, z, _ => rfl
  | a :: l, h, z, hz => by
    have hl : allBytes l := fun x hx => h x (List.mem_cons_of_mem _ hx)
    have ha := h a List.mem_cons_self
    have hb := valL_bounds l hl
    have e : (2 : Int) ^ (8 * (a :: l).length) = 256 * 2 ^ (8 * l.length) := by rw [List.length_cons, show 8 * (l.length + 1) = 8 + 8 * l.length by omega, Int.pow_add]; rfl
    have hp : (0 : Int) < 2 ^ (8 * l.length) := Int.pow_pos (by decide)
    have e2 : z * 2 ^ (8 * (a :: l).length) + valL (a :: l) = (256 * z + a) * 2 ^ (8 * l.length) + valL l := by
      rw [valL_cons, e, Int.add_mul, ← Int.mul_assoc, Int.mul_comm z 256]; omega
    rw [e2]
    show ((256 * z + a) * 2 ^ (8 * l.length) + valL l) / 2 ^ (8 * l.length) % 256 :: bts _ l.length = _
    rw [bts_valL l hl (256 * z + a) (by have := ha.1; omega)]
    congr 1
    rw [Int.add_comm, Int.add_mul_ediv_right _ _ (by omega), Int.ediv_eq_zero_of_lt hb.1 hb.2]
    have := ha.1; have := ha.2
    omega
theorem bts_val (l : List Int) (h : allBytes l) : bts (valL l) l.length = l := by
  have := bts_valL l h 0 (by omega)
  rwa [Int.zero_mul, Int.zero_add] at this

theorem or_byte (a b : Int) (ha : a % 256 = 0) (hb : 0 ≤ b) (hb' : b < 256) : Go.bits .or .i64 a b = wrap64 (a + b) := by
  show IntKind.i64.wrap ((BitVec.ofInt 64 a ||| BitVec.ofInt 64 b).toNat : Int) = _
  rw [i64_w, BitVec.toNat_or]
  have h1 : ((BitVec.ofInt 64 a).toNat : Int) = a % 18446744073709551616 := by
    rw [BitVec.toNat_ofInt, Int.toNat_of_nonneg (Int.emod_nonneg _ (by decide))]; rfl
  have h2 : ((BitVec.ofInt 64 b).toNat : Int) = b := by
    rw [BitVec.toNat_ofInt, Int.toNat_of_nonneg (Int.emod_nonneg _ (by decide))]
    exact Int.emod_eq_of_lt hb (by show b < 18446744073709551616; omega)
  generalize (BitVec.ofInt 64 a).toNat = A at *
  generalize (BitVec.ofInt 64 b).toNat = B at *
  have h3 : A = 2 ^ 8 * (A / 256) := by omega
  have h4 : A ||| B = A + B := by
    rw [h3]; exact (Nat.two_pow_add_eq_or_of_lt (show B < 2 ^ 8 by omega) _).symm
  rw [h4]
  unfold wrap64
  omega
theorem numU_is (l : List Int) (h : allBytes l) (o : Nat) : ∀ j, o + j ≤ l.length → numU l o j = wrap64 (valL ((l.drop o).take j))
  | 0, _ => by simp [numU, valL, wrap64]
  | j + 1, hj => by
    have ih := numU_is l h o j (by omega)
    have hlt : o + j < l.length := by omega
    have hx : (l.drop o).take (j + 1) = (l.drop o).take j ++ [l[o + j]] := by
      rw [List.take_add_one, List.getElem?_drop, List.getElem?_eq_getElem hlt]; rfl
    have hg : l.getD (o + j) 0 = l[o + j] := by rw [List.getD_eq_getElem?_getD, List.getElem?_eq_getElem hlt]; rfl
    have hb := h _ (List.getElem_mem hlt)
    rw [hx, valL_snoc]
    show Go.bits .or .i64 (wrap64 (numU l o j * 256)) (wrap64 (l.getD (o + j) 0)) = _
    rw [hg, ih]
    generalize valL ((l.drop o).take j) = V
    generalize l[o + j] = y at *
    have hy : wrap64 y = y := by have := hb.1; have := hb.2; unfold wrap64; omega
    rw [hy, or_byte _ _ (by unfold wrap64; omega) hb.1 hb.2]
    unfold wrap64; omega

def chunks (c : Nat) : Nat → List Int → List (List Int)
  | 0, _ => []
  | m + 1, l => l.take c :: chunks c m (l.drop c)
theorem chunks_length (c : Nat) : ∀ (m : Nat) (l : List Int), (chunks c m l).length = m
  | 0, _ => rfl
  | m + 1, l => by simp [chunks, chunks_length c m]
theorem range_chunks (c : Nat) (f : List Int → Int) : ∀ (m : Nat) (l : List Int), (List.range m).map (fun i => f ((l.drop (c * i)).take c)) = (chunks c m l).map f
  | 0, _ => rfl
  | m + 1, l => by
    rw [List.range_succ_eq_map, List.map_cons, List.map_map]
    show _ = f (l.take c) :: (chunks c m (l.drop c)).map f
    rw [← range_chunks c f m (l.drop c)]
    congr 1
    apply List.map_congr_left
    intro i _
    simp only [Function.comp, List.drop_drop]
    rw [Nat.mul_succ, Nat.add_comm]
def takeS (c m : Nat) (l : List Int) : List Int × List Int × Int := ((chunks c m l).map (fun x => wrap64 (valL x)), l.drop (c * m), 0)
theorem take_no (l : List Int) (a1 a2 : Int) (h : ¬ (a1 = 1 ∨ a1 = 2 ∨ a1 = 4 ∨ a1 = 8) ∨ a2 < 0 ∨ 4000 < a2) : code_Take.f l a1 a2 = some ([], [], 2) := by
  unfold code_Take.f
  by_cases hw : a1 = 1 ∨ a1 = 2 ∨ a1 = 4 ∨ a1 = 8
  · rw [if_pos hw, if_neg (by omega)]
  · rw [if_neg hw]
theorem take_is {c m : Nat} (hw : c = 1 ∨ c = 2 ∨ c = 4 ∨ c = 8) (hm : m ≤ 4000) (l : List Int) (h : allBytes l) (hl : l.length < 1000000) :
    code_Take.f l c m = if l.length < c * m then some ([], [], 15) else some (takeS c m l) := by
  unfold code_Take.f
  rw [if_pos (by omega), if_pos (by omega)]
  by_cases hs : l.length < c * m
  · have : (l.length : Int) < (c : Int) * (m : Int) := by rw [← Int.natCast_mul]; omega
    rw [if_pos hs, if_pos this]
  · have : ¬ (l.length : Int) < (c : Int) * (m : Int) := by rw [← Int.natCast_mul]; omega
    rw [if_neg hs, if_neg this, if_pos (by omega), Int.toNat_natCast, Int.toNat_natCast]
    unfold takeS
    rw [← range_chunks c (fun x => wrap64 (valL x)) m l]
    congr 2
    apply List.map_congr_left
    intro i hi
    have hi' := List.mem_range.1 hi
    have h1 : c * (i + 1) ≤ c * m := Nat.mul_le_mul_left c hi'
    rw [Nat.mul_succ] at h1
    rw [numU_is l h (c * i) c (by omega)]

/-- The bytes of numbers, one behind the other. -/
def flat (w : Nat) (l : List Int) : List Int := l.flatMap (fun n => bts n w)
theorem flat_length (w : Nat) : ∀ l, (flat w l).length = w * l.length
  | [] => by simp [flat]
  | n :: l => by
    have := flat_length w l
    show (bts n w ++ flat w l).length = _
    rw [List.length_append, bts_length, this, List.length_cons, Nat.mul_succ]; omega
theorem appW_fit (w : Nat) : ∀ (l x : List Int), (∀ n ∈ l, fitsW w n = true) → appW w x l = (x ++ flat w l, 0)
  | [], x, _ => by simp [appW, flat]
  | n :: l, x, h => by
    unfold appW
    rw [if_pos (h n List.mem_cons_self), appW_fit w l _ (fun m hm => h m (List.mem_cons_of_mem _ hm))]
    simp [flat, List.append_assoc]
theorem appW_unfit (w : Nat) : ∀ (l x : List Int), ¬ (∀ n ∈ l, fitsW w n = true) → appW w x l = ([], 4)
  | [], x, h => absurd (fun _ hm => by cases hm) h
  | n :: l, x, h => by
    unfold appW
    by_cases hn : fitsW w n = true
    · rw [if_pos hn]
      refine appW_unfit w l _ (fun q => h fun m hm => ?_)
      rcases List.mem_cons.1 hm with rfl | hm
      · exact hn
      · exact q m hm
    · rw [if_neg hn]
theorem chunks_flat (w : Nat) (t : List Int) : ∀ l : List Int, chunks w l.length (flat w l ++ t) = l.map (fun n => bts n w) ∧ (flat w l ++ t).drop (w * l.length) = t
  | [] => by simp [chunks, flat]
  | n :: l => by
    obtain ⟨h1, h2⟩ := chunks_flat w t l
    have e : flat w (n :: l) ++ t = bts n w ++ (flat w l ++ t) := by
      show (bts n w ++ flat w l) ++ t = _
      rw [List.append_assoc]
    have hb := bts_length n w
    constructor
    · show (flat w (n :: l) ++ t).take w :: chunks w l.length ((flat w (n :: l) ++ t).drop w) = _
      rw [e, List.take_left' hb, List.drop_left' hb, h1]; rfl
    · rw [e, List.length_cons, Nat.mul_succ, Nat.add_comm, ← List.drop_drop, List.drop_left' hb, h2]
theorem allBytes_flat (w : Nat) : ∀ l, allBytes (flat w l)
  | [] => fun x hx => by simp [flat] at hx
  | n :: l => allBytes_append (allBytes_bts n w) (allBytes_flat w l)
theorem flat_chunks (w : Nat) : ∀ (m : Nat) (l : List Int), w * m ≤ l.length → (chunks w m l).flatMap id = l.take (w * m)
  | 0, l, _ => by simp [chunks]
  | m + 1, l, h => by
    rw [Nat.mul_succ] at h
    have ih := flat_chunks w m (l.drop w) (by rw [List.length_drop]; omega)
    show l.take w ++ (chunks w m (l.drop w)).flatMap id = _
    rw [ih, Nat.mul_succ, Nat.add_comm, List.take_add]
theorem chunks_mem (w : Nat) : ∀ (m : Nat) (l : List Int), w * m ≤ l.length → allBytes l → ∀ x ∈ chunks w m l, x.length = w ∧ allBytes x
  | 0, l, _, _, x, hx => by cases hx
  | m + 1, l, h, hb, x, hx => by
    rw [Nat.mul_succ] at h
    rcases List.mem_cons.1 hx with rfl | hx
    · exact ⟨by rw [List.length_take]; omega, allBytes_take hb w⟩
    · exact chunks_mem w m (l.drop w) (by rw [List.length_drop]; omega) (allBytes_drop hb w) x hx
theorem bts_mod (n : Int) : ∀ j, j ≤ 8 → bts (n % 18446744073709551616) j = bts n j
  | 0, _ => rfl
  | j + 1, hj => by
    show _ :: bts _ j = _ :: bts _ j
    rw [bts_mod n j (by omega)]
    congr 1
    have : j = 0 ∨ j = 1 ∨ j = 2 ∨ j = 3 ∨ j = 4 ∨ j = 5 ∨ j = 6 ∨ j = 7 := by omega
    rcases this with rfl | rfl | rfl | rfl | rfl | rfl | rfl | rfl <;> simp only [Nat.mul_zero, Nat.reduceMul, Int.reducePow] <;> omega
/-- What was taken fits, and its bytes are what it was taken of. -/
theorem back_one {w : Nat} (hw : w = 1 ∨ w = 2 ∨ w = 4 ∨ w = 8) (x : List Int) (hx : x.length = w) (hb : allBytes x) : fitsW w (wrap64 (valL x)) = true ∧ bts (wrap64 (valL x)) w = x := by
  have h1 := valL_bounds x hb
  have h2 := bts_val x hb
  rw [hx] at h1 h2
  have hm : ∀ n : Int, bts (n % 18446744073709551616) w = bts n w := fun n => bts_mod n w (by omega)
  have hwr : bts (wrap64 (valL x)) w = x := by
    rw [← hm, show wrap64 (valL x) % 18446744073709551616 = valL x % 18446744073709551616 by unfold wrap64; omega, hm, h2]
  refine ⟨?_, hwr⟩
  unfold fitsW
  rcases hw with rfl | rfl | rfl | rfl
  · have : wrap64 (valL x) = valL x := by unfold wrap64; simp at h1; omega
    have h3 := h1; simp at h3; rw [this]; simp [h3.1, h3.2]
  · have : wrap64 (valL x) = valL x := by unfold wrap64; simp at h1; omega
    have h3 := h1; simp at h3; rw [this]; simp [h3.1, h3.2]
  · have : wrap64 (valL x) = valL x := by unfold wrap64; simp at h1; omega
    have h3 := h1; simp at h3; rw [this]; simp [h3.1, h3.2]
  · rfl
theorem back_all {w : Nat} (hw : w = 1 ∨ w = 2 ∨ w = 4 ∨ w = 8) : ∀ (L : List (List Int)), (∀ x ∈ L, x.length = w ∧ allBytes x) → (∀ n ∈ L.map (fun x => wrap64 (valL x)), fitsW w n = true) ∧ flat w (L.map (fun x => wrap64 (valL x))) = L.flatMap id
  | [], _ => ⟨fun n hn => (by cases hn), rfl⟩
  | x :: L, h => by
    obtain ⟨h1, h2⟩ := back_all hw L (fun y hy => h y (List.mem_cons_of_mem _ hy))
    obtain ⟨h3, h4⟩ := h x List.mem_cons_self
    obtain ⟨h5, h6⟩ := back_one hw x h3 h4
    constructor
    · intro n hn
      rcases List.mem_cons.1 hn with rfl | hn
      · exact h5
      · exact h1 n hn
    · show bts (wrap64 (valL x)) w ++ flat w (L.map fun x => wrap64 (valL x)) = x ++ L.flatMap id
      rw [h6, h2]

theorem sameBytes_self (l : List Int) : binnaclekit_SameBytes.f l l = some true := by
  unfold binnaclekit_SameBytes.f; simp
theorem sameInts_run (l : List Int) (hl : l.length < 4294967296) : ∀ (j i k : Nat), i + j = l.length → binnaclekit_SameInts.l0 (k + j + 1) l l i = some true
  | 0, i, k, h => by
    show binnaclekit_SameInts.l0 (k + 1) l l i = _
    rw [binnaclekit_SameInts.l0, if_neg (by omega)]
  | j + 1, i, k, h => by
    have ih := sameInts_run l hl j (i + 1) k (by omega)
    show binnaclekit_SameInts.l0 (k + j + 1 + 1) l l i = _
    have e2 : wrap64 ((i : Int) + 1) = ((i + 1 : Nat) : Int) := by rw [wrap64_id (by omega) (by omega)]; omega
    rw [binnaclekit_SameInts.l0, if_pos (by omega), if_pos (by omega), if_pos (by omega), if_pos rfl, e2, ih]
theorem sameInts_self (l : List Int) (hl : l.length < 4294967296) (k : Nat) (hk : l.length + 1 ≤ k) : binnaclekit_SameInts.f k l l = some true := by
  obtain ⟨c, rfl⟩ : ∃ c, k = c + l.length + 1 := ⟨k - (l.length + 1), by omega⟩
  unfold binnaclekit_SameInts.f
  rw [if_pos rfl]
  exact sameInts_run l hl l.length 0 c (by omega)

theorem pick_in (a n : Int) (hn : 0 < n) (hn' : n < 4611686018427387904) : ∃ r, binnaclekit_Pick.f a n = some r ∧ 0 ≤ r ∧ r < n := by
  unfold binnaclekit_Pick.f
  rw [if_neg (by omega), if_neg (by omega)]
  have h1 := Int.tmod_lt_of_pos a hn
  have h2 : -n < Int.tmod a n := Int.lt_tmod_of_pos a hn
  by_cases h : Int.tmod a n < 0
  · rw [if_pos h]
    refine ⟨_, rfl, ?_, ?_⟩ <;> (rw [wrap64_id (by omega) (by omega)]; omega)
  · rw [if_neg h]; exact ⟨_, rfl, by omega, h1⟩
theorem width_of {r : Int} (h0 : 0 ≤ r) (h4 : r < 4) : ∃ w : Nat, (w = 1 ∨ w = 2 ∨ w = 4 ∨ w = 8) ∧ shl .i64 1 (IntKind.u64.wrap r) = (w : Int) ∧ 0 ≤ IntKind.u64.wrap r := by
  have : r = 0 ∨ r = 1 ∨ r = 2 ∨ r = 3 := by omega
  rcases this with rfl | rfl | rfl | rfl
  · exact ⟨1, by omega, by decide +kernel, by decide +kernel⟩
  · exact ⟨2, by omega, by decide +kernel, by decide +kernel⟩
  · exact ⟨4, by omega, by decide +kernel, by decide +kernel⟩
  · exact ⟨8, by omega, by decide +kernel, by decide +kernel⟩

theorem CodeBack : binnaclelaw25_CodeBack.Pure := by
  intro l0 a1 l2 _ _ hi _ _ _ hb
  refine ⟨1001, ?_⟩
  have hT : binnaclelaw25_CodeBack.j0 1001 l0 a1 l2 true true = some true := by
    show binnaclelaw25_CodeBack.j0 (1000 + 1) l0 a1 l2 true true = some true
    rw [binnaclelaw25_CodeBack.j0, if_pos rfl]
  unfold binnaclelaw25_CodeBack.f binnaclelaw25_CodeKnown.f
  rw [Option.bind_some]
  by_cases h0 : (l0.length : Int) > 40
  · rw [if_pos h0]; exact hT
  rw [if_neg h0]
  by_cases h2 : (l2.length : Int) > 100
  · rw [decide_eq_true h2]; exact hT
  rw [decide_eq_false h2]
  show binnaclelaw25_CodeBack.j0 (1000 + 1) l0 a1 l2 true false = some true
  obtain ⟨r, hr, r0, r4⟩ := pick_in a1 4 (by omega) (by omega)
  obtain ⟨w, hw, e1, e2⟩ := width_of r0 r4
  rw [binnaclelaw25_CodeBack.j0, if_neg (by simp), hr, Option.bind_some, if_pos e2, e1, append_is hw [] l0 (by simp) (by omega) (by omega), Option.bind_some]
  have hmul : w * l0.length ≤ 320 := by
    have := Nat.mul_le_mul (show w ≤ 8 by omega) (show l0.length ≤ 40 by omega)
    omega
  by_cases hf : ∀ n ∈ l0, fitsW w n = true
  · rw [appW_fit w l0 [] hf, List.nil_append, if_pos rfl]
    have hlen := flat_length w l0
    rw [if_pos (show (flat w l0).length + l2.length < 140737488355328 by omega)]
    have hbytes : allBytes (flat w l0 ++ l2) := allBytes_append (allBytes_flat w l0) (allBytes_of_wf hb)
    rw [take_is hw (by omega) _ hbytes (by rw [List.length_append]; omega), if_neg (by rw [List.length_append]; omega), Option.bind_some]
    obtain ⟨hc, hd⟩ := chunks_flat w l2 l0
    have hS : takeS w l0.length (flat w l0 ++ l2) = (l0, l2, 0) := by
      unfold takeS
      rw [hc, hd, List.map_map]
      have : l0.map ((fun x => wrap64 (valL x)) ∘ fun n => bts n w) = l0 := by
        conv => rhs; rw [← List.map_id l0]
        apply List.map_congr_left
        intro n hn
        show wrap64 (valL (bts n w)) = n
        rw [valL_bts]
        have h1 := hi n hn
        have h2 := hf n hn
        simp only [Lit.wf, IntKind.min, IntKind.max, IntKind.signed, IntKind.bits, Bool.and_eq_true, decide_eq_true_eq] at h1
        have h3 : -9223372036854775808 ≤ n ∧ n ≤ 9223372036854775807 := by simpa using h1
        unfold fitsW at h2
        unfold wrap64
        rcases hw with rfl | rfl | rfl | rfl
        · simp at h2 ⊢; omega
        · simp at h2 ⊢; omega
        · simp at h2 ⊢; omega
        · simp only [Nat.reduceMul, Int.reducePow]; omega
      rw [this]
    rw [hS, if_pos rfl, if_pos rfl]
    have hm : wrap64 ((w : Int) * (l0.length : Int)) = ((w * l0.length : Nat) : Int) := by
      rw [← Int.natCast_mul, wrap64_id (by omega) (by omega)]
    rw [if_pos (by rw [hm, hlen]), sameInts_self l0 (by omega) _ (by omega), Option.bind_some, if_pos rfl, sameBytes_self]
    rfl
  · rw [appW_unfit w l0 [] hf, if_neg (by simp), if_pos rfl, if_pos (by simp), if_pos rfl]
    have : w ≠ 8 := fun e => hf fun n _ => by subst e; rfl
    rw [decide_eq_true (by omega)]

end Go.Proofs.Ytlmdegpccodbgaa.Pure

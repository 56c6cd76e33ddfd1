/- What the walk of CodeTakes tells is true: in plain Lean. No condition. -/
import Derived.Test.YtlmdegpccodbgaaHCodeTakesx4
import Derived.Lib.Bytes
set_option linter.unusedVariables false
set_option linter.unusedSimpArgs false
namespace Go.Proofs.Ytlmdegpccodbgaa.Pure
open Go Go.RowKit Go.Proofs.Ytlmdegpccodbgaa.HCodeTakes Go.Proofs.YtlmdegpccodbgaaW.PrintWords Go.Proofs.YtlmdegpccodbgaaW.PrintLast

theorem leO_le {α : Type} {f : Nat → Option α} (h : ∀ k, LeO (f k) (f (k + 1))) {a b : Nat} (hab : a ≤ b) {r : α} (hr : f a = some r) : f b = some r := by
  induction hab with
  | refl => exact hr
  | step _ ih => exact h _ _ ih

/-- The low bytes of a number, the highest first. -/
def bts (n : Int) : Nat → List Int
  | 0 => []
  | j + 1 => (n / 2 ^ (8 * j)) % 256 :: bts n j
theorem bts_length (n : Int) : ∀ j, (bts n j).length = j
  | 0 => rfl
  | j + 1 => by simp [bts, bts_length n j]
def fitsW (w : Nat) (n : Int) : Bool := w == 8 || (decide (0 ≤ n) && decide (n < 2 ^ (8 * w)))
def appW (w : Nat) : List Int → List Int → List Int × Int
  | x, [] => (x, 0)
  | x, n :: l => if fitsW w n = true then appW w (x ++ bts n w) l else ([], 4)

theorem wrap64_id {n : Int} (h : -9223372036854775808 ≤ n) (h' : n < 9223372036854775808) : wrap64 n = n := by
  unfold wrap64; omega

theorem l1_run (w n : Int) (l : List Int) (len i : Int) : ∀ (j k : Nat) (x : List Int), j ≤ 8 → x.length + j < 140737488355328 →
    code_Append.l1 (k + j + 1) w x n ((j : Int) - 1) l len i = code_Append.l0 k w (x ++ bts n j) l len (wrap64 (i + 1))
  | 0, k, x, _, _ => by
    show code_Append.l1 (k + 1) w x n (((0 : Nat) : Int) - 1) l len i = _
    rw [code_Append.l1, if_neg (by omega)]; simp [bts]
  | j + 1, k, x, hj, hx => by
    have ih := l1_run w n l len i j k (x ++ [(n / 2 ^ (8 * j)) % 256]) (by omega) (by simp; omega)
    show code_Append.l1 (k + j + 1 + 1) w x n (((j + 1 : Nat) : Int) - 1) l len i = _
    have e1 : (((j + 1 : Nat) : Int) - 1) = (j : Int) := by omega
    have e2 : wrap64 (8 * (j : Int)) = ((8 * j : Nat) : Int) := by rw [wrap64_id (by omega) (by omega)]; omega
    have e3 : wrap64 ((j : Int) - 1) = (j : Int) - 1 := wrap64_id (by omega) (by omega)
    have e4 : shr .i64 n ((8 * j : Nat) : Int) = n / 2 ^ (8 * j) := by
      unfold shr
      rw [Int.toNat_natCast, Nat.min_eq_left (show 8 * j ≤ IntKind.i64.bits by simp [IntKind.bits]; omega)]
    rw [code_Append.l1, e1, e2, e3, if_pos (by omega), if_pos (by omega), if_pos (by omega), e4, ih]
    simp [bts]

theorem shl_w {w : Nat} (hw : w = 1 ∨ w = 2 ∨ w = 4) : shl .i64 1 (wrap64 (8 * (w : Int))) = 2 ^ (8 * w) := by
  rcases hw with rfl | rfl | rfl <;> decide +kernel
theorem l0_one {w : Nat} (hw : w = 1 ∨ w = 2 ∨ w = 4 ∨ w = 8) (k : Nat) (x l : List Int) (i : Nat) (n : Int) (hn : l[i]? = some n) (hx : x.length + 8 < 140737488355328) (hl : l.length < 4294967296) :
    code_Append.l0 (k + w + 3) w x l l.length i = if fitsW w n = true then code_Append.l0 k w (x ++ bts n w) l l.length ((i + 1 : Nat) : Int) else some ([], 4) := by
  obtain ⟨hi, hv⟩ := List.getElem?_eq_some_iff.1 hn
  have hrd : rd l (i : Int) = n := by unfold rd; rw [Int.toNat_natCast, List.getD_eq_getElem?_getD, hn]; rfl
  have e1 : wrap64 ((w : Int) - 1) = (w : Int) - 1 := by rcases hw with rfl | rfl | rfl | rfl <;> decide +kernel
  have e2 : wrap64 ((i : Int) + 1) = ((i + 1 : Nat) : Int) := by rw [wrap64_id (by omega) (by omega)]; omega
  have run : ∀ b, code_Append.j1 (k + w + 2) w x n l l.length i b = if b = true then some ([], 4) else code_Append.l0 k w (x ++ bts n w) l l.length ((i + 1 : Nat) : Int) := by
    intro b
    show code_Append.j1 (k + w + 1 + 1) w x n l l.length i b = _
    rw [code_Append.j1, e1, l1_run _ _ _ _ _ w k x (by omega) (by omega), e2]
  show code_Append.l0 (k + w + 2 + 1) w x l l.length i = _
  rw [code_Append.l0, if_pos (by omega), if_pos (by omega), if_pos (by omega), hrd]
  by_cases h8 : w = 8
  · subst h8
    rw [if_neg (by omega), run]; rfl
  · have hw' : w = 1 ∨ w = 2 ∨ w = 4 := by omega
    have hf : fitsW w n = (decide (0 ≤ n) && decide (n < 2 ^ (8 * w))) := by
      unfold fitsW; rcases hw' with rfl | rfl | rfl <;> rfl
    rw [if_pos (by omega), shl_w hw', run, run, if_pos rfl, hf, if_pos (show 0 ≤ wrap64 (8 * (w : Int)) by rcases hw' with rfl | rfl | rfl <;> decide +kernel)]
    by_cases h0 : n < 0
    · rw [if_pos h0, if_neg (by simp; omega)]
    · rw [if_neg h0]
      by_cases h1 : n < 2 ^ (8 * w)
      · rw [if_neg (by simpa using h1), if_pos (by simp [h1]; omega)]
      · rw [if_pos (by simpa using h1), if_neg (by simp [h1])]
theorem l0_end (k : Nat) (w : Int) (x l : List Int) (i : Nat) (hi : l.length ≤ i) : code_Append.l0 (k + 1) w x l l.length i = some (x, 0) := by
  rw [code_Append.l0, if_neg (by omega)]

theorem l0_app {w : Nat} (hw : w = 1 ∨ w = 2 ∨ w = 4 ∨ w = 8) (l : List Int) (hl : l.length < 4294967296) : ∀ (t : List Int) (i : Nat) (x : List Int), l.drop i = t → x.length + 8 * t.length < 140737488355320 →
    code_Append.l0 (11 * t.length + 1) w x l l.length i = some (appW w x t)
  | [], i, x, ht, hx => by
    have hi : l.length ≤ i := List.drop_eq_nil_iff.1 ht
    exact l0_end _ _ _ _ _ hi
  | n :: t, i, x, ht, hx => by
    have hn : l[i]? = some n := by rw [← List.head?_drop, ht]; rfl
    have ht' : l.drop (i + 1) = t := by rw [← List.tail_drop, ht]; rfl
    have hx' : x.length + 8 * (t.length + 1) < 140737488355320 := by simpa using hx
    obtain ⟨c, hc⟩ : ∃ c, 11 * (t.length + 1) + 1 = (11 * t.length + 1 + c) + w + 3 := ⟨8 - w, by omega⟩
    have hb := bts_length n w
    have ih := l0_app hw l hl t (i + 1) (x ++ bts n w) ht' (by simp [hb]; omega)
    show code_Append.l0 (11 * (t.length + 1) + 1) w x l l.length i = _
    rw [hc, l0_one hw _ _ _ _ _ hn (by omega) hl]
    unfold appW
    split
    · exact leO_le (f := fun k => code_Append.l0 k w (x ++ bts n w) l l.length ((i + 1 : Nat) : Int)) (fun k => (code_Append.mono_l k).1 _ _ _ _ _) (Nat.le_add_right _ c) ih
    · rfl

/-- What Append tells of a width that is none. -/
theorem append_no (k : Nat) (b : List Int) (a : Int) (l : List Int) (ha : ¬ (a = 1 ∨ a = 2 ∨ a = 4 ∨ a = 8)) : code_Append.f k b a l = some ([], 2) := by
  have : code_width.f a = some false := by
    unfold code_width.f
    rw [if_neg (by omega), if_neg (by omega), if_neg (by omega)]
    congr 1
    simp; omega
  unfold code_Append.f; rw [this]; rfl
/-- What Append tells. -/
theorem append_is {w : Nat} (hw : w = 1 ∨ w = 2 ∨ w = 4 ∨ w = 8) (b l : List Int) (hb : b.length < 1000000) (hl : l.length < 1000000) {k : Nat} (hk : 11 * l.length + 1 ≤ k) : code_Append.f k b w l = some (appW w b l) := by
  have : code_width.f (w : Int) = some true := by rcases hw with rfl | rfl | rfl | rfl <;> rfl
  have hc : slices_Clone_byte_byte.f b = some b := by unfold slices_Clone_byte_byte.f; rw [if_pos (by omega)]
  refine leO_le (f := fun k => code_Append.f k b w l) (fun k => code_Append.mono _ _ _ k) hk ?_
  show code_Append.f (11 * l.length + 1) b w l = _
  unfold code_Append.f; rw [this, hc]
  exact l0_app hw l (by omega) l 0 b rfl (by omega)

/-! ### numbers out of bytes -/
def isByte (x : Int) : Prop := 0 ≤ x ∧ x < 256
def allBytes (l : List Int) : Prop := ∀ x ∈ l, isByte x
theorem allBytes_drop {l : List Int} (h : allBytes l) (n : Nat) : allBytes (l.drop n) := fun x hx => h x (List.mem_of_mem_drop hx)
theorem allBytes_take {l : List Int} (h : allBytes l) (n : Nat) : allBytes (l.take n) := fun x hx => h x (List.mem_of_mem_take hx)
theorem allBytes_append {l m : List Int} (h : allBytes l) (k : allBytes m) : allBytes (l ++ m) := fun x hx => by
  rcases List.mem_append.1 hx with q | q
  · exact h x q
  · exact k x q
theorem allBytes_bts (n : Int) : ∀ j, allBytes (bts n j)
  | 0 => fun x hx => by simp [bts] at hx
  | j + 1 => fun x hx => by
    rcases List.mem_cons.1 hx with rfl | hx
    · exact ⟨Int.emod_nonneg _ (by decide), Int.emod_lt_of_pos _ (by decide)⟩
    · exact allBytes_bts n j x hx
theorem allBytes_of_wf {l : List Int} (h : ∀ x ∈ l, (Lit.int .u8 x).wf = true) : allBytes l := fun x hx => by
  have : 0 ≤ x ∧ x ≤ 255 := by simpa [Lit.wf, IntKind.min, IntKind.max, IntKind.signed, IntKind.bits] using h x hx
  exact ⟨this.1, by omega⟩
/-- The number that bytes come to, the highest first. -/
def valL (l : List Int) : Int := l.foldl (fun v b => 256 * v + b) 0
theorem valL_snoc (l : List Int) (b : Int) : valL (l ++ [b]) = 256 * valL l + b := by simp [valL]
theorem fold_from (l : List Int) : ∀ v : Int, l.foldl (fun v b => 256 * v + b) v = v * 2 ^ (8 * l.length) + valL l := by
  induction l with
  | nil => intro v; simp [valL]
  | cons a l ih =>
    intro v
    have e : (2 : Int) ^ (8 * (a :: l).length) = 256 * 2 ^ (8 * l.length) := by rw [List.length_cons, show 8 * (l.length + 1) = 8 + 8 * l.length by omega, Int.pow_add]; rfl
    have h1 := ih (256 * v + a)
    have h2 : valL (a :: l) = (256 * 0 + a) * 2 ^ (8 * l.length) + valL l := ih (256 * 0 + a)
    show l.foldl (fun v b => 256 * v + b) (256 * v + a) = _
    rw [h1, h2, e, Int.add_mul, Int.add_mul]
    have h3 : v * (256 * 2 ^ (8 * l.length)) = 256 * v * 2 ^ (8 * l.length) := by rw [← Int.mul_assoc, Int.mul_comm v 256]
    rw [h3]; omega
theorem valL_cons (a : Int) (l : List Int) : valL (a :: l) = a * 2 ^ (8 * l.length) + valL l := by
  have := fold_from l (256 * 0 + a)
  show l.foldl (fun v b => 256 * v + b) (256 * 0 + a) = _
  rw [this, show (256 * 0 + a) = a by omega]
theorem valL_bounds : ∀ (l : List Int), allBytes l → 0 ≤ valL l ∧ valL l < 2 ^ (8 * l.length)
  | [], _ => by simp [valL]
  | a :: l, h => by
    have ih := valL_bounds l (fun x hx => h x (List.mem_cons_of_mem _ hx))
    have ha := h a List.mem_cons_self
    have e : (2 : Int) ^ (8 * (a :: l).length) = 256 * 2 ^ (8 * l.length) := by rw [List.length_cons, show 8 * (l.length + 1) = 8 + 8 * l.length by omega, Int.pow_add]; rfl
    rw [valL_cons, e]
    have hp : (0 : Int) < 2 ^ (8 * l.length) := Int.pow_pos (by decide)
    generalize (2 : Int) ^ (8 * l.length) = P at *
    have h1 : 0 ≤ a * P := Int.mul_nonneg ha.1 (by omega)
    have h2 : a * P ≤ 255 * P := Int.mul_le_mul_of_nonneg_right (by have := ha.2; omega) (by omega)
    omega
theorem emod_two' (z P : Int) (hP : 0 < P) : z % (P * 256) = z % P + P * ((z / P) % 256) := by
  have h1 := Int.mul_ediv_add_emod z P
  have h2 := Int.mul_ediv_add_emod (z / P) 256
  have h3 : z / P / 256 = z / (P * 256) := Int.ediv_ediv_of_nonneg (by omega)
  have h4 := Int.mul_ediv_add_emod z (P * 256)
  rw [h3] at h2
  have h5 : P * (z / P) = P * 256 * (z / (P * 256)) + P * (z / P % 256) := by
    conv => lhs; rw [← h2]
    rw [Int.mul_add, Int.mul_assoc]
  omega
theorem valL_bts (n : Int) : ∀ j, valL (bts n j) = n % 2 ^ (8 * j)
  | 0 => by simp [bts, valL, Int.emod_one]
  | j + 1 => by
    have hp : (0 : Int) < 2 ^ (8 * j) := Int.pow_pos (by decide)
    have e : (2 : Int) ^ (8 * (j + 1)) = 2 ^ (8 * j) * 256 := by rw [show 8 * (j + 1) = 8 * j + 8 by omega, Int.pow_add]; rfl
    show valL ((n / 2 ^ (8 * j)) % 256 :: bts n j) = _
    rw [valL_cons, bts_length, valL_bts n j, e, emod_two' n _ hp, Int.mul_comm]; omega
theorem bts_valL : ∀ (l : List Int), allBytes l → ∀ z : Int, 0 ≤ z → bts (z * 2 ^ (8 * l.length) + valL l) l.length = l
  | [], _, z, _ => rfl
  | a :: l, h, z, hz => by
    have hl : allBytes l := fun x hx => h x (List.mem_cons_of_mem _ hx)
    have ha := h a List.mem_cons_self
    have hb := valL_bounds l hl
    have e : (2 : Int) ^ (8 * (a :: l).length) = 256 * 2 ^ (8 * l.length) := by rw [List.length_cons, show 8 * (l.length + 1) = 8 + 8 * l.length by omega, Int.pow_add]; rfl
    have hp : (0 : Int) < 2 ^ (8 * l.length) := Int.pow_pos (by decide)
    have e2 : z * 2 ^ (8 * (a :: l).length) + valL (a :: l) = (256 * z + a) * 2 ^ (8 * l.length) + valL l := by
      rw [valL_cons, e, Int.add_mul, ← Int.mul_assoc, Int.mul_comm z 256]; omega
    rw [e2]
    show ((256 * z + a) * 2 ^ (8 * l.length) + valL l) / 2 ^ (8 * l.length) % 256 :: bts _ l.length = _
    rw [bts_valL l hl (256 * z + a) (by have := ha.1; omega)]
    congr 1
    rw [Int.add_comm, Int.add_mul_ediv_right _ _ (by omega), Int.ediv_eq_zero_of_lt hb.1 hb.2]
    have := ha.1; have := ha.2
    omega
theorem bts_val (l : List Int) (h : allBytes l) : bts (valL l) l.length = l := by
  have := bts_valL l h 0 (by omega)
  rwa [Int.zero_mul, Int.zero_add] at this

theorem or_byte (a b : Int) (ha : a % 256 = 0) (hb : 0 ≤ b) (hb' : b < 256) : Go.bits .or .i64 a b = wrap64 (a + b) := by
  show IntKind.i64.wrap ((BitVec.ofInt 64 a ||| BitVec.ofInt 64 b).toNat : Int) = _
  rw [i64_w, BitVec.toNat_or]
  have h1 : ((BitVec.ofInt 64 a).toNat : Int) = a % 18446744073709551616 := by
    rw [BitVec.toNat_ofInt, Int.toNat_of_nonneg (Int.emod_nonneg _ (by decide))]; rfl
  have h2 : ((BitVec.ofInt 64 b).toNat : Int) = b := by
    rw [BitVec.toNat_ofInt, Int.toNat_of_nonneg (Int.emod_nonneg _ (by decide))]
    exact Int.emod_eq_of_lt hb (by show b < 18446744073709551616; omega)
  generalize (BitVec.ofInt 64 a).toNat = A at *
  generalize (BitVec.ofInt 64 b).toNat = B at *
  have h3 : A = 2 ^ 8 * (A / 256) := by omega
  have h4 : A ||| B = A + B := by
    rw [h3]; exact (Nat.two_pow_add_eq_or_of_lt (show B < 2 ^ 8 by omega) _).symm
  rw [h4]
  unfold wrap64
  omega
theorem numU_is (l : List Int) (h : allBytes l) (o : Nat) : ∀ j, o + j ≤ l.length → numU l o j = wrap64 (valL ((l.drop o).take j))
  | 0, _ => by simp [numU, valL, wrap64]
  | j + 1, hj => by
    have ih := numU_is l h o j (by omega)
    have hlt : o + j < l.length := by omega
    have hx : (l.drop o).take (j + 1) = (l.drop o).take j ++ [l[o + j]] := by
      rw [List.take_add_one, List.getElem?_drop, List.getElem?_eq_getElem hlt]; rfl
    have hg : l.getD (o + j) 0 = l[o + j] := by rw [List.getD_eq_getElem?_getD, List.getElem?_eq_getElem hlt]; rfl
    have hb := h _ (List.getElem_mem hlt)
    rw [hx, valL_snoc]
    show Go.bits .or .i64 (wrap64 (numU l o j * 256)) (wrap64 (l.getD (o + j) 0)) = _
    rw [hg, ih]
    generalize valL ((l.drop o).take j) = V
    generalize l[o + j] = y at *
    have hy : wrap64 y = y := by have := hb.1; have := hb.2; unfold wrap64; omega
    rw [hy, or_byte _ _ (by unfold wrap64; omega) hb.1 hb.2]
    unfold wrap64; omega

def chunks (c : Nat) : Nat → List Int → List (List Int)
  | 0, _ => []
  | m + 1, l => l.take c :: chunks c m (l.drop c)
theorem chunks_length (c : Nat) : ∀ (m : Nat) (l : List Int), (chunks c m l).length = m
  | 0, _ => rfl
  | m + 1, l => by simp [chunks, chunks_length c m]
theorem range_chunks (c : Nat) (f : List Int → Int) : ∀ (m : Nat) (l : List Int), (List.range m).map (fun i => f ((l.drop (c * i)).take c)) = (chunks c m l).map f
  | 0, _ => rfl
  | m + 1, l => by
    rw [List.range_succ_eq_map, List.map_cons, List.map_map]
    show _ = f (l.take c) :: (chunks c m (l.drop c)).map f
    rw [← range_chunks c f m (l.drop c)]
    congr 1
    apply List.map_congr_left
    intro i _
    simp only [Function.comp, List.drop_drop]
    rw [Nat.mul_succ, Nat.add_comm]
def takeS (c m : Nat) (l : List Int) : List Int × List Int × Int := ((chunks c m l).map (fun x => wrap64 (valL x)), l.drop (c * m), 0)
theorem take_no (l : List Int) (a1 a2 : Int) (h : ¬ (a1 = 1 ∨ a1 = 2 ∨ a1 = 4 ∨ a1 = 8) ∨ a2 < 0 ∨ 4000 < a2) : code_Take.f l a1 a2 = some ([], [], 2) := by
  unfold code_Take.f
  by_cases hw : a1 = 1 ∨ a1 = 2 ∨ a1 = 4 ∨ a1 = 8
  · rw [if_pos hw, if_neg (by omega)]
  · rw [if_neg hw]
theorem take_is {c m : Nat} (hw : c = 1 ∨ c = 2 ∨ c = 4 ∨ c = 8) (hm : m ≤ 4000) (l : List Int) (h : allBytes l) (hl : l.length < 1000000) :
    code_Take.f l c m = if l.length < c * m then some ([], [], 15) else some (takeS c m l) := by
  unfold code_Take.f
  rw [if_pos (by omega), if_pos (by omega)]
  by_cases hs : l.length < c * m
  · have : (l.length : Int) < (c : Int) * (m : Int) := by rw [← Int.natCast_mul]; omega
    rw [if_pos hs, if_pos this]
  · have : ¬ (l.length : Int) < (c : Int) * (m : Int) := by rw [← Int.natCast_mul]; omega
    rw [if_neg hs, if_neg this, if_pos (by omega), Int.toNat_natCast, Int.toNat_natCast]
    unfold takeS
    rw [← range_chunks c (fun x => wrap64 (valL x)) m l]
    congr 2
    apply List.map_congr_left
    intro i hi
    have hi' := List.mem_range.1 hi
    have h1 : c * (i + 1) ≤ c * m := Nat.mul_le_mul_left c hi'
    rw [Nat.mul_succ] at h1
    rw [numU_is l h (c * i) c (by omega)]

def tlS : List Int → List Int × List Int × Int
  | [] => ([], [], 15)
  | b :: t => if b > 24 then ([], [], 16) else if t.length < 8 * b.toNat then ([], [], 15) else takeS 8 b.toNat t
theorem tlS_cons (b : Int) (t : List Int) : tlS (b :: t) = if b > 24 then ([], [], 16) else if t.length < 8 * b.toNat then ([], [], 15) else takeS 8 b.toNat t := rfl
theorem takeList_is (l : List Int) (h : allBytes l) (hl : l.length < 1000000) : code_TakeList.f l = some (tlS l) := by
  unfold code_TakeList.f
  have h1 := take_is (c := 1) (m := 1) (by omega) (by omega) l h hl
  rw [show ((1 : Nat) : Int) = 1 from rfl] at h1
  rw [h1]
  cases l with
  | nil => rfl
  | cons b t =>
    have hb := h b List.mem_cons_self
    have ht : allBytes t := fun x hx => h x (List.mem_cons_of_mem _ hx)
    rw [if_neg (by simp)]
    have e : takeS 1 1 (b :: t) = ([b], t, 0) := by
      unfold takeS chunks chunks
      have : wrap64 (valL [b]) = b := by have := hb.1; have := hb.2; simp [valL]; unfold wrap64; omega
      simp [this]
    rw [e, Option.bind_some, if_pos rfl, if_pos (by simp), show rd [b] 0 = b from rfl]
    rw [tlS_cons]
    by_cases h24 : b > 24
    · rw [if_pos h24, if_pos h24]
    · rw [if_neg h24, if_neg h24]
      have hbn : ((b.toNat : Nat) : Int) = b := Int.toNat_of_nonneg hb.1
      have h2 := take_is (c := 8) (m := b.toNat) (by omega) (by omega) t ht (by simp at hl; omega)
      rw [hbn, show ((8 : Nat) : Int) = 8 from rfl] at h2
      rw [h2]
      split <;> rfl

theorem sameBytes_self (l : List Int) : binnaclekit_SameBytes.f l l = some true := by
  unfold binnaclekit_SameBytes.f; simp
theorem sameInts_run (l : List Int) (hl : l.length < 4294967296) : ∀ (j i k : Nat), i + j = l.length → binnaclekit_SameInts.l0 (k + j + 1) l l i = some true
  | 0, i, k, h => by
    show binnaclekit_SameInts.l0 (k + 1) l l i = _
    rw [binnaclekit_SameInts.l0, if_neg (by omega)]
  | j + 1, i, k, h => by
    have ih := sameInts_run l hl j (i + 1) k (by omega)
    show binnaclekit_SameInts.l0 (k + j + 1 + 1) l l i = _
    have e2 : wrap64 ((i : Int) + 1) = ((i + 1 : Nat) : Int) := by rw [wrap64_id (by omega) (by omega)]; omega
    rw [binnaclekit_SameInts.l0, if_pos (by omega), if_pos (by omega), if_pos (by omega), if_pos rfl, e2, ih]
theorem sameInts_self (l : List Int) (hl : l.length < 4294967296) (k : Nat) (hk : l.length + 1 ≤ k) : binnaclekit_SameInts.f k l l = some true := by
  obtain ⟨c, rfl⟩ : ∃ c, k = c + l.length + 1 := ⟨k - (l.length + 1), by omega⟩
  unfold binnaclekit_SameInts.f
  rw [if_pos rfl]
  exact sameInts_run l hl l.length 0 c (by omega)

theorem u64_w (n : Int) : IntKind.u64.wrap n = n % 18446744073709551616 := by simp [IntKind.wrap, IntKind.bits, IntKind.signed]
theorem copyBytes_is (l : List Int) (h : l.length < 1000000) : binnaclekit_CopyBytes.f l = some l := by
  unfold binnaclekit_CopyBytes.f
  rw [Option.bind_some, if_pos (by simp; omega)]; simp
theorem overBytes_run : ∀ (j i k : Nat) (l : List Int), i + j = l.length → l.length < 4294967296 → ∃ r, binnaclekit_OverBytes.l0 (k + j + 1) l i = some r
  | 0, i, k, l, h, hl => by
    refine ⟨l, ?_⟩
    show binnaclekit_OverBytes.l0 (k + 1) l i = _
    rw [binnaclekit_OverBytes.l0, if_neg (by omega)]
  | j + 1, i, k, l, h, hl => by
    obtain ⟨r, ih⟩ := overBytes_run j (i + 1) k (l.set (i : Int).toNat (Go.bits .xor .u8 (rd l i) 165)) (by simp; omega) (by simpa using hl)
    refine ⟨r, ?_⟩
    show binnaclekit_OverBytes.l0 (k + j + 1 + 1) l i = _
    have e2 : wrap64 ((i : Int) + 1) = ((i + 1 : Nat) : Int) := by rw [wrap64_id (by omega) (by omega)]; omega
    rw [binnaclekit_OverBytes.l0, if_pos (by omega), if_pos (by omega), e2, ih]
theorem overBytes_is (l : List Int) (hl : l.length < 4294967296) (k : Nat) (hk : l.length + 1 ≤ k) : ∃ r, binnaclekit_OverBytes.f k l = some r := by
  obtain ⟨c, rfl⟩ : ∃ c, k = c + l.length + 1 := ⟨k - (l.length + 1), by omega⟩
  exact overBytes_run l.length 0 c l (by omega) hl
theorem overInts_run : ∀ (j i k : Nat) (l : List Int), i + j = l.length → l.length < 4294967296 → ∃ r, binnaclekit_OverInts.l0 (k + j + 1) l i = some r
  | 0, i, k, l, h, hl => by
    refine ⟨l, ?_⟩
    show binnaclekit_OverInts.l0 (k + 1) l i = _
    rw [binnaclekit_OverInts.l0, if_neg (by omega)]
  | j + 1, i, k, l, h, hl => by
    obtain ⟨r, ih⟩ := overInts_run j (i + 1) k (l.set (i : Int).toNat (-77)) (by simp; omega) (by simpa using hl)
    refine ⟨r, ?_⟩
    show binnaclekit_OverInts.l0 (k + j + 1 + 1) l i = _
    have e2 : wrap64 ((i : Int) + 1) = ((i + 1 : Nat) : Int) := by rw [wrap64_id (by omega) (by omega)]; omega
    rw [binnaclekit_OverInts.l0, if_pos (by omega), if_pos (by omega), e2, ih]
theorem overInts_is (l : List Int) (hl : l.length < 4294967296) (k : Nat) (hk : l.length + 1 ≤ k) : ∃ r, binnaclekit_OverInts.f k l = some r := by
  obtain ⟨c, rfl⟩ : ∃ c, k = c + l.length + 1 := ⟨k - (l.length + 1), by omega⟩
  exact overInts_run l.length 0 c l (by omega) hl

/-! ### the document's side -/
theorem number_run (l : List Int) (hb : allBytes l) (hl : l.length < 1000) : ∀ (j i k : Nat) (v : Int), i + j = l.length → v = valL (l.take i) % 18446744073709551616 → binnacleref25_number.l0 (k + j + 1) l v i = some (wrap64 (valL l))
  | 0, i, k, v, h, hv => by
    show binnacleref25_number.l0 (k + 1) l v i = _
    rw [binnacleref25_number.l0, if_neg (by omega), hv, List.take_of_length_le (by omega)]
    congr 1
    unfold wrap64; omega
  | j + 1, i, k, v, h, hv => by
    have hlt : i < l.length := by omega
    have hx : l.take (i + 1) = l.take i ++ [l[i]] := by
      rw [List.take_add_one, List.getElem?_eq_getElem hlt]; rfl
    have hrd : rd l (i : Int) = l[i] := by unfold rd; rw [Int.toNat_natCast, List.getD_eq_getElem?_getD, List.getElem?_eq_getElem hlt]; rfl
    have hbi := hb _ (List.getElem_mem hlt)
    have e2 : wrap64 ((i : Int) + 1) = ((i + 1 : Nat) : Int) := by rw [wrap64_id (by omega) (by omega)]; omega
    show binnacleref25_number.l0 (k + j + 1 + 1) l v i = _
    rw [binnacleref25_number.l0, if_pos (Int.ofNat_lt.2 hlt), if_pos (Int.natCast_nonneg i), e2, hrd, u64_w, u64_w, u64_w]
    refine number_run l hb hl j (i + 1) k _ (by omega) ?_
    rw [hx, valL_snoc, hv]
    have := hbi.1; have := hbi.2
    generalize l[i] = y at *
    generalize valL (l.take i) = V
    omega
theorem number_is (l : List Int) (hb : allBytes l) (hl : l.length < 1000) (k : Nat) (hk : l.length + 1 ≤ k) : binnacleref25_number.f k l = some (wrap64 (valL l)) := by
  obtain ⟨c, rfl⟩ : ∃ c, k = c + l.length + 1 := ⟨k - (l.length + 1), by omega⟩
  exact number_run l hb hl l.length 0 c 0 (by omega) (by simp [valL])
theorem refTake_run {w : Nat} (hw : w = 1 ∨ w = 2 ∨ w = 4 ∨ w = 8) (m : Nat) (l : List Int) (hb : allBytes l) (hl : l.length < 1000) (hm : w * m ≤ l.length) : ∀ (j i k : Nat) (x : List Int), i + j = m → x.length = i →
    binnacleref25_Take.l0 (k + 9 + j + 1) l w m x i = some (x ++ (chunks w j (l.drop (w * i))).map (fun y => wrap64 (valL y)), l.drop (w * m), 0)
  | 0, i, k, x, h, hx => by
    have hmi : w * m = ((w * m : Nat) : Int) := by simp
    have hwm : wrap64 ((m : Int) * (w : Int)) = ((w * m : Nat) : Int) := by rw [Int.mul_comm, ← Int.natCast_mul, wrap64_id (by omega) (by omega)]
    show binnacleref25_Take.l0 (k + 9 + 1) l w m x i = _
    rw [binnacleref25_Take.l0, if_neg (by omega), Option.bind_some, hwm, if_pos (Int.natCast_nonneg _), if_pos (Int.ofNat_le.2 hm), Int.toNat_natCast, if_pos (by rw [List.length_drop, List.length_nil]; omega)]
    simp [chunks]
  | j + 1, i, k, x, h, hx => by
    have h1 : w * (i + 1) ≤ w * m := Nat.mul_le_mul_left w (by omega)
    rw [Nat.mul_succ] at h1
    have him : i ≤ 1000 := by
      have := Nat.mul_le_mul (show 1 ≤ w by omega) (show i ≤ m by omega)
      omega
    have hwi : wrap64 ((i : Int) * (w : Int)) = ((w * i : Nat) : Int) := by rw [Int.mul_comm, ← Int.natCast_mul, wrap64_id (by omega) (by omega)]
    have hwi2 : wrap64 (((w * i : Nat) : Int) + (w : Int)) = ((w * i + w : Nat) : Int) := by rw [wrap64_id (by omega) (by omega)]; omega
    have e2 : wrap64 ((i : Int) + 1) = ((i + 1 : Nat) : Int) := by rw [wrap64_id (by omega) (by omega)]; omega
    have hcut : (l.take (w * i + w)).drop (w * i) = (l.drop (w * i)).take w := by rw [List.drop_take, Nat.add_sub_cancel_left]
    have himl : i < m := by rw [← h]; exact Nat.lt_add_of_pos_right (Nat.succ_pos j)
    have hw8 : w ≤ 8 := by rcases hw with rfl | rfl | rfl | rfl <;> decide
    have hlw : ((l.drop (w * i)).take w).length ≤ 8 := Nat.le_trans (List.length_take_le _ _) hw8
    have hlw2 : ((l.drop (w * i)).take w).length < 1000 := Nat.lt_of_le_of_lt hlw (by decide)
    have hlw3 : ((l.drop (w * i)).take w).length + 1 ≤ k + 9 + j + 1 := Nat.le_trans (Nat.succ_le_succ hlw) (Nat.succ_le_succ (Nat.le_trans (by decide : 8 ≤ 9) (Nat.le_trans (Nat.le_add_left 9 k) (Nat.le_add_right _ j))))
    have hxl : x.length < 17592186044416 := by rw [hx]; exact Nat.lt_of_le_of_lt him (by decide)
    have ih := refTake_run hw m l hb hl hm j (i + 1) k (x ++ [wrap64 (valL ((l.drop (w * i)).take w))]) (by omega) (by simp [hx])
    show binnacleref25_Take.l0 (k + 9 + j + 1 + 1) l w m x i = _
    rw [binnacleref25_Take.l0, if_pos (Int.ofNat_lt.2 himl), hwi, hwi2, if_pos (Int.natCast_nonneg _), if_pos (Int.ofNat_le.2 (Nat.le_add_right _ _)), if_pos (Int.ofNat_le.2 (Nat.le_trans h1 hm)), Int.toNat_natCast, Int.toNat_natCast, hcut,
      number_is _ (allBytes_take (allBytes_drop hb _) _) hlw2 _ hlw3, Option.bind_some, if_pos hxl, e2, ih]
    show some (_ ++ _, _) = some (x ++ (wrap64 (valL ((l.drop (w * i)).take w)) :: (chunks w j ((l.drop (w * i)).drop w)).map _), _)
    rw [List.append_assoc, List.drop_drop, Nat.mul_succ]; rfl
theorem ref_width {a : Int} (h : a = 1 ∨ a = 2 ∨ a = 4 ∨ a = 8) : binnacleref25_width.f a = some true := by
  rcases h with rfl | rfl | rfl | rfl <;> rfl
theorem ref_width_no {a : Int} (h : ¬ (a = 1 ∨ a = 2 ∨ a = 4 ∨ a = 8)) : binnacleref25_width.f a = some false := by
  unfold binnacleref25_width.f
  rw [if_neg (by omega), if_neg (by omega), if_neg (by omega)]
  congr 1
  simp; omega
theorem take_same (l : List Int) (hb : allBytes l) (hl : l.length ≤ 300) (a1 a2 : Int) (k : Nat) (hk : 1000 ≤ k) : ∃ r, code_Take.f l a1 a2 = some r ∧ binnacleref25_Take.f k l a1 a2 = some r ∧ r.1.length ≤ 300 ∧ r.2.1.length ≤ 300 := by
  obtain ⟨k, rfl⟩ : ∃ q, k = q + 1 := ⟨k - 1, by omega⟩
  have J : binnacleref25_Take.j0 (k + 1) l a1 a2 true = some ([], [], 2) := by rw [binnacleref25_Take.j0, if_pos rfl]
  unfold binnacleref25_Take.f
  by_cases hw : a1 = 1 ∨ a1 = 2 ∨ a1 = 4 ∨ a1 = 8
  · rw [ref_width hw, Option.bind_some, if_pos rfl]
    by_cases h0 : a2 < 0
    · exact ⟨_, take_no l a1 a2 (.inr (.inl h0)), by rw [if_pos h0, J], by simp, by simp⟩
    · rw [if_neg h0]
      by_cases h4 : a2 > 4000
      · exact ⟨_, take_no l a1 a2 (.inr (.inr h4)), by rw [decide_eq_true h4, J], by simp, by simp⟩
      · rw [decide_eq_false h4]
        obtain ⟨w, rfl⟩ : ∃ w : Nat, a1 = w := ⟨a1.toNat, by omega⟩
        obtain ⟨m, rfl⟩ : ∃ m : Nat, a2 = m := ⟨a2.toNat, by omega⟩
        have hw' : w = 1 ∨ w = 2 ∨ w = 4 ∨ w = 8 := by omega
        have hle : w * m ≤ 32000 := by
          have := Nat.mul_le_mul (show w ≤ 8 by omega) (show m ≤ 4000 by omega)
          omega
        have hwm : wrap64 ((w : Int) * (m : Int)) = ((w * m : Nat) : Int) := by rw [← Int.natCast_mul, wrap64_id (by omega) (by omega)]
        rw [binnacleref25_Take.j0, if_neg (by simp), hwm, take_is hw' (by omega) l hb (by omega)]
        by_cases hs : l.length < w * m
        · rw [if_pos hs, if_pos (Int.ofNat_lt.2 hs)]; exact ⟨_, rfl, rfl, by simp, by simp⟩
        · rw [if_neg hs, if_neg (by omega)]
          have hm3 : m ≤ 300 := by
            have := Nat.mul_le_mul (show 1 ≤ w by omega) (Nat.le_refl m)
            omega
          obtain ⟨c, hc⟩ : ∃ c, k = c + 9 + m + 1 := ⟨k - (10 + m), by omega⟩
          have := refTake_run hw' m l hb (by omega) (by omega) m 0 c [] (by omega) rfl
          rw [hc]
          refine ⟨_, rfl, ?_, by simp [takeS, chunks_length]; omega, by simp [takeS]; omega⟩
          rw [show (0 : Int) = ((0 : Nat) : Int) from rfl, this]
          simp [takeS]
  · exact ⟨_, take_no l a1 a2 (.inl hw), by rw [ref_width_no hw, Option.bind_some, if_neg (by simp), J], by simp, by simp⟩
theorem takeList_same (l : List Int) (hb : allBytes l) (hl : l.length ≤ 300) (k : Nat) (hk : 1000 ≤ k) : ∃ r, code_TakeList.f l = some r ∧ binnacleref25_TakeList.f k l = some r ∧ r.1.length ≤ 300 ∧ r.2.1.length ≤ 300 := by
  unfold binnacleref25_TakeList.f
  rw [takeList_is l hb (by omega)]
  cases l with
  | nil => exact ⟨_, rfl, rfl, by simp [tlS], by simp [tlS]⟩
  | cons b t =>
    have hbb := hb b List.mem_cons_self
    have ht : allBytes t := fun x hx => hb x (List.mem_cons_of_mem _ hx)
    rw [if_neg (by rw [List.length_cons]; omega), if_pos (by rw [List.length_cons]; omega), show rd (b :: t) 0 = b from rfl]
    rw [tlS_cons]
    by_cases h24 : b > 24
    · rw [if_pos h24, if_pos h24]; exact ⟨_, rfl, rfl, by simp, by simp⟩
    · rw [if_neg h24, if_neg h24]
      have hbw : wrap64 b = b := by have := hbb.1; unfold wrap64; omega
      obtain ⟨r, h1, h2, h3, h4⟩ := take_same t ht (by simp at hl; omega) 8 b k hk
      have hbn : ((b.toNat : Nat) : Int) = b := Int.toNat_of_nonneg hbb.1
      have h5 := take_is (c := 8) (m := b.toNat) (by omega) (by omega) t ht (by simp at hl; omega)
      rw [hbn, show ((8 : Nat) : Int) = 8 from rfl, h1] at h5
      refine ⟨r, ?_, ?_, h3, h4⟩
      · by_cases hs : t.length < 8 * b.toNat
        · rw [if_pos hs] at h5 ⊢; exact h5.symm
        · rw [if_neg hs] at h5 ⊢; exact h5.symm
      · rw [if_pos (by rw [List.length_cons]; omega), hbw, List.drop_succ_cons, List.drop_zero, h2]; rfl

theorem CodeTakes : binnaclelaw25_CodeTakes.Pure := by
  intro l0 a1 a2 _ _ hwf _ _
  refine ⟨2001, ?_⟩
  have hb := allBytes_of_wf hwf
  unfold binnaclelaw25_CodeTakes.f
  by_cases h0 : (l0.length : Int) > 300
  · rw [if_pos h0]; rfl
  rw [if_neg h0, copyBytes_is l0 (by omega), Option.bind_some]
  obtain ⟨r, r1, r2, r3, r4⟩ := take_same l0 hb (by omega) a1 a2 2001 (by omega)
  obtain ⟨q, q1, q2, q3, q4⟩ := takeList_same l0 hb (by omega) 2001 (by omega)
  obtain ⟨o1, ho1⟩ := overBytes_is r.2.1 (by omega) 2000 (by omega)
  obtain ⟨o2, ho2⟩ := overBytes_is q.2.1 (by omega) 2000 (by omega)
  obtain ⟨o3, ho3⟩ := overInts_is r.1 (by omega) 2000 (by omega)
  obtain ⟨o4, ho4⟩ := overInts_is q.1 (by omega) 2000 (by omega)
  rw [r1, Option.bind_some, r2, Option.bind_some, q1, Option.bind_some, q2, Option.bind_some, sameInts_self _ (by omega) _ (by omega), Option.bind_some, if_pos rfl, sameBytes_self, Option.bind_some, if_pos rfl, if_pos rfl,
    sameInts_self _ (by omega) _ (by omega), Option.bind_some, if_pos rfl, sameBytes_self, Option.bind_some, if_pos rfl]
  show binnaclelaw25_CodeTakes.j0 (2000 + 1) _ _ _ _ _ _ _ = _
  rw [binnaclelaw25_CodeTakes.j0, ho1, Option.bind_some, ho2, Option.bind_some, ho3, Option.bind_some, ho4, Option.bind_some, if_pos (by simp), sameBytes_self, Option.bind_some, if_pos rfl]
  rfl

end Go.Proofs.Ytlmdegpccodbgaa.Pure

/- The road of CodeTakes: printed by a driver of our own over the print tool, with contracts of our own. -/
import Derived.Test.YtlmdegpccodbgaaHCodeTakesx0
namespace Go.Proofs.Ytlmdegpccodbgaa.HCodeTakes
open Go.RowKit Go.Proofs.YtlmdegpccodbgaaW.PrintWords Go.Proofs.YtlmdegpccodbgaaW.PrintLast Go.Proofs.YtlmdegpccodbgaaW.PrintMore
attribute [local go_sem] max2_int min2_int max_two min_two max_three min_three max_four min_four   -- for this text's walks alone
set_option linter.unusedVariables false
set_option linter.unusedSimpArgs false

/-! ### binnaclekit_SameBytes: function 25 -/
def binnaclekit_SameBytes.f (l0 : List Int) (l1 : List Int) : Option (Bool) := some ((strOfNums l0).toList == (strOfNums l1).toList)
set_option maxHeartbeats 8000000 in
set_option maxRecDepth 100000 in
theorem binnaclekit_SameBytes.calls (A0 : Option Addr) (c0 : Nat) (l0 : List Int) (A1 : Option Addr) (c1 : Nat) (l1 : List Int) (r : Bool) (w : World) (hr0 : Kd.C (Kd.int .u8) w A0 l0.length l0) (hc0 : l0.length ≤ c0) (hr1 : Kd.C (Kd.int .u8) w A1 l1.length l1) (hc1 : l1.length ≤ c1) (h : binnaclekit_SameBytes.f l0 l1 = some r) :
    Calls Try.prog 25 #[.slice A0 l0.length c0, .slice A1 l1.length c1] w fun e w' => e = .returned (.bool r) ∧ Drawn0 w w' := by
  have HR0 := Aside0.mk hr0
  have HC0 := Aside0.mk hc0
  clear hr0 hc0
  have HR1 := Aside0.mk hr1
  have HC1 := Aside0.mk hc1
  clear hr1 hc1
  have H : (some ((strOfNums l0).toList == (strOfNums l1).toList)) = some r := h
  clear h
  obtain rfl := Option.some.inj H
  have hcv3 := Kd.C_string (P := Try.prog) (A := A0) (c := c0) Try.underlying33 Try.underlying5 Try.underlying9 HR0.out
  have hcv4 := Kd.C_string (P := Try.prog) (A := A1) (c := c1) Try.underlying33 Try.underlying5 Try.underlying9 HR1.out
  go_enter Try.func25, Try.ntmps25
  go_wp2
  go_ret
  exact ⟨by first | rfl | (simp; done) | (simp [*]; done), by repeat (first | exact Drawn0.refl _ | apply Drawn0.step)⟩

/-! ### binnaclekit_SameInts: function 32 -/
def binnaclekit_SameInts.l0 : Nat → List Int → List Int → Int → Option (Bool)
  | 0, _, _, _ => none
  | k + 1, x0, x1, x5 => if x5 < (x0.length : Int) then (if 0 ≤ x5 then (if x5 < (x1.length : Int) then (if (rd x0 x5) = (rd x1 x5) then (binnaclekit_SameInts.l0 k x0 x1 (wrap64 (x5 + 1))) else (some false)) else (none)) else (none)) else (some true)
def binnaclekit_SameInts.f (k : Nat) (l0 : List Int) (l1 : List Int) : Option (Bool) := if (l0.length : Int) = (l1.length : Int) then (binnaclekit_SameInts.l0 k l0 l1 0) else (some false)
theorem binnaclekit_SameInts.mono_l : ∀ k, (∀ y0 y1 y2, LeO (binnaclekit_SameInts.l0 k y0 y1 y2) (binnaclekit_SameInts.l0 (k + 1) y0 y1 y2))
  | 0 => fun _ _ _ r h => by simp [binnaclekit_SameInts.l0] at h
  | k + 1 => by
    have ih0 := binnaclekit_SameInts.mono_l k
    · intro y0 y1 y2
      unfold binnaclekit_SameInts.l0
      repeat' first
      | (with_reducible exact ih0 _ _ _)
      | (with_reducible exact LeO.refl _)
      | (with_reducible exact LeO.none _)
      | (with_reducible refine LeO.ite ?_ ?_)
      | (with_reducible refine LeO.bind ?_ (fun _ => ?_))
      | exact ih0 _ _ _
      | exact LeO.none _
      | refine LeO.ite ?_ ?_
      | refine LeO.bind ?_ (fun _ => ?_)
theorem binnaclekit_SameInts.mono : ∀ a0 a1 k, LeO (binnaclekit_SameInts.f k a0 a1) (binnaclekit_SameInts.f (k + 1) a0 a1) := by
  intro a0 a1 k
  have ih0 := binnaclekit_SameInts.mono_l k
  unfold binnaclekit_SameInts.f
  repeat' first
      | (with_reducible exact ih0 _ _ _)
      | (with_reducible exact LeO.refl _)
      | (with_reducible exact LeO.none _)
      | (with_reducible refine LeO.ite ?_ ?_)
      | (with_reducible refine LeO.bind ?_ (fun _ => ?_))
      | exact ih0 _ _ _
      | exact LeO.none _
      | refine LeO.ite ?_ ?_
      | refine LeO.bind ?_ (fun _ => ?_)
set_option maxHeartbeats 8000000 in
set_option maxRecDepth 100000 in
theorem binnaclekit_SameInts.calls (k : Nat) (A0 : Option Addr) (c0 : Nat) (l0 : List Int) (A1 : Option Addr) (c1 : Nat) (l1 : List Int) (r : Bool) (w : World) (hr0 : Kd.C (Kd.int .i64) w A0 l0.length l0) (hc0 : l0.length ≤ c0) (hr1 : Kd.C (Kd.int .i64) w A1 l1.length l1) (hc1 : l1.length ≤ c1) (h : binnaclekit_SameInts.f k l0 l1 = some r) :
    Calls Try.prog 32 #[.slice A0 l0.length c0, .slice A1 l1.length c1] w fun e w' => e = .returned (.bool r) ∧ Drawn0 w w' := by
  have HR0 := Aside0.mk hr0
  have HC0 := Aside0.mk hc0
  clear hr0 hc0
  have HR1 := Aside0.mk hr1
  have HC1 := Aside0.mk hc1
  clear hr1 hc1
  have H : (if (l0.length : Int) = (l1.length : Int) then (binnaclekit_SameInts.l0 k l0 l1 0) else (some false)) = some r := h
  clear h
  by_cases c3 : (l0.length : Int) = (l1.length : Int)
  · rw [if_pos c3] at H
    have c3b0 : ((l0.length : Int) == (l1.length : Int)) = true := beq_iff_eq.mpr c3
    have c3b1 : ((l0.length : Int) != (l1.length : Int)) = false := bne_eq_false_iff_eq.mpr c3
    have c3b2 : (l0.length == l1.length) = true := by first | simpa using c3 | (simp at c3 ⊢; omega)
    clear c3
    have H' := Aside0.mk H
    clear H
    go_enter Try.func32, Try.ntmps32
    go_wp2
    repeat (go_quiet (fail); try go_wp2)
    go_loopg [5] k (fun kq v5 w' => ∃ (x5_1 : Int), v5 = .int .i64 x5_1 ∧ Aside0 (binnaclekit_SameInts.l0 kq l0 l1 x5_1 = some r) ∧ Aside0 (kq ≤ k) ∧ Drawn0 w w')
    case atStart => exact ⟨(0), (by first | rfl | (simp; done) | (simp [*]; done)), H', ⟨Nat.le_refl _⟩, by repeat (first | exact Drawn0.refl _ | apply Drawn0.step)⟩
    case round =>
      clear H'
      try clear c1
      try clear p2
      try clear c3
      try clear c3b0
      try clear c3b1
      try clear c3b2
      obtain ⟨x5_1, rfl, HA, HK1, ⟨m1, rfl⟩⟩ := hrel
      cases gk with
      | zero => exact absurd HA.out (by simp [binnaclekit_SameInts.l0])
      | succ k1 =>
        have H := HA.out
        clear HA
        simp only [binnaclekit_SameInts.l0] at H
        by_cases c4 : x5_1 < (l0.length : Int)
        · rw [if_pos c4] at H
          have c4b0 : decide (x5_1 < (l0.length : Int)) = true := decide_eq_true c4
          clear c4
          by_cases c5 : 0 ≤ x5_1
          · rw [if_pos c5] at H
            have c5b0 : decide (0 ≤ x5_1) = true := decide_eq_true c5
            clear c5
            by_cases c6 : x5_1 < (l1.length : Int)
            · rw [if_pos c6] at H
              have c6b0 : decide (x5_1 < (l1.length : Int)) = true := decide_eq_true c6
              clear c6
              by_cases c7 : (rd l0 x5_1) = (rd l1 x5_1)
              · rw [if_pos c7] at H
                have c7b0 : ((rd l0 x5_1) == (rd l1 x5_1)) = true := beq_iff_eq.mpr c7
                have c7b1 : ((rd l0 x5_1) != (rd l1 x5_1)) = false := bne_eq_false_iff_eq.mpr c7
                clear c7
                have H' := Aside0.mk H
                clear H
                have p101 : 0 ≤ (x5_1 : Int) := of_decide_eq_true (by first | (with_reducible assumption) | assumption)
                have q101 : x5_1 < (l0.length : Int) := of_decide_eq_true (by first | (with_reducible assumption) | assumption)
                obtain ⟨ad101, e101, hx101_0⟩ := Kd.at_int HR0.out x5_1 p101 q101
                cases e101
                replace p101 := eq_true p101
                replace q101 := eq_true q101
                have p102 : 0 ≤ (x5_1 : Int) := of_decide_eq_true (by first | (with_reducible assumption) | assumption)
                have q102 : x5_1 < (l1.length : Int) := of_decide_eq_true (by first | (with_reducible assumption) | assumption)
                obtain ⟨ad102, e102, hx102_0⟩ := Kd.at_int HR1.out x5_1 p102 q102
                cases e102
                replace p102 := eq_true p102
                replace q102 := eq_true q102
                go_wp2
                repeat (go_quiet (fail); try go_wp2)
                go_roundg k1
                case measure => have := HK1.out; omega
                case rel => exact ⟨(wrap64 (x5_1 + 1)), (by first | rfl | (simp; done) | (simp [*]; done)), H', ⟨by have := HK1.out; omega⟩, by repeat (first | exact Drawn0.refl _ | apply Drawn0.step)⟩
              · rw [if_neg c7] at H
                have c7b0 : ((rd l0 x5_1) == (rd l1 x5_1)) = false := beq_eq_false_iff_ne.mpr c7
                have c7b1 : ((rd l0 x5_1) != (rd l1 x5_1)) = true := bne_iff_ne.mpr c7
                obtain rfl := Option.some.inj H
                have p101 : 0 ≤ (x5_1 : Int) := of_decide_eq_true (by first | (with_reducible assumption) | assumption)
                have q101 : x5_1 < (l0.length : Int) := of_decide_eq_true (by first | (with_reducible assumption) | assumption)
                obtain ⟨ad101, e101, hx101_0⟩ := Kd.at_int HR0.out x5_1 p101 q101
                cases e101
                replace p101 := eq_true p101
                replace q101 := eq_true q101
                have p102 : 0 ≤ (x5_1 : Int) := of_decide_eq_true (by first | (with_reducible assumption) | assumption)
                have q102 : x5_1 < (l1.length : Int) := of_decide_eq_true (by first | (with_reducible assumption) | assumption)
                obtain ⟨ad102, e102, hx102_0⟩ := Kd.at_int HR1.out x5_1 p102 q102
                cases e102
                replace p102 := eq_true p102
                replace q102 := eq_true q102
                go_wp2
                repeat (go_quiet (fail); try go_wp2)
                go_ret
                exact ⟨by first | rfl | (simp; done) | (simp [*]; done), by repeat (first | exact Drawn0.refl _ | apply Drawn0.step)⟩
            · rw [if_neg c6] at H
              exact absurd H (by simp)
          · rw [if_neg c5] at H
            exact absurd H (by simp)
        · rw [if_neg c4] at H
          have c4b0 : decide (x5_1 < (l0.length : Int)) = false := decide_eq_false c4
          clear c4
          obtain rfl := Option.some.inj H
          go_wp2
          repeat (go_quiet (fail); try go_wp2)
          go_ret
          exact ⟨by first | rfl | (simp; done) | (simp [*]; done), by repeat (first | exact Drawn0.refl _ | apply Drawn0.step)⟩
  · rw [if_neg c3] at H
    have c3b0 : ((l0.length : Int) == (l1.length : Int)) = false := beq_eq_false_iff_ne.mpr c3
    have c3b1 : ((l0.length : Int) != (l1.length : Int)) = true := bne_iff_ne.mpr c3
    have c3b2 : (l0.length == l1.length) = false := by first | simpa using c3 | (simp at c3 ⊢; omega)
    obtain rfl := Option.some.inj H
    go_enter Try.func32, Try.ntmps32
    go_wp2
    repeat (go_quiet (fail); try go_wp2)
    go_ret
    exact ⟨by first | rfl | (simp; done) | (simp [*]; done), by repeat (first | exact Drawn0.refl _ | apply Drawn0.step)⟩

/-! ### code_width: function 44 -/
def code_width.f (a0 : Int) : Option (Bool) := if a0 = 1 then (some true) else (if a0 = 2 then (some true) else (if a0 = 4 then (some true) else (some (a0 == 8))))
set_option maxHeartbeats 8000000 in
set_option maxRecDepth 100000 in
theorem code_width.calls (a0 : Int) (r : Bool) (w : World) (h : code_width.f a0 = some r) :
    Calls Try.prog 44 #[.int .i64 a0] w fun e w' => e = .returned (.bool r) ∧ Drawn0 w w' := by
  have H : (if a0 = 1 then (some true) else (if a0 = 2 then (some true) else (if a0 = 4 then (some true) else (some (a0 == 8))))) = some r := h
  clear h
  by_cases c2 : a0 = 1
  · rw [if_pos c2] at H
    have c2b0 : (a0 == 1) = true := beq_iff_eq.mpr c2
    have c2b1 : (a0 != 1) = false := bne_eq_false_iff_eq.mpr c2
    clear c2
    obtain rfl := Option.some.inj H
    go_enter Try.func44, Try.ntmps44
    go_wp2
    go_ret
    exact ⟨by first | rfl | (simp; done) | (simp [*]; done), by repeat (first | exact Drawn0.refl _ | apply Drawn0.step)⟩
  · rw [if_neg c2] at H
    have c2b0 : (a0 == 1) = false := beq_eq_false_iff_ne.mpr c2
    have c2b1 : (a0 != 1) = true := bne_iff_ne.mpr c2
    by_cases c3 : a0 = 2
    · rw [if_pos c3] at H
      have c3b0 : (a0 == 2) = true := beq_iff_eq.mpr c3
      have c3b1 : (a0 != 2) = false := bne_eq_false_iff_eq.mpr c3
      clear c3
      obtain rfl := Option.some.inj H
      go_enter Try.func44, Try.ntmps44
      go_wp2
      go_ret
      exact ⟨by first | rfl | (simp; done) | (simp [*]; done), by repeat (first | exact Drawn0.refl _ | apply Drawn0.step)⟩
    · rw [if_neg c3] at H
      have c3b0 : (a0 == 2) = false := beq_eq_false_iff_ne.mpr c3
      have c3b1 : (a0 != 2) = true := bne_iff_ne.mpr c3
      by_cases c4 : a0 = 4
      · rw [if_pos c4] at H
        have c4b0 : (a0 == 4) = true := beq_iff_eq.mpr c4
        have c4b1 : (a0 != 4) = false := bne_eq_false_iff_eq.mpr c4
        clear c4
        obtain rfl := Option.some.inj H
        go_enter Try.func44, Try.ntmps44
        go_wp2
        go_ret
        exact ⟨by first | rfl | (simp; done) | (simp [*]; done), by repeat (first | exact Drawn0.refl _ | apply Drawn0.step)⟩
      · rw [if_neg c4] at H
        have c4b0 : (a0 == 4) = false := beq_eq_false_iff_ne.mpr c4
        have c4b1 : (a0 != 4) = true := bne_iff_ne.mpr c4
        obtain rfl := Option.some.inj H
        go_enter Try.func44, Try.ntmps44
        go_wp2
        go_ret
        exact ⟨by first | rfl | (simp; done) | (simp [*]; done), by repeat (first | exact Drawn0.refl _ | apply Drawn0.step)⟩

/-! ### slices_Clone_byte_byte: function 45 -/
def slices_Clone_byte_byte.f (l0 : List Int) : Option (List Int) := if l0.length < 140737488355328 then some l0 else none
set_option maxHeartbeats 8000000 in
set_option maxRecDepth 100000 in
theorem slices_Clone_byte_byte.calls (A0 : Option Addr) (c0 : Nat) (l0 : List Int) (r : List Int) (w : World) (hr0 : Kd.C (Kd.int .u8) w A0 l0.length l0) (hc0 : l0.length ≤ c0) (h : slices_Clone_byte_byte.f l0 = some r) :
    Calls Try.prog 45 #[.slice A0 l0.length c0] w fun e w' => ∃ v0_ : Value, e = .returned (v0_) ∧ Kd.R (Kd.int .u8) 5 w' w.heap.size (fun _ => True) v0_ r ∧ Below w.heap.size w w' := by
  have hl : l0.length < 140737488355328 ∧ l0 = r := by
    unfold slices_Clone_byte_byte.f at h
    split at h
    · rename_i q; exact ⟨q, Option.some.inj h⟩
    · cases h
  obtain ⟨hl, rfl⟩ := hl
  cases A0 with
  | none =>
    have hz : l0 = [] := by
      cases l0 with
      | nil => rfl
      | cons x l => exact absurd (hr0.2.2 (by simp)) (by simp)
    subst hz
    have he : ∀ w : World, (binOp .eql 33 (.slice none 0 c0) (.slice none 0 0)).run Try.prog w = .ok (.bool true) w := fun _ => rfl
    go_enter Try.func45, Try.ntmps45
    go_wp2
    go_ret
    exact ⟨_, rfl, Kd.R_nil _ _ _ _ _, Below.refl _ _⟩
  | some a =>
    have HR0 := Aside0.mk hr0
    have HB := Aside0.mk (Below.refl w.heap.size w)
    obtain ⟨y108, hy108⟩ : ∃ y_ : List Int, y_ = (([] : List Int)) := ⟨_, rfl⟩
    have Ny108 := Aside0.mk hy108
    obtain ⟨y111, hy111⟩ : ∃ y_ : List Int, y_ = (y108 ++ l0) := ⟨_, rfl⟩
    have Ny111 := Aside0.mk hy111
    have hend : y111 = l0 := by rw [hy111, hy108]; rfl
    have LMc2 := Aside0.mk (show y108.length + l0.length < 140737488355328 by rw [hy108]; simpa using hl)
    clear hy108 hy111
    have he : ∀ w : World, (binOp .eql 33 (.slice (some a) l0.length c0) (.slice none 0 0)).run Try.prog w = .ok (.bool false) w := fun _ => rfl
    go_enter Try.func45, Try.ntmps45
    go_wp2_with (first | ((with_reducible refine gate_dst (N := 5) rfl ?_); refine Kd.R_lit (Kd.int .u8) _ 5 ?hg (N := 5) ?hd (xs := ([] : List Int)) (inner := []) (ok := fun _ => True) (okp := fun _ => True) ?hr ?hp (fun _ hk => hk) trivial (Below.refl _ _) (Nat.le_refl _) (by simp) ?_; (case hd => rfl); (case hg => rfl); (case hr => first | (go_simp; done) | (go_simp; rfl)); (case hp => exact (Reps.none _ _)); intro v109 w3 ho4 hb hg_ hnew_; clear hg_ hnew_; (first | rw [← Ny108.out] at ho4 | (simp only [Int.reduceToNat] at ho4; rw [← Ny108.out] at ho4)); have n0_ := Aside0.mk (Kd.R_lower ho4 (below_size (by repeat (first | (with_reducible first | exact HB.out | apply below_alloc | apply pw_below_drewN | apply below_drew1) | exact HB.out)))); have n1_ := Aside0.mk (below_step (by repeat (first | (with_reducible first | exact HB.out | apply below_alloc | apply pw_below_drewN | apply below_drew1) | exact HB.out)) hb); clear HB; have HO110 := n0_; have HB := n1_; clear n0_ n1_; clear hb ho4) | ((with_reducible refine gate_builtin (b := .append) (xs := #[.tmp 5, .tmp 6]) rfl ?_); at_builtin; refine Kd.R_append_rows (Kd.int .u8) (w0 := w) w.heap.size rfl (.tmp 5) (.tmp 6) 33 5 (.int .u8 0) 1 rfl Try.underlying33 info5 rfl (by decide) (by omega) v109 y108 l0 _ _ _ (fun _ => True) (fun _ => False) rfl rfl ?aO ?aR (fun _ _ h => h) (fun _ h => h.elim) ?aF ?aB ?aS ?aL ?_; (case aR => repeat (first | exact (Kd.C_below HR0.out HB.out) | (with_reducible refine Kd.C_alloc ?_ _) | (with_reducible refine Kd.C_drewN ?_ _) | (with_reducible refine Kd.C_drew ?_))); (case aB => exact (by repeat (first | (with_reducible first | exact HB.out | apply below_alloc | apply pw_below_drewN | apply below_drew1) | exact HB.out))); (case aF => exact (fun _ _ => trivial)); (case aO => exact (by (with_reducible repeat (first | apply Kd.R_alloc | apply Kd.R_drewN | apply Kd.R_drew)); exact HO110.out)); (case aS => exact (below_size (by repeat (first | (with_reducible first | exact HB.out | apply below_alloc | apply pw_below_drewN | apply below_drew1) | exact HB.out)))); (case aL => have := LMc2.out; omega); intro v112 w5 ho hb hg hat; rw [← Ny111.out] at ho; have n0_ := Aside0.mk (hb); have n1_ := Aside0.mk (ho); clear HB; clear HO110; have HB := n0_; have HO113 := n1_; clear n0_ n1_; clear ho hb hg hat))
    go_ret
    exact ⟨_, rfl, hend ▸ (by (with_reducible repeat (first | apply Kd.R_alloc | apply Kd.R_drewN | apply Kd.R_drew)); exact HO113.out), (by repeat (first | (with_reducible first | exact HB.out | apply below_alloc | apply pw_below_drewN | apply below_drew1) | exact HB.out))⟩

-- NOT PRINTED: function 49 (slices_Chunk_byte_byte)

-- NOT PRINTED: function 50 (slices_Clip_byte_byte)

/-! ### code_Take: function 33 -/
section
open Go.Shelf
attribute [local go_sem] Oper.semAt_some
/-- The number that bytes from an offset on come to. -/
def numU (l : List Int) (o : Nat) : Nat → Int
  | 0 => 0
  | j + 1 => Go.bits .or .i64 (wrap64 (numU l o j * 256)) (wrap64 (l.getD (o + j) 0))
theorem cells_of {w : World} {A : Option Addr} {n : Nat} {l : List Int} (h : Kd.C (Kd.int .u8) w A n l) (hn : 0 < n) : ∃ ad, A = some ad ∧ ∀ j x, l[j]? = some x → w.cell? (ad.add j) = some (.int .u8 x) := by
  obtain ⟨ad, hA, hc⟩ := h.2.2 hn
  refine ⟨ad, hA, fun j x hj => ?_⟩
  obtain ⟨c, _, hk, hcell⟩ := hc j x hj
  have hk' : c = [Value.int .u8 x] := hk
  subst hk'
  have := hcell 0 _ rfl
  have e : j * (Kd.int IntKind.u8).sz + 0 = j := by show j * 1 + 0 = j; omega
  rw [e] at this; exact this
theorem clone_calls (A : Option Addr) (n c : Nat) (l : List Int) (w : World) (hn : l.length = n) (hr : Kd.C (Kd.int .u8) w A n l) (hc : n ≤ c) (hl : n < 140737488355328) :
    Calls Try.prog 45 #[.slice A n c] w fun e w' => ∃ v0_ : Value, e = .returned (v0_) ∧ Kd.R (Kd.int .u8) 5 w' w.heap.size (fun _ => True) v0_ l ∧ Below w.heap.size w w' := by
  subst hn
  exact slices_Clone_byte_byte.calls A c l l w hr hc (by unfold slices_Clone_byte_byte.f; rw [if_pos hl])
set_option maxRecDepth 100000 in
set_option maxHeartbeats 8000000 in
theorem take_main (A0 : Option Addr) (c0 : Nat) (l0 : List Int) (c m L : Nat) (hw : c = 1 ∨ c = 2 ∨ c = 4 ∨ c = 8) (hm : m ≤ 4000) (hL : Go.Proofs.Ytlmdegpccodbgaa.Take.Hid (L = c * m)) (hlen : L ≤ l0.length) (w : World) (hr0 : Kd.C (Kd.int .u8) w A0 l0.length l0) (hc0 : l0.length ≤ c0) (hl : l0.length < 140737488355328) :
    Calls Try.prog 33 #[.slice A0 l0.length c0, .int .i64 c, .int .i64 m] w fun e w' => ∃ v0_ v1_ : Value, e = .returned (.tuple #[v0_, v1_, .int .i64 0]) ∧
      Kd.R (Kd.int .i64) 3 w' w.heap.size (fun _ => True) v0_ ((List.range m).map fun i => numU l0 (c * i) c) ∧ Kd.R (Kd.int .u8) 5 w' w.heap.size (fun _ => True) v1_ (l0.drop L) ∧ Below w.heap.size w w' := by
  have hwid : code_width.f (c : Int) = some true := by rcases hw with rfl | rfl | rfl | rfl <;> rfl
  have hm0 : ¬ ((m : Int) < 0) := by omega
  have hm1 : ¬ ((4000 : Int) < m) := by omega
  have hmul : (c : Int) * (m : Int) = (L : Int) := by rw [hL.out]; simp
  have hle : L ≤ 32000 := by rw [hL.out]; exact Nat.mul_le_mul (show c ≤ 8 by omega) hm
  refine (callsIn_wide (n := 5)).1 ?_
  refine callsIn_of_wp_marks Try.func33 rfl trivial ?_ rfl
  simp only [Try.ntmps33, List.size_toArray, List.length_cons, List.length_nil, Nat.reduceAdd, Nat.reduceSub, Array.replicate_succ, Array.replicate_zero, List.push_toArray, List.append_toArray, List.nil_append, List.cons_append]
  gi_wp2_with (first | (refine ⟨trivial, ?_⟩; gi_at_call 44; refine (callsIn_wide.2 (code_width.calls _ _ _ hwid)).mono ?_; rintro e w1 ⟨rfl, ⟨nd, rfl⟩⟩) | (refine ⟨trivial, ?_⟩; gi_at_call 49; refine (Go.Proofs.Ytlmdegpccodbgaa.Take.chunk_in Fence.wide _ trivial rfl _ _ _ c (by omega) _).mono ?_; rintro e w1 ⟨rfl, rfl⟩))
  obtain ⟨i0, hi, hz0, hz1, hz2⟩ := info_parts info3
  have hr1 : Kd.C (Kd.int .u8) (w.drewN nd) A0 l0.length l0 := Kd.C_drewN hr0 nd
  have hbd : Below w.heap.size w (w.drewN nd) := pw_below_drewN (Below.refl _ _) nd
  have hsz : (w.drewN nd).heap.size = w.heap.size := rfl
  obtain ⟨W0, hW0⟩ : ∃ W0, w.drewN nd = W0 := ⟨_, rfl⟩
  rw [hW0] at hr1 hbd hsz ⊢
  obtain ⟨ad, hA⟩ : ∃ ad, (0 < m → A0 = some ad) ∧ ∀ j x, l0[j]? = some x → 0 < m → W0.cell? (ad.add j) = some (.int .u8 x) := by
    by_cases h0 : 0 < m
    · have : 0 < l0.length := by
        have := Nat.mul_le_mul (show 1 ≤ c by omega) h0
        have := hL.out; omega
      obtain ⟨ad, h1, h2⟩ := cells_of hr1 this
      exact ⟨ad, fun _ => h1, fun j x hj _ => h2 j x hj⟩
    · exact ⟨⟨0, 0, none⟩, fun h => absurd h h0, fun _ _ _ h => absurd h h0⟩
  have bO := Boxed.new W0 38 (.slice none 0 0)
  have bS := Boxed.new (W0.alloc (.cells #[.slice none 0 0] 38)) 33 (.slice A0 L c0)
  have bN := Boxed.new ((W0.alloc (.cells #[.slice none 0 0] 38)).alloc (.cells #[.slice A0 L c0] 33)) 3 (.int .i64 c)
  simp only [World.size_alloc, hsz] at bO bS bN
  have hB0 : Below w.heap.size w (((W0.alloc (.cells #[.slice none 0 0] 38)).alloc (.cells #[.slice A0 L c0] 33)).alloc (.cells #[.int .i64 c] 3)) :=
    ((hbd.alloc (by omega) _).alloc (by simp; omega) _).alloc (by simp; omega) _
  obtain ⟨Wb, hWb⟩ : ∃ Wb, (((W0.alloc (.cells #[.slice none 0 0] 38)).alloc (.cells #[.slice A0 L c0] 33)).alloc (.cells #[.int .i64 c] 3)) = Wb := ⟨_, rfl⟩
  have hbs : Wb.heap.size = w.heap.size + 3 := by rw [← hWb]; simp [hsz]
  have bO' : Boxed Wb w.heap.size 38 (.slice none 0 0) := hWb ▸ (bO.alloc _).alloc _
  have bS' : Boxed Wb (w.heap.size + 1) 33 (.slice A0 L c0) := hWb ▸ bS.alloc _
  have bN' : Boxed Wb (w.heap.size + 1 + 1) 3 (.int .i64 c) := hWb ▸ bN
  rw [hWb] at hB0 ⊢
  refine wpIn_rangeFunc_ownG rfl (by omega) (gf := 52) (lb := #[.pointer (some ⟨w.heap.size + 1, 0, none⟩), .pointer (some ⟨w.heap.size + 1 + 1, 0, none⟩)]) rfl trivial (enters_of Try.func52 (by kernel_rfl) rfl)
    (Go.Proofs.Ytlmdegpccodbgaa.Take.chunk_stops Fence.wide _ trivial rfl (by omega) (w.heap.size + 1) (w.heap.size + 1 + 1) c m L c0 A0 ad hA.1 (by omega) (by omega) hm hL (by omega) _ bS'.cell bN'.cell)
    Go.Proofs.Ytlmdegpccodbgaa.Take.Kp.trans (Go.Proofs.Ytlmdegpccodbgaa.Take.Kp.put (by omega) (by omega)) (Below.refl _ _) (fun _ => rfl)
    (fun (pre : List (Fin m)) W => (∃ v, Boxed W w.heap.size 38 v ∧ W.ownsRow (w.heap.size + 3) 3 1 v pre.length ((pre.map fun i : Fin m => numU l0 (c * i.val) c).map (Value.int .i64)) ∧ True) ∧ Below w.heap.size Wb W)
    (fun _ _ _ => False)
    (OwnFrom.and (Own.from (holdsRow_own (w.heap.size + 3) w.heap.size 38 3 1 (fun pre : List (Fin m) => pre.length) (fun pre : List (Fin m) => (pre.map fun i : Fin m => numU l0 (c * i.val) c).map (Value.int .i64)) (fun _ _ => True)) _) (ownFrom_below (by omega) (by omega)))
    (fun _ _ _ _ _ hs _ _ => hs)
    ⟨⟨_, bO', World.ownsRow_nil _ _ _ _, trivial⟩, Below.refl _ _⟩ ?a1 ?assign ?body ?done ?stop
  case assign =>
    intro l x W K hK
    gi_wp2
    exact hK
  case stop =>
    rintro D c pre W _ _ h _
    exact h.elim
  case body =>
    rintro l pre x W ⟨⟨v, hv, hrow, _⟩, hB⟩ hlt
    have hc := hv.cell
    have hread : ∀ j, j < c → ∃ y, l0[c * x.val + j]? = some y ∧ W.cell? ((ad.add (c * x.val)).add j) = some (.int .u8 y) := by
      intro j hj
      have hlt' : c * x.val + j < l0.length := by
        have h1 : c * (x.val + 1) ≤ c * m := Nat.mul_le_mul_left c x.isLt
        have h2 := hL.out
        rw [Nat.mul_succ] at h1; omega
      have hm' : 0 < m := by have := x.isLt; omega
      refine ⟨l0[c * x.val + j], List.getElem?_eq_getElem hlt', ?_⟩
      have h3 := hA.2 _ _ (List.getElem?_eq_getElem hlt') hm'
      rw [Go.Addr.add_add]
      have hb0 : Below w.heap.size W0 Wb := hWb ▸ (((Below.refl _ W0).alloc (by omega) _).alloc (by simp; omega) _).alloc (by simp; omega) _
      have h4 := World.block_lt_of_cell? W0 _ h3
      exact ((hb0.trans hB).cell (by omega)).trans h3
    gi_wp2
    gi_loopw [11, 43] (fun v11 v43 wr => ∃ j : Nat, j ≤ c ∧ v43 = .int .i64 (j : Int) ∧ v11 = .int .i64 (numU l0 (c * x.val) j) ∧ wr = W) (fun _ v43 _ => c - (intOf v43).toNat)
    case atStart => exact ⟨0, Nat.zero_le _, by simp, by simp [numU], rfl⟩
    case round =>
      obtain ⟨j, hj, rfl, rfl, rfl⟩ := hrel
      by_cases hjc : j < c
      · obtain ⟨y, hy, hcell⟩ := hread j hjc
        gi_wp2
        refine ⟨⟨j + 1, by omega, by simp, ?_, trivial⟩, by simp [intOf]; omega⟩
        have : l0.getD (c * x.val + j) 0 = y := by rw [List.getD_eq_getElem?_getD, hy]; rfl
        simp only [numU, this]
      · have hjc' : j = c := by omega
        have hpl := Go.Proofs.Ytlmdegpccodbgaa.Take.Hid.mk (show pre.length < 4000 ∧ (5000 : Nat) ≤ maxLen from ⟨by omega, by decide⟩)
        have hbz := Go.Proofs.Ytlmdegpccodbgaa.Take.Hid.mk (show w.heap.size + 3 ≤ wr.heap.size by have := hB.size; omega)
        gi_wp2_with (gi_at_builtin; refine wpListIn_append_own _ rfl _ _ 38 rfl (w.heap.size + 3) 3 i0 (.int .i64 0) 1 8 Try.underlying38 hi hz0 hz1 hz2 rfl (by decide) _ _ _ rfl (hrow.alloc _) ⟨wr.heap.size, 0, none⟩ 1 1 [.int .i64 (numU l0 (c * x.val) c)] rfl rfl (cell_one_new _ _ _) (by simp [Value.oneCell']) (by have := hpl.out; omega) (by have := hpl.out; omega) (by have := hbz.out; simp; omega) ?_; intro v' w1 hown' hgrow _; obtain ⟨g', cap', rfl⟩ := ownsRow_succ hown'; obtain ⟨hv1, hv2, hr2, hk2, hb2⟩ := hv.appended (n₀ := w.heap.size) (by decide) (own_weaken hrow (by omega)) (by have := hbz.out; omega) (Nat.le_refl _) (own_weaken hown' (by omega)) hgrow; have hc1 := hv1.cell; have hf1 := hv1.frozen)
        have hbz' := hbz.out
        refine ⟨hk2.from _, ?_, ⟨_, hv2, ?_, trivial⟩, hB.trans hb2⟩
        · have hne : ∀ B : Nat, B < w.heap.size + 3 → some B ≠ v.ownBlock := fun B hB' e => by have := own_base hrow B e.symm; omega
          refine Go.Proofs.Ytlmdegpccodbgaa.Take.Kp.trans (Go.Proofs.Ytlmdegpccodbgaa.Take.Kp.trans (Go.Proofs.Ytlmdegpccodbgaa.Take.Kp.grown (World.grownBy_alloc wr _ none) (by omega) (by omega) (by simp) (by simp)) (Go.Proofs.Ytlmdegpccodbgaa.Take.Kp.grown hgrow (by simp; omega) (by simp; omega) (hne _ (by omega)) (hne _ (by omega)))) ?_
          have hs1 : wr.heap.size + 1 ≤ w1.heap.size := by have := hgrow.size; simpa using this
          exact Go.Proofs.Ytlmdegpccodbgaa.Take.Kp.grown (grownBy_setCell' w1 w.heap.size _) (by omega) (by omega) (by simp) (by simp; omega)
        · have := hown'.kept (grownBy_setCell' w1 w.heap.size (.slice (some ⟨g', 0, none⟩) (pre.length + 1) cap')) (.inr (hv1.not_row (by decide) hown').symm)
          simpa using this
  case done =>
    rintro D ys W hD hys ⟨⟨v, hv, hrow, _⟩, hB⟩ hK
    have hc := hv.cell
    have hBW : Below w.heap.size w W := hB0.trans hB
    have hlen2 : (l0.drop L).length = l0.length - L := List.length_drop
    have hnone : A0 = none → l0.length = 0 := fun e => by
      rcases Nat.eq_zero_or_pos l0.length with h | h
      · exact h
      · obtain ⟨ad', hx, _⟩ := hr0.2.2 h
        rw [e] at hx; cases hx
    obtain ⟨A1, hA1⟩ : ∃ A1, (A0.map fun a => if l0.length = L then a else a.add L) = A1 := ⟨_, rfl⟩
    have hC : ∀ W', Below W.heap.size W W' → Kd.C (Kd.int .u8) W' A1 (l0.length - L) (l0.drop L) := by
      intro W' hb
      have h0 : Kd.C (Kd.int .u8) W' A0 l0.length l0 := Kd.C_below (Kd.C_below hr0 hBW) hb
      refine ⟨hlen2, by have := h0.2.1; omega, fun hp => ?_⟩
      obtain ⟨ad', hx, hcell⟩ := h0.2.2 (by omega)
      rw [hx, Option.map_some, if_neg (by omega)] at hA1
      refine ⟨ad'.add L, hA1.symm, fun j p hj => ?_⟩
      rw [List.getElem?_drop] at hj
      obtain ⟨cs, h1, h2, h3⟩ := hcell _ _ hj
      refine ⟨cs, h1, h2, fun i u hu => ?_⟩
      have h4 := h3 i u hu
      have e : (L + j) * (Kd.int IntKind.u8).sz + i = L + (j * (Kd.int IntKind.u8).sz + i) := by show (L + j) * 1 + i = L + (j * 1 + i); omega
      rw [Go.Addr.add_add, ← e]; exact h4
    have hlist : (ys.map fun i : Fin m => numU l0 (c * i.val) c) = (List.range m).map fun i => numU l0 (c * i) c := by
      rw [← hys, List.map_map]; rfl
    have hDD : w.heap.size ≤ D := by omega
    have FIN : ∀ (w5 : World) (v1 : Value), Kd.R (Kd.int .u8) 5 w5 W.drew.heap.size (fun _ => True) v1 (l0.drop L) → Below W.drew.heap.size W.drew w5 → w5.heap[D]? = some (.deferred (some [])) → ∀ {tm : Array Value}, tm.getD 6 undef = v → tm.getD 7 undef = v1 → tm.getD 8 undef = .int .i64 0 →
        LeavesInM Fence.wide 5 Try.prog Try.f33 tm (fun e w' => ∃ v0_ v1_ : Value, e = .returned (.tuple #[v0_, v1_, .int .i64 0]) ∧ Kd.R (Kd.int .i64) 3 w' w.heap.size (fun _ => True) v0_ ((List.range m).map fun i => numU l0 (c * i) c) ∧ Kd.R (Kd.int .u8) 5 w' w.heap.size (fun _ => True) v1_ (l0.drop L) ∧ Below w.heap.size w w') [] .returning (w5.putObj D (.deferred none)) := by
      intro w5 v1 hR1 hB5 hK5 tm h6 h7 h8
      have hres : (results Try.f33 tm).run Try.prog (w5.putObj D (.deferred none)) = .ok (.tuple #[v, v1, .int .i64 0]) (w5.putObj D (.deferred none)) := by
        rw [results_tmp3 (fn := Try.f33) (t := 6) (u := 7) (v := 8) rfl, h6, h7, h8]
      have hput : ∀ {α : Type} {d : Kd α} {e : Nat} {u : Value} {xs : List α}, Kd.R d e w5 w.heap.size (fun _ => True) u xs → Kd.R d e (w5.putObj D (.deferred none)) w.heap.size (fun _ => True) u xs := by
        intro α d e u xs h
        refine Kd.R_mono (Kd.R_move (Kd.R_bound h) (fun k hk => ?_)) (fun _ _ => trivial)
        refine World.putObj_heap_other (fun e' => ?_)
        obtain ⟨_, _, _, q, _, cells, hc'⟩ := hk
        subst e'
        rw [hK5] at hc'; cases hc'
      have hRv : Kd.R (Kd.int .i64) 3 W w.heap.size (fun _ => True) v (ys.map fun i : Fin m => numU l0 (c * i.val) c) := by
        refine Kd.R_of_own ?_ (fun _ _ => trivial)
        rw [List.length_map]
        exact own_weaken hrow (by omega)
      have hRv5 := Kd.R_below (Kd.R_drew hRv) hB5
      rw [hlist] at hRv5
      have hB6 : Below w.heap.size w w5 := (hBW.trans (below_drew (Below.refl _ W))).trans (hB5.mono hBW.size)
      exact ⟨_, hres, v, v1, rfl, hput hRv5, hput (Kd.R_lower hR1 hBW.size), hB6.trans (belowK_b (w := w) (Nat.le_refl _) w5 D _ _ hDD hK5 rfl rfl)⟩
    gi_wp2
    refine wpIn_wide.2 ?_
    have hw3 : IntKind.i64.wrap (L : Int) = (L : Int) := (i64_w _).trans (by unfold wrap64; omega)
    have hw2 : wrap64 ((c : Int) * (m : Int)) = (L : Int) := by rw [hmul]; unfold wrap64; omega
    have hw1 : IntKind.i64.wrap ((c : Int) * (m : Int)) = (L : Int) := (i64_w _).trans hw2
    refine Code.wp_mono (Q := fun e a w => match e with | .normal => (?KK : Act → World → Prop) a w | _ => False) (fun e a w h => by cases e <;> first | exact h | exact h.elim) ?_
    refine wp_region_any (by kernel_rfl) ?_
    change wpAny _ _ _ _ _ _ _ (World.drew _)
    refine wpAny_take (i := 1) (v := .slice A0 l0.length c0) rfl (by kernel_rfl) (by kernel_rfl) (by kernel_rfl) (fun _ _ _ h => h) (Or.inl ⟨by rfl, fun w9 => by go_simp⟩) ?_
    refine wpAny_take (i := 2) (v := .int .i64 c) rfl (by kernel_rfl) (by kernel_rfl) (by kernel_rfl) (fun _ _ _ h => h) (Or.inl ⟨by rfl, fun w9 => by go_simp⟩) ?_
    refine wpAny_take (i := 3) (v := .int .i64 m) rfl (by kernel_rfl) (by kernel_rfl) (by kernel_rfl) (fun _ _ _ h => h) (Or.inl ⟨by rfl, fun w9 => by go_simp⟩) ?_
    refine wpAny_take (i := 4) (v := .int .i64 L) rfl (by kernel_rfl) (by kernel_rfl) (by kernel_rfl) (fun _ _ _ h => h) (Or.inl ⟨by rfl, fun w9 => by go_simp⟩) ?_
    refine wpAny_take (i := 5) (v := .slice A0 l0.length c0) rfl (by kernel_rfl) (by kernel_rfl) (by kernel_rfl) (fun _ _ _ h => h) (Or.inl ⟨by rfl, fun w9 => by go_simp⟩) ?_
    refine wpAny_take (i := 6) (v := .int .i64 l0.length) rfl (by kernel_rfl) (by kernel_rfl) (by kernel_rfl) (fun _ _ _ h => h) (Or.inl ⟨by rfl, fun w9 => by go_simp⟩) ?_
    refine wpAny_take (i := 7) (v := .slice A0 l0.length c0) rfl (by kernel_rfl) (by kernel_rfl) (by kernel_rfl) (fun _ _ _ h => h) (Or.inl ⟨by rfl, fun w9 => by go_simp⟩) ?_
    refine wpAny_take (i := 8) (v := .int .i64 l0.length) rfl (by kernel_rfl) (by kernel_rfl) (by kernel_rfl) (fun _ _ _ h => h) (Or.inl ⟨by rfl, fun w9 => by go_simp⟩) ?_
    refine wpAny_take (i := 9) (v := .slice A1 (l0.length - L) (l0.length - L)) rfl (by kernel_rfl) (by kernel_rfl) (by kernel_rfl) (fun _ _ _ h => h) (Or.inl ⟨by rfl, fun w9 => by cases A0 with
      | none =>
        have hz := hnone rfl
        have hz2 : L = 0 := Nat.le_zero.1 (hz ▸ hlen)
        go_simp
        simp [hz, hz2, ← hA1]
      | some a =>
        go_simp
        subst hA1
        by_cases hz : l0.length = L <;> simp [hz]⟩) ?_
    have hltW : w.heap.size < W.drew.heap.size := hv.lt
    refine wpAny_ready (rs := [0, 10]) (by kernel_rfl) (by simp) ?_
    refine AllReady.cons rfl (fun K hK => ?_) (AllReady.cons rfl (fun K hK => ?_) AllReady.nil)
    · skip
      go_simp
      try (refine hK _ _ ?_)
      try (clear hK K)
      refine wpAny_ready (rs := [10]) (by kernel_rfl) (by simp) ?_
      refine AllReady.cons rfl (fun K hK => ?_) AllReady.nil
      go_simp
      go_wp2_with (go_at_call 50; refine (Go.Proofs.Ytlmdegpccodbgaa.Take.clip_calls _ _ _ ?hle _).mono ?_; (case hle => exact Nat.le_refl _); rintro e w4 ⟨rfl, rfl⟩)
      try (refine hK _ _ ?_)
      try (clear hK K)
      refine wpAny_ready (rs := [11]) (by kernel_rfl) (by simp) ?_
      refine AllReady.cons rfl (fun K hK => ?_) AllReady.nil
      go_simp
      go_wp2_with (go_at_call 45; refine (clone_calls _ _ _ (l0.drop L) _ hlen2 ?hq (Nat.le_refl _) ?hl2).mono ?_; (case hl2 => exact Nat.lt_of_le_of_lt (Nat.sub_le _ _) hl); (case hq => exact hC _ (by first | exact Below.refl _ _ | exact below_drew1 (Below.refl _ _))); rintro e w5 ⟨v1, rfl, hR1, hB5⟩; have hc5 := (hB5.cell (p := ⟨w.heap.size, 0, none⟩) hltW).trans hc)
      try (refine hK _ _ ?_)
      try (clear hK K)
      refine wpAny_take (i := 12) (v := v) rfl (by kernel_rfl) (by kernel_rfl) (by kernel_rfl) (fun _ _ _ h => h) (Or.inl ⟨by rfl, fun w9 => by go_simp⟩) ?_
      refine wpAny_take (i := 13) (v := v1) rfl (by kernel_rfl) (by kernel_rfl) (by kernel_rfl) (fun _ _ _ h => h) (Or.inl ⟨by rfl, fun w9 => by go_simp⟩) ?_
      refine wpAny_take (i := 14) (v := .int .i64 0) rfl (by kernel_rfl) (by kernel_rfl) (by kernel_rfl) (fun _ _ _ h => h) (Or.inl ⟨by rfl, fun w9 => by go_simp⟩) ?_
      refine wpAny_done (by kernel_rfl) ?_ _
      gi_wp2
      have hK5 : w5.heap[D]? = some (.deferred (some [])) := (hB5.block D (Array.getElem?_eq_some_iff.1 hK).1).trans hK
      refine ⟨by simp, .inl ⟨_, _, rfl, run_takeDeferred hK5, ?_⟩⟩
      exact FIN w5 v1 hR1 hB5 hK5 rfl rfl rfl
    · skip
      go_simp
      go_wp2_with (go_at_call 50; refine (Go.Proofs.Ytlmdegpccodbgaa.Take.clip_calls _ _ _ ?hle _).mono ?_; (case hle => exact Nat.le_refl _); rintro e w4 ⟨rfl, rfl⟩)
      try (refine hK _ _ ?_)
      try (clear hK K)
      refine wpAny_ready (rs := [0, 11]) (by kernel_rfl) (by simp) ?_
      refine AllReady.cons rfl (fun K hK => ?_) (AllReady.cons rfl (fun K hK => ?_) AllReady.nil)
      · skip
        go_simp
        try (refine hK _ _ ?_)
        try (clear hK K)
        refine wpAny_ready (rs := [11]) (by kernel_rfl) (by simp) ?_
        refine AllReady.cons rfl (fun K hK => ?_) AllReady.nil
        go_simp
        go_wp2_with (go_at_call 45; refine (clone_calls _ _ _ (l0.drop L) _ hlen2 ?hq (Nat.le_refl _) ?hl2).mono ?_; (case hl2 => exact Nat.lt_of_le_of_lt (Nat.sub_le _ _) hl); (case hq => exact hC _ (by first | exact Below.refl _ _ | exact below_drew1 (Below.refl _ _))); rintro e w5 ⟨v1, rfl, hR1, hB5⟩; have hc5 := (hB5.cell (p := ⟨w.heap.size, 0, none⟩) hltW).trans hc)
        try (refine hK _ _ ?_)
        try (clear hK K)
        refine wpAny_take (i := 12) (v := v) rfl (by kernel_rfl) (by kernel_rfl) (by kernel_rfl) (fun _ _ _ h => h) (Or.inl ⟨by rfl, fun w9 => by go_simp⟩) ?_
        refine wpAny_take (i := 13) (v := v1) rfl (by kernel_rfl) (by kernel_rfl) (by kernel_rfl) (fun _ _ _ h => h) (Or.inl ⟨by rfl, fun w9 => by go_simp⟩) ?_
        refine wpAny_take (i := 14) (v := .int .i64 0) rfl (by kernel_rfl) (by kernel_rfl) (by kernel_rfl) (fun _ _ _ h => h) (Or.inl ⟨by rfl, fun w9 => by go_simp⟩) ?_
        refine wpAny_done (by kernel_rfl) ?_ _
        gi_wp2
        have hK5 : w5.heap[D]? = some (.deferred (some [])) := (hB5.block D (Array.getElem?_eq_some_iff.1 hK).1).trans hK
        refine ⟨by simp, .inl ⟨_, _, rfl, run_takeDeferred hK5, ?_⟩⟩
        exact FIN w5 v1 hR1 hB5 hK5 rfl rfl rfl
      · skip
        go_simp
        go_wp2_with (go_at_call 45; refine (clone_calls _ _ _ (l0.drop L) _ hlen2 ?hq (Nat.le_refl _) ?hl2).mono ?_; (case hl2 => exact Nat.lt_of_le_of_lt (Nat.sub_le _ _) hl); (case hq => exact hC _ (by first | exact Below.refl _ _ | exact below_drew1 (Below.refl _ _))); rintro e w5 ⟨v1, rfl, hR1, hB5⟩; have hc5 := (hB5.cell (p := ⟨w.heap.size, 0, none⟩) hltW).trans hc)
        try (refine hK _ _ ?_)
        try (clear hK K)
        refine wpAny_ready (rs := [0]) (by kernel_rfl) (by simp) ?_
        refine AllReady.cons rfl (fun K hK => ?_) AllReady.nil
        go_simp
        try (refine hK _ _ ?_)
        try (clear hK K)
        refine wpAny_take (i := 12) (v := v) rfl (by kernel_rfl) (by kernel_rfl) (by kernel_rfl) (fun _ _ _ h => h) (Or.inl ⟨by rfl, fun w9 => by go_simp⟩) ?_
        refine wpAny_take (i := 13) (v := v1) rfl (by kernel_rfl) (by kernel_rfl) (by kernel_rfl) (fun _ _ _ h => h) (Or.inl ⟨by rfl, fun w9 => by go_simp⟩) ?_
        refine wpAny_take (i := 14) (v := .int .i64 0) rfl (by kernel_rfl) (by kernel_rfl) (by kernel_rfl) (fun _ _ _ h => h) (Or.inl ⟨by rfl, fun w9 => by go_simp⟩) ?_
        refine wpAny_done (by kernel_rfl) ?_ _
        gi_wp2
        have hK5 : w5.heap[D]? = some (.deferred (some [])) := (hB5.block D (Array.getElem?_eq_some_iff.1 hK).1).trans hK
        refine ⟨by simp, .inl ⟨_, _, rfl, run_takeDeferred hK5, ?_⟩⟩
        exact FIN w5 v1 hR1 hB5 hK5 rfl rfl rfl
def code_Take.f (l0 : List Int) (a1 : Int) (a2 : Int) : Option (List Int × List Int × Int) :=
  if a1 = 1 ∨ a1 = 2 ∨ a1 = 4 ∨ a1 = 8 then
    (if 0 ≤ a2 ∧ a2 ≤ 4000 then
      (if (l0.length : Int) < a1 * a2 then some ([], [], 15)
      else (if l0.length < 140737488355328 then some ((List.range a2.toNat).map (fun i => numU l0 (a1.toNat * i) a1.toNat), l0.drop (a1.toNat * a2.toNat), 0) else none))
    else some ([], [], 2))
  else some ([], [], 2)
set_option maxRecDepth 100000 in
set_option maxHeartbeats 8000000 in
theorem take_bad (A0 : Option Addr) (c0 : Nat) (l0 : List Int) (a1 a2 : Int) (w : World) (hb : Bool) (hw : code_width.f a1 = some hb) (h : hb = false ∨ a2 < 0 ∨ 4000 < a2) :
    Calls Try.prog 33 #[.slice A0 l0.length c0, .int .i64 a1, .int .i64 a2] w fun e w' => e = .returned (.tuple #[.slice none 0 0, .slice none 0 0, .int .i64 2]) ∧ Below w.heap.size w w' := by
  have hbb : ∀ nd, Below w.heap.size w (w.drewN nd) := fun nd => pw_below_drewN (Below.refl _ _) nd
  cases hb with
  | false =>
    go_enter Try.func33, Try.ntmps33
    go_wp2_with (go_at_call 44; refine (code_width.calls _ _ _ hw).mono ?_; rintro e w1 ⟨rfl, ⟨nd, rfl⟩⟩)
    go_ret3
    exact ⟨rfl, hbb _⟩
  | true =>
    have h' : a2 < 0 ∨ 4000 < a2 := by simpa using h
    by_cases h1 : a2 < 0
    · go_enter Try.func33, Try.ntmps33
      go_wp2_with (go_at_call 44; refine (code_width.calls _ _ _ hw).mono ?_; rintro e w1 ⟨rfl, ⟨nd, rfl⟩⟩)
      go_ret3
      exact ⟨rfl, hbb _⟩
    · have h2 : 4000 < a2 := by omega
      go_enter Try.func33, Try.ntmps33
      go_wp2_with (go_at_call 44; refine (code_width.calls _ _ _ hw).mono ?_; rintro e w1 ⟨rfl, ⟨nd, rfl⟩⟩)
      go_ret3
      exact ⟨rfl, hbb _⟩
set_option maxRecDepth 100000 in
set_option maxHeartbeats 8000000 in
theorem take_short (A0 : Option Addr) (c0 : Nat) (l0 : List Int) (a1 a2 : Int) (w : World) (hw : code_width.f a1 = some true) (h0 : 0 ≤ a2) (h1 : a2 ≤ 4000) (p : Int) (hp : a1 * a2 = p) (hp1 : 0 ≤ p) (hp2 : p ≤ 32000) (hs : (l0.length : Int) < p) :
    Calls Try.prog 33 #[.slice A0 l0.length c0, .int .i64 a1, .int .i64 a2] w fun e w' => e = .returned (.tuple #[.slice none 0 0, .slice none 0 0, .int .i64 15]) ∧ Below w.heap.size w w' := by
  have hbb : ∀ nd, Below w.heap.size w (w.drewN nd) := fun nd => pw_below_drewN (Below.refl _ _) nd
  have h0' : ¬ a2 < 0 := by omega
  have h1' : ¬ 4000 < a2 := by omega
  have hw3 : IntKind.i64.wrap p = p := (i64_w _).trans (by unfold wrap64; omega)
  have hw4 : wrap64 p = p := by unfold wrap64; omega
  go_enter Try.func33, Try.ntmps33
  go_wp2_with (go_at_call 44; refine (code_width.calls _ _ _ hw).mono ?_; rintro e w1 ⟨rfl, ⟨nd, rfl⟩⟩)
  go_ret3
  exact ⟨rfl, hbb _⟩
theorem code_Take.calls (A0 : Option Addr) (c0 : Nat) (l0 : List Int) (a1 : Int) (a2 : Int) (r1 : List Int) (r2 : List Int) (r3 : Int) (w : World) (hr0 : Kd.C (Kd.int .u8) w A0 l0.length l0) (hc0 : l0.length ≤ c0) (h : code_Take.f l0 a1 a2 = some (r1, r2, r3)) :
    Calls Try.prog 33 #[.slice A0 l0.length c0, .int .i64 a1, .int .i64 a2] w fun e w' => ∃ v0_ v1_ : Value, e = .returned (.tuple #[v0_, v1_, .int .i64 r3]) ∧ Kd.R (Kd.int .i64) 3 w' w.heap.size (fun _ => True) v0_ r1 ∧ Kd.R (Kd.int .u8) 5 w' w.heap.size (fun _ => True) v1_ r2 ∧ Below w.heap.size w w' := by
  unfold code_Take.f at h
  have nil : ∀ (x : Int), ([], [], x) = (r1, r2, r3) → ∀ (e : Ending) (w' : World), e = .returned (.tuple #[.slice none 0 0, .slice none 0 0, .int .i64 x]) ∧ Below w.heap.size w w' → ∃ v0_ v1_ : Value, e = .returned (.tuple #[v0_, v1_, .int .i64 r3]) ∧ Kd.R (Kd.int .i64) 3 w' w.heap.size (fun _ => True) v0_ r1 ∧ Kd.R (Kd.int .u8) 5 w' w.heap.size (fun _ => True) v1_ r2 ∧ Below w.heap.size w w' := by
    rintro x hx e w' ⟨rfl, hb⟩
    cases hx
    exact ⟨_, _, rfl, Kd.R_nil _ _ _ _ _, Kd.R_nil _ _ _ _ _, hb⟩
  by_cases hw : a1 = 1 ∨ a1 = 2 ∨ a1 = 4 ∨ a1 = 8
  · rw [if_pos hw] at h
    have hwid : code_width.f a1 = some true := by rcases hw with rfl | rfl | rfl | rfl <;> rfl
    by_cases hm : 0 ≤ a2 ∧ a2 ≤ 4000
    · rw [if_pos hm] at h
      have hp1 : 0 ≤ a1 * a2 := Int.mul_nonneg (by omega) hm.1
      have hp2 : a1 * a2 ≤ 8 * 4000 := Int.mul_le_mul (by omega) hm.2 hm.1 (by omega)
      by_cases hs : (l0.length : Int) < a1 * a2
      · rw [if_pos hs] at h
        exact (take_short A0 c0 l0 a1 a2 w hwid hm.1 hm.2 _ rfl hp1 (by omega) hs).mono (nil _ (Option.some.inj h))
      · rw [if_neg hs] at h
        by_cases hl : l0.length < 140737488355328
        · rw [if_pos hl] at h
          cases h
          obtain ⟨c, rfl⟩ : ∃ c : Nat, a1 = c := ⟨a1.toNat, by omega⟩
          obtain ⟨m, rfl⟩ : ∃ m : Nat, a2 = m := ⟨a2.toNat, by omega⟩
          have hlen : c * m ≤ l0.length := by
            have : ((c * m : Nat) : Int) ≤ (l0.length : Int) := by rw [Int.natCast_mul]; omega
            exact Int.ofNat_le.1 this
          exact take_main A0 c0 l0 c m (c * m) (by omega) (by omega) ⟨rfl⟩ hlen w hr0 hc0 hl
        · rw [if_neg hl] at h; cases h
    · rw [if_neg hm] at h
      exact (take_bad A0 c0 l0 a1 a2 w true hwid (.inr (by omega))).mono (nil _ (Option.some.inj h))
  · rw [if_neg hw] at h
    have hwid : code_width.f a1 = some false := by
      unfold code_width.f
      rw [if_neg (by omega), if_neg (by omega), if_neg (by omega)]
      congr 1
      simp; omega
    exact (take_bad A0 c0 l0 a1 a2 w false hwid (.inl rfl)).mono (nil _ (Option.some.inj h))
end

end Go.Proofs.Ytlmdegpccodbgaa.HCodeTakes

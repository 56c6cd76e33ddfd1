/- What the methods of a ring that is nil, or that nobody made, tell: walked by hand. No condition. -/
import Derived.Below
import Derived.Deep.Draws
import Derived.OwnWalk
import Derived.Laws.MakeOwn
import Derived.Laws.Slices
import Derived.WalkKit
import Derived.KernelRfl
import Derived.RowKit3
import Derived.WideLaws
import Derived.RowKit
import Derived.Deep.RegionWith
import Derived.Laws.ResultCell
import Derived.Test.YtgadiajhhjfmbaaProg
import Derived.Test.YtgadiajhhjfmbaaWWords
import Derived.Test.YtgadiajhhjfmbaaWLast
namespace Go.Proofs.Ytgadiajhhjfmbaa.RingNo
open Go Go.RowKit Go.Proofs Go.Proofs.YtgadiajhhjfmbaaW.PrintWords Go.Proofs.YtgadiajhhjfmbaaW.PrintLast
set_option linter.unusedVariables false
set_option linter.unusedSimpArgs false

/-- The pointer is nil, or leads to a ring without places. -/
def NoneAt (w : World) (rv : Value) : Prop := rv = .pointer none ∨ ∃ g, rv = .pointer (some ⟨g, 0, none⟩) ∧ w.cell? ⟨g, 0, none⟩ = some (.slice none 0 0)
theorem NoneAt.below {w w' : World} {rv : Value} (h : NoneAt w rv) (b : Below w.heap.size w w') : NoneAt w' rv := by
  rcases h with h | ⟨g, h, hc⟩
  · exact .inl h
  · exact .inr ⟨g, h, (b.cell (p := ⟨g, 0, none⟩) (World.block_lt_of_cell? w _ hc)).trans hc⟩
theorem setCell_id {w : World} {b off : Nat} {cs : Array Value} {t : TypeId} {v : Value} (h : w.heap[b]? = some (.cells cs t (0, 0))) (hv : cs[off]? = some v) : w.setCell ⟨b, off, none⟩ v = w := by
  obtain ⟨hlt, hk⟩ := Array.getElem?_eq_some_iff.1 h
  obtain ⟨hlo, hvo⟩ := Array.getElem?_eq_some_iff.1 hv
  have hc : cs.setIfInBounds off v = cs := by
    apply Array.ext
    · simp
    · intro i h1 h2
      rw [Array.getElem_setIfInBounds]
      split
      · rename_i e; subst e; exact hvo.symm
      · rfl
  have hh : (w.setCell ⟨b, off, none⟩ v).heap = w.heap := by
    apply Array.ext
    · simp [World.setCell]
    · intro i h1 h2
      simp only [World.setCell]
      rw [Array.getElem_modify]
      split
      · rename_i e; subst e
        rw [hk]; simp [hc]
      · rfl
  cases w
  simp only [World.setCell] at hh ⊢
  rw [hh]
theorem allocNew (W : World) (o : Obj) : (W.alloc o).heap[W.heap.size]? = some o := by
  show (W.heap.push o)[W.heap.size]? = some o
  exact Array.getElem?_push_size
theorem cellsAt {w : World} {b : Nat} {cs : Array Value} {t : TypeId} (h : w.heap[b]? = some (.cells cs t (0, 0))) (off : Nat) (v : Value) (hv : cs[off]? = some v) : w.cell? ⟨b, off, none⟩ = some v ∧ w.frozen? ⟨b, off, none⟩ = false := by
  constructor
  · simp [World.cell?, h, hv]
  · simp [World.frozen?, h]
set_option maxHeartbeats 4000000
set_option maxRecDepth 100000
theorem none_calls (rv : Value) (w : World) (h : NoneAt w rv) : Calls Try.prog 57 #[rv] w fun e w' => e = .returned (.bool true) ∧ Below w.heap.size w w' := by
  rcases h with rfl | ⟨g, rfl, hc⟩
  · go_enter Try.func57, Try.ntmps57
    go_wp2
    go_ret
    exact ⟨rfl, Below.refl _ _⟩
  · go_enter Try.func57, Try.ntmps57
    go_wp2
    go_ret
    exact ⟨rfl, Below.refl _ _⟩
theorem get_calls (rv : Value) (i : Int) (w : World) (h : NoneAt w rv) : Calls Try.prog 32 #[rv, .int .i64 i] w fun e w' => e = .returned (.tuple #[.agg #[.int .i64 0, .int .i64 0, .int .i64 0, .bool false, .slice none 0 0], .int .i64 1]) ∧ Below w.heap.size w w' := by
  go_enter Try.func32, Try.ntmps32
  go_wp2_with (go_at_call 57; fail)
  refine (none_calls rv _ (h.below ?hb)).mono ?_
  (case hb => exact (Below.refl _ w).alloc (Nat.le_refl _) _)
  rintro e w1 ⟨rfl, hb⟩
  have hblk : w1.heap[w.heap.size]? = some (.cells #[.int .i64 0, .int .i64 0, .int .i64 0, .bool false, .slice none 0 0] 43 (0, 0)) := (hb.block w.heap.size (by simp)).trans (allocNew w _)
  obtain ⟨a0, f0⟩ := cellsAt hblk 0 (.int .i64 0) (by rfl)
  obtain ⟨a1, f1⟩ := cellsAt hblk 1 (.int .i64 0) (by rfl)
  obtain ⟨a2, f2⟩ := cellsAt hblk 2 (.int .i64 0) (by rfl)
  obtain ⟨a3, f3⟩ := cellsAt hblk 3 (.bool false) (by rfl)
  obtain ⟨a4, f4⟩ := cellsAt hblk 4 (.slice none 0 0) (by rfl)
  have s0 := setCell_id hblk (off := 0) (v := (.int .i64 0)) (by rfl)
  have s1 := setCell_id hblk (off := 1) (v := (.int .i64 0)) (by rfl)
  have s2 := setCell_id hblk (off := 2) (v := (.int .i64 0)) (by rfl)
  have s3 := setCell_id hblk (off := 3) (v := (.bool false)) (by rfl)
  have s4 := setCell_id hblk (off := 4) (v := (.slice none 0 0)) (by rfl)
  go_wp2
  refine ⟨rfl, .tuple #[.agg #[.int .i64 0, .int .i64 0, .int .i64 0, .bool false, .slice none 0 0], .int .i64 1], ?_, rfl, ((Below.refl _ w).alloc (Nat.le_refl _) _).trans (hb.mono (by simp))⟩
  rw [results_cell_tmp (p := 4) (u := 5) (ty := 43) rfl]
  go_simp
theorem insert_calls (rv : Value) (c0 c1 c2 c3 c4 : Value) (w : World) (h : NoneAt w rv) : Calls Try.prog 28 #[rv, .agg #[c0, c1, c2, c3, c4]] w fun e w' => e = .returned (.tuple #[.int .i64 0, .int .i64 0, .int .i64 1]) ∧ Below w.heap.size w w' := by
  go_enter Try.func28, Try.ntmps28
  go_wp2_with (go_at_call 57; refine (none_calls rv _ (h.below ?hb)).mono ?_; (case hb => first | exact Below.refl _ _ | exact below_drew (Below.refl _ _) | exact (Below.refl _ w).alloc (Nat.le_refl _) _); rintro e w1 ⟨rfl, hb⟩)
  go_ret3
  exact ⟨rfl, by first | exact hb | exact ((Below.refl _ w).alloc (Nat.le_refl _) _).trans (hb.mono (by simp))⟩
theorem twin_calls (rv : Value) (i j : Int) (w : World) (h : NoneAt w rv) : Calls Try.prog 30 #[rv, .int .i64 i, .int .i64 j] w fun e w' => e = .returned (.int .i64 (-1)) ∧ Below w.heap.size w w' := by
  go_enter Try.func30, Try.ntmps30
  go_wp2_with (go_at_call 57; refine (none_calls rv _ (h.below ?hb)).mono ?_; (case hb => first | exact Below.refl _ _ | exact below_drew (Below.refl _ _) | exact (Below.refl _ w).alloc (Nat.le_refl _) _); rintro e w1 ⟨rfl, hb⟩)
  go_ret
  exact ⟨rfl, by first | exact hb | exact ((Below.refl _ w).alloc (Nat.le_refl _) _).trans (hb.mono (by simp))⟩
theorem until_calls (rv : Value) (i : Int) (w : World) (h : NoneAt w rv) : Calls Try.prog 29 #[rv, .int .i64 i] w fun e w' => e = .returned (.int .i64 0) ∧ Below w.heap.size w w' := by
  go_enter Try.func29, Try.ntmps29
  go_wp2_with (go_at_call 57; refine (none_calls rv _ (h.below ?hb)).mono ?_; (case hb => first | exact Below.refl _ _ | exact below_drew (Below.refl _ _) | exact (Below.refl _ w).alloc (Nat.le_refl _) _); rintro e w1 ⟨rfl, hb⟩)
  go_ret
  exact ⟨rfl, by first | exact hb | exact ((Below.refl _ w).alloc (Nat.le_refl _) _).trans (hb.mono (by simp))⟩
theorem keys_calls (rv : Value)  (w : World) (h : NoneAt w rv) : Calls Try.prog 41 #[rv] w fun e w' => e = .returned (.slice none 0 0) ∧ Below w.heap.size w w' := by
  go_enter Try.func41, Try.ntmps41
  go_wp2_with (go_at_call 57; refine (none_calls rv _ (h.below ?hb)).mono ?_; (case hb => first | exact Below.refl _ _ | exact below_drew (Below.refl _ _) | exact (Below.refl _ w).alloc (Nat.le_refl _) _); rintro e w1 ⟨rfl, hb⟩)
  go_ret
  exact ⟨rfl, by first | exact hb | exact ((Below.refl _ w).alloc (Nat.le_refl _) _).trans (hb.mono (by simp))⟩
theorem drop_calls (rv : Value)  (w : World) (h : NoneAt w rv) : Calls Try.prog 34 #[rv] w fun e w' => e = .returned (.tuple #[.agg #[.int .i64 0, .int .i64 0, .int .i64 0, .bool false, .slice none 0 0], .int .i64 1]) ∧ Below w.heap.size w w' := by
  go_enter Try.func34, Try.ntmps34
  go_wp2_with (go_at_call 32; fail)
  refine (get_calls rv _ _ (h.below ((Below.refl _ w).alloc (Nat.le_refl _) _))).mono ?_
  rintro e w1 ⟨rfl, hb⟩
  have hblk : w1.heap[w.heap.size]? = some (.cells #[.int .i64 0, .int .i64 0, .int .i64 0, .bool false, .slice none 0 0] 43 (0, 0)) := (hb.block w.heap.size (by simp)).trans (allocNew w _)
  have hlt : w.heap.size < w1.heap.size := (Array.getElem?_eq_some_iff.1 hblk).1
  have hblk2 : (w1.alloc (.cells #[.int .i64 0, .int .i64 0, .int .i64 0, .bool false, .slice none 0 0] 43)).heap[w.heap.size]? = some (.cells #[.int .i64 0, .int .i64 0, .int .i64 0, .bool false, .slice none 0 0] 43 (0, 0)) := (Below.heap_alloc w1 _ _ hlt).trans hblk
  have hnew : (w1.alloc (.cells #[.int .i64 0, .int .i64 0, .int .i64 0, .bool false, .slice none 0 0] 43)).heap[w1.heap.size]? = some (.cells #[.int .i64 0, .int .i64 0, .int .i64 0, .bool false, .slice none 0 0] 43 (0, 0)) := allocNew w1 _
  obtain ⟨pa0, pf0⟩ := cellsAt hblk2 0 (.int .i64 0) (by rfl)
  have ps0 := setCell_id hblk2 (off := 0) (v := (.int .i64 0)) (by rfl)
  obtain ⟨pa1, pf1⟩ := cellsAt hblk2 1 (.int .i64 0) (by rfl)
  have ps1 := setCell_id hblk2 (off := 1) (v := (.int .i64 0)) (by rfl)
  obtain ⟨pa2, pf2⟩ := cellsAt hblk2 2 (.int .i64 0) (by rfl)
  have ps2 := setCell_id hblk2 (off := 2) (v := (.int .i64 0)) (by rfl)
  obtain ⟨pa3, pf3⟩ := cellsAt hblk2 3 (.bool false) (by rfl)
  have ps3 := setCell_id hblk2 (off := 3) (v := (.bool false)) (by rfl)
  obtain ⟨pa4, pf4⟩ := cellsAt hblk2 4 (.slice none 0 0) (by rfl)
  have ps4 := setCell_id hblk2 (off := 4) (v := (.slice none 0 0)) (by rfl)
  obtain ⟨qa0, qf0⟩ := cellsAt hnew 0 (.int .i64 0) (by rfl)
  have qs0 := setCell_id hnew (off := 0) (v := (.int .i64 0)) (by rfl)
  obtain ⟨qa1, qf1⟩ := cellsAt hnew 1 (.int .i64 0) (by rfl)
  have qs1 := setCell_id hnew (off := 1) (v := (.int .i64 0)) (by rfl)
  obtain ⟨qa2, qf2⟩ := cellsAt hnew 2 (.int .i64 0) (by rfl)
  have qs2 := setCell_id hnew (off := 2) (v := (.int .i64 0)) (by rfl)
  obtain ⟨qa3, qf3⟩ := cellsAt hnew 3 (.bool false) (by rfl)
  have qs3 := setCell_id hnew (off := 3) (v := (.bool false)) (by rfl)
  obtain ⟨qa4, qf4⟩ := cellsAt hnew 4 (.slice none 0 0) (by rfl)
  have qs4 := setCell_id hnew (off := 4) (v := (.slice none 0 0)) (by rfl)
  go_wp2
  refine ⟨rfl, .tuple #[.agg #[.int .i64 0, .int .i64 0, .int .i64 0, .bool false, .slice none 0 0], .int .i64 1], ?_, rfl, (((Below.refl _ w).alloc (Nat.le_refl _) _).trans (hb.mono (by simp))).alloc (Nat.le_of_lt hlt) _⟩
  rw [results_cell_tmp (p := 2) (u := 3) (ty := 43) rfl]
  go_simp
theorem len_calls (rv : Value) (w : World) (h : NoneAt w rv) : Calls Try.prog 31 #[rv] w fun e w' => e = .returned (.int .i64 0) ∧ Below w.heap.size w w' := by
  go_enter Try.func31, Try.ntmps31
  go_wp2_with (go_at_call 57; refine (none_calls rv _ (h.below ?hb)).mono ?_; (case hb => exact Below.refl _ _); rintro e w1 ⟨rfl, hb⟩)
  go_ret
  exact ⟨rfl, hb⟩
theorem long_yes (b cap n c : Nat) (A : Option Addr) (w : World) (h : w.cell? ⟨b, 4, none⟩ = some (.slice A n c)) (hn : 20 < n) : Calls Try.prog 39 #[.slice (some ⟨b, 0, none⟩) 1 cap] w fun e w' => e = .returned (.bool true) ∧ w' = w := by
  go_enter Try.func39, Try.ntmps39
  go_wp2
  go_loopw [3] (fun i wr => i = .int .i64 0 ∧ wr = w) (fun _ _ => 0)
  case atStart => exact ⟨rfl, rfl⟩
  case round =>
    obtain ⟨rfl, rfl⟩ := hrel
    go_wp2
    go_ret
    exact ⟨rfl, rfl⟩
theorem long_no (b cap n c : Nat) (A : Option Addr) (w : World) (h : w.cell? ⟨b, 4, none⟩ = some (.slice A n c)) (hn : ¬ 20 < n) : Calls Try.prog 39 #[.slice (some ⟨b, 0, none⟩) 1 cap] w fun e w' => e = .returned (.bool false) ∧ w' = w := by
  go_enter Try.func39, Try.ntmps39
  go_wp2
  go_loopw [3] (fun i wr => (i = .int .i64 0 ∨ i = .int .i64 1) ∧ wr = w) (fun i _ => 1 - (intOf i).toNat)
  case atStart => exact ⟨.inl rfl, rfl⟩
  case round =>
    obtain ⟨hi, rfl⟩ := hrel
    rcases hi with rfl | rfl
    · go_wp2
      exact ⟨⟨.inr rfl, trivial⟩, by simp [intOf]⟩
    · go_wp2
      go_ret
      exact ⟨rfl, rfl⟩
theorem law (c0 c1 c2 c3 : Value) (A : Option Addr) (n c : Nat) (c5 : Value) (p : Int) (w : World)
    (haw : ∀ W : World, Calls Try.prog 26 #[] W (fun e W' => e = .returned (.bool true) ∧ Below W.heap.size W W')) :
    Calls Try.prog 10 #[.agg #[c0, c1, c2, c3, .slice A n c, c5, .int .i64 p]] w fun e w' => e = .returned (.bool true) ∧ Below w.heap.size w w' := by
  have hX : ((w.alloc (.cells #[c0, c1, c2, c3, .slice A n c, c5, .int .i64 p] 64)).alloc (.cells #[c0, c1, c2, c3, .slice A n c, c5, .int .i64 p] 64)).heap[w.heap.size + 1]? = some (.cells #[c0, c1, c2, c3, .slice A n c, c5, .int .i64 p] 64 (0, 0)) := by
    have := allocNew (w.alloc (.cells #[c0, c1, c2, c3, .slice A n c, c5, .int .i64 p] 64)) (.cells #[c0, c1, c2, c3, .slice A n c, c5, .int .i64 p] 64)
    rwa [World.size_alloc] at this
  have h39 := (cellsAt hX 4 (.slice A n c) (by rfl)).1
  have hB2 : Below w.heap.size w ((w.alloc (.cells #[c0, c1, c2, c3, .slice A n c, c5, .int .i64 p] 64)).alloc (.cells #[c0, c1, c2, c3, .slice A n c, c5, .int .i64 p] 64)) := ((Below.refl _ w).alloc (Nat.le_refl _) _).alloc (by simp) _
  by_cases hn : 20 < n
  · go_enter Try.func10, Try.ntmps10
    go_wp2_with (go_at_call 39; fail)
    refine (long_yes _ _ n c A _ h39 hn).mono ?_
    rintro e w1 ⟨rfl, rfl⟩
    go_wp2_with (go_at_call 26; refine (haw _).mono ?_; rintro e w9 ⟨rfl, hb9⟩)
    go_ret
    exact ⟨rfl, hB2.trans (hb9.mono hB2.size)⟩
  · go_enter Try.func10, Try.ntmps10
    go_wp2_with (go_at_call 39; fail)
    refine (long_no _ _ n c A _ h39 hn).mono ?_
    rintro e w1 ⟨rfl, rfl⟩
    go_wp2
    obtain ⟨W4, hW4⟩ : ∃ W4, ((((w.alloc (.cells #[c0, c1, c2, c3, .slice A n c, c5, .int .i64 p] 64)).alloc (.cells #[c0, c1, c2, c3, .slice A n c, c5, .int .i64 p] 64)).alloc (.cells #[.slice none 0 0, .int .i64 0, .int .i64 0] 72)).alloc (.cells #[.pointer none, .pointer (some ⟨w.heap.size + 1 + 1, 0, none⟩)] 37)) = W4 := ⟨_, rfl⟩
    have b0 : W4.heap[w.heap.size]? = some (.cells #[c0, c1, c2, c3, .slice A n c, c5, .int .i64 p] 64 (0, 0)) := by
      rw [← hW4, Below.heap_alloc _ _ _ (by simp; omega), Below.heap_alloc _ _ _ (by simp; omega), Below.heap_alloc _ _ _ (by simp)]
      exact allocNew w _
    have b2 : W4.heap[w.heap.size + 1 + 1]? = some (.cells #[.slice none 0 0, .int .i64 0, .int .i64 0] 72 (0, 0)) := by
      rw [← hW4, Below.heap_alloc _ _ _ (by simp)]
      have := allocNew ((w.alloc (.cells #[c0, c1, c2, c3, .slice A n c, c5, .int .i64 p] 64)).alloc (.cells #[c0, c1, c2, c3, .slice A n c, c5, .int .i64 p] 64)) (.cells #[.slice none 0 0, .int .i64 0, .int .i64 0] 72)
      rwa [World.size_alloc, World.size_alloc] at this
    have b3 : W4.heap[w.heap.size + 1 + 1 + 1]? = some (.cells #[.pointer none, .pointer (some ⟨w.heap.size + 1 + 1, 0, none⟩)] 37 (0, 0)) := by
      rw [← hW4]
      have := allocNew (((w.alloc (.cells #[c0, c1, c2, c3, .slice A n c, c5, .int .i64 p] 64)).alloc (.cells #[c0, c1, c2, c3, .slice A n c, c5, .int .i64 p] 64)).alloc (.cells #[.slice none 0 0, .int .i64 0, .int .i64 0] 72)) (.cells #[.pointer none, .pointer (some ⟨w.heap.size + 1 + 1, 0, none⟩)] 37)
      rwa [World.size_alloc, World.size_alloc, World.size_alloc] at this
    have hB4 : Below w.heap.size w W4 := by rw [← hW4]; exact (hB2.alloc (by simp; omega) _).alloc (by simp; omega) _
    have X0 := (cellsAt b0 0 c0 (by rfl)).1
    have X1 := (cellsAt b0 1 c1 (by rfl)).1
    have X2 := (cellsAt b0 2 c2 (by rfl)).1
    have X3 := (cellsAt b0 3 c3 (by rfl)).1
    have X4 := (cellsAt b0 4 (.slice A n c) (by rfl)).1
    have X5 := (cellsAt b0 5 c5 (by rfl)).1
    have X6 := (cellsAt b0 6 (.int .i64 p) (by rfl)).1
    have R0 := (cellsAt b2 0 (.slice none 0 0) (by rfl)).1
    have P0 := (cellsAt b3 0 (.pointer none) (by rfl)).1
    have P1 := (cellsAt b3 1 (.pointer (some ⟨w.heap.size + 1 + 1, 0, none⟩)) (by rfl)).1
    have kc : ∀ {W : World}, Below W4.heap.size W4 W → ∀ (q : Addr) (v : Value), W4.cell? q = some v → W.cell? q = some v := fun b q v h => (b.cell (World.block_lt_of_cell? W4 _ h)).trans h
    rw [hW4]
    clear b0 b2 b3 hX h39
    go_loopw [4] (fun i wr => (i = .int .i64 0 ∨ i = .int .i64 1 ∨ i = .int .i64 2) ∧ Aside0 (Below W4.heap.size W4 wr)) (fun i _ => 2 - (intOf i).toNat)
    case atStart => exact ⟨.inl rfl, ⟨Below.refl _ _⟩⟩
    case round =>
      obtain ⟨hi, F⟩ := hrel
      have p0 := kc F.out _ _ P0
      have p1 := kc F.out _ _ P1
      rcases hi with rfl | rfl | rfl
      · skip
        have HN : ∀ W : World, Below W4.heap.size W4 W → NoneAt W (.pointer none) := fun W b => .inl rfl
        have x0 := kc F.out ⟨w.heap.size, 0, none⟩ _ X0
        have x1 := kc F.out ⟨w.heap.size, 1, none⟩ _ X1
        have x2 := kc F.out ⟨w.heap.size, 2, none⟩ _ X2
        have x3 := kc F.out ⟨w.heap.size, 3, none⟩ _ X3
        have x4 := kc F.out ⟨w.heap.size, 4, none⟩ _ X4
        have x5 := kc F.out ⟨w.heap.size, 5, none⟩ _ X5
        have x6 := kc F.out ⟨w.heap.size, 6, none⟩ _ X6
        go_wp2_with (first | (go_at_call 28; refine (insert_calls (.pointer none) c0 c1 c2 c3 _ _ (HN _ ?hb)).mono ?_; (case hb => first | exact F.out | exact F.out.alloc F.out.size _); rintro e w9 ⟨rfl, hb9⟩; have n0_ := Aside0.mk (show Below W4.heap.size W4 w9 from by first | exact F.out.trans (hb9.mono F.out.size) | exact (F.out.alloc F.out.size _).trans (hb9.mono (F.out.alloc F.out.size _).size)); clear F; have F := n0_; clear n0_ hb9; have x0 := kc F.out ⟨w.heap.size, 0, none⟩ _ X0; have x1 := kc F.out ⟨w.heap.size, 1, none⟩ _ X1; have x2 := kc F.out ⟨w.heap.size, 2, none⟩ _ X2; have x3 := kc F.out ⟨w.heap.size, 3, none⟩ _ X3; have x4 := kc F.out ⟨w.heap.size, 4, none⟩ _ X4; have x5 := kc F.out ⟨w.heap.size, 5, none⟩ _ X5; have x6 := kc F.out ⟨w.heap.size, 6, none⟩ _ X6) | (go_at_call 34; refine (drop_calls (.pointer none) _ (HN _ ?hb)).mono ?_; (case hb => first | exact F.out | exact F.out.alloc F.out.size _); rintro e w9 ⟨rfl, hb9⟩; have n0_ := Aside0.mk (show Below W4.heap.size W4 w9 from by first | exact F.out.trans (hb9.mono F.out.size) | exact (F.out.alloc F.out.size _).trans (hb9.mono (F.out.alloc F.out.size _).size)); clear F; have F := n0_; clear n0_ hb9; have hnew := allocNew w9 (.cells #[.int .i64 0, .int .i64 0, .int .i64 0, .bool false, .slice none 0 0] 43); obtain ⟨qa0, qf0⟩ := cellsAt hnew 0 (.int .i64 0) (by rfl); have qs0 := setCell_id hnew (off := 0) (v := (.int .i64 0)) (by rfl); obtain ⟨qa1, qf1⟩ := cellsAt hnew 1 (.int .i64 0) (by rfl); have qs1 := setCell_id hnew (off := 1) (v := (.int .i64 0)) (by rfl); obtain ⟨qa2, qf2⟩ := cellsAt hnew 2 (.int .i64 0) (by rfl); have qs2 := setCell_id hnew (off := 2) (v := (.int .i64 0)) (by rfl); obtain ⟨qa3, qf3⟩ := cellsAt hnew 3 (.bool false) (by rfl); have qs3 := setCell_id hnew (off := 3) (v := (.bool false)) (by rfl); obtain ⟨qa4, qf4⟩ := cellsAt hnew 4 (.slice none 0 0) (by rfl); have qs4 := setCell_id hnew (off := 4) (v := (.slice none 0 0)) (by rfl); have x0 := kc (F.out.alloc F.out.size (.cells #[.int .i64 0, .int .i64 0, .int .i64 0, .bool false, .slice none 0 0] 43)) ⟨w.heap.size, 0, none⟩ _ X0; have x1 := kc (F.out.alloc F.out.size (.cells #[.int .i64 0, .int .i64 0, .int .i64 0, .bool false, .slice none 0 0] 43)) ⟨w.heap.size, 1, none⟩ _ X1; have x2 := kc (F.out.alloc F.out.size (.cells #[.int .i64 0, .int .i64 0, .int .i64 0, .bool false, .slice none 0 0] 43)) ⟨w.heap.size, 2, none⟩ _ X2; have x3 := kc (F.out.alloc F.out.size (.cells #[.int .i64 0, .int .i64 0, .int .i64 0, .bool false, .slice none 0 0] 43)) ⟨w.heap.size, 3, none⟩ _ X3; have x4 := kc (F.out.alloc F.out.size (.cells #[.int .i64 0, .int .i64 0, .int .i64 0, .bool false, .slice none 0 0] 43)) ⟨w.heap.size, 4, none⟩ _ X4; have x5 := kc (F.out.alloc F.out.size (.cells #[.int .i64 0, .int .i64 0, .int .i64 0, .bool false, .slice none 0 0] 43)) ⟨w.heap.size, 5, none⟩ _ X5; have x6 := kc (F.out.alloc F.out.size (.cells #[.int .i64 0, .int .i64 0, .int .i64 0, .bool false, .slice none 0 0] 43)) ⟨w.heap.size, 6, none⟩ _ X6) | (go_at_call 32; refine (get_calls (.pointer none) _ _ (HN _ ?hb)).mono ?_; (case hb => first | exact F.out | exact F.out.alloc F.out.size _); rintro e w9 ⟨rfl, hb9⟩; have n0_ := Aside0.mk (show Below W4.heap.size W4 w9 from by first | exact F.out.trans (hb9.mono F.out.size) | exact (F.out.alloc F.out.size _).trans (hb9.mono (F.out.alloc F.out.size _).size)); clear F; have F := n0_; clear n0_ hb9; have hnew := allocNew w9 (.cells #[.int .i64 0, .int .i64 0, .int .i64 0, .bool false, .slice none 0 0] 43); obtain ⟨qa0, qf0⟩ := cellsAt hnew 0 (.int .i64 0) (by rfl); have qs0 := setCell_id hnew (off := 0) (v := (.int .i64 0)) (by rfl); obtain ⟨qa1, qf1⟩ := cellsAt hnew 1 (.int .i64 0) (by rfl); have qs1 := setCell_id hnew (off := 1) (v := (.int .i64 0)) (by rfl); obtain ⟨qa2, qf2⟩ := cellsAt hnew 2 (.int .i64 0) (by rfl); have qs2 := setCell_id hnew (off := 2) (v := (.int .i64 0)) (by rfl); obtain ⟨qa3, qf3⟩ := cellsAt hnew 3 (.bool false) (by rfl); have qs3 := setCell_id hnew (off := 3) (v := (.bool false)) (by rfl); obtain ⟨qa4, qf4⟩ := cellsAt hnew 4 (.slice none 0 0) (by rfl); have qs4 := setCell_id hnew (off := 4) (v := (.slice none 0 0)) (by rfl); have x0 := kc (F.out.alloc F.out.size (.cells #[.int .i64 0, .int .i64 0, .int .i64 0, .bool false, .slice none 0 0] 43)) ⟨w.heap.size, 0, none⟩ _ X0; have x1 := kc (F.out.alloc F.out.size (.cells #[.int .i64 0, .int .i64 0, .int .i64 0, .bool false, .slice none 0 0] 43)) ⟨w.heap.size, 1, none⟩ _ X1; have x2 := kc (F.out.alloc F.out.size (.cells #[.int .i64 0, .int .i64 0, .int .i64 0, .bool false, .slice none 0 0] 43)) ⟨w.heap.size, 2, none⟩ _ X2; have x3 := kc (F.out.alloc F.out.size (.cells #[.int .i64 0, .int .i64 0, .int .i64 0, .bool false, .slice none 0 0] 43)) ⟨w.heap.size, 3, none⟩ _ X3; have x4 := kc (F.out.alloc F.out.size (.cells #[.int .i64 0, .int .i64 0, .int .i64 0, .bool false, .slice none 0 0] 43)) ⟨w.heap.size, 4, none⟩ _ X4; have x5 := kc (F.out.alloc F.out.size (.cells #[.int .i64 0, .int .i64 0, .int .i64 0, .bool false, .slice none 0 0] 43)) ⟨w.heap.size, 5, none⟩ _ X5; have x6 := kc (F.out.alloc F.out.size (.cells #[.int .i64 0, .int .i64 0, .int .i64 0, .bool false, .slice none 0 0] 43)) ⟨w.heap.size, 6, none⟩ _ X6) | (go_at_call 30; refine (twin_calls (.pointer none) _ _ _ (HN _ ?hb)).mono ?_; (case hb => first | exact F.out | exact F.out.alloc F.out.size _); rintro e w9 ⟨rfl, hb9⟩; have n0_ := Aside0.mk (show Below W4.heap.size W4 w9 from by first | exact F.out.trans (hb9.mono F.out.size) | exact (F.out.alloc F.out.size _).trans (hb9.mono (F.out.alloc F.out.size _).size)); clear F; have F := n0_; clear n0_ hb9; have x0 := kc F.out ⟨w.heap.size, 0, none⟩ _ X0; have x1 := kc F.out ⟨w.heap.size, 1, none⟩ _ X1; have x2 := kc F.out ⟨w.heap.size, 2, none⟩ _ X2; have x3 := kc F.out ⟨w.heap.size, 3, none⟩ _ X3; have x4 := kc F.out ⟨w.heap.size, 4, none⟩ _ X4; have x5 := kc F.out ⟨w.heap.size, 5, none⟩ _ X5; have x6 := kc F.out ⟨w.heap.size, 6, none⟩ _ X6) | (go_at_call 29; refine (until_calls (.pointer none) _ _ (HN _ ?hb)).mono ?_; (case hb => first | exact F.out | exact F.out.alloc F.out.size _); rintro e w9 ⟨rfl, hb9⟩; have n0_ := Aside0.mk (show Below W4.heap.size W4 w9 from by first | exact F.out.trans (hb9.mono F.out.size) | exact (F.out.alloc F.out.size _).trans (hb9.mono (F.out.alloc F.out.size _).size)); clear F; have F := n0_; clear n0_ hb9; have x0 := kc F.out ⟨w.heap.size, 0, none⟩ _ X0; have x1 := kc F.out ⟨w.heap.size, 1, none⟩ _ X1; have x2 := kc F.out ⟨w.heap.size, 2, none⟩ _ X2; have x3 := kc F.out ⟨w.heap.size, 3, none⟩ _ X3; have x4 := kc F.out ⟨w.heap.size, 4, none⟩ _ X4; have x5 := kc F.out ⟨w.heap.size, 5, none⟩ _ X5; have x6 := kc F.out ⟨w.heap.size, 6, none⟩ _ X6) | (go_at_call 41; refine (keys_calls (.pointer none) _ (HN _ ?hb)).mono ?_; (case hb => first | exact F.out | exact F.out.alloc F.out.size _); rintro e w9 ⟨rfl, hb9⟩; have n0_ := Aside0.mk (show Below W4.heap.size W4 w9 from by first | exact F.out.trans (hb9.mono F.out.size) | exact (F.out.alloc F.out.size _).trans (hb9.mono (F.out.alloc F.out.size _).size)); clear F; have F := n0_; clear n0_ hb9; have x0 := kc F.out ⟨w.heap.size, 0, none⟩ _ X0; have x1 := kc F.out ⟨w.heap.size, 1, none⟩ _ X1; have x2 := kc F.out ⟨w.heap.size, 2, none⟩ _ X2; have x3 := kc F.out ⟨w.heap.size, 3, none⟩ _ X3; have x4 := kc F.out ⟨w.heap.size, 4, none⟩ _ X4; have x5 := kc F.out ⟨w.heap.size, 5, none⟩ _ X5; have x6 := kc F.out ⟨w.heap.size, 6, none⟩ _ X6) | (go_at_call 31; refine (len_calls (.pointer none) _ (HN _ ?hb)).mono ?_; (case hb => first | exact F.out | exact F.out.alloc F.out.size _); rintro e w9 ⟨rfl, hb9⟩; have n0_ := Aside0.mk (show Below W4.heap.size W4 w9 from by first | exact F.out.trans (hb9.mono F.out.size) | exact (F.out.alloc F.out.size _).trans (hb9.mono (F.out.alloc F.out.size _).size)); clear F; have F := n0_; clear n0_ hb9; have x0 := kc F.out ⟨w.heap.size, 0, none⟩ _ X0; have x1 := kc F.out ⟨w.heap.size, 1, none⟩ _ X1; have x2 := kc F.out ⟨w.heap.size, 2, none⟩ _ X2; have x3 := kc F.out ⟨w.heap.size, 3, none⟩ _ X3; have x4 := kc F.out ⟨w.heap.size, 4, none⟩ _ X4; have x5 := kc F.out ⟨w.heap.size, 5, none⟩ _ X5; have x6 := kc F.out ⟨w.heap.size, 6, none⟩ _ X6))

        exact ⟨⟨.inr (.inl rfl), F⟩, by simp [intOf]⟩
      · skip
        have HN : ∀ W : World, Below W4.heap.size W4 W → NoneAt W (.pointer (some ⟨w.heap.size + 1 + 1, 0, none⟩)) := fun W b => .inr ⟨w.heap.size + 1 + 1, rfl, kc b _ _ R0⟩
        have x0 := kc F.out ⟨w.heap.size, 0, none⟩ _ X0
        have x1 := kc F.out ⟨w.heap.size, 1, none⟩ _ X1
        have x2 := kc F.out ⟨w.heap.size, 2, none⟩ _ X2
        have x3 := kc F.out ⟨w.heap.size, 3, none⟩ _ X3
        have x4 := kc F.out ⟨w.heap.size, 4, none⟩ _ X4
        have x5 := kc F.out ⟨w.heap.size, 5, none⟩ _ X5
        have x6 := kc F.out ⟨w.heap.size, 6, none⟩ _ X6
        go_wp2_with (first | (go_at_call 28; refine (insert_calls (.pointer (some ⟨w.heap.size + 1 + 1, 0, none⟩)) c0 c1 c2 c3 _ _ (HN _ ?hb)).mono ?_; (case hb => first | exact F.out | exact F.out.alloc F.out.size _); rintro e w9 ⟨rfl, hb9⟩; have n0_ := Aside0.mk (show Below W4.heap.size W4 w9 from by first | exact F.out.trans (hb9.mono F.out.size) | exact (F.out.alloc F.out.size _).trans (hb9.mono (F.out.alloc F.out.size _).size)); clear F; have F := n0_; clear n0_ hb9; have x0 := kc F.out ⟨w.heap.size, 0, none⟩ _ X0; have x1 := kc F.out ⟨w.heap.size, 1, none⟩ _ X1; have x2 := kc F.out ⟨w.heap.size, 2, none⟩ _ X2; have x3 := kc F.out ⟨w.heap.size, 3, none⟩ _ X3; have x4 := kc F.out ⟨w.heap.size, 4, none⟩ _ X4; have x5 := kc F.out ⟨w.heap.size, 5, none⟩ _ X5; have x6 := kc F.out ⟨w.heap.size, 6, none⟩ _ X6) | (go_at_call 34; refine (drop_calls (.pointer (some ⟨w.heap.size + 1 + 1, 0, none⟩)) _ (HN _ ?hb)).mono ?_; (case hb => first | exact F.out | exact F.out.alloc F.out.size _); rintro e w9 ⟨rfl, hb9⟩; have n0_ := Aside0.mk (show Below W4.heap.size W4 w9 from by first | exact F.out.trans (hb9.mono F.out.size) | exact (F.out.alloc F.out.size _).trans (hb9.mono (F.out.alloc F.out.size _).size)); clear F; have F := n0_; clear n0_ hb9; have hnew := allocNew w9 (.cells #[.int .i64 0, .int .i64 0, .int .i64 0, .bool false, .slice none 0 0] 43); obtain ⟨qa0, qf0⟩ := cellsAt hnew 0 (.int .i64 0) (by rfl); have qs0 := setCell_id hnew (off := 0) (v := (.int .i64 0)) (by rfl); obtain ⟨qa1, qf1⟩ := cellsAt hnew 1 (.int .i64 0) (by rfl); have qs1 := setCell_id hnew (off := 1) (v := (.int .i64 0)) (by rfl); obtain ⟨qa2, qf2⟩ := cellsAt hnew 2 (.int .i64 0) (by rfl); have qs2 := setCell_id hnew (off := 2) (v := (.int .i64 0)) (by rfl); obtain ⟨qa3, qf3⟩ := cellsAt hnew 3 (.bool false) (by rfl); have qs3 := setCell_id hnew (off := 3) (v := (.bool false)) (by rfl); obtain ⟨qa4, qf4⟩ := cellsAt hnew 4 (.slice none 0 0) (by rfl); have qs4 := setCell_id hnew (off := 4) (v := (.slice none 0 0)) (by rfl); have x0 := kc (F.out.alloc F.out.size (.cells #[.int .i64 0, .int .i64 0, .int .i64 0, .bool false, .slice none 0 0] 43)) ⟨w.heap.size, 0, none⟩ _ X0; have x1 := kc (F.out.alloc F.out.size (.cells #[.int .i64 0, .int .i64 0, .int .i64 0, .bool false, .slice none 0 0] 43)) ⟨w.heap.size, 1, none⟩ _ X1; have x2 := kc (F.out.alloc F.out.size (.cells #[.int .i64 0, .int .i64 0, .int .i64 0, .bool false, .slice none 0 0] 43)) ⟨w.heap.size, 2, none⟩ _ X2; have x3 := kc (F.out.alloc F.out.size (.cells #[.int .i64 0, .int .i64 0, .int .i64 0, .bool false, .slice none 0 0] 43)) ⟨w.heap.size, 3, none⟩ _ X3; have x4 := kc (F.out.alloc F.out.size (.cells #[.int .i64 0, .int .i64 0, .int .i64 0, .bool false, .slice none 0 0] 43)) ⟨w.heap.size, 4, none⟩ _ X4; have x5 := kc (F.out.alloc F.out.size (.cells #[.int .i64 0, .int .i64 0, .int .i64 0, .bool false, .slice none 0 0] 43)) ⟨w.heap.size, 5, none⟩ _ X5; have x6 := kc (F.out.alloc F.out.size (.cells #[.int .i64 0, .int .i64 0, .int .i64 0, .bool false, .slice none 0 0] 43)) ⟨w.heap.size, 6, none⟩ _ X6) | (go_at_call 32; refine (get_calls (.pointer (some ⟨w.heap.size + 1 + 1, 0, none⟩)) _ _ (HN _ ?hb)).mono ?_; (case hb => first | exact F.out | exact F.out.alloc F.out.size _); rintro e w9 ⟨rfl, hb9⟩; have n0_ := Aside0.mk (show Below W4.heap.size W4 w9 from by first | exact F.out.trans (hb9.mono F.out.size) | exact (F.out.alloc F.out.size _).trans (hb9.mono (F.out.alloc F.out.size _).size)); clear F; have F := n0_; clear n0_ hb9; have hnew := allocNew w9 (.cells #[.int .i64 0, .int .i64 0, .int .i64 0, .bool false, .slice none 0 0] 43); obtain ⟨qa0, qf0⟩ := cellsAt hnew 0 (.int .i64 0) (by rfl); have qs0 := setCell_id hnew (off := 0) (v := (.int .i64 0)) (by rfl); obtain ⟨qa1, qf1⟩ := cellsAt hnew 1 (.int .i64 0) (by rfl); have qs1 := setCell_id hnew (off := 1) (v := (.int .i64 0)) (by rfl); obtain ⟨qa2, qf2⟩ := cellsAt hnew 2 (.int .i64 0) (by rfl); have qs2 := setCell_id hnew (off := 2) (v := (.int .i64 0)) (by rfl); obtain ⟨qa3, qf3⟩ := cellsAt hnew 3 (.bool false) (by rfl); have qs3 := setCell_id hnew (off := 3) (v := (.bool false)) (by rfl); obtain ⟨qa4, qf4⟩ := cellsAt hnew 4 (.slice none 0 0) (by rfl); have qs4 := setCell_id hnew (off := 4) (v := (.slice none 0 0)) (by rfl); have x0 := kc (F.out.alloc F.out.size (.cells #[.int .i64 0, .int .i64 0, .int .i64 0, .bool false, .slice none 0 0] 43)) ⟨w.heap.size, 0, none⟩ _ X0; have x1 := kc (F.out.alloc F.out.size (.cells #[.int .i64 0, .int .i64 0, .int .i64 0, .bool false, .slice none 0 0] 43)) ⟨w.heap.size, 1, none⟩ _ X1; have x2 := kc (F.out.alloc F.out.size (.cells #[.int .i64 0, .int .i64 0, .int .i64 0, .bool false, .slice none 0 0] 43)) ⟨w.heap.size, 2, none⟩ _ X2; have x3 := kc (F.out.alloc F.out.size (.cells #[.int .i64 0, .int .i64 0, .int .i64 0, .bool false, .slice none 0 0] 43)) ⟨w.heap.size, 3, none⟩ _ X3; have x4 := kc (F.out.alloc F.out.size (.cells #[.int .i64 0, .int .i64 0, .int .i64 0, .bool false, .slice none 0 0] 43)) ⟨w.heap.size, 4, none⟩ _ X4; have x5 := kc (F.out.alloc F.out.size (.cells #[.int .i64 0, .int .i64 0, .int .i64 0, .bool false, .slice none 0 0] 43)) ⟨w.heap.size, 5, none⟩ _ X5; have x6 := kc (F.out.alloc F.out.size (.cells #[.int .i64 0, .int .i64 0, .int .i64 0, .bool false, .slice none 0 0] 43)) ⟨w.heap.size, 6, none⟩ _ X6) | (go_at_call 30; refine (twin_calls (.pointer (some ⟨w.heap.size + 1 + 1, 0, none⟩)) _ _ _ (HN _ ?hb)).mono ?_; (case hb => first | exact F.out | exact F.out.alloc F.out.size _); rintro e w9 ⟨rfl, hb9⟩; have n0_ := Aside0.mk (show Below W4.heap.size W4 w9 from by first | exact F.out.trans (hb9.mono F.out.size) | exact (F.out.alloc F.out.size _).trans (hb9.mono (F.out.alloc F.out.size _).size)); clear F; have F := n0_; clear n0_ hb9; have x0 := kc F.out ⟨w.heap.size, 0, none⟩ _ X0; have x1 := kc F.out ⟨w.heap.size, 1, none⟩ _ X1; have x2 := kc F.out ⟨w.heap.size, 2, none⟩ _ X2; have x3 := kc F.out ⟨w.heap.size, 3, none⟩ _ X3; have x4 := kc F.out ⟨w.heap.size, 4, none⟩ _ X4; have x5 := kc F.out ⟨w.heap.size, 5, none⟩ _ X5; have x6 := kc F.out ⟨w.heap.size, 6, none⟩ _ X6) | (go_at_call 29; refine (until_calls (.pointer (some ⟨w.heap.size + 1 + 1, 0, none⟩)) _ _ (HN _ ?hb)).mono ?_; (case hb => first | exact F.out | exact F.out.alloc F.out.size _); rintro e w9 ⟨rfl, hb9⟩; have n0_ := Aside0.mk (show Below W4.heap.size W4 w9 from by first | exact F.out.trans (hb9.mono F.out.size) | exact (F.out.alloc F.out.size _).trans (hb9.mono (F.out.alloc F.out.size _).size)); clear F; have F := n0_; clear n0_ hb9; have x0 := kc F.out ⟨w.heap.size, 0, none⟩ _ X0; have x1 := kc F.out ⟨w.heap.size, 1, none⟩ _ X1; have x2 := kc F.out ⟨w.heap.size, 2, none⟩ _ X2; have x3 := kc F.out ⟨w.heap.size, 3, none⟩ _ X3; have x4 := kc F.out ⟨w.heap.size, 4, none⟩ _ X4; have x5 := kc F.out ⟨w.heap.size, 5, none⟩ _ X5; have x6 := kc F.out ⟨w.heap.size, 6, none⟩ _ X6) | (go_at_call 41; refine (keys_calls (.pointer (some ⟨w.heap.size + 1 + 1, 0, none⟩)) _ (HN _ ?hb)).mono ?_; (case hb => first | exact F.out | exact F.out.alloc F.out.size _); rintro e w9 ⟨rfl, hb9⟩; have n0_ := Aside0.mk (show Below W4.heap.size W4 w9 from by first | exact F.out.trans (hb9.mono F.out.size) | exact (F.out.alloc F.out.size _).trans (hb9.mono (F.out.alloc F.out.size _).size)); clear F; have F := n0_; clear n0_ hb9; have x0 := kc F.out ⟨w.heap.size, 0, none⟩ _ X0; have x1 := kc F.out ⟨w.heap.size, 1, none⟩ _ X1; have x2 := kc F.out ⟨w.heap.size, 2, none⟩ _ X2; have x3 := kc F.out ⟨w.heap.size, 3, none⟩ _ X3; have x4 := kc F.out ⟨w.heap.size, 4, none⟩ _ X4; have x5 := kc F.out ⟨w.heap.size, 5, none⟩ _ X5; have x6 := kc F.out ⟨w.heap.size, 6, none⟩ _ X6) | (go_at_call 31; refine (len_calls (.pointer (some ⟨w.heap.size + 1 + 1, 0, none⟩)) _ (HN _ ?hb)).mono ?_; (case hb => first | exact F.out | exact F.out.alloc F.out.size _); rintro e w9 ⟨rfl, hb9⟩; have n0_ := Aside0.mk (show Below W4.heap.size W4 w9 from by first | exact F.out.trans (hb9.mono F.out.size) | exact (F.out.alloc F.out.size _).trans (hb9.mono (F.out.alloc F.out.size _).size)); clear F; have F := n0_; clear n0_ hb9; have x0 := kc F.out ⟨w.heap.size, 0, none⟩ _ X0; have x1 := kc F.out ⟨w.heap.size, 1, none⟩ _ X1; have x2 := kc F.out ⟨w.heap.size, 2, none⟩ _ X2; have x3 := kc F.out ⟨w.heap.size, 3, none⟩ _ X3; have x4 := kc F.out ⟨w.heap.size, 4, none⟩ _ X4; have x5 := kc F.out ⟨w.heap.size, 5, none⟩ _ X5; have x6 := kc F.out ⟨w.heap.size, 6, none⟩ _ X6))

        exact ⟨⟨.inr (.inr rfl), F⟩, by simp [intOf]⟩
      · go_wp2_with (go_at_call 26; refine (haw _).mono ?_; rintro e w9 ⟨rfl, hb9⟩)
        go_ret
        exact ⟨rfl, (hB4.trans (F.out.mono hB4.size)).trans (hb9.mono (Nat.le_trans hB4.size F.out.size))⟩
end Go.Proofs.Ytgadiajhhjfmbaa.RingNo

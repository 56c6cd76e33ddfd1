/- What slices.Chunk and code.Take tell: walked by hand, over the kit's law for a range over a function. No condition. -/
import Derived.RangeFuncBox
import Derived.RangeFuncLeaves
import Derived.Shelf.Abstract
import Derived.WalkKit
import Derived.OwnWalkIn
import Derived.TacticsInMore
import Derived.LoopNIn
import Derived.LoopIn
import Derived.Maps.AppendAt
import Derived.Test.YtlmdegpccodbgaaProg
namespace Go.Proofs.Ytlmdegpccodbgaa.Take
open Go Go.RowKit Go.Shelf Go.Proofs
attribute [local go_sem] Oper.semAt_some

/-- The two boxes that the iterator reads hold what they held. -/
def Kp (Bs Bn : Nat) (W W' : World) : Prop := (∀ v, W.cell? ⟨Bs, 0, none⟩ = some v → W'.cell? ⟨Bs, 0, none⟩ = some v) ∧ (∀ v, W.cell? ⟨Bn, 0, none⟩ = some v → W'.cell? ⟨Bn, 0, none⟩ = some v)
theorem Kp.refl (Bs Bn : Nat) (W : World) : Kp Bs Bn W W := ⟨fun _ h => h, fun _ h => h⟩
theorem Kp.trans {Bs Bn : Nat} {A B C : World} (h : Kp Bs Bn A B) (k : Kp Bs Bn B C) : Kp Bs Bn A C := ⟨fun v hv => k.1 v (h.1 v hv), fun v hv => k.2 v (h.2 v hv)⟩

structure Hid (p : Prop) : Prop where mk :: (out : p)
theorem grownBy_drew' (W : World) : W.grownBy W.drew none := ⟨rfl, rfl, rfl, Nat.le_refl _, fun _ _ _ => rfl⟩

set_option maxRecDepth 100000 in
set_option maxHeartbeats 4000000 in
theorem chunk1_in (F : Fence) (n : Nat) (hF : F.fn 52) (hro : F.round = none) (hn : 1 ≤ n) (l Bs Bn c m L cap : Nat) (A : Option Addr) (ad : Addr) (hA : 0 < m → A = some ad) (hc : 1 ≤ c) (hc8 : c ≤ 8) (hm : m ≤ 4000) (hL : Hid (L = c * m)) (hcap : L ≤ cap)
    (J Jx : List Nat → World → Prop) (B0 : Nat) (hJ : AbidesFrom B0 J)
    (hY : ∀ pre x W, x < m → J pre W → pre.length < m → YieldAt F (n - 1) Try.prog l #[.slice (some (ad.add (c * x))) c c] W fun e W' =>
      (e = .returned (.bool true) ∧ J (pre ++ [x]) W' ∧ Kp Bs Bn W W') ∨ (e = .returned (.bool false) ∧ Jx (pre ++ [x]) W'))
    (W : World) (hBs : W.cell? ⟨Bs, 0, none⟩ = some (.slice A L cap)) (hBn : W.cell? ⟨Bn, 0, none⟩ = some (.int .i64 c)) (h0 : J [] W) :
    CallsIn F n Try.prog 52 #[.func (.yield l) #[] #[], .pointer (some ⟨Bs, 0, none⟩), .pointer (some ⟨Bn, 0, none⟩)] W fun e W' => (∃ v, e = .returned v) ∧
      ((∃ ys, ys = List.range m ∧ J ys W') ∨ (∃ pre, True ∧ Jx pre W')) := by
  refine callsIn_of_wp Try.func52 rfl hF ?_ hro
  simp only [Try.ntmps52, List.size_toArray, List.length_cons, List.length_nil, Nat.reduceAdd, Nat.reduceSub, Array.replicate_succ, Array.replicate_zero, List.push_toArray, List.append_toArray, List.nil_append, List.cons_append]
  have hle : L ≤ 32000 := by rw [hL.out]; exact Nat.mul_le_mul hc8 hm
  gi_wp2
  gi_loopw [4] (fun i wr => ∃ k q : Nat, k ≤ m ∧ Hid (q = c * k) ∧ i = .int .i64 (q : Int) ∧ J (List.range k) wr ∧ Kp Bs Bn W wr)
    (fun i _ => L - (intOf i).toNat)
  case atStart => exact ⟨0, 0, Nat.zero_le _, ⟨rfl⟩, by simp, h0, Kp.refl _ _ _⟩
  case round =>
    obtain ⟨k, q, hk, hq, rfl, hJs, hkp⟩ := hrel
    have hbs := hkp.1 _ hBs
    have hbn := hkp.2 _ hBn
    by_cases hlt : k < m
    · have hJs' : J (List.range k) wr.drew := hJ _ _ _ none hJs (grownBy_drew' wr) (fun r e => by cases e)
      obtain ⟨fn, tmps, assign, body, hy, hR⟩ := hY _ k wr.drew hlt hJs' (by rw [List.length_range]; exact hlt)
      rw [← hq.out] at hy
      obtain rfl := hA (by omega)
      have hmul : q + c ≤ L := by rw [hL.out, hq.out, ← Nat.mul_succ]; exact Nat.mul_le_mul_left c hlt
      have hqL : q < L := by omega
      gi_wp2
      gi_region
      all_goals gi_wp2
      all_goals refine hR.mono ?_
      all_goals rintro e W3 (⟨rfl, hJ3, hk3⟩ | ⟨rfl, hJx3⟩)
      all_goals have hkd : Kp Bs Bn W wr.drew := hkp
      all_goals first
        | (have hkp3 := hkd.trans hk3
           have hbs3 := hkp3.1 _ hBs
           have hbn3 := hkp3.2 _ hBn
           gi_wp2
           go_roundw
           case rel => exact ⟨k + 1, q + c, hlt, ⟨by rw [hq.out, Nat.mul_succ]⟩, by simp, by rw [List.range_succ]; exact hJ3, hkp3⟩
           case measure => simp [intOf]; omega)
        | (gi_wp2
           refine bodyPost_ret (results_none rfl _ _ _) rfl ?_
           exact ⟨⟨_, rfl⟩, .inr ⟨_, trivial, hJx3⟩⟩)
    · obtain rfl : k = m := by omega
      have hqL : ¬ q < L := by rw [hL.out, hq.out]; omega
      gi_wp2
      go_end0
      exact ⟨⟨_, rfl⟩, .inl ⟨_, rfl, hJs⟩⟩

set_option maxHeartbeats 1000000 in
theorem chunk_in (F : Fence) (n : Nat) (hF : F.fn 49) (hro : F.round = none) (A : Option Addr) (L cap c : Nat) (hc : 1 ≤ c) (w : World) :
    CallsIn F n Try.prog 49 #[.slice A L cap, .int .i64 c] w fun e w' => e = .returned (.func (.func 52) #[] #[.pointer (some ⟨w.heap.size, 0, none⟩), .pointer (some ⟨w.heap.size + 1, 0, none⟩)]) ∧
      w' = (w.alloc (.cells #[.slice A L cap] 33)).alloc (.cells #[.int .i64 c] 3) := by
  refine callsIn_of_wp Try.func49 rfl hF ?_ hro
  simp only [Try.ntmps49, List.size_toArray, List.length_cons, List.length_nil, Nat.reduceAdd, Nat.reduceSub, Array.replicate_succ, Array.replicate_zero, List.push_toArray, List.append_toArray, List.nil_append, List.cons_append]
  have hc' : ¬ ((c : Int) < 1) := by omega
  gi_wp2
  go_ret
  exact ⟨rfl, rfl⟩

theorem chunk_stops (F : Fence) (n : Nat) (hF : F.fn 52) (hro : F.round = none) (hn : 1 ≤ n) (Bs Bn c m L cap : Nat) (A : Option Addr) (ad : Addr) (hA : 0 < m → A = some ad) (hc : 1 ≤ c) (hc8 : c ≤ 8) (hm : m ≤ 4000) (hL : Hid (L = c * m)) (hcap : L ≤ cap)
    (w : World) (hBs : w.cell? ⟨Bs, 0, none⟩ = some (.slice A L cap)) (hBn : w.cell? ⟨Bn, 0, none⟩ = some (.int .i64 c)) :
    SeqStopsK F n Try.prog 52 #[.pointer (some ⟨Bs, 0, none⟩), .pointer (some ⟨Bn, 0, none⟩)] (fun i : Fin m => #[Value.slice (some (ad.add (c * i.val))) c c]) (Kp Bs Bn) (fun ys => ys.map Fin.val = List.range m) (fun _ => True) m w := fun l J Jx W hW hJ _ hY h0 => by
  have hb : ∀ (B : Nat) v, w.cell? ⟨B, 0, none⟩ = some v → W.cell? ⟨B, 0, none⟩ = some v := fun B v hv => (hW.cell (p := ⟨B, 0, none⟩) (World.block_lt_of_cell? w _ hv)).trans hv
  refine (chunk1_in F n hF hro hn l Bs Bn c m L cap A ad hA hc hc8 hm hL hcap (fun p W => ∃ q : List (Fin m), q.map Fin.val = p ∧ J q W) (fun p W => ∃ q : List (Fin m), q.map Fin.val = p ∧ Jx q W) W.heap.size ?_ ?_ W (hb _ _ hBs) (hb _ _ hBn) ⟨[], rfl, h0⟩).mono ?_
  · rintro s A B row ⟨q, hq, hj⟩ hg hr
    exact ⟨q, hq, hJ q A B row hj hg hr⟩
  · rintro pre x A hx ⟨q, hq, hj⟩ hlen
    obtain ⟨fn, tmps, asg, body, h1, h2⟩ := hY q ⟨x, hx⟩ A hj (by rw [← hq, List.length_map] at hlen; exact hlen)
    refine ⟨fn, tmps, asg, body, h1, h2.mono ?_⟩
    rintro e B (⟨he, hj, hk⟩ | ⟨he, hj⟩)
    · exact .inl ⟨he, ⟨q ++ [⟨x, hx⟩], by simp [hq], hj⟩, hk⟩
    · exact .inr ⟨he, ⟨q ++ [⟨x, hx⟩], by simp [hq], hj⟩⟩
  · rintro e B ⟨he, ⟨ys, rfl, q, hq, hj⟩ | ⟨pre, _, q, hq, hj⟩⟩
    · exact ⟨he, .inl ⟨q, hq, hj⟩⟩
    · exact ⟨he, .inr ⟨q, trivial, hj⟩⟩

theorem clip_calls (A : Option Addr) (L cap : Nat) (h : L ≤ cap) (w : World) : Calls Try.prog 50 #[.slice A L cap] w fun e w' => e = .returned (.slice A L L) ∧ w' = w := by
  go_enter Try.func50, Try.ntmps50
  go_wp2
  go_ret
  exact ⟨rfl, rfl⟩

theorem Kp.put {Bs Bn : Nat} {w : World} (h1 : Bs < w.heap.size) (h2 : Bn < w.heap.size) (W : World) (l : Nat) (o o' : Obj) (hl : w.heap.size ≤ l) (_ : W.heap[l]? = some o) (_ : o.isCells = false) (_ : o.isWalk = false) : Kp Bs Bn W (W.putObj l o') := by
  have k : ∀ B : Nat, B < w.heap.size → ∀ v, W.cell? ⟨B, 0, none⟩ = some v → (W.putObj l o').cell? ⟨B, 0, none⟩ = some v := by
    intro B hB v hv
    have : (W.putObj l o').heap[B]? = W.heap[B]? := World.putObj_heap_other (by omega)
    unfold World.cell? at *
    rw [this]; exact hv
  exact ⟨k Bs h1, k Bn h2⟩
theorem Kp.grown {Bs Bn : Nat} {W W' : World} {row : Option Nat} (hg : W.grownBy W' row) (h1 : Bs < W.heap.size) (h2 : Bn < W.heap.size) (e1 : some Bs ≠ row) (e2 : some Bn ≠ row) : Kp Bs Bn W W' := by
  have k : ∀ B : Nat, B < W.heap.size → some B ≠ row → ∀ v, W.cell? ⟨B, 0, none⟩ = some v → W'.cell? ⟨B, 0, none⟩ = some v := by
    intro B hB e v hv
    have : W'.heap[B]? = W.heap[B]? := hg.block B hB e
    unfold World.cell? at *
    rw [this]; exact hv
  exact ⟨k Bs h1 e1, k Bn h2 e2⟩
end Go.Proofs.Ytlmdegpccodbgaa.Take

/- What is told of an operation in a region whose order is open: bounds. No condition. -/
import Derived.Test.YtpfnoffadfahmaaGreatXL
namespace Go.Ev
open Go Go.RowKit
set_option linter.unusedVariables false
set_option linter.unusedSimpArgs false
theorem runL_ex (m : AM) : ∀ (h : T) (ts ws : List Nat) (o : Out), m.runL h ts ws = some o → (∀ n x, h.get n = some x → ∃ y, o.h.get n = some y) ∧ (∀ n ∈ o.ts, n ∈ ts ∨ ∃ y, o.h.get n = some y) := by
  have keep : ∀ (h : T) (n m : Nat) (o x : Obj), h.get m = some x → ∃ y, (h.set n o).get m = some y := fun h n m o x e => by
    by_cases hn : n = m
    · subst hn; exact ⟨o, get_eq⟩
    · exact ⟨x, by rw [get_ne hn]; exact e⟩
  induction m with
  | ret v => intro h ts ws o e; rw [AM.runL_ret] at e; obtain rfl := Option.some.inj e; exact ⟨fun n x e => ⟨x, e⟩, fun _ h => .inl h⟩
  | get n k ih =>
    intro h ts ws o e; rw [AM.runL_get] at e
    split at e
    · rename_i x hx
      obtain ⟨a, b⟩ := ih _ _ _ _ _ e
      refine ⟨a, fun i hi => ?_⟩
      rcases b i hi with h1 | h1
      · rcases List.mem_cons.1 h1 with rfl | h1
        · exact .inr (a _ _ hx)
        · exact .inl h1
      · exact .inr h1
    · cases e
  | put n x k ih =>
    intro h ts ws o e; rw [AM.runL_put] at e
    split at e
    · obtain ⟨a, b⟩ := ih _ _ _ _ e
      refine ⟨fun i y hy => ?_, fun i hi => ?_⟩
      · obtain ⟨z, hz⟩ := keep h n i x y hy
        exact a i z hz
      · rcases b i hi with h1 | h1
        · rcases List.mem_cons.1 h1 with rfl | h1
          · exact .inr (a _ _ get_eq)
          · exact .inl h1
        · exact .inr h1
    · cases e
  | new n x k ih =>
    intro h ts ws o e; rw [AM.runL_new] at e
    split at e
    · cases e
    · obtain ⟨a, b⟩ := ih _ _ _ _ e
      refine ⟨fun i y hy => ?_, fun i hi => ?_⟩
      · obtain ⟨z, hz⟩ := keep h n i x y hy
        exact a i z hz
      · rcases b i hi with h1 | h1
        · rcases List.mem_cons.1 h1 with rfl | h1
          · exact .inr (a _ _ get_eq)
          · exact .inl h1
        · exact .inr h1
  | log m k ihm ihk =>
    intro h ts ws o e; rw [AM.runL_log] at e
    split at e
    · rename_i v h' ts' ws' hm
      obtain ⟨a, b⟩ := ihk _ _ _ _ _ _ _ e
      obtain ⟨c, d⟩ := ihm _ _ _ _ hm
      refine ⟨fun i y hy => ?_, fun i hi => ?_⟩
      · obtain ⟨z, hz⟩ := c i y hy
        exact a i z hz
      · rcases b i hi with h1 | h1
        · rcases List.mem_append.1 h1 with h1 | h1
          · rcases d i h1 with h2 | ⟨y, hy⟩
            · cases h2
            · exact .inr (a i y hy)
          · exact .inl h1
        · exact .inr h1
    · cases e
  | fail => intro h ts ws o e; rw [AM.runL_fail] at e; cases e
theorem log_wp {pw : Nat → Prop} {Z : Value → T → Prop} {h : T} {m : AM} {W : Nat → Prop} {Q : Value → T → Nat → Prop} (e : m.wp W (fun u h' => ∃ v s', u = pk v s' ∧ Q v h' s') h) (hW : ∀ n, W n → pw n) {j : LogT}
    (hk : ∀ v h' s' ts ws, Q v h' s' → (∀ n ∈ ws, W n ∧ ∃ y, h'.get n = some y) → (∀ n ∈ ts, ∃ y, h'.get n = some y) → (j v ts ws s').wp pw Z h') : (AM.log m (logU j)).wp pw Z h := by
  obtain ⟨u, h', ts, ws, r, ⟨v, s', rfl, hq⟩, p⟩ := wp_runL _ _ _ _ e
  have r0 : m.runL h [] [] = some ⟨pk v s', h', ts, ws⟩ := by simpa using r [] []
  obtain ⟨-, b⟩ := runL_ex m _ _ _ _ r0
  obtain ⟨-, -, c⟩ := AM.mem_ts m _ _ _ _ r0
  have hts : ∀ n ∈ ts, ∃ y, h'.get n = some y := fun n hn => (b n hn).resolve_left (fun h => by cases h)
  rw [log_run r0 fun n hn => hW n (p n hn)]
  exact hk v h' s' ts ws hq (fun n hn => ⟨p n hn, hts n ((c n hn).resolve_left (fun h => by cases h))⟩) hts
theorem lt_of_some {h : T} {s n : Nat} (hf : ∀ n, s ≤ n → h.get n = none) (hy : ∃ y, h.get n = some y) : n < s := by
  obtain ⟨y, hy⟩ := hy
  rcases Nat.lt_or_ge n s with h1 | h1
  · exact h1
  · rw [hf n h1] at hy; cases hy
theorem PureS.logB {C : CallT} {f : Nat} {args : List Value} {h : T} {s : Nat} {Q : Value → T → Nat → Prop} (hc : PureS C f args h s Q) {j : LogT} {pw : Nat → Prop} {Z : Value → T → Prop} (hp : ∀ n, s ≤ n → pw n)
    (hk : ∀ v h' s' ts ws, s ≤ s' → Grow s h h' s' → Q v h' s' → (∀ n ∈ ws, s ≤ n ∧ n < s') → (∀ n ∈ ts, n < s') → (j v ts ws s').wp pw Z h') : (AM.log (C f args (fun v s => .ret (pk v s)) s) (logU j)).wp pw Z h := by
  refine log_wp (W := fun n => s ≤ n) (Q := fun v h' s' => s ≤ s' ∧ Grow s h h' s' ∧ Q v h' s') ?_ hp fun v h' s' ts ws hq hw ht => hk v h' s' ts ws hq.1 hq.2.1 hq.2.2 (fun n hn => ⟨(hw n hn).1, lt_of_some hq.2.1.fresh (hw n hn).2⟩) (fun n hn => lt_of_some hq.2.1.fresh (ht n hn))
  exact hc (fun v s => .ret (pk v s)) _ _ (fun n h => h.elim) (fun n h => h) (fun v h' s' hs hq => ⟨v, s', rfl, hs, hq.1, hq.2⟩)
/-- Reads below, writes above. -/
theorem disj_lt {a b : List Nat} {s : Nat} (ha : ∀ n ∈ a, s ≤ n) (hb : ∀ n ∈ b, n < s) : disj a b = true := disj_of (fun n => s ≤ n) ha fun m hm => by have := hb m hm; omega
theorem disj_gt {a b : List Nat} {s : Nat} (ha : ∀ n ∈ a, n < s) (hb : ∀ n ∈ b, s ≤ n) : disj a b = true := disj_of (fun n => n < s) ha fun m hm => by have := hb m hm; omega
theorem nil_of_none {a : List Nat} {p : Nat → Prop} (h : ∀ n ∈ a, False ∧ p n) : a = [] := by
  cases a with
  | nil => rfl
  | cons x a => exact (h x (List.mem_cons_self ..)).1.elim
end Go.Ev

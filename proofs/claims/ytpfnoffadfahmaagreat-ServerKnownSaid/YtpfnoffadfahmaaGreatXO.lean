/- Lists: cut, added to, told from a heap on. No condition. -/
import Derived.Test.YtpfnoffadfahmaaGreatXN
namespace Go.Ev
open Go Go.RowKit
set_option linter.unusedVariables false
set_option linter.unusedSimpArgs false
section
variable {α : Type} {E : Enc α}
/-- A list that may be cut. -/
structure Sl (E : Enc α) (h : T) (p : Option Addr) (len cap : Nat) (l : List α) : Prop where
  row : Row E h p len l
  le : len ≤ cap
  non : p = none → cap = 0
  ok : cap ≠ 0 → ∃ c t f g, h.get (blk p) = some (.cells c t (f, g)) ∧ (f = 0 ∨ f = E.z + 1)
variable {h : T} {p : Option Addr} {len cap : Nat} {l : List α}
theorem Sl.lt {s : Nat} (r : Sl E h p len cap l) (hf : ∀ n, s ≤ n → h.get n = none) (hc : cap ≠ 0) : blk p < s := by
  obtain ⟨c, t, f, g, h1, _⟩ := r.ok hc
  exact lt_of_some hf ⟨_, h1⟩
theorem Sl.from {s0 s : Nat} {h0 : T} (r : Sl E h0 p len cap l) (hf : ∀ n, s0 ≤ n → h0.get n = none) (g : From s0 h0 h s) : Sl E h p len cap l :=
  ⟨g.row hf r.row, r.le, r.non, fun hc => by
    obtain ⟨c, t, f, g', h1, h2⟩ := r.ok hc
    exact ⟨c, t, f, g', by rw [g.keep _ (r.lt hf hc)]; exact h1, h2⟩⟩
theorem Sl.but {h' : T} (r : Sl E h p len cap l) (hk : cap ≠ 0 → h'.get (blk p) = h.get (blk p)) : Sl E h' p len cap l :=
  ⟨⟨r.row.1, r.row.2.of_eq fun hm => hk fun hc => by have := r.le; have h0 : len = 0 := by omega
                                                     subst h0; simp at hm⟩, r.le, r.non, fun hc => by
    obtain ⟨c, t, f, g, h1, h2⟩ := r.ok hc
    exact ⟨c, t, f, g, by rw [hk hc]; exact h1, h2⟩⟩
theorem Sl.emp (r : Sl E h p len cap l) : p = none → len = 0 ∧ cap = 0 := fun e => ⟨by have := r.non e; have := r.le; omega, r.non e⟩
theorem Sl.nil (h : T) : Sl E h none 0 0 [] := ⟨Row.nil _ _, Nat.le_refl _, fun _ => rfl, fun h => absurd rfl h⟩
theorem Sl.nil' (h : T) (p : Option Addr) : Sl E h p 0 0 [] := ⟨Row.nil _ _, Nat.le_refl _, fun _ => rfl, fun h => absurd rfl h⟩
theorem Sl.own {n : Nat} {q : Option Nat} {t : TypeId} {f g : Nat} (hg : h.get n = some (.cells ⟨l.flatMap E.f⟩ t (f, g))) (hf : f = 0 ∨ f = E.z + 1) (hl : l.length = len) : Sl E h (some ⟨n, 0, q⟩) len len l :=
  ⟨.of_cells hg hl, Nat.le_refl _, fun h => (by cases h), fun _ => ⟨_, _, _, _, hg, hf⟩⟩
theorem Row.cut {n o : Nat} {q q' : Option Nat} (r : Row E h (some ⟨n, o, q⟩) len l) {a b : Nat} (hab : a ≤ b) (hb : b ≤ len) : Row E h (some ⟨n, o + a * E.z, q'⟩) (b - a) ((l.drop a).take (b - a)) :=
  (r.drop a).take (by omega)
section
variable {pw : Nat → Prop} {Z : Value → T → Prop} {lo hi mx : Option Value} {a b c : Nat} {s : Nat}
theorem Sl.cutR (r : Sl E h p len cap l) (hb : abounds len cap lo hi mx = some (a, b, c)) (h1 : a ≤ b) (h2 : b ≤ len) (h3 : b ≤ c) (h4 : c ≤ cap) (k : Value → Nat → AM) :
    ∃ p' ts, Sl E h p' (b - a) (c - a) ((l.drop a).take (b - a)) ∧ (cap ≠ 0 → blk p' = blk p ∧ off p' = off p + a * E.z) ∧ (∀ n ∈ ts, n = blk p ∧ cap ≠ 0) ∧ (slS E.z p len cap lo hi mx k s).wp pw Z h = (k (.slice p' (b - a) (c - a)) s).wp pw Z h ∧
      (∀ j : LogT, (AM.log (slS E.z p len cap lo hi mx (fun v s => .ret (pk v s)) s) (logU j)).wp pw Z h = (j (.slice p' (b - a) (c - a)) ts [] s).wp pw Z h) ∧ (∀ v, mx = some v → cap ≠ 0 → ∃ m o, p' = some ⟨m, o, some 0⟩) ∧ (cap = 0 → p' = p) := by
  have hlen := r.row.1
  by_cases h0 : cap = 0
  · subst h0
    have e := r.le
    obtain rfl : len = 0 := by omega
    obtain rfl : c = 0 := by omega
    obtain rfl : b = 0 := by omega
    obtain rfl : a = 0 := by omega
    have hl : l = [] := List.eq_nil_of_length_eq_zero hlen
    subst hl
    have key : ∀ k : Value → Nat → AM, slS E.z p 0 0 lo hi mx k s = k (.slice p 0 0) s := fun k => by
      unfold slS
      rw [hb]
      cases p <;> rfl
    exact ⟨p, [], Sl.nil' _ _, fun h => absurd rfl h, fun n hn => (by cases hn), (by rw [key]), fun j => (by rw [key]; exact wp_log_ret _ _ _), fun v _ h => absurd rfl h, fun _ => rfl⟩
  · cases p with
    | none => exact absurd (r.non rfl) h0
    | some x =>
      obtain ⟨n, o, q⟩ := x
      obtain ⟨cs, t, f, g, hg, hf⟩ := r.ok h0
      have hg : h.get n = some (.cells cs t (f, g)) := hg
      have hff : (Nat.beq f 0 || Nat.beq f (E.z + 1)) = true := by rcases hf with rfl | rfl <;> simp
      have key : ∀ k : Value → Nat → AM, slS E.z (some ⟨n, o, q⟩) len cap lo hi mx k s = .get n fun
          | .cells _ _ (f, _) => bif Nat.beq f 0 || Nat.beq f (E.z + 1) then k (.slice (some ⟨n, o + a * E.z, spotOf mx q⟩) (b - a) (c - a)) s else .fail
          | _ => .fail := fun k => by
        unfold slS
        rw [hb]
        dsimp only
        rw [show Nat.beq cap 0 = false from beq_no h0]
        rfl
      refine ⟨some ⟨n, o + a * E.z, spotOf mx q⟩, [n], ⟨r.row.cut h1 h2, by omega, fun h => (by cases h), fun _ => ⟨cs, t, f, g, hg, hf⟩⟩, fun _ => ⟨rfl, rfl⟩, fun m hm => ⟨(List.mem_singleton.1 hm), h0⟩, ?_, fun j => ?_, fun v hv _ => ⟨n, _, by subst hv; rfl⟩, fun h => absurd h h0⟩
      · rw [key, wp_get, hg]
        dsimp only
        rw [hff]; rfl
      · refine log_run (v := .slice (some ⟨n, o + a * E.z, spotOf mx q⟩) (b - a) (c - a)) (s := s) (h' := h) (ts := [n]) (ws := []) ?_ (fun n hn => by cases hn) j
        rw [key, AM.runL_get, hg]
        dsimp only
        rw [hff]; rfl
theorem Sl.cut (r : Sl E h p len cap l) (hb : abounds len cap lo hi mx = some (a, b, c)) (h1 : a ≤ b) (h2 : b ≤ len) (h3 : b ≤ c) (h4 : c ≤ cap) {k : Value → Nat → AM}
    (hk : ∀ p', Sl E h p' (b - a) (c - a) ((l.drop a).take (b - a)) → (cap ≠ 0 → blk p' = blk p ∧ off p' = off p + a * E.z) → (k (.slice p' (b - a) (c - a)) s).wp pw Z h) : (slS E.z p len cap lo hi mx k s).wp pw Z h := by
  obtain ⟨p', ts, x, y, z, e, _, _⟩ := r.cutR (pw := pw) (Z := Z) (s := s) hb h1 h2 h3 h4 k
  rw [e]; exact hk p' x y
theorem Sl.cutL (r : Sl E h p len cap l) (hb : abounds len cap lo hi mx = some (a, b, c)) (h1 : a ≤ b) (h2 : b ≤ len) (h3 : b ≤ c) (h4 : c ≤ cap) {j : LogT}
    (hk : ∀ p' ts, Sl E h p' (b - a) (c - a) ((l.drop a).take (b - a)) → (cap ≠ 0 → blk p' = blk p ∧ off p' = off p + a * E.z) → (∀ n ∈ ts, n = blk p ∧ cap ≠ 0) → (j (.slice p' (b - a) (c - a)) ts [] s).wp pw Z h) : (AM.log (slS E.z p len cap lo hi mx (fun v s => .ret (pk v s)) s) (logU j)).wp pw Z h := by
  obtain ⟨p', ts, x, y, z, _, e, _⟩ := r.cutR (pw := pw) (Z := Z) (s := s) hb h1 h2 h3 h4 (fun v s => .ret v)
  rw [e]; exact hk p' ts x y z
theorem Sl.cut3 {v : Value} (r : Sl E h p len cap l) (hb : abounds len cap lo hi (some v) = some (a, b, c)) (h1 : a ≤ b) (h2 : b ≤ len) (h3 : b ≤ c) (h4 : c ≤ cap) {k : Value → Nat → AM}
    (hk : ∀ p', Sl E h p' (b - a) (c - a) ((l.drop a).take (b - a)) → (cap ≠ 0 → blk p' = blk p ∧ off p' = off p + a * E.z) → (cap ≠ 0 → ∃ m o, p' = some ⟨m, o, some 0⟩) → (cap = 0 → p' = p) → (k (.slice p' (b - a) (c - a)) s).wp pw Z h) : (slS E.z p len cap lo hi (some v) k s).wp pw Z h := by
  obtain ⟨p', ts, x, y, z, e, _, f, g⟩ := r.cutR (pw := pw) (Z := Z) (s := s) hb h1 h2 h3 h4 k
  rw [e]; exact hk p' x y (f v rfl) g
theorem Sl.cut3L {v : Value} (r : Sl E h p len cap l) (hb : abounds len cap lo hi (some v) = some (a, b, c)) (h1 : a ≤ b) (h2 : b ≤ len) (h3 : b ≤ c) (h4 : c ≤ cap) {j : LogT}
    (hk : ∀ p' ts, Sl E h p' (b - a) (c - a) ((l.drop a).take (b - a)) → (cap ≠ 0 → blk p' = blk p ∧ off p' = off p + a * E.z) → (∀ n ∈ ts, n = blk p ∧ cap ≠ 0) → (cap ≠ 0 → ∃ m o, p' = some ⟨m, o, some 0⟩) → (cap = 0 → p' = p) → (j (.slice p' (b - a) (c - a)) ts [] s).wp pw Z h) : (AM.log (slS E.z p len cap lo hi (some v) (fun v s => .ret (pk v s)) s) (logU j)).wp pw Z h := by
  obtain ⟨p', ts, x, y, z, _, e, f, g⟩ := r.cutR (pw := pw) (Z := Z) (s := s) hb h1 h2 h3 h4 (fun v s => .ret v)
  rw [e]; exact hk p' ts x y z (f v rfl) g
end
theorem ab_to {len cap i : Nat} (h : i ≤ cap) (kd : IntKind) : abounds len cap none (some (.int kd (i : Int))) none = some (0, i, cap) := by
  simp [abounds, abound, h]
  rw [show Nat.ble 0 i = true by rw [Nat.ble_eq]; omega, show Nat.ble i cap = true by rw [Nat.ble_eq]; exact h]; rfl
theorem ab_from {len cap i : Nat} (h : i ≤ len) (hl : len ≤ cap) (kd : IntKind) : abounds len cap (some (.int kd (i : Int))) none none = some (i, len, cap) := by
  simp [abounds, abound, h, hl]
  rw [show Nat.ble i len = true by rw [Nat.ble_eq]; exact h, show Nat.ble len cap = true by rw [Nat.ble_eq]; exact hl]; rfl
theorem ab_to3 {len cap i m : Nat} (h : i ≤ m) (hm : m ≤ cap) (kd ke : IntKind) : abounds len cap none (some (.int kd (i : Int))) (some (.int ke (m : Int))) = some (0, i, m) := by
  simp [abounds, abound, h, hm]
  first | done | (rw [show Nat.ble 0 i = true by rw [Nat.ble_eq]; omega, show Nat.ble i m = true by rw [Nat.ble_eq]; exact h]; try rfl)
theorem ab_all3 {len cap a i m : Nat} (h0 : a ≤ i) (h : i ≤ m) (hm : m ≤ cap) (kc kd ke : IntKind) : abounds len cap (some (.int kc (a : Int))) (some (.int kd (i : Int))) (some (.int ke (m : Int))) = some (a, i, m) := by
  simp [abounds, abound, h, hm, h0]
  first | done | (rw [show Nat.ble a i = true by rw [Nat.ble_eq]; omega, show Nat.ble i m = true by rw [Nat.ble_eq]; exact h]; try rfl)
theorem ab_mid {len cap a i : Nat} (h0 : a ≤ i) (h : i ≤ cap) (kc kd : IntKind) : abounds len cap (some (.int kc (a : Int))) (some (.int kd (i : Int))) none = some (a, i, cap) := by
  simp [abounds, abound, h, h0]
  first | done | (rw [show Nat.ble a i = true by rw [Nat.ble_eq]; omega, show Nat.ble i cap = true by rw [Nat.ble_eq]; exact h]; try rfl)
/-- A list that came in. -/
theorem RowQ.sl {α : Type} {E : Enc α} {len cap : Nat} {Q : Nat → T → List Value → Prop} {h : T} {c : List Value} {R : α → Prop} (r : RowQ len cap Q E.z h c) (hl : len ≤ cap) (hQ : ∀ i c, Q i h c → ∃ x, c = E.f x ∧ R x) :
    ∃ (p : Option Addr) (l : List α), c = [.slice p len cap] ∧ Sl E h p len cap l ∧ ∀ x ∈ l, R x := by
  obtain ⟨p, L, rfl, hL, ⟨hp, -⟩, hg, he⟩ := r
  obtain ⟨l, h1, h2, h3⟩ := choose_row (f := E.f) (Q := R) L (fun c hc => by
    obtain ⟨i, hi⟩ := List.getElem?_of_mem hc
    exact hQ i c (he i c hi).2)
  refine ⟨p, l.take len, rfl, ⟨?_, hl, fun e => (hp e).2, fun h0 => ?_⟩, fun x hx => h3 x (List.mem_of_mem_take hx)⟩
  · by_cases h0 : cap = 0
    · obtain rfl : len = 0 := by omega
      rw [List.take_zero]
      exact .nil _ _
    · obtain ⟨n, rfl, hn⟩ := hg h0
      refine Row.take (len := cap) (.of_cells (by rw [hn, h2]) (by rw [h1, hL])) hl
  · obtain ⟨n, rfl, hn⟩ := hg h0
    exact ⟨_, _, 0, 1, hn, .inl rfl⟩
/-! ### apart -/
theorem disjA {a : List Nat} {s s' n : Nat} (ha : ∀ m ∈ a, s ≤ m ∧ m < s') (hn : n < s ∨ s' ≤ n) : disj a [n] = true := disj_of (fun m => s ≤ m ∧ m < s') ha fun m hm => by rw [List.mem_singleton.1 hm]; omega
theorem disjB {a : List Nat} {s s' n : Nat} (ha : ∀ m ∈ a, s ≤ m ∧ m < s') (hn : n < s ∨ s' ≤ n) : disj [n] a = true := disj_of (fun m => m = n) (fun m hm => List.mem_singleton.1 hm) fun m hm e => by subst e; have := ha _ hm; omega
theorem disjC {a b : List Nat} {s s' : Nat} (ha : ∀ m ∈ a, s ≤ m ∧ m < s') (hb : ∀ m ∈ b, m < s) : disj a b = true := disj_of (fun m => s ≤ m) (fun m hm => (ha m hm).1) fun m hm => by have := hb m hm; omega
theorem disjD {b : List Nat} {n : Nat} (hb : ∀ m ∈ b, m < n) : disj [n] b = true := disj_of (fun m => m = n) (fun m hm => List.mem_singleton.1 hm) fun m hm e => by subst e; have := hb _ hm; omega
theorem disj1 {n m : Nat} (h : n ≠ m) : disj [n] [m] = true := disj_of (fun i => i = n) (fun i hi => List.mem_singleton.1 hi) fun i hi e => by rw [List.mem_singleton.1 hi] at e; exact h e.symm
theorem disj2 {n m : Nat} (h : n ≠ m) : disj [n] [m, m] = true := disj_of (fun i => i = n) (fun i hi => List.mem_singleton.1 hi) fun i hi e => by simp at hi; omega
theorem disj3 {n : Nat} {b : List Nat} (hb : ∀ m ∈ b, m ≠ n) : disj [n] b = true := disj_of (fun i => i = n) (fun i hi => List.mem_singleton.1 hi) fun i hi e => hb i hi e
theorem disjN (a : List Nat) : disj a [] = true := disj_of (fun _ => True) (fun _ _ => trivial) fun _ h => by cases h
/-! ### stores -/
section
variable {pw : Nat → Prop} {Z : Value → T → Prop} {s s0 : Nat} {h0 : T}
theorem wp_putF {n off : Nat} {vs cs : List Value} {t : TypeId} {f : Nat} {k : Unit → Nat → AM} (g : From s0 h0 h s) (hp : ∀ n, s0 ≤ n → pw n) (hb : h.get n = some (.cells ⟨cs⟩ t (f, 0))) (hn : s0 ≤ n) (hl : off + vs.length ≤ cs.length) (hv : vs.all Value.oneCell' = true)
    (hk : ∀ h', From s0 h0 h' s → h'.get n = some (.cells ⟨overL cs off vs⟩ t (f, 0)) → (∀ i, i ≠ n → h'.get i = h.get i) → (k () s).wp pw Z h') : (aput n off vs k s).wp pw Z h := by
  have hns := lt_of_some g.fresh ⟨_, hb⟩
  exact wp_putB (g := 0) hb hns (hp n hn) g.fresh hl hv fun h' h1 h2 h3 => hk h' ⟨g.le, fun i hi => by rw [h2 i (by omega)]; exact g.keep i hi, h3⟩ h1 h2
theorem wp_putL {n off : Nat} {vs cs : List Value} {t : TypeId} {f : Nat} {j : LogT} (g : From s0 h0 h s) (hp : ∀ n, s0 ≤ n → pw n) (hb : h.get n = some (.cells ⟨cs⟩ t (f, 0))) (hn : s0 ≤ n) (hl : off + vs.length ≤ cs.length) (hv : vs.all Value.oneCell' = true)
    (hk : ∀ h' , From s0 h0 h' s → h'.get n = some (.cells ⟨overL cs off vs⟩ t (f, 0)) → (∀ i, i ≠ n → h'.get i = h.get i) → (j undef [n, n] [n] s).wp pw Z h') : (AM.log (aput n off vs (fun _ s => .ret (pk undef s)) s) (logU j)).wp pw Z h := by
  have hns := lt_of_some g.fresh ⟨_, hb⟩
  have hc : (Nat.ble (off + vs.length) (⟨cs⟩ : Array Value).size && (vs.all Value.oneCell' && !ro (.cells ⟨cs⟩ t (f, 0)))) = true := by
    rw [hv]
    simp only [Bool.and_eq_true, Nat.ble_eq]
    exact ⟨hl, trivial, by simp [ro, roF]; exact .inr rfl⟩
  rw [log_run (v := undef) (s := s) (h' := h.set n (.cells ⟨overL cs off vs⟩ t (f, 0))) (ts := [n, n]) (ws := [n]) ?_ (fun m hm => by rw [List.mem_singleton.1 hm]; exact hp n hn) j]
  · exact hk _ ⟨g.le, fun i hi => by rw [get_ne (by omega)]; exact g.keep i hi, fun i hi => by rw [get_ne (by omega)]; exact g.fresh i hi⟩ get_eq fun i hi => get_ne (Ne.symm hi)
  · unfold aput
    rw [AM.runL_get, hb]
    dsimp only
    rw [hc]
    simp only [cond_true]
    rw [AM.runL_put, hb]
    rfl
theorem wp_boxL {t : TypeId} {cs : List Value} {j : LogT} (g : From s0 h0 h s) (hp : ∀ n, s0 ≤ n → pw n)
    (hk : ∀ h', From s0 h0 h' (s + 1) → From s h h' (s + 1) → h'.get s = some (.cells ⟨cs⟩ t (0, 0)) → (j (.pointer (some ⟨s, 0, none⟩)) [s] [s] (s + 1)).wp pw Z h') : (AM.log (abox t (.agg ⟨cs⟩) (fun v s => .ret (pk v s)) s) (logU j)).wp pw Z h :=
  wp_newL (o := .cells ⟨cs⟩ t (0, 0)) (q := fun b => .pointer (some ⟨b, 0, none⟩)) g hp hk
end
/-! ### added to -/
section
variable {pw : Nat → Prop} {Z : Value → T → Prop} {s : Nat}
theorem flat_one (h1 : ∀ x, (E.f x).all Value.oneCell' = true) : ∀ l : List α, (l.flatMap E.f).all Value.oneCell' = true
  | [] => rfl
  | x :: l => by rw [List.flatMap_cons, List.all_append, h1 x, flat_one h1 l]; rfl
/-- Where there is no room: a new list; the elder one is as it was, or gone. -/
theorem Sl.addK {el : TypeId} {q : Option Addr} {n c : Nat} {l2 : List α} (r : Sl E h p len cap l) (r2 : Row E h q n l2) (h1 : ∀ x, (E.f x).all Value.oneCell' = true) (hn : n ≠ 0) (hn2 : len + n ≤ 1000000) (hgt : cap < len + n)
    (hs : h.get s = none) (hw : pw s) (hwp : ∀ m o sp, p = some ⟨m, o, sp⟩ → pw m ∧ m ≠ s ∧ ∃ c t f g, h.get m = some (.cells c t (f, g)) ∧ (f = 0 ∨ f = E.z + 1)) {k : Value → Nat → AM}
    (hk : ∀ h2 : T, h2.get s = some (.cells ⟨(l ++ l2).flatMap E.f⟩ el (E.z + 1, 0)) → (∀ n, (p ≠ none → n ≠ blk p) → n ≠ s → h2.get n = h.get n) → (k (.slice (some ⟨s, 0, none⟩) (len + n) (len + n)) (s + 1)).wp pw Z h2) :
    (apS el E.z p len cap q n c k s).wp pw Z h := by
  have hle := r.le
  unfold apS
  rw [show Nat.ble (len + n) 1000000 = true by rw [Nat.ble_eq]; omega, show Nat.ble len cap = true by rw [Nat.ble_eq]; omega, show Nat.beq n 0 = false from beq_no hn, show Nat.ble (len + n) cap = false by rw [← Bool.not_eq_true, Nat.ble_eq]; omega]
  simp only [Bool.and_self, cond_true, cond_false]
  have hc2 := r2.2
  have hl2 := hc2.1
  have ho2 := flat_one h1 l2
  have hp0 := E.pos
  cases p with
  | none =>
    have hc := r.non rfl
    obtain rfl : len = 0 := by omega
    have hl : l = [] := List.eq_nil_of_length_eq_zero r.row.1
    subst hl
    dsimp only
    rw [wp_first hn E.pos hc2, hl2, beq_yes]
    simp only [show Nat.beq 0 0 = true from rfl, Bool.and_self, cond_true]
    unfold agrown
    rw [wp_anew, hs]
    exact ⟨hw, hk _ (by rw [get_eq]; rfl) fun n _ h2 => get_ne (Ne.symm h2)⟩
  | some a =>
    obtain ⟨m, o, sp⟩ := a
    dsimp only
    rw [wp_first hn E.pos hc2, hl2, beq_yes, ho2]
    simp only [Bool.and_self, cond_true]
    obtain ⟨hw1, hne, cs, t, f, g, hg, hf⟩ := hwp m o sp rfl
    have hold : ((cs.toList.drop o).take (len * E.z)) = l.flatMap E.f := by
      rcases r.row.2.2 with h0 | ⟨_, c', t', f', h3, h4⟩
      · rw [h0, List.take_zero]
        have : l = [] := List.eq_nil_of_length_eq_zero (by rw [r.row.1]; exact (Nat.mul_eq_zero.1 h0).resolve_right (by omega))
        rw [this]; rfl
      · have h3 : h.get m = some (.cells c' t' f') := h3
        rw [hg] at h3
        cases h3
        exact h4
    rw [wp_cells, hg]
    dsimp only
    rw [hold]
    refine ⟨r.row.2.1, ?_⟩
    unfold akill
    rw [wp_get, hg]
    dsimp only
    unfold agrown
    cases hx : (sp.isSome || Nat.beq f 0) with
    | true =>
      simp only [cond_true]
      rw [wp_anew, hs]
      exact ⟨hw, hk _ (by rw [get_eq, List.flatMap_append]) fun n _ h2 => get_ne (Ne.symm h2)⟩
    | false =>
      have hfz : f = E.z + 1 := hf.resolve_left fun e => by subst e; simp at hx
      subst hfz
      rw [beq_yes]
      simp only [cond_true, cond_false]
      rw [wp_put, hg]
      refine ⟨hw1, ?_⟩
      dsimp only
      rw [wp_anew, get_ne hne, hs]
      exact ⟨hw, hk _ (by rw [get_eq, List.flatMap_append]) fun n h3 h4 => by
        have h5 : m ≠ n := fun e => h3 (by simp) e.symm
        rw [get_ne (Ne.symm h4), get_ne h5]⟩
/-- Where there is no room, and the elder one stays: a new list. -/
theorem Sl.addN {el : TypeId} {q : Option Addr} {n c : Nat} {l2 : List α} (r : Sl E h p len cap l) (r2 : Row E h q n l2) (h1 : ∀ x, (E.f x).all Value.oneCell' = true) (hn : n ≠ 0) (hn2 : len + n ≤ 1000000) (hgt : cap < len + n)
    (hs : h.get s = none) (hw : pw s) (hwp : ∀ m o sp, p = some ⟨m, o, sp⟩ → ∃ c t f g, h.get m = some (.cells c t (f, g)) ∧ (sp.isSome || Nat.beq f 0) = true) {k : Value → Nat → AM}
    (hk : ∀ h2 : T, h2.get s = some (.cells ⟨(l ++ l2).flatMap E.f⟩ el (E.z + 1, 0)) → (∀ n, n ≠ s → h2.get n = h.get n) → (k (.slice (some ⟨s, 0, none⟩) (len + n) (len + n)) (s + 1)).wp pw Z h2) :
    (apS el E.z p len cap q n c k s).wp pw Z h := by
  have hle := r.le
  unfold apS
  rw [show Nat.ble (len + n) 1000000 = true by rw [Nat.ble_eq]; omega, show Nat.ble len cap = true by rw [Nat.ble_eq]; omega, show Nat.beq n 0 = false from beq_no hn, show Nat.ble (len + n) cap = false by rw [← Bool.not_eq_true, Nat.ble_eq]; omega]
  simp only [Bool.and_self, cond_true, cond_false]
  have hc2 := r2.2
  have hl2 := hc2.1
  have ho2 := flat_one h1 l2
  have hp0 := E.pos
  cases p with
  | none =>
    have hc := r.non rfl
    obtain rfl : len = 0 := by omega
    have hl : l = [] := List.eq_nil_of_length_eq_zero r.row.1
    subst hl
    dsimp only
    rw [wp_first hn E.pos hc2, hl2, beq_yes]
    simp only [show Nat.beq 0 0 = true from rfl, Bool.and_self, cond_true]
    unfold agrown
    rw [wp_anew, hs]
    exact ⟨hw, hk _ (by rw [get_eq]; rfl) fun n h2 => get_ne (Ne.symm h2)⟩
  | some a =>
    obtain ⟨m, o, sp⟩ := a
    dsimp only
    rw [wp_first hn E.pos hc2, hl2, beq_yes, ho2]
    simp only [Bool.and_self, cond_true]
    obtain ⟨cs, t, f, g, hg, hx⟩ := hwp m o sp rfl
    have hold : ((cs.toList.drop o).take (len * E.z)) = l.flatMap E.f := by
      rcases r.row.2.2 with h0 | ⟨_, c', t', f', h3, h4⟩
      · rw [h0, List.take_zero]
        have : l = [] := List.eq_nil_of_length_eq_zero (by rw [r.row.1]; exact (Nat.mul_eq_zero.1 h0).resolve_right (by omega))
        rw [this]; rfl
      · have h3 : h.get m = some (.cells c' t' f') := h3
        rw [hg] at h3
        cases h3
        exact h4
    rw [wp_cells, hg]
    dsimp only
    rw [hold]
    refine ⟨r.row.2.1, ?_⟩
    unfold akill
    rw [wp_get, hg]
    dsimp only
    unfold agrown
    rw [hx]
    simp only [cond_true]
    rw [wp_anew, hs]
    exact ⟨hw, hk _ (by rw [get_eq, List.flatMap_append]) fun n h2 => get_ne (Ne.symm h2)⟩
end
end
end Go.Ev

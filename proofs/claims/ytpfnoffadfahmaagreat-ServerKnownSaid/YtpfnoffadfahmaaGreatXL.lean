/- Arguments: the rows that they lie on, read only, in the first heap of names. No condition. -/
import Derived.Test.YtpfnoffadfahmaaGreatXU
namespace Go.Ev
open Go Go.RowKit
set_option linter.unusedVariables false
set_option linter.unusedSimpArgs false

/-- Nothing but rows that were there before. -/
structure LaySt (σ : Emb) (h : T) (s : Nat) (w : World) : Prop where
  st : St σ w h w
  fresh : ∀ n, s ≤ n → h.get n = none
  ro : ∀ n o, h.get n = some o → ro o = true
  pos : 1 ≤ s
theorem LaySt.start (w : World) : LaySt (fun _ => none) .nil 1 w := ⟨St.start w, fun _ _ => rfl, fun _ _ e => (by cases e), Nat.le_refl _⟩
/-- More names. -/
def T.sub (h h' : T) : Prop := ∀ n o, h.get n = some o → h'.get n = some o
theorem T.sub.refl (h : T) : h.sub h := fun _ _ e => e
theorem T.sub.trans {a b c : T} (x : a.sub b) (y : b.sub c) : a.sub c := fun n o e => y n o (x n o e)
/-- What keeps where there are more names. -/
def Keeps (Q : T → List Value → Prop) : Prop := ∀ h h' cs, h.sub h' → Q h cs → Q h' cs
/-- Cells can be told over names. -/
def CanLay (w : World) (cs : List Value) (Q : T → List Value → Prop) : Prop :=
  ∀ σ h s, LaySt σ h s w → ∃ σ' h' s' cs', LaySt σ' h' s' w ∧ σ.le σ' ∧ s ≤ s' ∧ h.sub h' ∧ VRs σ' cs' cs ∧ Q h' cs'
theorem CanLay.mono {w : World} {cs : List Value} {Q R : T → List Value → Prop} (h : CanLay w cs Q) (hQ : ∀ h c, Q h c → R h c) : CanLay w cs R := by
  intro σ g s l
  obtain ⟨σ', h', s', cs', a, b, c, d, e, f⟩ := h σ g s l
  exact ⟨σ', h', s', cs', a, b, c, d, e, hQ _ _ f⟩
theorem CanLay.same {w : World} {cs : List Value} (h : ∀ σ, VRs σ cs cs) : CanLay w cs (fun _ c => c = cs) := fun σ g s l => ⟨σ, g, s, cs, l, .refl _, Nat.le_refl _, .refl _, h σ, rfl⟩
theorem CanLay.append {w : World} {a b : List Value} {Q R : T → List Value → Prop} (ha : CanLay w a Q) (hQ : Keeps Q) (hb : CanLay w b R) : CanLay w (a ++ b) (fun h c => ∃ x y, c = x ++ y ∧ Q h x ∧ R h y) := by
  intro σ g s l
  obtain ⟨σ1, h1, s1, c1, a1, b1, d1, e1, f1, g1⟩ := ha σ g s l
  obtain ⟨σ2, h2, s2, c2, a2, b2, d2, e2, f2, g2⟩ := hb σ1 h1 s1 a1
  exact ⟨σ2, h2, s2, c1 ++ c2, a2, b1.trans b2, Nat.le_trans d1 d2, e1.trans e2, (f1.mono b2).append f2, c1, c2, rfl, hQ _ _ _ e2 g1, g2⟩
theorem CanLay.many {w : World} {f : Nat → List Value} {Q : Nat → T → List Value → Prop} (hQ : ∀ i, Keeps (Q i)) : ∀ (n : Nat), (∀ i, i < n → CanLay w (f i) (Q i)) →
    CanLay w ((List.range n).flatMap f) (fun h c => ∃ L : List (List Value), L.length = n ∧ c = L.flatten ∧ ∀ i x, L[i]? = some x → x.length = (f i).length ∧ Q i h x)
  | 0, _ => fun σ g s l => ⟨σ, g, s, [], l, .refl _, Nat.le_refl _, .refl _, .nil, [], rfl, rfl, fun i x e => by simp at e⟩
  | n + 1, h => by
    intro σ g s l
    obtain ⟨σ1, h1, s1, c1, a1, b1, d1, e1, f1, L, hL, rfl, hq⟩ := CanLay.many hQ n (fun i hi => h i (by omega)) σ g s l
    obtain ⟨σ2, h2, s2, c2, a2, b2, d2, e2, f2, g2⟩ := h n (by omega) σ1 h1 s1 a1
    refine ⟨σ2, h2, s2, L.flatten ++ c2, a2, b1.trans b2, Nat.le_trans d1 d2, e1.trans e2, ?_, L ++ [c2], by simp [hL], by simp, fun i x hx => ?_⟩
    · rw [List.range_succ, List.flatMap_append]
      refine (f1.mono b2).append ?_
      simpa using f2
    · rcases Nat.lt_or_ge i n with hi | hi
      · rw [List.getElem?_append_left (by omega)] at hx
        exact ⟨(hq i x hx).1, hQ i _ _ _ e2 (hq i x hx).2⟩
      · have hin : i = n := by
          have := (List.getElem?_eq_some_iff.1 hx).1
          simp at this; omega
        subst hin
        rw [List.getElem?_append_right (by omega), hL, Nat.sub_self] at hx
        simp at hx
        subst hx
        exact ⟨f2.length.symm, g2⟩
/-- A row that was there before. -/
theorem LaySt.row {σ : Emb} {h : T} {s : Nat} {w : World} (l : LaySt σ h s w) {b o : Nat} {cs : Array Value} {t : TypeId} {fr : Nat × Nat} (hb : w.heap[b]? = some (.cells cs t fr)) {c : List Value} {c' : List Value} (hc : VRs σ c c') (hin : o + c'.length ≤ cs.size) (hat : ∀ (i : Nat) (x : Value), c'[i]? = some x → cs[o + i]? = some x) :
    LaySt (σ.ext s ⟨b, o, none⟩) (h.set s (.cells ⟨c⟩ 0 (0, 1))) (s + 1) w ∧ σ.le (σ.ext s ⟨b, o, none⟩) ∧ h.sub (h.set s (.cells ⟨c⟩ 0 (0, 1))) := by
  have hlen := hc.length
  have hσ : σ s = none := l.st.hr.fresh (l.fresh s (Nat.le_refl _))
  have hle := Emb.ext_le (σ := σ) (n := s) ⟨b, o, none⟩ hσ
  have hsub : h.sub (h.set s (.cells ⟨c⟩ 0 (0, 1))) := fun n x e => by
    by_cases hn : s = n
    · subst hn; rw [l.fresh s (Nat.le_refl _)] at e; cases e
    · rw [get_ne hn]; exact e
  have hro : ∀ n x, (h.set s (.cells ⟨c⟩ 0 (0, 1))).get n = some x → Go.Ev.ro x = true := fun n x e => by
    by_cases hn : s = n
    · subst hn; rw [get_eq] at e; cases e; rfl
    · rw [get_ne hn] at e; exact l.ro n x e
  refine ⟨⟨⟨⟨?_, ?_, ?_, Nat.le_refl _⟩, .refl _ _⟩, fun n hn => by rw [get_ne (by omega)]; exact l.fresh n (by omega), hro, by have := l.pos; omega⟩, hle, hsub⟩
  · intro n e hn
    by_cases hsn : s = n
    · subst hsn; exact ⟨_, get_eq⟩
    · have : σ n = some e := by simpa [Emb.ext, Ne.symm hsn] using hn
      obtain ⟨x, hx⟩ := l.st.hr.dom n e this
      exact ⟨x, hsub n x hx⟩
  · intro n x hx
    by_cases hsn : s = n
    · subst hsn
      rw [get_eq] at hx; cases hx
      refine ⟨_, Emb.ext_same _ _ _, fun _ => ?_, ?_⟩
      · exact lt_of_get? hb
      · refine ⟨cs, t, fr, hb, ?_, fun i x hx => ?_, fun hh => (by cases hh), Nat.le_refl _, fun _ _ _ hh => (by cases hh), rfl⟩
        · show o + c.length ≤ cs.size
          omega
        · have hx : c[i]? = some x := by simpa using hx
          obtain ⟨x', h1, h2⟩ := hc.get i x hx
          exact ⟨x', hat i x' h1, h2.mono hle⟩
    · rw [get_ne hsn] at hx
      obtain ⟨e, h1, h2, h3⟩ := l.st.hr.ob n x hx
      exact ⟨e, hle _ _ h1, h2, h3.mono hle⟩
  · intro n m x y e f hnm hx hy _ _ hxy
    rw [hro n x hx, hro m y hy] at hxy
    cases hxy
/-- A list's cells, read. -/
def RowQ (len cap : Nat) (Q : Nat → T → List Value → Prop) (z : Nat) (h : T) (c : List Value) : Prop :=
  ∃ (p : Option Addr) (L : List (List Value)), c = [.slice p len cap] ∧ L.length = cap ∧ ((p = none → len = 0 ∧ cap = 0) ∧ (cap = 0 → p = none ∨ p = some ⟨0, 0, some 0⟩)) ∧ (cap ≠ 0 → ∃ n, p = some ⟨n, 0, none⟩ ∧ h.get n = some (.cells ⟨L.flatten⟩ 0 (0, 1))) ∧ ∀ i x, L[i]? = some x → x.length = z ∧ Q i h x
theorem RowQ.keeps {len cap : Nat} {Q : Nat → T → List Value → Prop} {z : Nat} (hQ : ∀ i, Keeps (Q i)) : Keeps (RowQ len cap Q z) := by
  rintro h h' c hs ⟨p, L, a, b, hp, d, e⟩
  exact ⟨p, L, a, b, hp, fun h0 => (d h0).imp fun n hn => ⟨hn.1, hs _ _ hn.2⟩, fun i x hx => ⟨(e i x hx).1, hQ i _ _ _ hs (e i x hx).2⟩⟩
theorem RowQ.p0 {len cap : Nat} {Q : Nat → T → List Value → Prop} {z : Nat} {h : T} {p : Option Addr} {len' cap' : Nat} (r : RowQ len cap Q z h [.slice p len' cap']) : cap' = 0 → p = none ∨ p = some ⟨0, 0, some 0⟩ := by
  obtain ⟨p', L, e, -, ⟨-, h0⟩, -⟩ := r
  cases e
  exact h0
theorem CanLay.nil {w : World} {Q : Nat → T → List Value → Prop} {z : Nat} : CanLay w [.slice none 0 0] (RowQ 0 0 Q z) := fun σ g s l =>
  ⟨σ, g, s, _, l, .refl _, Nat.le_refl _, .refl _, .cons .sliceNil .nil, none, [], rfl, rfl, ⟨fun _ => ⟨rfl, rfl⟩, fun _ => .inl rfl⟩, fun h => absurd rfl h, fun i x e => by simp at e⟩
theorem cell_at {w : World} {a : Addr} {v : Value} (h : w.cell? a = some v) : a.spot = none ∧ ∃ c t fr, w.heap[a.block]? = some (.cells c t fr) ∧ c[a.off]? = some v := by
  unfold World.cell? at h
  split at h
  · rename_i c t fr hc
    split at h
    · cases h
    · rename_i hs
      exact ⟨by simpa using hs, c, t, fr, hc, h⟩
  · cases h
theorem flat_at {f : Nat → List Value} {z : Nat} : ∀ {n : Nat}, (∀ i, i < n → (f i).length = z) → ((List.range n).flatMap f).length = n * z ∧ ∀ (k : Nat) (x : Value), ((List.range n).flatMap f)[k]? = some x → ∃ i j, i < n ∧ j < z ∧ k = i * z + j ∧ (f i)[j]? = some x
  | 0, _ => ⟨by simp, fun k x e => by simp at e⟩
  | n + 1, h => by
    obtain ⟨hl, ih⟩ := flat_at (f := f) (z := z) (n := n) (fun i hi => h i (by omega))
    have hn := h n (by omega)
    rw [List.range_succ, List.flatMap_append]
    refine ⟨by simp [hl, hn, Nat.succ_mul], fun k x e => ?_⟩
    rcases Nat.lt_or_ge k (n * z) with hk | hk
    · rw [List.getElem?_append_left (by omega)] at e
      obtain ⟨i, j, a, b, c, d⟩ := ih k x e
      exact ⟨i, j, by omega, b, c, d⟩
    · rw [List.getElem?_append_right (by omega), hl] at e
      have e : (f n)[k - n * z]? = some x := by simpa using e
      have := (List.getElem?_eq_some_iff.1 e).1
      exact ⟨n, k - n * z, by omega, by omega, by omega, e⟩
/-- A list. -/
theorem CanLay.slice {w : World} {a : Addr} {len cap z : Nat} (hz : 0 < z) {f : Nat → List Value} {Q : Nat → T → List Value → Prop} (hQ : ∀ i, Keeps (Q i)) (hl : len ≤ cap) (hf : ∀ i, i < cap → (f i).length = z) (hc : ∀ i j, i < cap → j < z → w.cell? (a.add (i * z + j)) = (f i)[j]?)
    (hq : ∀ i, i < cap → CanLay w (f i) (Q i)) : CanLay w [.slice (some a) len cap] (RowQ len cap Q z) := by
  intro σ g s l
  by_cases h0 : cap = 0
  · subst h0
    obtain rfl : len = 0 := by omega
    exact ⟨σ, g, s, _, l, .refl _, Nat.le_refl _, .refl _, .cons (.slice0 ⟨0, 0, some 0⟩ a) .nil, some ⟨0, 0, some 0⟩, [], rfl, rfl, ⟨fun h => (by cases h), fun _ => .inr rfl⟩, fun h => absurd rfl h, fun i x e => by simp at e⟩
  · obtain ⟨σ1, h1, s1, c1, a1, b1, d1, e1, f1, L, hL, rfl, hLq⟩ := CanLay.many (w := w) (f := f) hQ cap hq σ g s l
    obtain ⟨hfl, hfa⟩ := flat_at (f := f) (z := z) hf
    have hcell : ∀ i j, i < cap → j < z → ∃ v, w.cell? (a.add (i * z + j)) = some v ∧ (f i)[j]? = some v := fun i j hi hj => by
      have : (f i)[j]? = some ((f i)[j]'(by rw [hf i hi]; exact hj)) := List.getElem?_eq_getElem _
      exact ⟨_, (hc i j hi hj).trans this, this⟩
    obtain ⟨v0, hv0, -⟩ := hcell 0 0 (by omega) hz
    have ha : a.add (0 * z + 0) = a := by simp [Addr.add]
    rw [ha] at hv0
    obtain ⟨hsp, cs, t, fr, hcs, -⟩ := cell_at hv0
    obtain ⟨b, o, q⟩ := a
    obtain rfl : q = none := hsp
    have hadd : ∀ k, (Addr.mk b o none).add k = ⟨b, o + k, none⟩ := fun k => by
      by_cases hk : k = 0
      · subst hk; rfl
      · simp [Addr.add, hk]
    have hat : ∀ (k : Nat) (x : Value), ((List.range cap).flatMap f)[k]? = some x → cs[o + k]? = some x := fun k x e => by
      obtain ⟨i, j, hi, hj, rfl, hx⟩ := hfa k x e
      have h2 := hc i j hi hj
      rw [hx, hadd] at h2
      obtain ⟨-, cs', t', fr', h3, h4⟩ := cell_at h2
      rw [hcs] at h3
      cases h3
      exact h4
    have hsz : o + ((List.range cap).flatMap f).length ≤ cs.size := by
      have hpos : 0 < ((List.range cap).flatMap f).length := by rw [hfl]; exact Nat.mul_pos (by omega) hz
      have := (Array.getElem?_eq_some_iff.1 (hat (((List.range cap).flatMap f).length - 1) _ (List.getElem?_eq_getElem (by omega)))).1
      omega
    obtain ⟨r1, r2, r3⟩ := a1.row hcs f1 hsz hat
    refine ⟨_, _, s1 + 1, [.slice (some ⟨s1, 0, none⟩) len cap], r1, b1.trans r2, by omega, e1.trans r3, .cons ?_ .nil, some ⟨s1, 0, none⟩, L, rfl, hL, ⟨fun h => (by cases h), fun h => absurd h h0⟩, fun _ => ⟨s1, rfl, get_eq⟩, fun i x hx => ?_⟩
    · exact VR.slice s1 0 len cap ⟨b, o, none⟩ cap (Emb.ext_same _ _ _) rfl (.inl rfl)
    · have hi : i < cap := by rw [← hL]; exact (List.getElem?_eq_some_iff.1 hx).1
      exact ⟨(hLq i x hx).1.trans (hf i hi), hQ i _ _ _ r3 (hLq i x hx).2⟩
section
variable {α : Type} {E : Enc α}
theorem Enc.flat_take (E : Enc α) : ∀ (l : List α) (k : Nat), (l.flatMap E.f).take (k * E.z) = (l.take k).flatMap E.f
  | [], k => by simp
  | x :: l, 0 => by simp
  | x :: l, k + 1 => by
    rw [List.flatMap_cons, List.take_append, show (k + 1) * E.z = E.z + k * E.z by rw [Nat.add_mul]; omega, E.len, List.take_of_length_le (by rw [E.len]; omega), Nat.add_sub_cancel_left, Enc.flat_take E l k, List.take_succ_cons, List.flatMap_cons]
theorem Row.take {h : T} {p : Option Addr} {len : Nat} {l : List α} (r : Row E h p len l) {k : Nat} (hk : k ≤ len) : Row E h p k (l.take k) := by
  have hl : (l.take k).length = k := by rw [List.length_take, r.1]; omega
  refine ⟨hl, by rw [E.flat_length, hl], ?_⟩
  have hkz : k * E.z ≤ len * E.z := Nat.mul_le_mul_right _ hk
  rcases r.2.2 with h0 | ⟨hp, c, t, f, h1, h2⟩
  · left; omega
  · refine .inr ⟨hp, c, t, f, h1, ?_⟩
    rw [← E.flat_take, ← h2, List.take_take, Nat.min_eq_left hkz]
/-- Elements read one after the other. -/
theorem choose_row {f : α → List Value} {Q : α → Prop} : ∀ (L : List (List Value)), (∀ c ∈ L, ∃ x, c = f x ∧ Q x) → ∃ l : List α, l.length = L.length ∧ L.flatten = l.flatMap f ∧ ∀ x ∈ l, Q x
  | [], _ => ⟨[], rfl, rfl, fun x h => by simp at h⟩
  | c :: L, h => by
    obtain ⟨x, hx, hQx⟩ := h c (List.mem_cons_self ..)
    obtain ⟨l, h1, h2, h3⟩ := choose_row L (fun c hc => h c (List.mem_cons_of_mem _ hc))
    exact ⟨x :: l, by simp [h1], by simp [hx, h2], fun y hy => by
      rcases List.mem_cons.1 hy with rfl | hy
      · exact hQx
      · exact h3 y hy⟩
/-- A list's cells as a row. -/
theorem RowQ.row {len cap : Nat} {Q : Nat → T → List Value → Prop} {h : T} {c : List Value} {R : α → Prop} (r : RowQ len cap Q E.z h c) (hl : len ≤ cap) (hQ : ∀ i c, Q i h c → ∃ x, c = E.f x ∧ R x) :
    ∃ (p : Option Addr) (l : List α), c = [.slice p len cap] ∧ Row E h p len l ∧ (p = none → len = 0 ∧ cap = 0) ∧ ∀ x ∈ l, R x := by
  obtain ⟨p, L, rfl, hL, ⟨hp, -⟩, hg, he⟩ := r
  obtain ⟨l, h1, h2, h3⟩ := choose_row (f := E.f) (Q := R) L (fun c hc => by
    obtain ⟨i, hi⟩ := List.getElem?_of_mem hc
    exact hQ i c (he i c hi).2)
  refine ⟨p, l.take len, rfl, ?_, hp, fun x hx => h3 x (List.mem_of_mem_take hx)⟩
  by_cases h0 : cap = 0
  · obtain rfl : len = 0 := by omega
    rw [List.take_zero]
    exact .nil _ _
  · obtain ⟨n, rfl, hn⟩ := hg h0
    refine Row.take (len := cap) (.of_cells (by rw [hn, h2]) (by rw [h1, hL])) hl
end
/-- **A call with arguments, told by functions as terms.** -/
theorem calls_wp {P : Program} [Known P] {N : Nat} (hmx : P.follows .mixedOrders = true) {t : FT} (ht : FT.OK P N t) (hkt : KnT P t) (hz : P.funcs[1000000]? = none) (hb : t.under P.funcs.size = true) {g d : Nat} (hg : g ≠ 1000000)
    {σ : Emb} {h : T} {s : Nat} {w : World} (l : LaySt σ h s w) {args : List Value} {args' : Array Value} (ha : VRs σ args args'.toList) {pw : Nat → Prop}
    (e : (deepF (tabF t) d g args (fun v _ => .ret v) s).wp pw (fun v _ => v = .bool true) h) (hkt2 : KnT2 P t := by intro f h; exact absurd (show false = true from h) (by decide)) (hg2 : Known.k2 P g = false := by rfl) : Calls P g args' w (fun q w' => q = .returned (.bool true) ∧ Below w.heap.size w w') := by
  obtain ⟨v, hE, ts, ws, hr, rfl, -⟩ := wp_runL _ _ _ _ e
  obtain ⟨J, hJ⟩ := tab_deep ht hkt hkt2 hz hb d
  have hr := hJ.call g hg args (fun v _ => .ret v) 0 [] (fun v _ => .ret v) s (fun v s => .refl _) _ _ _ _ (hr [] [])
  cases hkn : known P g args with
  | true =>
    obtain ⟨hk1, rfl⟩ := known_of hkn
    have hl := ha.length
    obtain rfl : args' = #[] := Array.eq_empty_of_size_eq_zero (by simpa using hl)
    exact Known.ok g hk1 w
  | false =>
  unfold entered askK at hr
  rw [hkn, hg2] at hr
  simp only [cond_false] at hr
  cases hen : AF.enter P g args .normal with
  | none => rw [hen] at hr; cases hr
  | some a =>
    rw [hen] at hr
    intro cs
    obtain ⟨v, s', h', e1, fE, v', w1, w', σ', steps, hl, le, st, hv, hfn⟩ := arun_spec (w0 := w) hmx _ a [] _ s σ h w (Frame.enter P g args' .normal) [] cs _ (FR.enter ha hen) .nil l.st (AM.run_of_runL _ _ _ _ _ hr)
    rw [AM.run_ret] at e1
    obtain ⟨rfl, rfl⟩ := Prod.mk.inj (Option.some.inj e1)
    cases hv
    have hfa : a.fn = g ∧ a.rnd = none := by
      unfold AF.enter at hen
      split at hen
      · split at hen
        · obtain rfl := Option.some.inj hen; exact ⟨rfl, rfl⟩
        · cases hen
      · cases hen
    obtain ⟨hl, rfl⟩ : fE.leaving P w1 (.returned (.bool true)) ∧ w' = w1 := hl.resolve_right fun hn => hn.1 hfa.2
    exact ⟨.returned (.bool true), w', fE, ⟨rfl, st.below⟩, steps, hfn.trans hfa.1, hl⟩
end Go.Ev

/- Bytes that were lent: a call that asks whether they are as they were, whose answer is known. No condition. -/
import Derived.Test.YtnffkmnjpnlleaaXO
namespace Go.Ev
open Go Go.RowKit
set_option linter.unusedVariables false
set_option linter.unusedSimpArgs false
/-- The blocks that are looked at. -/
def keptN : List Value → List Nat
  | [.slice (some a) _ _, .slice q _ e] => a.block :: (match q with
    | some b => if e = 0 then [] else [b.block]
    | none => [])
  | _ => []
/-- Bytes that lie in a row. -/
def InRow (o : Option Obj) (at_ : Nat) (l : List Int) : Prop := ∃ cs t fr, o = some (.cells cs t fr) ∧ ∀ (i : Nat) (x : Int), l[i]? = some x → cs[at_ + i]? = some (.int .u8 x)
/-- The first list holds what the second one does, and four more behind it. -/
def Kept (args : List Value) (os : List Obj) : Prop :=
  ∃ (m o : Nat) (q : Option Addr) (n e : Nat) (l : List Int), args = [.slice (some ⟨m, o, none⟩) n (n + 4), .slice q n e] ∧ l.length = n ∧ n ≤ 2000 ∧ n ≤ e ∧ InRow os[0]? o (l ++ [201, 202, 203, 204]) ∧
    (e = 0 ∧ (q = none ∨ q = some ⟨0, 0, some 0⟩) ∨ e ≠ 0 ∧ ∃ m2 o2 q2, q = some ⟨m2, o2, q2⟩ ∧ InRow os[1]? o2 l)
noncomputable def keptC (args : List Value) (os : List Obj) : Bool := @decide (Kept args os) (Classical.propDecidable _)
theorem keptC_of {args : List Value} {os : List Obj} (h : keptC args os = true) : Kept args os := @of_decide_eq_true _ (Classical.propDecidable _) h
theorem keptC_yes {args : List Value} {os : List Obj} (h : Kept args os) : keptC args os = true := @decide_eq_true _ (Classical.propDecidable _) h
noncomputable abbrev kept : CallT → List Value → (Value → Nat → AM) → Nat → AM := knH keptN keptC
/-- What such a call is told to answer. -/
theorem wp_kept {C : CallT} {args : List Value} {K : Value → Nat → AM} {s : Nat} {h : T} {pw : Nat → Prop} {Z : Value → T → Prop} {os : List Obj} (ha : args.all isSlc = true) (hr : readT h (keptN args) = some os) (hk : Kept args os) (w : (K (.bool true) s).wp pw Z h) : (kept C args K s).wp pw Z h := by
  unfold kept knH
  rw [ha]
  simp only [cond_true]
  have go : ∀ (l : List Nat) (os os0 : List Obj) (q : List Obj → AM), readT h l = some os → (q os).wp pw Z h → (readA l q).wp pw Z h := by
    intro l
    induction l with
    | nil => intro os os0 q h1 h2; cases h1; exact h2
    | cons n l ih =>
      intro os os0 q h1 h2
      unfold readT at h1
      unfold readA
      rw [wp_get]
      cases hn : h.get n with
      | none => rw [hn] at h1; cases h1
      | some o =>
        rw [hn] at h1
        cases hl : readT h l with
        | none => rw [hl] at h1; cases h1
        | some os2 =>
          rw [hl] at h1
          cases h1
          exact ih os2 os0 _ hl h2
  refine go _ os os _ hr ?_
  rw [keptC_yes hk]
  exact w
/-- What stands in the model's world. -/
theorem InRow.world {σ : Emb} {w0 : World} {h : T} {w : World} (st : St σ w0 h w) {m at_ : Nat} {l : List Int} {en : En} (he : σ m = some en) (r : InRow (h.get m) at_ l) :
    ∃ cs t fr, w.heap[en.blk]? = some (.cells cs t fr) ∧ (l ≠ [] → en.shift + at_ + l.length ≤ cs.size) ∧ ∀ (i : Nat) (x : Int), l[i]? = some x → cs[en.shift + at_ + i]? = some (.int .u8 x) := by
  obtain ⟨cs, t, fr, h1, h3⟩ := r
  obtain ⟨-, cs', t', fr', g1, g2, g3, -, g5, -, -⟩ := st.row h1 he
  have key : ∀ (i : Nat) (x : Int), l[i]? = some x → cs'[en.shift + at_ + i]? = some (.int .u8 x) := fun i x hx => by
    obtain ⟨x', h4, h5⟩ := g3 _ _ (h3 i x hx)
    cases h5
    rw [Nat.add_assoc]; exact h4
  refine ⟨cs', t', fr', g1, fun hne => ?_, key⟩
  have hpos : 0 < l.length := List.length_pos_iff.2 hne
  have := (Array.getElem?_eq_some_iff.1 (key (l.length - 1) _ (List.getElem?_eq_getElem (by omega)))).1
  omega
/-- **It is known, if the function answers so over rows that are laid anew.** -/
theorem kept_ok {P : Program} {f : FuncId} (hf : ∀ (w : World) (σ : Emb) (h : T) (s : Nat) (args : List Value) (args' : Array Value), LaySt σ h s w → VRs σ args args'.toList →
      (∃ (r : Nat) (q : Option Addr) (n e cap : Nat) (l : List Int), args = [.slice (some ⟨r, 0, none⟩) n cap, .slice q n e] ∧ l.length = n ∧ n ≤ 2000 ∧ n + 4 ≤ cap ∧ h.get r = some (.cells ⟨(l ++ [201, 202, 203, 204]).map (.int .u8 ·)⟩ 0 (0, 1)) ∧
        (n = 0 ∨ ∃ r2, q = some ⟨r2, 0, none⟩ ∧ h.get r2 = some (.cells ⟨l.map (.int .u8 ·)⟩ 0 (0, 1)))) →
      Calls P f args' w (fun q w' => q = .returned (.bool true) ∧ Below w.heap.size w w'))
    (σ : Emb) (w0 : World) (h : T) (w : World) (args : List Value) (args' : Array Value) (os : List Obj) (st : St σ w0 h w) (ha : VRs σ args args'.toList) (hr : readT h (keptN args) = some os) (hc : keptC args os = true) : Calls P f args' w (fun q w' => q = .returned (.bool true) ∧ Below w.heap.size w w') := by
  obtain ⟨m, o, q, n, e, l, rfl, hl, hn, hne, hrow, hrest⟩ := keptC_of hc
  obtain ⟨L, hL⟩ : ∃ L, L = args'.toList := ⟨_, rfl⟩
  rw [← hL] at ha
  cases ha with
  | cons hk ha =>
  cases ha with
  | cons hw ha =>
  cases ha
  have vrs : ∀ {σ : Emb} (l : List Int), VRs σ (l.map (.int .u8 ·)) (l.map (.int .u8 ·)) := by
    intro σ l
    induction l with
    | nil => exact .nil
    | cons x l ih => exact .cons (.int _ _) ih
  cases hk with
  | slice _ _ _ _ en cap' he hcap hq =>
    -- the blocks that were read
    have hcap' : n + 4 ≤ cap' := by
      unfold capOk at hcap
      split at hcap
      · omega
      · rcases hcap.1 with h | h <;> omega
    have hm : h.get m = os[0]? ∧ (∀ m2 o2 q2, q = some ⟨m2, o2, q2⟩ → e ≠ 0 → h.get m2 = os[1]?) := by
      unfold keptN readT at hr
      dsimp only at hr
      cases hgm : h.get m with
      | none => rw [hgm] at hr; cases hr
      | some om =>
        rw [hgm] at hr
        cases q with
        | none => cases hr; exact ⟨rfl, fun _ _ _ h => (by cases h)⟩
        | some b =>
          dsimp only at hr
          by_cases he0 : e = 0
          · rw [if_pos he0] at hr; cases hr; exact ⟨rfl, fun _ _ _ _ h => absurd he0 h⟩
          · rw [if_neg he0] at hr
            unfold readT at hr
            cases hgb : h.get b.block with
            | none => rw [hgb] at hr; cases hr
            | some ob =>
              rw [hgb] at hr
              cases hr
              exact ⟨rfl, fun m2 o2 q2 h _ => by cases h; exact hgb⟩
    rw [← hm.1] at hrow
    obtain ⟨cs, t, fr, w1, w2, w3⟩ := hrow.world st he
    have lay0 := LaySt.start w
    obtain ⟨lay1, le1, sub1⟩ := lay0.row (o := en.shift + o) w1 (vrs (l ++ [201, 202, 203, 204])) (by simpa using w2 (by simp)) (fun i x hx => by
      rw [List.getElem?_map] at hx
      obtain ⟨y, hy, rfl⟩ := Option.map_eq_some_iff.1 hx
      exact w3 i y hy)
    have e1 : (Emb.ext (fun _ => none) 1 ⟨en.blk, en.shift + o, none⟩) 1 = some ⟨en.blk, en.shift + o, none⟩ := Emb.ext_same _ _ _
    have g1 : (T.nil.set 1 (.cells ⟨(l ++ [201, 202, 203, 204]).map (.int .u8 ·)⟩ 0 (0, 1))).get 1 = some (.cells ⟨(l ++ [201, 202, 203, 204]).map (.int .u8 ·)⟩ 0 (0, 1)) := get_eq
    have k1 : VR (Emb.ext (fun _ => none) 1 ⟨en.blk, en.shift + o, none⟩) (.slice (some ⟨1, 0, none⟩) n cap') (.slice (some ⟨en.blk, en.shift + o, none⟩) n cap') := VR.slice 1 0 n cap' ⟨en.blk, en.shift + o, none⟩ cap' e1 rfl (.inl rfl)
    rcases hrest with ⟨rfl, hq0⟩ | ⟨he0, m2, o2, q2, rfl, hrow2⟩
    · -- nothing was there
      obtain rfl : n = 0 := by omega
      have done : ∀ (v' : Value), VR (Emb.ext (fun _ => none) 1 ⟨en.blk, en.shift + o, none⟩) (.slice q 0 0) v' → args'.toList = [.slice (some ⟨en.blk, en.shift + o, none⟩) 0 cap', v'] → Calls P f args' w (fun q w' => q = .returned (.bool true) ∧ Below w.heap.size w w') := fun v' hv' hL' =>
        hf w _ _ _ [.slice (some ⟨1, 0, none⟩) 0 cap', .slice q 0 0] args' lay1 (by rw [hL']; exact .cons k1 (.cons hv' .nil)) ⟨1, q, 0, 0, cap', l, rfl, hl, hn, hcap', g1, .inl rfl⟩
      rcases hq0 with rfl | rfl
      · cases hw
        exact done _ .sliceNil hL.symm
      · cases hw with
        | slice0 a a' => exact done _ (.slice0 _ _) hL.symm
        | slice _ _ _ _ en2 cap2 h2 hc2 hq2 =>
          rcases hq2 with h | h
          · cases h
          · subst h; exact done _ (.slice0 _ _) hL.symm
    · have hgm2 := hm.2 _ _ _ rfl he0
      rw [← hgm2] at hrow2
      cases hw with
      | slice0 a a' => exact absurd rfl he0
      | slice _ _ _ _ en2 cap2 h2 hc2 hq2 =>
        obtain ⟨cs2, t2, fr2, x1, x2, x3⟩ := hrow2.world st h2
        by_cases hn0 : n = 0
        · subst hn0
          obtain ⟨lay2, le2, sub2⟩ := lay1.row (o := 0) x1 (vrs []) (by simp) (fun i x hx => by simp at hx)
          have k2 := VR.slice (σ := (Emb.ext (fun _ => none) 1 ⟨en.blk, en.shift + o, none⟩).ext (1 + 1) ⟨en2.blk, 0, none⟩) (1 + 1) (en2.shift + o2) 0 cap2 ⟨en2.blk, 0, none⟩ cap2 (Emb.ext_same _ _ _) rfl (q := none) (.inl rfl)
          rw [show (⟨en2.blk, 0, none⟩ : En).shift + (en2.shift + o2) = en2.shift + o2 from Nat.zero_add _] at k2
          exact hf w _ _ _ [.slice (some ⟨1, 0, none⟩) 0 cap', .slice (some ⟨1 + 1, en2.shift + o2, none⟩) 0 cap2] args' lay2 (by rw [← hL]; exact .cons (k1.mono le2) (.cons k2 .nil)) ⟨1, some ⟨1 + 1, _, none⟩, 0, cap2, cap', l, rfl, hl, hn, hcap', sub2 _ _ g1, .inl rfl⟩
        obtain ⟨lay2, le2, sub2⟩ := lay1.row (o := en2.shift + o2) x1 (vrs l) (by simpa using x2 (fun e => hn0 (by rw [← hl, e]; rfl))) (fun i x hx => by
          rw [List.getElem?_map] at hx
          obtain ⟨y, hy, rfl⟩ := Option.map_eq_some_iff.1 hx
          exact x3 i y hy)
        have k2 := VR.slice (σ := (Emb.ext (fun _ => none) 1 ⟨en.blk, en.shift + o, none⟩).ext (1 + 1) ⟨en2.blk, en2.shift + o2, none⟩) (1 + 1) 0 n cap2 ⟨en2.blk, en2.shift + o2, none⟩ cap2 (Emb.ext_same _ _ _) rfl (q := none) (.inl rfl)
        exact hf w _ _ _ [.slice (some ⟨1, 0, none⟩) n cap', .slice (some ⟨1 + 1, 0, none⟩) n cap2] args' lay2 (by rw [← hL]; exact .cons (k1.mono le2) (.cons k2 .nil)) ⟨1, some ⟨1 + 1, 0, none⟩, n, cap2, cap', l, rfl, hl, hn, hcap', sub2 _ _ g1, .inr ⟨1 + 1, rfl, get_eq⟩⟩
end Go.Ev

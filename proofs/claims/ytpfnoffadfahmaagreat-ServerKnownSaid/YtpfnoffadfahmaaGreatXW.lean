/- What a term over a heap of names tells: a calculus. No condition. -/
import Derived.Test.YtpfnoffadfahmaaGreatXH
namespace Go.Ev
open Go Go.RowKit
set_option linter.unusedVariables false
set_option linter.unusedSimpArgs false

/-- It runs, writes names of pw alone, and what it comes to is of Z. -/
noncomputable def AM.wp (pw : Nat → Prop) (Z : Value → T → Prop) (m : AM) : T → Prop :=
  AM.rec (motive := fun _ => T → Prop)
    (fun v h => Z v h)
    (fun n _ ih h => match h.get n with | some o => ih o h | none => False)
    (fun n o _ ih h => pw n ∧ match h.get n with | some _ => ih (h.set n o) | none => False)
    (fun n o _ ih h => pw n ∧ match h.get n with | some _ => False | none => ih (h.set n o))
    (fun m _ _ ihk h => ∃ v h' ts ws, m.runL h [] [] = some ⟨v, h', ts, ws⟩ ∧ (∀ n ∈ ws, pw n) ∧ ihk v ts ws h')
    (fun _ => False) m

section
variable {pw : Nat → Prop} {Z : Value → T → Prop} {h : T}
theorem wp_ret (v : Value) : (AM.ret v).wp pw Z h = Z v h := rfl
theorem wp_get (n : Nat) (k : Obj → AM) : (AM.get n k).wp pw Z h = match h.get n with | some o => (k o).wp pw Z h | none => False := rfl
theorem wp_put (n : Nat) (o : Obj) (k : AM) : (AM.put n o k).wp pw Z h = (pw n ∧ match h.get n with | some _ => k.wp pw Z (h.set n o) | none => False) := rfl
theorem wp_new (n : Nat) (o : Obj) (k : AM) : (AM.new n o k).wp pw Z h = (pw n ∧ match h.get n with | some _ => False | none => k.wp pw Z (h.set n o)) := rfl
theorem wp_log0 (m : AM) (k : Value → List Nat → List Nat → AM) : (AM.log m k).wp pw Z h = ∃ v h' ts ws, m.runL h [] [] = some ⟨v, h', ts, ws⟩ ∧ (∀ n ∈ ws, pw n) ∧ (k v ts ws).wp pw Z h' := rfl
theorem wp_fail : AM.fail.wp pw Z h = False := rfl
end

/-- Such a run, told. -/
theorem wp_runL (pw : Nat → Prop) (Z : Value → T → Prop) (m : AM) : ∀ h : T, m.wp pw Z h → ∃ v h' ts' ws', (∀ ts ws, m.runL h ts ws = some ⟨v, h', ts' ++ ts, ws' ++ ws⟩) ∧ Z v h' ∧ ∀ n ∈ ws', pw n := by
  induction m with
  | ret v => exact fun h e => ⟨v, h, [], [], fun ts ws => rfl, e, fun n hn => by cases hn⟩
  | get n k ih =>
    intro h e
    rw [wp_get] at e
    split at e
    · rename_i o ho
      obtain ⟨v, h', ts', ws', r, z, p⟩ := ih o h e
      exact ⟨v, h', ts' ++ [n], ws', fun ts ws => by rw [AM.runL_get, ho]; simpa using r (n :: ts) ws, z, p⟩
    · exact e.elim
  | put n o k ih =>
    intro h e
    rw [wp_put] at e
    obtain ⟨hp, e⟩ := e
    split at e
    · rename_i o' ho
      obtain ⟨v, h', ts', ws', r, z, p⟩ := ih _ e
      refine ⟨v, h', ts' ++ [n], ws' ++ [n], fun ts ws => by rw [AM.runL_put, ho]; simpa using r (n :: ts) (n :: ws), z, fun i hi => ?_⟩
      rcases List.mem_append.1 hi with hi | hi
      · exact p i hi
      · simp at hi; subst hi; exact hp
    · exact e.elim
  | new n o k ih =>
    intro h e
    rw [wp_new] at e
    obtain ⟨hp, e⟩ := e
    split at e
    · exact e.elim
    · rename_i ho
      obtain ⟨v, h', ts', ws', r, z, p⟩ := ih _ e
      refine ⟨v, h', ts' ++ [n], ws' ++ [n], fun ts ws => by rw [AM.runL_new, ho]; simpa using r (n :: ts) (n :: ws), z, fun i hi => ?_⟩
      rcases List.mem_append.1 hi with hi | hi
      · exact p i hi
      · simp at hi; subst hi; exact hp
  | log m k _ ihk =>
    intro h e
    rw [wp_log0] at e
    obtain ⟨v, h1, ts1, ws1, r1, p1, e⟩ := e
    obtain ⟨u, h', ts', ws', r, z, p⟩ := ihk v ts1 ws1 h1 e
    refine ⟨u, h', ts' ++ ts1, ws' ++ ws1, fun ts ws => by rw [AM.runL_log, r1]; simpa using r (ts1 ++ ts) (ws1 ++ ws), z, fun i hi => ?_⟩
    rcases List.mem_append.1 hi with hi | hi
    · exact p i hi
    · exact p1 i hi
  | fail => exact fun h e => e.elim

theorem wp_mono {pw pw' : Nat → Prop} {Z Z' : Value → T → Prop} (m : AM) : ∀ h : T, m.wp pw Z h → (∀ n, pw n → pw' n) → (∀ v h, Z v h → Z' v h) → m.wp pw' Z' h := by
  induction m with
  | ret v => exact fun h e _ hz => hz v h e
  | get n k ih =>
    intro h e hp hz
    rw [wp_get] at e ⊢
    split at e
    · exact ih _ h e hp hz
    · exact e.elim
  | put n o k ih =>
    intro h e hp hz
    rw [wp_put] at e ⊢
    refine ⟨hp _ e.1, ?_⟩
    have e := e.2
    split at e
    · exact ih _ e hp hz
    · exact e.elim
  | new n o k ih =>
    intro h e hp hz
    rw [wp_new] at e ⊢
    refine ⟨hp _ e.1, ?_⟩
    have e := e.2
    split at e
    · exact e.elim
    · exact ih _ e hp hz
  | log m k _ ihk =>
    intro h e hp hz
    rw [wp_log0] at e ⊢
    obtain ⟨v, h1, ts1, ws1, r1, p1, e⟩ := e
    exact ⟨v, h1, ts1, ws1, r1, fun n hn => hp n (p1 n hn), ihk _ _ _ _ e hp hz⟩
  | fail => exact fun h e _ _ => e

/-- What a call comes to, from a heap of names below s. -/
def CallS (C : CallT) (f : Nat) (args : List Value) (h : T) (s : Nat) (W : Nat → Prop) (Q : Value → T → Nat → Prop) : Prop :=
  ∀ (K : Value → Nat → AM) (pw : Nat → Prop) (Z : Value → T → Prop), (∀ n, W n → pw n) → (∀ n, s ≤ n → pw n) → (∀ v h' s', s ≤ s' → Q v h' s' → (K v s').wp pw Z h') → (C f args K s).wp pw Z h
/-- The heap has grown. -/
structure Grow (s : Nat) (h h' : T) (s' : Nat) : Prop where
  keep : ∀ n, n < s → h'.get n = h.get n
  fresh : ∀ n, s' ≤ n → h'.get n = none
theorem Grow.refl {s : Nat} {h : T} (hf : ∀ n, s ≤ n → h.get n = none) : Grow s h h s := ⟨fun _ _ => rfl, hf⟩
theorem Grow.trans {s s1 s2 : Nat} {h h1 h2 : T} (a : Grow s h h1 s1) (hs : s ≤ s1) (b : Grow s1 h1 h2 s2) : Grow s h h2 s2 := ⟨fun n hn => (b.keep n (by omega)).trans (a.keep n hn), b.fresh⟩
/-- What a call comes to that makes but its own. -/
def PureS (C : CallT) (f : Nat) (args : List Value) (h : T) (s : Nat) (Q : Value → T → Nat → Prop) : Prop := CallS C f args h s (fun _ => False) (fun v h' s' => Grow s h h' s' ∧ Q v h' s')
/-- What a call answers, just this value. -/
def ValS (C : CallT) (f : Nat) (args : List Value) (h : T) (s : Nat) (v : Value) : Prop := PureS C f args h s (fun u _ _ => u = v)

theorem CallS.log {C : CallT} {f : Nat} {args : List Value} {h : T} {s : Nat} {W : Nat → Prop} {Q : Value → T → Nat → Prop} (hc : CallS C f args h s W Q) {j : LogT} {pw : Nat → Prop} {Z : Value → T → Prop} (hW : ∀ n, W n → pw n) (hp : ∀ n, s ≤ n → pw n)
    (hk : ∀ v h' s' ts ws, s ≤ s' → Q v h' s' → (∀ n ∈ ws, W n ∨ s ≤ n) → (j v ts ws s').wp pw Z h') : (AM.log (C f args (fun v s => .ret (pk v s)) s) (logU j)).wp pw Z h := by
  have := hc (fun v s => .ret (pk v s)) (fun n => W n ∨ s ≤ n) (fun u h' => ∃ v s', u = pk v s' ∧ s ≤ s' ∧ Q v h' s') (fun n h => .inl h) (fun n h => .inr h) (fun v h' s' hs hq => ⟨v, s', rfl, hs, hq⟩)
  obtain ⟨u, h', ts, ws, r, ⟨v, s', rfl, hs, hq⟩, p⟩ := wp_runL _ _ _ _ this
  rw [wp_log0]
  refine ⟨pk v s', h', ts, ws, by simpa using r [] [], fun n hn => (p n hn).elim (hW n) (hp n), ?_⟩
  show (logU j (pk v s') ts ws).wp pw Z h'
  unfold logU
  rw [up_pk]
  exact hk v h' s' ts ws hs hq p
theorem PureS.log {C : CallT} {f : Nat} {args : List Value} {h : T} {s : Nat} {Q : Value → T → Nat → Prop} (hc : PureS C f args h s Q) {j : LogT} {pw : Nat → Prop} {Z : Value → T → Prop} (hp : ∀ n, s ≤ n → pw n)
    (hk : ∀ v h' s' ts ws, s ≤ s' → Grow s h h' s' → Q v h' s' → (∀ n ∈ ws, s ≤ n) → (j v ts ws s').wp pw Z h') : (AM.log (C f args (fun v s => .ret (pk v s)) s) (logU j)).wp pw Z h :=
  CallS.log hc (fun n h => h.elim) hp fun v h' s' ts ws hs hq hw => hk v h' s' ts ws hs hq.1 hq.2 fun n hn => (hw n hn).resolve_left id
theorem PureS.use {C : CallT} {f : Nat} {args : List Value} {h : T} {s : Nat} {Q : Value → T → Nat → Prop} (hc : PureS C f args h s Q) {K : Value → Nat → AM} {pw : Nat → Prop} {Z : Value → T → Prop} (hp : ∀ n, s ≤ n → pw n)
    (hk : ∀ v h' s', s ≤ s' → Grow s h h' s' → Q v h' s' → (K v s').wp pw Z h') : (C f args K s).wp pw Z h :=
  hc K pw Z (fun n h => h.elim) hp fun v h' s' hs hq => hk v h' s' hs hq.1 hq.2
theorem ValS.use {C : CallT} {f : Nat} {args : List Value} {h : T} {s : Nat} {v : Value} (hc : ValS C f args h s v) {K : Value → Nat → AM} {pw : Nat → Prop} {Z : Value → T → Prop} (hp : ∀ n, s ≤ n → pw n)
    (hk : ∀ h' s', s ≤ s' → Grow s h h' s' → (K v s').wp pw Z h') : (C f args K s).wp pw Z h :=
  PureS.use hc hp fun u h' s' hs hg hu => by subst hu; exact hk h' s' hs hg
theorem ValS.log {C : CallT} {f : Nat} {args : List Value} {h : T} {s : Nat} {v : Value} (hc : ValS C f args h s v) {j : LogT} {pw : Nat → Prop} {Z : Value → T → Prop} (hp : ∀ n, s ≤ n → pw n)
    (hk : ∀ h' s' ts ws, s ≤ s' → Grow s h h' s' → (∀ n ∈ ws, s ≤ n) → (j v ts ws s').wp pw Z h') : (AM.log (C f args (fun v s => .ret (pk v s)) s) (logU j)).wp pw Z h :=
  PureS.log hc hp fun u h' s' ts ws hs hg hu hw => by subst hu; exact hk h' s' ts ws hs hg hw

/-! ### steps -/
section
variable {pw : Nat → Prop} {Z : Value → T → Prop} {h : T} {P : Program}
theorem get_ne {h : T} {n m : Nat} {x : Obj} (hn : n ≠ m) : (h.set n x).get m = h.get m := by rw [T.get_set, if_neg hn]
theorem get_eq {h : T} {n : Nat} {x : Obj} : (h.set n x).get n = some x := by rw [T.get_set, if_pos rfl]
theorem wp_load (n off : Nat) (k : Value → Nat → AM) (s : Nat) : (aload n off k s).wp pw Z h = match h.get n with
    | some (.cells c _ _) => (match nth c.toList off with | some v => (k v s).wp pw Z h | none => False)
    | _ => False := by
  unfold aload
  rw [wp_get]
  cases h.get n with
  | none => rfl
  | some o =>
    cases o <;> try rfl
    rename_i c _ _
    dsimp only
    cases nth c.toList off <;> rfl
theorem wp_cells (n off len : Nat) (k : List Value → Nat → AM) (s : Nat) : (acells n off len k s).wp pw Z h = match h.get n with
    | some (.cells c _ _) => ((c.toList.drop off).take len).length = len ∧ (k ((c.toList.drop off).take len) s).wp pw Z h
    | _ => False := by
  unfold acells
  rw [wp_get]
  cases h.get n with
  | none => rfl
  | some o =>
    cases o <;> try rfl
    dsimp only
    cases hb : Nat.beq _ len with
    | true => simp only [cond_true, Nat.eq_of_beq_eq_true hb, true_and]
    | false =>
      have hne := Nat.ne_of_beq_eq_false hb
      simp only [cond_false, wp_fail, hne, false_and]
theorem wp_aput (n off : Nat) (vs : List Value) (k : Unit → Nat → AM) (s : Nat) : (aput n off vs k s).wp pw Z h = match h.get n with
    | some (.cells c t f) => (Nat.ble (off + vs.length) c.size && (vs.all Value.oneCell' && !ro (.cells c t f))) = true ∧ pw n ∧ (k () s).wp pw Z (h.set n (.cells ⟨overL c.toList off vs⟩ t f))
    | _ => False := by
  unfold aput
  rw [wp_get]
  cases hg : h.get n with
  | none => rfl
  | some o =>
    cases o <;> try rfl
    dsimp only
    cases hb : (Nat.ble _ _ && _) with
    | true => simp only [cond_true, true_and, wp_put, hg]
    | false => simp only [cond_false, wp_fail, Bool.false_eq_true, false_and]
theorem wp_anew (o : Obj) (k : Nat → Nat → AM) (s : Nat) : (anew o k s).wp pw Z h = (pw s ∧ match h.get s with | some _ => False | none => (k s (s + 1)).wp pw Z (h.set s o)) := rfl
theorem wp_box (t : TypeId) (v : Value) (k : Value → Nat → AM) (s : Nat) : (abox t v k s).wp pw Z h = (pw s ∧ match h.get s with | some _ => False | none => (k (.pointer (some ⟨s, 0, none⟩)) (s + 1)).wp pw Z (h.set s (.cells v.cells t (0, 0)))) := rfl
theorem wp_cond (b : Bool) (x y : AM) : (condX (.bool b) x y).wp pw Z h = if b = true then x.wp pw Z h else y.wp pw Z h := by cases b <;> rfl
theorem wp_guard (b : Bool) (x y : AM) : (guardX b x y).wp pw Z h = if b = true then x.wp pw Z h else y.wp pw Z h := by cases b <;> rfl
theorem gd_true (b : Bool) : gd (.bool b) true = b := by cases b <;> rfl
theorem gd_false (b : Bool) : gd (.bool b) false = !b := by cases b <;> rfl
theorem pick_eq (b : Bool) (x y : Value) (k : Value → Nat → AM) (s : Nat) : pickX (.bool b) x y k s = k (if b = true then x else y) s := by cases b <;> rfl
theorem bindJ_eq {α β : Type} (n : Nat) (J : α) (B : α → β) : bindJ n J B = B J := rfl
theorem logJ_eq {α β : Type} (J : α) (B : α → β) : logJ J B = B J := rfl
theorem log_run {m : AM} {v : Value} {s : Nat} {h' : T} {ts ws : List Nat} (e : m.runL h [] [] = some ⟨pk v s, h', ts, ws⟩) (hw : ∀ n ∈ ws, pw n) (j : LogT) : (AM.log m (logU j)).wp pw Z h = (j v ts ws s).wp pw Z h' := by
  rw [wp_log0]
  refine propext ⟨fun ⟨u, h1, ts1, ws1, e1, _, k⟩ => ?_, fun k => ⟨_, _, _, _, e, hw, by unfold logU; rw [up_pk]; exact k⟩⟩
  rw [e] at e1
  cases e1
  unfold logU at k
  rw [up_pk] at k
  exact k
theorem log_none {m : AM} (e : m.runL h [] [] = none) (j : LogT) : (AM.log m (logU j)).wp pw Z h = False := by
  rw [wp_log0]
  refine propext ⟨fun ⟨u, h1, ts1, ws1, e1, _, k⟩ => ?_, fun k => k.elim⟩
  rw [e] at e1; cases e1
theorem wp_log_load (n off : Nat) (j : LogT) (s : Nat) : (AM.log (aload n off (fun v s => .ret (pk v s)) s) (logU j)).wp pw Z h = match h.get n with
    | some (.cells c _ _) => (match nth c.toList off with | some v => (j v [n] [] s).wp pw Z h | none => False)
    | _ => False := by
  unfold aload
  cases hg : h.get n with
  | none => exact log_none (by simp [AM.runL_get, hg]) j
  | some o =>
    cases o <;> first | exact log_none (by simp [AM.runL_get, hg, AM.runL_fail]) j | skip
    rename_i c t f
    dsimp only
    cases hv : nth c.toList off with
    | none => refine log_none ?_ j; rw [AM.runL_get, hg]; simp only [hv, AM.runL_fail]
    | some v => refine log_run (h' := h) (ts := [n]) (ws := []) ?_ (fun n hn => by cases hn) j; rw [AM.runL_get, hg]; simp only [hv, AM.runL_ret]
theorem wp_log_cells (n off len : Nat) (q : List Value → Value) (j : LogT) (s : Nat) : (AM.log (acells n off len (fun l s => .ret (pk (q l) s)) s) (logU j)).wp pw Z h = match h.get n with
    | some (.cells c _ _) => ((c.toList.drop off).take len).length = len ∧ (j (q ((c.toList.drop off).take len)) [n] [] s).wp pw Z h
    | _ => False := by
  unfold acells
  cases hg : h.get n with
  | none => exact log_none (by simp [AM.runL_get, hg]) j
  | some o =>
    cases o <;> first | exact log_none (by simp [AM.runL_get, hg, AM.runL_fail]) j | skip
    rename_i c t f
    dsimp only
    by_cases hb : ((c.toList.drop off).take len).length = len
    · rw [log_run (v := q ((c.toList.drop off).take len)) (s := s) (h' := h) (ts := [n]) (ws := []) (by simp only [AM.runL_get, hg, hb, beq_yes, cond_true, AM.runL_ret]) (fun n hn => by cases hn) j]
      simp only [hb, true_and]
    · rw [log_none (by simp only [AM.runL_get, hg, beq_no hb, cond_false, AM.runL_fail]) j]
      simp only [hb, false_and]
theorem wp_log_anew (o : Obj) (q : Nat → Value) (j : LogT) (s : Nat) : (AM.log (anew o (fun b s => .ret (pk (q b) s)) s) (logU j)).wp pw Z h = (pw s ∧ match h.get s with | some _ => False | none => (j (q s) [s] [s] (s + 1)).wp pw Z (h.set s o)) := by
  unfold anew
  cases hg : h.get s with
  | none =>
    by_cases hw : pw s
    · rw [log_run (v := q s) (s := s + 1) (h' := h.set s o) (ts := [s]) (ws := [s]) (by rw [AM.runL_new, hg]; rfl) (fun n hn => by simp at hn; subst hn; exact hw) j]
      simp only [hw, true_and]
    · refine propext ⟨fun k => ?_, fun k => absurd k.1 hw⟩
      rw [wp_log0] at k
      obtain ⟨v, h', ts, ws, r, p, _⟩ := k
      rw [AM.runL_new, hg] at r
      cases r
      exact absurd (p s (by simp)) hw
  | some x => rw [log_none (by rw [AM.runL_new, hg]) j]; simp
/-- What an answer alone is logged. -/
theorem wp_log_ret (v : Value) (j : LogT) (s : Nat) : (AM.log (.ret (pk v s)) (logU j)).wp pw Z h = (j v [] [] s).wp pw Z h :=
  log_run (h' := h) (ts := []) (ws := []) rfl (fun n hn => by cases hn) j

/-! ### numbers -/
theorem kEq_i64 : kEq .i64 .i64 = true := rfl
variable (t yt : TypeId) (cx cy : Bool) (a b : Int) (k : Value → Nat → AM) (s : Nat)
theorem add_eq : addX P t yt cx cy (.int .i64 a) (.int .i64 b) k s = k (.int .i64 (IntKind.i64.wrap (a + b))) s := by
  show k (.int .i64 (wrapZ .i64 (addZ a b))) s = _
  rw [wrapZ_eq, addZ_eq]
theorem sub_eq : subX P t yt cx cy (.int .i64 a) (.int .i64 b) k s = k (.int .i64 (IntKind.i64.wrap (a - b))) s := by
  show k (.int .i64 (wrapZ .i64 (subZ a b))) s = _
  rw [wrapZ_eq, subZ_eq]
theorem mul_eq : mulX P t yt cx cy (.int .i64 a) (.int .i64 b) k s = k (.int .i64 (IntKind.i64.wrap (a * b))) s := by
  show k (.int .i64 (wrapZ .i64 (mulZ a b))) s = _
  rw [wrapZ_eq, mulZ_eq]
theorem eq_eq : eqX P t yt cx cy (.int .i64 a) (.int .i64 b) k s = k (.bool (decide (a = b))) s := by
  show k (.bool (eqZ a b)) s = _
  rw [eqZ_eq]; rfl
theorem ne_eq : neX P t yt cx cy (.int .i64 a) (.int .i64 b) k s = k (.bool (!decide (a = b))) s := by
  show k (.bool (Bool.rec (motive := fun _ => Bool) true false (eqZ a b))) s = _
  rw [eqZ_eq, bnot_rec]; rfl
theorem lt_eq : ltX P t yt cx cy (.int .i64 a) (.int .i64 b) k s = k (.bool (decide (a < b))) s := by
  show k (.bool (ltZ a b)) s = _
  rw [ltZ_eq]
theorem le_eq : leX P t yt cx cy (.int .i64 a) (.int .i64 b) k s = k (.bool (decide (a ≤ b))) s := by
  show k (.bool (leZ a b)) s = _
  rw [leZ_eq]
theorem gt_eq : gtX P t yt cx cy (.int .i64 a) (.int .i64 b) k s = k (.bool (decide (b < a))) s := by
  show k (.bool (ltZ b a)) s = _
  rw [ltZ_eq]
theorem ge_eq : geX P t yt cx cy (.int .i64 a) (.int .i64 b) k s = k (.bool (decide (b ≤ a))) s := by
  show k (.bool (leZ b a)) s = _
  rw [leZ_eq]
theorem not_eq (c : Bool) : notX P t (.bool c) k s = k (.bool !c) s := by cases c <;> rfl
theorem wrap_id {a : Int} (h1 : -9223372036854775808 ≤ a) (h2 : a ≤ 9223372036854775807) : IntKind.i64.wrap a = a := wrap_in .i64 a (.inl ⟨rfl, h1, h2⟩)
theorem ext0 (x : Value) (l : List Value) : extX (.tuple ⟨x :: l⟩) 0 k s = k x s := rfl
theorem ext1 (x y : Value) (l : List Value) : extX (.tuple ⟨x :: y :: l⟩) 1 k s = k y s := rfl
theorem ext2 (x y z : Value) (l : List Value) : extX (.tuple ⟨x :: y :: z :: l⟩) 2 k s = k z s := rfl
theorem ext3 (x y z u : Value) (l : List Value) : extX (.tuple ⟨x :: y :: z :: u :: l⟩) 3 k s = k u s := rfl
theorem nil_eq (a : Addr) : nilX (.pointer (some a)) k s = k (.pointer (some a)) s := rfl
theorem app0 (f : CurT 0) (s : Nat) : app 0 f [] s = f s := rfl
end
theorem loopJ_succ {α : Type} (N n : Nat) (z : α) (B : α → α) : loopJ (N + 1) n z B = B (loopJ N n z B) := rfl

/-! ### what was told in a region -/
theorem disj_of {a b : List Nat} (p : Nat → Prop) (ha : ∀ n ∈ a, p n) (hb : ∀ n ∈ b, ¬ p n) : disj a b = true := by
  have hin : ∀ (x : Nat) (b : List Nat), (∀ n ∈ b, x ≠ n) → inL x b = false := by
    intro x b
    induction b with
    | nil => intro _; rfl
    | cons y b ih =>
      intro hb
      show (Bool.rec (motive := fun _ => Bool) (inL x b) true (Nat.beq x y)) = false
      rw [beq_no (hb y (by simp))]
      exact ih fun n hn => hb n (by simp [hn])
  induction a with
  | nil => rfl
  | cons x a ih =>
    show (Bool.rec (motive := fun _ => Bool) (disj a b) false (inL x b)) = true
    rw [hin x b fun n hn e => hb n hn (e ▸ ha x (by simp))]
    exact ih fun n hn => ha n (by simp [hn])
theorem disj_below {a : List Nat} {s n : Nat} (ha : ∀ n ∈ a, s ≤ n) (hn : n < s) : disj a [n] = true := disj_of (fun n => s ≤ n) ha fun m hm => by simp at hm; omega
theorem disj_nil_left (b : List Nat) : disj [] b = true := rfl
theorem dyn_skip (all : List (List Nat × List Nat)) (a : List Nat) (l : List (List Nat × List Nat)) (f : List Nat) (fs : List (List Nat)) : dynOk all ((a, []) :: l) (f :: fs) = dynOk all l fs := rfl
theorem dyn_skip' {all : List (List Nat × List Nat)} {a : List Nat} {l : List (List Nat × List Nat)} {f : List Nat} {fs : List (List Nat)} (h : dynOk all l fs = true) : dynOk all ((a, []) :: l) (f :: fs) = true := h
theorem dyn_cons {all : List (List Nat × List Nat)} {x : List Nat × List Nat} {l : List (List Nat × List Nat)} {f : List Nat} {fs : List (List Nat)} (h1 : allF all x.2 f = true) (h2 : dynOk all l fs = true) : dynOk all (x :: l) (f :: fs) = true := by
  obtain ⟨a, b⟩ := x
  cases b with
  | nil => exact h2
  | cons y b =>
    show Bool.rec (motive := fun _ => Bool) false (dynOk all l fs) (allF all (y :: b) f) = true
    rw [show allF all (y :: b) f = true from h1]; exact h2
theorem allF_cons {all : List (List Nat × List Nat)} {w : List Nat} {i : Nat} {f : List Nat} (h1 : disj w (touched all i) = true) (h2 : allF all w f = true) : allF all w (i :: f) = true := by
  show Bool.rec (motive := fun _ => Bool) false (allF all w f) (disj w (touched all i)) = true
  rw [h1]; exact h2
theorem allF_nil (all : List (List Nat × List Nat)) (w : List Nat) : allF all w [] = true := rfl
end Go.Ev

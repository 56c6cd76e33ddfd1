/- Rows that are read, cut and added to: what terms over a heap of names tell of them. No condition. -/
import Derived.Test.YtpfnoffadfahmaaGreatXW
namespace Go.Ev
open Go Go.RowKit
set_option linter.unusedVariables false
set_option linter.unusedSimpArgs false

theorem nth_0 (x : Value) (l : List Value) : nth (x :: l) 0 = some x := rfl
theorem nth_s (x : Value) (l : List Value) (n : Nat) : nth (x :: l) (n + 1) = nth l n := rfl
theorem cells_agg (l : List Value) : (Value.agg ⟨l⟩).cells = ⟨l⟩ := rfl
theorem cells_int (k : IntKind) (n : Int) : (Value.int k n).cells = ⟨[.int k n]⟩ := rfl
theorem cells_bool (b : Bool) : (Value.bool b).cells = ⟨[.bool b]⟩ := rfl
theorem cells_slice (p : Option Addr) (n c : Nat) : (Value.slice p n c).cells = ⟨[.slice p n c]⟩ := rfl
theorem cells_ptr (p : Option Addr) : (Value.pointer p).cells = ⟨[.pointer p]⟩ := rfl
theorem cells_func (f : Fn) (xs ys : Array Value) : (Value.func f xs ys).cells = ⟨[.func f xs ys]⟩ := rfl
theorem ro_zero (c : Array Value) (t : TypeId) : ro (.cells c t (0, 0)) = false := rfl
theorem one_int (k : IntKind) (n : Int) : (Value.int k n).oneCell' = true := rfl
theorem one_bool (b : Bool) : (Value.bool b).oneCell' = true := rfl
theorem one_slice (p : Option Addr) (n c : Nat) : (Value.slice p n c).oneCell' = true := rfl
theorem one_ptr (p : Option Addr) : (Value.pointer p).oneCell' = true := rfl
theorem one_func (f : Fn) (xs ys : Array Value) : (Value.func f xs ys).oneCell' = true := rfl
theorem arr_size (l : List Value) : (⟨l⟩ : Array Value).size = l.length := rfl
theorem ValS.mk {C : CallT} {f : Nat} {args : List Value} {h : T} {s : Nat} {v : Value} (hk : ∀ (K : Value → Nat → AM) (pw : Nat → Prop) (Z : Value → T → Prop), (∀ n, s ≤ n → pw n) → (∀ h' s', s ≤ s' → Grow s h h' s' → (K v s').wp pw Z h') → (C f args K s).wp pw Z h) : ValS C f args h s v :=
  fun K pw Z _ hp hz => hk K pw Z hp fun h' s' hs hg => hz v h' s' hs ⟨hg, rfl⟩
theorem PureS.mk {C : CallT} {f : Nat} {args : List Value} {h : T} {s : Nat} {Q : Value → T → Nat → Prop} (hk : ∀ (K : Value → Nat → AM) (pw : Nat → Prop) (Z : Value → T → Prop), (∀ n, s ≤ n → pw n) → (∀ v h' s', s ≤ s' → Grow s h h' s' → Q v h' s' → (K v s').wp pw Z h') → (C f args K s).wp pw Z h) : PureS C f args h s Q :=
  fun K pw Z _ hp hz => hk K pw Z hp fun v h' s' hs hg hq => hz v h' s' hs ⟨hg, hq⟩
theorem app0_eq (f : Nat → AM) (s : Nat) : app 0 f [] s = f  s := rfl
theorem app1_eq (f : Value → Nat → AM) (v0 : Value) (s : Nat) : app 1 f [v0] s = f v0 s := rfl
theorem app2_eq (f : Value → Value → Nat → AM) (v0 v1 : Value) (s : Nat) : app 2 f [v0, v1] s = f v0 v1 s := rfl
theorem app3_eq (f : Value → Value → Value → Nat → AM) (v0 v1 v2 : Value) (s : Nat) : app 3 f [v0, v1, v2] s = f v0 v1 v2 s := rfl
theorem app4_eq (f : Value → Value → Value → Value → Nat → AM) (v0 v1 v2 v3 : Value) (s : Nat) : app 4 f [v0, v1, v2, v3] s = f v0 v1 v2 v3 s := rfl
theorem app5_eq (f : Value → Value → Value → Value → Value → Nat → AM) (v0 v1 v2 v3 v4 : Value) (s : Nat) : app 5 f [v0, v1, v2, v3, v4] s = f v0 v1 v2 v3 v4 s := rfl
theorem app6_eq (f : Value → Value → Value → Value → Value → Value → Nat → AM) (v0 v1 v2 v3 v4 v5 : Value) (s : Nat) : app 6 f [v0, v1, v2, v3, v4, v5] s = f v0 v1 v2 v3 v4 v5 s := rfl
theorem app7_eq (f : Value → Value → Value → Value → Value → Value → Value → Nat → AM) (v0 v1 v2 v3 v4 v5 v6 : Value) (s : Nat) : app 7 f [v0, v1, v2, v3, v4, v5, v6] s = f v0 v1 v2 v3 v4 v5 v6 s := rfl
theorem app8_eq (f : Value → Value → Value → Value → Value → Value → Value → Value → Nat → AM) (v0 v1 v2 v3 v4 v5 v6 v7 : Value) (s : Nat) : app 8 f [v0, v1, v2, v3, v4, v5, v6, v7] s = f v0 v1 v2 v3 v4 v5 v6 v7 s := rfl
noncomputable def slS (z : Nat) (p : Option Addr) (len cap : Nat) (lo hi mx : Option Value) (k : Value → Nat → AM) (s : Nat) : AM :=
  match abounds len cap lo hi mx with
  | some (l, h, m) => match p with
    | none => bif Nat.beq cap 0 && Nat.beq len 0 then k (.slice none len cap) s else .fail
    | some ⟨n, o, q⟩ => bif Nat.beq cap 0 then (bif Nat.beq len 0 then k (.slice (some ⟨n, o, q⟩) len cap) s else .fail) else .get n fun
      | .cells _ _ (f, _) => bif Nat.beq f 0 || Nat.beq f (z + 1) then k (.slice (some ⟨n, o + l * z, spotOf mx q⟩) (h - l) (m - l)) s else .fail
      | _ => .fail
  | _ => .fail
noncomputable def apS (el : TypeId) (z : Nat) (p : Option Addr) (len cap : Nat) (q : Option Addr) (n c : Nat) (k : Value → Nat → AM) (s : Nat) : AM :=
  bif Nat.ble (len + n) 1000000 && true && true && true && Nat.ble len cap then
    (bif Nat.beq n 0 then k (.slice p len cap) s
    else bif Nat.ble (len + n) cap then
      match p with
      | some ⟨m, o, _⟩ => afirst z n (.slice q n c) (fun l => aput m (o + len * z) l (fun _ => k (.slice p (len + n) cap))) s
      | _ => .fail
    else match p with
      | none => afirst z n (.slice q n c) (fun l s => bif Nat.beq l.length (n * z) && Nat.beq len 0 then agrown el z l (fun b => k (.slice (some ⟨b, 0, none⟩) (len + n) (len + n))) s else .fail) s
      | some ⟨m, o, sp⟩ => afirst z n (.slice q n c) (fun l s => bif Nat.beq l.length (n * z) && l.all Value.oneCell' then acells m o (len * z) (fun q => akill sp.isSome m z (fun _ => agrown el z (q ++ l) (fun b => k (.slice (some ⟨b, 0, none⟩) (len + n) (len + n))))) s else .fail) s)
  else .fail

theorem cv_gen {P : Program} {src dst : TypeId} {ks kd kk : IntKind} (hs : intOf P src = some ks) (hd : intOf P dst = some kd) (a : Int) (k : Value → Nat → AM) (s : Nat) : convX P src dst (.int kk a) k s = k (.int kd (kd.wrap a)) s := by
  show (Option.rec (motive := fun _ => AM) _ (fun kd => Option.rec (motive := fun _ => AM) _ (fun _ => k (.int kd (wrapZ kd a)) s) (intOf P src)) (intOf P dst)) = _
  rw [hd, hs]
  show k (.int kd (wrapZ kd a)) s = _
  rw [wrapZ_eq]
theorem shr_eq {P : Program} (t yt : TypeId) (cx cy : Bool) (k1 k2 : IntKind) (a : Int) (n : Nat) (k : Value → Nat → AM) (s : Nat) : shrX P t yt cx cy (.int k1 a) (.int k2 (n : Int)) k s = k (.int k1 (a.fdiv (2 ^ (min n k1.bits)))) s := by
  show k (.int k1 (shrZ k1 a n)) s = _
  rw [shrZ_eq]
theorem shl_eq {P : Program} (t yt : TypeId) (cx cy : Bool) (k1 k2 : IntKind) (a : Int) (n : Nat) (k : Value → Nat → AM) (s : Nat) : shlX P t yt cx cy (.int k1 a) (.int k2 (n : Int)) k s = k (.int k1 (k1.wrap (a * 2 ^ (min n k1.bits)))) s := by
  show k (.int k1 (shlZ k1 a n)) s = _
  rw [shlZ_eq]
theorem quo_eq {P : Program} (t yt : TypeId) (cx cy : Bool) (a : Int) {b : Int} (hb : b ≠ 0) (k : Value → Nat → AM) (s : Nat) : quoX P t yt cx cy (.int .i64 a) (.int .i64 b) k s = k (.int .i64 (IntKind.i64.wrap (a.tdiv b))) s := by
  show Bool.rec (motive := fun _ => AM) (k (.int .i64 (wrapZ .i64 (a.tdiv b))) s) _ (eqZ b (.ofNat 0)) = _
  rw [eqZ_eq, show (b == Int.ofNat 0) = false by simpa using hb, wrapZ_eq]
theorem rem_eq {P : Program} (t yt : TypeId) (cx cy : Bool) (a : Int) {b : Int} (hb : b ≠ 0) (k : Value → Nat → AM) (s : Nat) : remX P t yt cx cy (.int .i64 a) (.int .i64 b) k s = k (.int .i64 (a.tmod b)) s := by
  show Bool.rec (motive := fun _ => AM) (k (.int .i64 (a.tmod b)) s) _ (eqZ b (.ofNat 0)) = _
  rw [eqZ_eq, show (b == Int.ofNat 0) = false by simpa using hb]
theorem sl_gen {P : Program} {t el : TypeId} {z : Nat} (hu : P.underlying t = some (.slice el)) (hi : (P.info? el).map (fun i => i.size) = some z) (p : Option Addr) (len cap : Nat) (lo hi' mx : Option Value) (k : Value → Nat → AM) (s : Nat) :
    sliceX P t (.slice p len cap) lo hi' mx k s = slS z p len cap lo hi' mx k s := by
  unfold sliceX aslice slS
  rw [hu]
  dsimp only
  cases he : P.info? el with
  | none => rw [he] at hi; cases hi
  | some i =>
    rw [he] at hi
    obtain rfl := Option.some.inj hi
    cases abounds len cap lo hi' mx with
    | none => rfl
    | some b => obtain ⟨l, h, m⟩ := b; cases p <;> rfl
/-! ### rows that are read -/
def blk : Option Addr → Nat | some a => a.block | none => 0
def off : Option Addr → Nat | some a => a.off | none => 0
/-- So many cells from a place on. -/
def Cells (h : T) (p : Option Addr) (m : Nat) (cs : List Value) : Prop :=
  cs.length = m ∧ (m = 0 ∨ p ≠ none ∧ ∃ c t f, h.get (blk p) = some (.cells c t f) ∧ (c.toList.drop (off p)).take m = cs)
theorem Cells.nil (h : T) (p : Option Addr) : Cells h p 0 [] := ⟨rfl, .inl rfl⟩
theorem Cells.is {h : T} {p : Option Addr} {m : Nat} {cs : List Value} (hc : Cells h p m cs) (hm : m ≠ 0) : ∃ n o q, p = some ⟨n, o, q⟩ := by
  rcases hc.2 with h0 | ⟨hp, _⟩
  · exact absurd h0 hm
  · cases p with
    | none => exact absurd rfl hp
    | some a => exact ⟨_, _, _, rfl⟩
theorem Cells.at_ {h : T} {p : Option Addr} {m : Nat} {cs : List Value} (hc : Cells h p m cs) (hm : m ≠ 0) : ∃ c t f, h.get (blk p) = Option.some (.cells c t f) ∧ (c.toList.drop (off p)).take m = cs := by
  rcases hc.2 with h0 | ⟨_, h1⟩
  · exact absurd h0 hm
  · exact h1
theorem Cells.below {h : T} {p : Option Addr} {m : Nat} {cs : List Value} {s : Nat} (hc : Cells h p m cs) (hf : ∀ n, s ≤ n → h.get n = none) : m = 0 ∨ blk p < s := by
  rcases Nat.eq_zero_or_pos m with h0 | h0
  · exact .inl h0
  · obtain ⟨c, t, f, h1, _⟩ := hc.at_ (by omega)
    refine .inr ?_
    rcases Nat.lt_or_ge (blk p) s with h2 | h2
    · exact h2
    · rw [hf _ h2] at h1; cases h1
theorem Cells.of_eq {h h' : T} {p : Option Addr} {m : Nat} {cs : List Value} (hc : Cells h p m cs) (he : m ≠ 0 → h'.get (blk p) = h.get (blk p)) : Cells h' p m cs := by
  refine ⟨hc.1, ?_⟩
  rcases Nat.eq_zero_or_pos m with h0 | h0
  · exact .inl h0
  · rcases hc.2 with h1 | ⟨hp, c, t, f, h1, h2⟩
    · exact .inl h1
    · exact .inr ⟨hp, c, t, f, by rw [he (by omega)]; exact h1, h2⟩
theorem Cells.set {h : T} {p : Option Addr} {m : Nat} {cs : List Value} {s : Nat} (hc : Cells h p m cs) (hf : ∀ n, s ≤ n → h.get n = none) {n : Nat} {o : Obj} (hn : s ≤ n) : Cells (h.set n o) p m cs :=
  hc.of_eq fun hm => get_ne (by have := hc.below hf; omega)
theorem Cells.grow {h h' : T} {p : Option Addr} {m : Nat} {cs : List Value} {s s' : Nat} (hc : Cells h p m cs) (hf : ∀ n, s ≤ n → h.get n = none) (g : Grow s h h' s') : Cells h' p m cs :=
  hc.of_eq fun hm => g.keep _ (by have := hc.below hf; omega)
theorem Cells.sub {h : T} {p : Option Addr} {m : Nat} {cs : List Value} (hc : Cells h p m cs) {j z : Nat} (hz : 0 < z) (hj : j + z ≤ m) {pw : Nat → Prop} {Z : Value → T → Prop} (k : List Value → Nat → AM) (s : Nat) :
    (acells (blk p) (off p + j) z k s).wp pw Z h = (k ((cs.drop j).take z) s).wp pw Z h := by
  obtain ⟨c, t, f, h1, h2⟩ := hc.at_ (by omega)
  rw [wp_cells, h1]
  dsimp only
  have hl := hc.1
  have e : (c.toList.drop (off p + j)).take z = (cs.drop j).take z := by
    rw [← h2, List.drop_take, List.drop_drop, List.take_take, Nat.min_eq_left (by omega)]
  rw [e]
  have : ((cs.drop j).take z).length = z := by simp; omega
  simp only [this, true_and]
theorem Cells.one {h : T} {p : Option Addr} {m : Nat} {cs : List Value} (hc : Cells h p m cs) {j : Nat} {v : Value} (hj : cs[j]? = some v) {pw : Nat → Prop} {Z : Value → T → Prop} (k : Value → Nat → AM) (s : Nat) :
    (aload (blk p) (off p + j) k s).wp pw Z h = (k v s).wp pw Z h := by
  have hl := hc.1
  have hlt : j < m := by rw [← hl]; exact (List.getElem?_eq_some_iff.1 hj).1
  obtain ⟨c, t, f, h1, h2⟩ := hc.at_ (by omega)
  rw [wp_load, h1]
  dsimp only
  have e : c.toList[off p + j]? = some v := by
    rw [← hj, ← h2, List.getElem?_take, if_pos hlt, List.getElem?_drop]
  rw [nth_eq, e]
theorem Cells.subL {h : T} {p : Option Addr} {m : Nat} {cs : List Value} (hc : Cells h p m cs) {j z : Nat} (hz : 0 < z) (hj : j + z ≤ m) {pw : Nat → Prop} {Z : Value → T → Prop} (q : List Value → Value) (k : LogT) (s : Nat) :
    (AM.log (acells (blk p) (off p + j) z (fun l s => .ret (pk (q l) s)) s) (logU k)).wp pw Z h = (k (q ((cs.drop j).take z)) [blk p] [] s).wp pw Z h := by
  obtain ⟨c, t, f, h1, h2⟩ := hc.at_ (by omega)
  rw [wp_log_cells, h1]
  dsimp only
  have hl := hc.1
  have e : (c.toList.drop (off p + j)).take z = (cs.drop j).take z := by
    rw [← h2, List.drop_take, List.drop_drop, List.take_take, Nat.min_eq_left (by omega)]
  rw [e]
  have : ((cs.drop j).take z).length = z := by simp; omega
  simp only [this, true_and]
theorem Cells.oneL {h : T} {p : Option Addr} {m : Nat} {cs : List Value} (hc : Cells h p m cs) {j : Nat} {v : Value} (hj : cs[j]? = some v) {pw : Nat → Prop} {Z : Value → T → Prop} (k : LogT) (s : Nat) :
    (AM.log (aload (blk p) (off p + j) (fun v s => .ret (pk v s)) s) (logU k)).wp pw Z h = (k v [blk p] [] s).wp pw Z h := by
  have hl := hc.1
  have hlt : j < m := by rw [← hl]; exact (List.getElem?_eq_some_iff.1 hj).1
  obtain ⟨c, t, f, h1, h2⟩ := hc.at_ (by omega)
  rw [wp_log_load, h1]
  dsimp only
  have e : c.toList[off p + j]? = some v := by
    rw [← hj, ← h2, List.getElem?_take, if_pos hlt, List.getElem?_drop]
  rw [nth_eq, e]
/-- An element's place. -/
theorem Cells.xa {P : Program} {t : TypeId} {z : Nat} (h0 : ∀ n o len cap q kd j, aindexAt P t (.slice (Option.some ⟨n, o, q⟩) len cap) (.int kd j) = bif decide (0 ≤ j) && decide (j < (len : Int)) then some (.pointer (some ⟨n, o + j.toNat * z, none⟩)) else none)
    {h : T} {p : Option Addr} {len : Nat} {cs : List Value} (hz : 0 < z) (hc : Cells h p (len * z) cs) {j : Int} (hj0 : 0 ≤ j) (hj : j < (len : Int)) (cap : Nat) (kd : IntKind) (k : Value → Nat → AM) (s : Nat) :
    M.opt (aindexAt P t (.slice p len cap) (.int kd j)) k s = k (.pointer (some ⟨blk p, off p + j.toNat * z, none⟩)) s := by
  obtain ⟨n, o, q, rfl⟩ := hc.is (by have : 0 < len * z := Nat.mul_pos (by omega) hz; omega)
  rw [h0, decide_eq_true hj0, decide_eq_true hj]
  rfl

/-! ### rows of one kind -/
structure Enc (α : Type) where
  z : Nat
  f : α → List Value
  pos : 0 < z
  len : ∀ x, (f x).length = z
section
variable {α : Type} (E : Enc α)
theorem Enc.flat_length : ∀ l : List α, (l.flatMap E.f).length = l.length * E.z
  | [] => by simp
  | x :: l => by simp [E.len, Enc.flat_length l, Nat.add_mul, Nat.add_comm]
theorem Enc.flat_at : ∀ (l : List α) (i : Nat) (x : α), l[i]? = some x → ((l.flatMap E.f).drop (i * E.z)).take E.z = E.f x
  | [], i, x, h => by simp at h
  | y :: l, 0, x, h => by
    simp at h; subst h
    simp [List.take_append, E.len, List.take_of_length_le]
  | y :: l, i + 1, x, h => by
    have ih := Enc.flat_at l i x (by simpa using h)
    rw [← ih, List.flatMap_cons, List.drop_append]
    have : (i + 1) * E.z = E.z + i * E.z := by rw [Nat.add_mul]; omega
    rw [this, E.len, List.drop_eq_nil_of_le (by rw [E.len]; omega), Nat.add_sub_cancel_left]
    rfl
/-- A row of such. -/
def Row (h : T) (p : Option Addr) (len : Nat) (l : List α) : Prop := l.length = len ∧ Cells h p (len * E.z) (l.flatMap E.f)
variable {E}
theorem Row.of_cells {h : T} {n : Nat} {q : Option Nat} {l : List α} {t : TypeId} {f : Nat × Nat} (hg : h.get n = some (.cells ⟨l.flatMap E.f⟩ t f)) {len : Nat} (hl : l.length = len) : Row E h (some ⟨n, 0, q⟩) len l := by
  refine ⟨hl, by rw [E.flat_length, hl], ?_⟩
  refine .inr ⟨by simp, _, t, f, hg, ?_⟩
  show (List.drop 0 (l.flatMap E.f)).take _ = _
  rw [List.drop_zero, ← hl, ← E.flat_length, List.take_length]
theorem Enc.flat_drop {α : Type} (E : Enc α) : ∀ (l : List α) (k : Nat), (l.flatMap E.f).drop (k * E.z) = (l.drop k).flatMap E.f
  | [], k => by simp
  | y :: l, 0 => by simp
  | y :: l, k + 1 => by
    rw [List.flatMap_cons, List.drop_append, show (k + 1) * E.z = E.z + k * E.z by rw [Nat.add_mul]; omega, E.len, List.drop_eq_nil_of_le (by rw [E.len]; omega), Nat.add_sub_cancel_left, Enc.flat_drop E l k]
    rfl
theorem Row.drop {h : T} {n o : Nat} {q q' : Option Nat} {len : Nat} {l : List α} (r : Row E h (some ⟨n, o, q⟩) len l) (k : Nat) : Row E h (some ⟨n, o + k * E.z, q'⟩) (len - k) (l.drop k) := by
  refine ⟨by rw [List.length_drop, r.1], by rw [E.flat_length, List.length_drop, r.1], ?_⟩
  rcases r.2.2 with h0 | ⟨_, c, t, f, h1, h2⟩
  · left
    have : (len - k) * E.z ≤ len * E.z := Nat.mul_le_mul_right _ (Nat.sub_le _ _)
    omega
  · refine .inr ⟨by simp, c, t, f, h1, ?_⟩
    rw [← E.flat_drop, ← h2, List.drop_take, List.drop_drop]
    show (List.drop (o + k * E.z) c.toList).take _ = (List.drop (o + k * E.z) c.toList).take _
    rw [Nat.sub_mul]
theorem Row.nil (h : T) (p : Option Addr) : Row E h p 0 [] := ⟨rfl, by rw [Nat.zero_mul]; exact .nil h p⟩
theorem Row.set {h : T} {p : Option Addr} {len : Nat} {l : List α} {s : Nat} (r : Row E h p len l) (hf : ∀ n, s ≤ n → h.get n = none) {n : Nat} {o : Obj} (hn : s ≤ n) : Row E (h.set n o) p len l := ⟨r.1, r.2.set hf hn⟩
theorem Row.grow {h h' : T} {p : Option Addr} {len : Nat} {l : List α} {s s' : Nat} (r : Row E h p len l) (hf : ∀ n, s ≤ n → h.get n = none) (g : Grow s h h' s') : Row E h' p len l := ⟨r.1, r.2.grow hf g⟩
theorem Row.lt {h : T} {p : Option Addr} {len : Nat} {l : List α} (r : Row E h p len l) {i : Nat} {x : α} (hx : l[i]? = some x) : i < len := by rw [← r.1]; exact (List.getElem?_eq_some_iff.1 hx).1
theorem Row.fits {h : T} {p : Option Addr} {len : Nat} {l : List α} (r : Row E h p len l) {i : Nat} (hi : i < len) : i * E.z + E.z ≤ len * E.z := by
  have : (i + 1) * E.z ≤ len * E.z := Nat.mul_le_mul_right _ hi
  rw [Nat.add_mul] at this; omega
theorem Row.ld {h : T} {p : Option Addr} {len : Nat} {l : List α} (r : Row E h p len l) {i : Nat} {x : α} (hx : l[i]? = some x) {pw : Nat → Prop} {Z : Value → T → Prop} (k : List Value → Nat → AM) (s : Nat) :
    (acells (blk p) (off p + i * E.z) E.z k s).wp pw Z h = (k (E.f x) s).wp pw Z h := by
  rw [r.2.sub E.pos (r.fits (r.lt hx)), E.flat_at l i x hx]
theorem Row.ldL {h : T} {p : Option Addr} {len : Nat} {l : List α} (r : Row E h p len l) {i : Nat} {x : α} (hx : l[i]? = some x) {pw : Nat → Prop} {Z : Value → T → Prop} (q : List Value → Value) (k : LogT) (s : Nat) :
    (AM.log (acells (blk p) (off p + i * E.z) E.z (fun l s => .ret (pk (q l) s)) s) (logU k)).wp pw Z h = (k (q (E.f x)) [blk p] [] s).wp pw Z h := by
  rw [r.2.subL E.pos (r.fits (r.lt hx)), E.flat_at l i x hx]
theorem Row.below {h : T} {p : Option Addr} {len : Nat} {l : List α} {s : Nat} (r : Row E h p len l) (hf : ∀ n, s ≤ n → h.get n = none) {i : Nat} (hi : i < len) : blk p < s := by
  rcases r.2.below hf with h0 | h0
  · have := r.fits hi; have := E.pos; omega
  · exact h0
end

theorem neg_one : Int.negSucc 0 = -1 := rfl
theorem get_some {α : Type} {l : List α} {i : Nat} (h : i < l.length) : ∃ x, l[i]? = some x := ⟨l[i], by simp [h]⟩
/-- Numbers. -/
def EI : Enc Int := ⟨1, fun x => [.int .i64 x], by decide, fun _ => rfl⟩
theorem Row.int {h : T} {p : Option Addr} {len : Nat} {l : List Int} (r : Row EI h p len l) {i : Nat} {x : Int} (hx : l[i]? = some x) {pw : Nat → Prop} {Z : Value → T → Prop} (k : Value → Nat → AM) (s : Nat) :
    (aload (blk p) (off p + i) k s).wp pw Z h = (k (.int .i64 x) s).wp pw Z h := by
  refine r.2.one ?_ k s
  have : ∀ (l : List Int) (i : Nat) (x : Int), l[i]? = some x → (l.flatMap EI.f)[i]? = some (.int .i64 x) := by
    intro l
    induction l with
    | nil => intro i x h; simp at h
    | cons y l ih =>
      intro i x h
      cases i with
      | zero => simp at h; subst h; rfl
      | succ i => rw [List.flatMap_cons]; show ((.int .i64 y) :: l.flatMap EI.f)[i + 1]? = _; rw [List.getElem?_cons_succ]; exact ih i x (by simpa using h)
  exact this l i x hx
theorem overL_app0 : ∀ (a b v : List Value), a.length = v.length → overL (a ++ b) 0 v = v ++ b
  | [], b, [], _ => by cases b <;> rfl
  | x :: a, b, y :: v, h => by
    show y :: overL (a ++ b) 0 v = y :: (v ++ b)
    rw [overL_app0 a b v (by simpa using h)]
  | [], _, _ :: _, h => by simp at h
  | _ :: _, _, [], h => by simp at h
theorem overL_app : ∀ (a b v : List Value) (j : Nat), overL (a ++ b) (a.length + j) v = a ++ overL b j v
  | [], b, v, j => by simp
  | x :: a, b, v, j => by
    rw [List.length_cons, show a.length + 1 + j = (a.length + j) + 1 by omega]
    show x :: overL (a ++ b) (a.length + j) v = x :: (a ++ overL b j v)
    rw [overL_app a b v j]
theorem Enc.over {α : Type} (E : Enc α) (x : α) : ∀ (l : List α) (i : Nat), i < l.length → overL (l.flatMap E.f) (i * E.z) (E.f x) = (l.set i x).flatMap E.f
  | [], i, h => by simp at h
  | y :: l, 0, h => by
    rw [List.flatMap_cons, Nat.zero_mul, overL_app0 _ _ _ (by rw [E.len, E.len])]; rfl
  | y :: l, i + 1, h => by
    rw [List.flatMap_cons, show (i + 1) * E.z = (E.f y).length + i * E.z by rw [E.len, Nat.add_mul]; omega, overL_app, Enc.over E x l i (by simpa using h)]; rfl
/-- A cut from a place on. -/
theorem wp_sl_from {z n o len cap : Nat} {q : Option Nat} {c : Array Value} {t : TypeId} {f g : Nat} {h : T} (hg : h.get n = some (.cells c t (f, g))) (hf : f = 0 ∨ f = z + 1) {i : Nat} (hi : i ≤ len) (hl : len ≤ cap) (hc : cap ≠ 0) (kd : IntKind) {pw : Nat → Prop} {Z : Value → T → Prop} (k : Value → Nat → AM) (s : Nat) :
    (slS z (some ⟨n, o, q⟩) len cap (some (.int kd (i : Int))) none none k s).wp pw Z h = (k (.slice (some ⟨n, o + i * z, q⟩) (len - i) (cap - i)) s).wp pw Z h := by
  have hb : abounds len cap (some (.int kd (i : Int))) none none = some (i, len, cap) := by
    simp [abounds, abound, hi, hl]
    rw [show Nat.ble i len = true by rw [Nat.ble_eq]; exact hi, show Nat.ble len cap = true by rw [Nat.ble_eq]; exact hl]; rfl
  unfold slS
  rw [hb]
  dsimp only
  rw [show Nat.beq cap 0 = false from beq_no hc]
  simp only [cond_false, wp_get, hg]
  have : (Nat.beq f 0 || Nat.beq f (z + 1)) = true := by rcases hf with rfl | rfl <;> simp
  rw [this]
  rfl
/-- A cut up to a place. -/
theorem wp_sl_to {z n o len cap : Nat} {q : Option Nat} {c : Array Value} {t : TypeId} {f g : Nat} {h : T} (hg : h.get n = some (.cells c t (f, g))) (hf : f = 0 ∨ f = z + 1) {i : Nat} (hi : i ≤ cap) (hc : cap ≠ 0) (kd : IntKind) {pw : Nat → Prop} {Z : Value → T → Prop} (k : Value → Nat → AM) (s : Nat) :
    (slS z (some ⟨n, o, q⟩) len cap none (some (.int kd (i : Int))) none k s).wp pw Z h = (k (.slice (some ⟨n, o + 0 * z, q⟩) (i - 0) (cap - 0)) s).wp pw Z h := by
  have hb : abounds len cap none (some (.int kd (i : Int))) none = some (0, i, cap) := by
    simp [abounds, abound, hi]
    rw [show Nat.ble 0 i = true by rw [Nat.ble_eq]; omega, show Nat.ble i cap = true by rw [Nat.ble_eq]; exact hi]; rfl
  unfold slS
  rw [hb]
  dsimp only
  rw [show Nat.beq cap 0 = false from beq_no hc]
  simp only [cond_false, wp_get, hg]
  have : (Nat.beq f 0 || Nat.beq f (z + 1)) = true := by rcases hf with rfl | rfl <;> simp
  rw [this]
  rfl
/-! ### adding to rows -/
section
variable {pw : Nat → Prop} {Z : Value → T → Prop} {h : T} {s : Nat}
theorem wp_first {q : Option Addr} {n c z : Nat} {cs : List Value} (hn : n ≠ 0) (hz : 0 < z) (hc : Cells h q (n * z) cs) (k : List Value → Nat → AM) : (afirst z n (.slice q n c) k s).wp pw Z h = (k cs s).wp pw Z h := by
  have hm : 0 < n * z := Nat.mul_pos (by omega) hz
  obtain ⟨m, o, sp, rfl⟩ := hc.is (by omega)
  unfold afirst
  dsimp only
  rw [show Nat.beq (n * z) 0 = false from beq_no (by omega), show Nat.beq n 0 = false from beq_no hn]
  simp only [cond_false]
  have := hc.sub (j := 0) (z := n * z) hm (by omega) (pw := pw) (Z := Z) k s
  rw [show off (some ⟨m, o, sp⟩) + 0 = o from rfl, show blk (some ⟨m, o, sp⟩) = m from rfl] at this
  rw [this, List.drop_zero, ← hc.1, List.take_length]
/-- A row added to one that is none: a new one. -/
theorem wp_ap_empty {el : TypeId} {z : Nat} {p q : Option Addr} {n c : Nat} {cs : List Value} {k : Value → Nat → AM} (hz : 0 < z) (hn : n ≠ 0) (hn2 : n ≤ 1000000) (hp : p = none) (hc : Cells h q (n * z) cs)
    (hs : h.get s = none) (hw : pw s) (hk : (k (.slice (some ⟨s, 0, none⟩) n n) (s + 1)).wp pw Z (h.set s (.cells ⟨cs⟩ el (z + 1, 0)))) : (apS el z p 0 0 q n c k s).wp pw Z h := by
  subst hp
  unfold apS
  rw [show Nat.ble (0 + n) 1000000 = true by rw [Nat.ble_eq]; omega, show Nat.beq n 0 = false from beq_no hn, show Nat.ble (0 + n) 0 = false by rw [← Bool.not_eq_true, Nat.ble_eq]; omega]
  simp only [Nat.ble, Bool.and_self, cond_true, cond_false]
  rw [wp_first hn hz hc]
  rw [hc.1, beq_yes]
  simp only [Nat.beq_eq_true_eq, beq_yes, Bool.and_self, cond_true]
  show (agrown el z cs _ s).wp pw Z h
  unfold agrown
  rw [wp_anew, hs]
  exact ⟨hw, by simpa using hk⟩
/-- Nothing is added. -/
theorem wp_ap_none {el : TypeId} {z : Nat} {p q : Option Addr} {len cap c : Nat} {k : Value → Nat → AM} (hl : len ≤ 1000000) (hc : len ≤ cap) (hk : (k (.slice p len cap) s).wp pw Z h) : (apS el z p len cap q 0 c k s).wp pw Z h := by
  unfold apS
  rw [show Nat.ble (len + 0) 1000000 = true by rw [Nat.ble_eq]; omega, show Nat.ble len cap = true by rw [Nat.ble_eq]; omega]
  exact hk
/-- A row that is one's own, added to: the old name is gone. -/
theorem wp_ap_own {el : TypeId} {z : Nat} {m : Nat} {q : Option Addr} {len n c : Nat} {old cs : List Value} {f : Nat} {t : TypeId} {g : Nat} {k : Value → Nat → AM} (hz : 0 < z) (hn : n ≠ 0) (hn2 : len + n ≤ 1000000) (hm : h.get m = some (.cells ⟨old⟩ t (f, g))) (hold : old.length = len * z) (hf : f = 0 ∨ f = z + 1)
    (hc : Cells h q (n * z) cs) (h1 : cs.all Value.oneCell' = true) (hs : h.get s = none) (hms : m ≠ s) (hwm : pw m) (hw : pw s)
    (hk : ∀ h2 : T, h2.get s = some (.cells ⟨old ++ cs⟩ el (z + 1, 0)) → (∀ n, n ≠ m → n ≠ s → h2.get n = h.get n) → (k (.slice (some ⟨s, 0, none⟩) (len + n) (len + n)) (s + 1)).wp pw Z h2) : (apS el z (some ⟨m, 0, none⟩) len len q n c k s).wp pw Z h := by
  unfold apS
  rw [show Nat.ble (len + n) 1000000 = true by rw [Nat.ble_eq]; omega, show Nat.ble len len = true by rw [Nat.ble_eq]; omega, show Nat.beq n 0 = false from beq_no hn, show Nat.ble (len + n) len = false by rw [← Bool.not_eq_true, Nat.ble_eq]; omega]
  simp only [Bool.and_self, cond_true, cond_false]
  rw [wp_first hn hz hc, hc.1, beq_yes, h1]
  simp only [Bool.and_self, cond_true]
  rw [wp_cells, hm]
  dsimp only
  rw [List.drop_zero, List.take_of_length_le (by omega)]
  refine ⟨hold, ?_⟩
  unfold akill
  rw [wp_get, hm]
  dsimp only [Option.isSome]
  simp only [Bool.false_or]
  unfold agrown
  rcases hf with rfl | rfl
  · rw [beq_yes]
    simp only [cond_true]
    rw [wp_anew, hs]
    exact ⟨hw, hk _ get_eq fun n _ h2 => get_ne (Ne.symm h2)⟩
  · rw [show Nat.beq (z + 1) 0 = false from rfl, beq_yes]
    simp only [cond_true, cond_false]
    rw [wp_put, hm]
    refine ⟨hwm, ?_⟩
    dsimp only
    rw [wp_anew, get_ne hms, hs]
    exact ⟨hw, hk _ get_eq fun n h1 h2 => by rw [get_ne (Ne.symm h2), get_ne (Ne.symm h1)]⟩
end
end Go.Ev

/- The law TalkTells, part 0: what the functions answer, by their terms. No condition. -/
import Derived.Test.YtnffkmnjpnlleaaTalkTellsK
import Derived.Test.YtnffkmnjpnlleaaXQ
set_option linter.unusedVariables false
set_option linter.unusedSimpArgs false
set_option maxRecDepth 100000
namespace Go.Ev.R
open Go Go.RowKit
abbrev vi (n : Int) : Value := .int .i64 n
abbrev ptr (b : Nat) : Value := .pointer (some ⟨b, 0, none⟩)
abbrev str (l : List UInt8) : Value := .string ⟨⟨l⟩⟩
end Go.Ev.R
namespace Go.Ev.R
open Go Go.RowKit
abbrev txt (l : List UInt8) : Value := .agg ⟨[str l]⟩
theorem u115 : P.underlying 115 = some (.map 3 114) := by kernel_rfl
theorem u3 : P.underlying 3 = some (.int .i64) := by kernel_rfl
theorem find_cons (k k' : Int) (x : Value) (b : Nat) (es : List MapEntry) (i : Nat) : Instr.findNow (.int .i64) (vi k) (⟨vi k', x, b⟩ :: es) i = if k = k' then some (some (i, x)) else Instr.findNow (.int .i64) (vi k) es (i + 1) := by
  simp only [Instr.findNow, Instr.sameNow]
  by_cases h : k = k'
  · simp [h]
  · rw [if_neg h]
    simp only [if_true]
    rw [show (k == k') = false from by simp [h]]
theorem find_nil (k : Int) (i : Nat) : Instr.findNow (.int .i64) (vi k) [] i = some none := rfl
section
variable {h : T} {pw : Nat → Prop} {Z : Value → T → Prop} {s0 s : Nat} {h0 : T}
/-- A key put into a map that has it not yet. -/
theorem wp_mu {r cl : Nat} {k : Int} {x : Value} {es : List MapEntry} {kk : Unit → Nat → AM} (g : From s0 h0 h s) (hp : ∀ n, s0 ≤ n → pw n) (hb : h.get r = some (.map ⟨es⟩ cl)) (hr : s0 ≤ r) (hfind : Instr.findNow (.int .i64) (vi k) es 0 = some none)
    (hk : ∀ h', From s0 h0 h' s → h'.get r = some (.map ⟨es ++ [⟨vi k, x, cl⟩]⟩ (cl + 1)) → (kk () s).wp pw Z h') : (amapUpdate P 115 (.map (some r)) (vi k) x kk s).wp pw Z h := by
  have hrs := lt_of_some g.fresh ⟨_, hb⟩
  unfold amapUpdate
  rw [u115]
  dsimp only
  rw [u3]
  dsimp only
  rw [show (keyT (.int .i64) && plain1 (vi k)) = true from rfl]
  simp only [cond_true]
  rw [wp_get, hb]
  dsimp only
  rw [hfind]
  dsimp only
  rw [wp_put, hb]
  refine ⟨hp r hr, ?_⟩
  dsimp only
  have e : (⟨es⟩ : Array MapEntry).push ⟨vi k, x, cl⟩ = ⟨es ++ [⟨vi k, x, cl⟩]⟩ := List.push_toArray es _
  rw [e]
  exact hk _ ⟨g.le, fun n hn => by rw [get_ne (by omega)]; exact g.keep n hn, fun n hn => by rw [get_ne (by omega)]; exact g.fresh n hn⟩ get_eq
end
section
variable {N d : Nat} {h : T} {s : Nat} (hf : ∀ n, s ≤ n → h.get n = none)
include hf
end
end Go.Ev.R
namespace Go.Ev.R
open Go Go.RowKit
section
variable {N d : Nat} {h : T} {s : Nat} (hf : ∀ n, s ≤ n → h.get n = none)
include hf
theorem s94 (n m : Int) : ValS (D N (d + 1)) 94 [vi n, vi m] h s (.bool (decide (0 ≤ n ∧ n ≤ m))) := by
  refine ValS.of hf fun K pw Z g hp hk => ?_
  rw [D_94]; unfold F94; rw [app2_eq]
  have hk := hk _ _ g
  by_cases h0 : 0 ≤ n
  · by_cases h1 : n ≤ m
    · try simp (disch := first | assumption | omega | (simp only [Int.ofNat_eq_natCast, neg_one]; done) | (simp only [Int.ofNat_eq_natCast, neg_one]; omega)) only [tysW, wB, mB, Nat.reduceAdd, Nat.reduceMul, List.length_cons, List.length_nil]
      rw [decide_eq_true ⟨h0, h1⟩] at hk; exact hk
    · try simp (disch := first | assumption | omega | (simp only [Int.ofNat_eq_natCast, neg_one]; done) | (simp only [Int.ofNat_eq_natCast, neg_one]; omega)) only [tysW, wB, mB, Nat.reduceAdd, Nat.reduceMul, List.length_cons, List.length_nil]
      rw [decide_eq_false (by omega)] at hk; exact hk
  · try simp (disch := first | assumption | omega | (simp only [Int.ofNat_eq_natCast, neg_one]; done) | (simp only [Int.ofNat_eq_natCast, neg_one]; omega)) only [tysW, wB, mB, Nat.reduceAdd, Nat.reduceMul, List.length_cons, List.length_nil]
    rw [decide_eq_false (by omega)] at hk; exact hk
theorem s95 (n : Int) : ValS (D N (d + 1)) 95 [vi n] h s (.bool (decide (0 ≤ n ∧ n ≤ 255))) := by
  refine ValS.of hf fun K pw Z g hp hk => ?_
  rw [D_95]; unfold F95; rw [app1_eq]
  have hk := hk _ _ g
  by_cases h0 : 0 ≤ n
  · by_cases h1 : n < 256
    · try simp (disch := first | assumption | omega | (simp only [Int.ofNat_eq_natCast, neg_one]; done) | (simp only [Int.ofNat_eq_natCast, neg_one]; omega)) only [tysW, wB, mB, Nat.reduceAdd, Nat.reduceMul, List.length_cons, List.length_nil]
      rw [decide_eq_true ⟨h0, by omega⟩] at hk; exact hk
    · try simp (disch := first | assumption | omega | (simp only [Int.ofNat_eq_natCast, neg_one]; done) | (simp only [Int.ofNat_eq_natCast, neg_one]; omega)) only [tysW, wB, mB, Nat.reduceAdd, Nat.reduceMul, List.length_cons, List.length_nil]
      rw [decide_eq_false (by omega)] at hk; exact hk
  · try simp (disch := first | assumption | omega | (simp only [Int.ofNat_eq_natCast, neg_one]; done) | (simp only [Int.ofNat_eq_natCast, neg_one]; omega)) only [tysW, wB, mB, Nat.reduceAdd, Nat.reduceMul, List.length_cons, List.length_nil]
    rw [decide_eq_false (by omega)] at hk; exact hk
theorem s96 (n : Int) : ValS (D N (d + 1)) 96 [vi n] h s (.bool (decide (0 ≤ n ∧ n ≤ 2147483647))) := by
  refine ValS.of hf fun K pw Z g hp hk => ?_
  rw [D_96]; unfold F96; rw [app1_eq]
  have hk := hk _ _ g
  by_cases h0 : 0 ≤ n
  · by_cases h1 : n ≤ 2147483647
    · try simp (disch := first | assumption | omega | (simp only [Int.ofNat_eq_natCast, neg_one]; done) | (simp only [Int.ofNat_eq_natCast, neg_one]; omega)) only [tysW, wB, mB, Nat.reduceAdd, Nat.reduceMul, List.length_cons, List.length_nil]
      rw [decide_eq_true ⟨h0, h1⟩] at hk; exact hk
    · try simp (disch := first | assumption | omega | (simp only [Int.ofNat_eq_natCast, neg_one]; done) | (simp only [Int.ofNat_eq_natCast, neg_one]; omega)) only [tysW, wB, mB, Nat.reduceAdd, Nat.reduceMul, List.length_cons, List.length_nil]
      rw [decide_eq_false (by omega)] at hk; exact hk
  · try simp (disch := first | assumption | omega | (simp only [Int.ofNat_eq_natCast, neg_one]; done) | (simp only [Int.ofNat_eq_natCast, neg_one]; omega)) only [tysW, wB, mB, Nat.reduceAdd, Nat.reduceMul, List.length_cons, List.length_nil]
    rw [decide_eq_false (by omega)] at hk; exact hk
end
section
variable {N : Nat} (hN : N = 100000) (d : Nat) (K : KV) (s : Nat) {k : Int} (hk : 1 ≤ k ∧ k ≤ 7)
include hN hk
end
section
variable {N d : Nat} {h : T} {s : Nat} (hf : ∀ n, s ≤ n → h.get n = none)
include hf
end
end Go.Ev.R
namespace Go.Ev.R
open Go Go.RowKit
/-- A saying as it comes in. -/
structure SV where
  kind : Int
  sen : Int
  seq : Int
  time : Int
  p : Option Addr
  n : Nat
  c : Nat
/-- Whether it may not be said. -/
def badS (x : SV) : Bool := !decide (1 ≤ x.kind ∧ x.kind ≤ 7) || (!decide (0 ≤ x.sen ∧ x.sen ≤ 255) || (!decide (0 ≤ x.seq ∧ x.seq ≤ 2147483647) || (decide (24 < x.n) || ((!decide (x.sen = 0) && decide (x.kind = 6 ∨ x.kind = 7)) || ((!decide (x.seq = 0) && decide (x.kind = 1)) || ((!decide (x.time = 0) && decide (x.kind = 1 ∨ x.kind = 7)) || (!decide (x.n = 0) && !decide (x.kind = 4 ∨ x.kind = 5))))))))
section
variable (N : Nat) (C : CallT) (K : KV) (v2 v19 x : Value) (s : Nat)
end
section
variable {N d : Nat} (hN : N = 100000) {h : T} {s : Nat} (hf : ∀ n, s ≤ n → h.get n = none)
include hN hf
end
end Go.Ev.R
namespace Go.Ev.R
open Go Go.RowKit
abbrev u8 (n : Int) : Value := .int .u8 n
section
variable {N : Nat} (hN : N = 100000) (d : Nat) (K : KV) (s : Nat) {k : Int} (hk : 1 ≤ k ∧ k ≤ 7)
include hN hk
end
section
variable (N : Nat) (C : CallT) (K : KV) (v2 v5 x : Value) (s : Nat)
variable {a c d e : Int} {p : Option Addr} {n m s0 : Nat} {pw : Nat → Prop} {Z : Value → T → Prop} {h : T} (hb : h.get s0 = some (.cells ⟨[vi a, vi c, vi d, vi e, .slice p n m]⟩ 33 (0,0)))
include hb
end
section
variable {N d : Nat} (hN : N = 100000) {h : T} {s : Nat} (hf : ∀ n, s ≤ n → h.get n = none)
include hN hf
end
end Go.Ev.R
namespace Go.Ev.R
open Go Go.RowKit
/-- A byte of a number. -/
def byteN (n : Int) (k : Nat) : Int := (n / 256 ^ k) % 256
def be : Nat → Int → List Int
  | 0, _ => []
  | w + 1, n => byteN n w :: be w n
theorem be_len (n : Int) : ∀ w, (be w n).length = w
  | 0 => rfl
  | w + 1 => by simp [be, be_len n w]
theorem wrap_u8 (n : Int) : IntKind.u8.wrap n = n % 256 := rfl
theorem wrap_u64 (n : Int) : IntKind.u64.wrap n = n % 18446744073709551616 := rfl
theorem byte_range (n : Int) (k : Nat) : 0 ≤ byteN n k ∧ byteN n k < 256 := by unfold byteN; omega
theorem be_range (n : Int) : ∀ w, ∀ x ∈ be w n, 0 ≤ x ∧ x < 256
  | 0, x, h => by cases h
  | w + 1, x, h => by
    rcases List.mem_cons.1 h with rfl | h
    · exact byte_range n w
    · exact be_range n w x h
theorem div_div (a : Int) (j : Nat) : a / 256 ^ j / 256 = a / 256 ^ (j + 1) := by
  rw [Int.ediv_ediv_of_nonneg (Int.le_of_lt (Int.pow_pos (by decide))), Int.pow_succ]
theorem byte_u64 (n : Int) (j : Nat) (h : j < 8) : (n % 18446744073709551616 / 256 ^ j) % 256 = byteN n j := by
  unfold byteN
  have : j = 0 ∨ j = 1 ∨ j = 2 ∨ j = 3 ∨ j = 4 ∨ j = 5 ∨ j = 6 ∨ j = 7 := by omega
  rcases this with rfl | rfl | rfl | rfl | rfl | rfl | rfl | rfl <;> simp only [Int.reducePow] <;> omega
theorem fdiv_shr (n : Int) (j : Nat) (h : j < 8) : (n.fdiv (2 ^ (min (8 * j) 64))) % 256 = byteN n j := by
  unfold byteN
  rw [Nat.min_eq_left (by omega), Int.fdiv_eq_ediv_of_nonneg _ (by exact Int.le_of_lt (Int.pow_pos (by decide))), Int.pow_mul]
  rfl
/-- Whether a number is one of a width. -/
def fitsW (w : Nat) (n : Int) : Bool := decide (w = 8) || decide (0 ≤ n ∧ n < 256 ^ w)
def isW (w : Nat) : Prop := w = 1 ∨ w = 2 ∨ w = 4 ∨ w = 8
theorem byte_step (n : Int) {k : Nat} (hk : k < 8) (K : KV) (s : Nat) : mulX P 3 3 true false (i64 8) (vi k) (fun v33 s => shrX P 3 3 false false (vi n) v33 (fun v34 s => convX P 3 5 v34 K s) s) s = K (u8 (byteN n k)) s := by
  have e : Int.ofNat 8 * (k : Int) = ((8 * k : Nat) : Int) := by simp
  rw [mul_eq, wrap_id (by rw [e]; omega) (by rw [e]; omega), e, shr_eq, cv_3_5, wrap_u8]
  rw [← fdiv_shr n k hk]; rfl
/-! ### lists of one's own -/
def EB : Enc Int := ⟨1, fun x => [.int .u8 x], by decide, fun _ => rfl⟩
section
variable {α : Type} {E : Enc α} {el : TypeId}
/-- A list that was made. -/
def OwnG (E : Enc α) (el : TypeId) (h : T) (s : Nat) (p : Option Addr) (len : Nat) (l : List α) : Prop :=
  l.length = len ∧ (p = none ∧ len = 0 ∨ ∃ n f, p = some ⟨n, 0, none⟩ ∧ s ≤ n ∧ h.get n = some (.cells ⟨l.flatMap E.f⟩ el (f, 0)) ∧ (f = 0 ∨ f = E.z + 1))
variable {h h' : T} {s s' : Nat} {p : Option Addr} {len : Nat} {l : List α}
theorem OwnG.sl (o : OwnG E el h s p len l) : Sl E h p len len l := by
  obtain ⟨hl, ⟨rfl, rfl⟩ | ⟨n, f, rfl, _, hg, hf⟩⟩ := o
  · obtain rfl := List.eq_nil_of_length_eq_zero hl
    exact .nil _
  · exact .own hg hf hl
theorem OwnG.but (o : OwnG E el h s p len l) (e : p ≠ none → h'.get (blk p) = h.get (blk p)) : OwnG E el h' s p len l := by
  obtain ⟨hl, ho | ⟨n, f, rfl, h1, hg, hff⟩⟩ := o
  · exact ⟨hl, .inl ho⟩
  · exact ⟨hl, .inr ⟨n, f, rfl, h1, by rw [show h'.get n = h.get n from e (by simp)]; exact hg, hff⟩⟩
theorem OwnG.lt (o : OwnG E el h s p len l) (hf : ∀ n, s' ≤ n → h.get n = none) (hp : p ≠ none) : s ≤ blk p ∧ blk p < s' := by
  obtain ⟨hl, ⟨rfl, _⟩ | ⟨n, f, rfl, h1, hg, hff⟩⟩ := o
  · exact absurd rfl hp
  · exact ⟨h1, lt_of_some hf ⟨_, hg⟩⟩
theorem OwnG.from {s0 : Nat} (o : OwnG E el h s p len l) (hf : ∀ n, s0 ≤ n → h.get n = none) (g : From s0 h h' s') : OwnG E el h' s p len l :=
  o.but fun hp => g.keep _ (o.lt hf hp).2
theorem OwnG.less (o : OwnG E el h s p len l) (hs : s' ≤ s) : OwnG E el h s' p len l := by
  obtain ⟨hl, ho | ⟨n, f, rfl, h1, hg, hff⟩⟩ := o
  · exact ⟨hl, .inl ho⟩
  · exact ⟨hl, .inr ⟨n, f, rfl, by omega, hg, hff⟩⟩
theorem OwnG.nil : OwnG E el h s none 0 [] := ⟨rfl, .inl ⟨rfl, rfl⟩⟩
/-- One's own list, added to. -/
theorem apG {h0 : T} {s0 t n c : Nat} {q : Option Addr} {l2 : List α} {pw : Nat → Prop} {Z : Value → T → Prop} {k : Value → Nat → AM} (g : From s0 h0 h s) (hp : ∀ n, s0 ≤ n → pw n) (o : OwnG E el h t p len l) (ht : s0 ≤ t) (hts : t ≤ s) (r2 : Row E h q n l2) (h1 : ∀ x, (E.f x).all Value.oneCell' = true) (hsm : len + n ≤ 1000000)
    (hk : ∀ p' h' s', From s0 h0 h' s' → s ≤ s' → OwnG E el h' t p' (len + n) (l ++ l2) → (∀ i, i < s → (p ≠ none → i ≠ blk p) → h'.get i = h.get i) → (k (.slice p' (len + n) (len + n)) s').wp pw Z h') :
    (apS el E.z p len len q n c k s).wp pw Z h := by
  by_cases h0 : n = 0
  · subst h0
    have e2 := List.eq_nil_of_length_eq_zero r2.1
    subst e2
    exact wp_ap_none (by omega) (Nat.le_refl _) (hk p h s g (Nat.le_refl _) (by rw [List.append_nil]; exact o) fun _ _ _ => rfl)
  · refine Sl.addK (E := E) o.sl r2 h1 h0 hsm (by omega) (g.fresh _ (Nat.le_refl _)) (hp _ (by have := g.le; omega)) (fun m o' sp e => ?_) fun h2 b2 e2 => ?_
    · subst e
      obtain ⟨hl, ⟨h4, _⟩ | ⟨n', f, h4, h5, hg, hf⟩⟩ := o
      · cases h4
      · cases h4
        exact ⟨hp _ (by omega), by have := lt_of_some g.fresh ⟨_, hg⟩; omega, _, _, _, _, hg, hf⟩
    · have hb : ∀ i, i < s → (p ≠ none → i ≠ blk p) → h2.get i = h.get i := fun i hi hne => e2 i hne (by omega)
      refine hk _ h2 (s + 1) ⟨by have := g.le; omega, fun i hi => ?_, fun i hi => ?_⟩ (by omega) ⟨by rw [List.length_append, o.1, r2.1], .inr ⟨s, E.z + 1, rfl, hts, b2, .inr rfl⟩⟩ hb
      · rw [hb i (by have := g.le; omega) fun hp => by have := o.lt g.fresh hp; omega]
        exact g.keep i hi
      · rw [e2 i (fun hp => by have := o.lt g.fresh hp; omega) (by omega)]
        exact g.fresh i (by omega)
end
theorem xaI {h : T} {p : Option Addr} {len : Nat} {l : List Int} (r : Row EI h p len l) {j : Int} (hj0 : 0 ≤ j) (hj : j < (len : Int)) (cap : Nat) (kd : IntKind) (k : Value → Nat → AM) (s : Nat) :
    M.opt (aindexAt P 31 (.slice p len cap) (.int kd j)) k s = k (.pointer (some ⟨blk p, off p + j.toNat, none⟩)) s := by
  have := r.2.xa (z := 1) xa0_31 (by decide) hj0 hj cap kd k s
  rwa [Nat.mul_one] at this
theorem xaB {h : T} {p : Option Addr} {len : Nat} {l : List Int} (r : Row EB h p len l) {j : Int} (hj0 : 0 ≤ j) (hj : j < (len : Int)) (cap : Nat) (kd : IntKind) (k : Value → Nat → AM) (s : Nat) :
    M.opt (aindexAt P 25 (.slice p len cap) (.int kd j)) k s = k (.pointer (some ⟨blk p, off p + j.toNat, none⟩)) s := by
  have := r.2.xa (z := 1) xa0_25 (by decide) hj0 hj cap kd k s
  rwa [Nat.mul_one] at this
theorem Row.fld {α : Type} {E : Enc α} {h : T} {l : List α} {i j : Nat} {x : α} {v : Value} (hx : l[i]? = some x) (hj : (E.f x)[j]? = some v) : (l.flatMap E.f)[i * E.z + j]? = some v := by
  have h1 := E.flat_at l i x hx
  have hlt : j < E.z := by rw [← E.len x]; exact (List.getElem?_eq_some_iff.1 hj).1
  rw [← h1, List.getElem?_take, if_pos hlt, List.getElem?_drop] at hj
  exact hj
theorem intL {h : T} {p : Option Addr} {len : Nat} {l : List Int} (r : Row EI h p len l) {i : Nat} {x : Int} (hx : l[i]? = some x) {pw : Nat → Prop} {Z : Value → T → Prop} (j : LogT) (s : Nat) :
    (AM.log (aload (blk p) (off p + i) (fun v s => .ret (pk v s)) s) (logU j)).wp pw Z h = (j (vi x) [blk p] [] s).wp pw Z h := by
  have := r.2.oneL (Row.fld (h := h) (E := EI) (j := 0) hx rfl) j s (pw := pw) (Z := Z)
  rw [show i * EI.z + 0 = i from Nat.mul_one i] at this; exact this
theorem Row.byte {h : T} {p : Option Addr} {len : Nat} {l : List Int} (r : Row EB h p len l) {i : Nat} {x : Int} (hx : l[i]? = some x) {pw : Nat → Prop} {Z : Value → T → Prop} (k : Value → Nat → AM) (s : Nat) :
    (aload (blk p) (off p + i) k s).wp pw Z h = (k (u8 x) s).wp pw Z h := by
  have := r.2.one (Row.fld (h := h) (E := EB) (j := 0) hx rfl) k s (pw := pw) (Z := Z)
  rw [show i * EB.z + 0 = i from Nat.mul_one i] at this; exact this
theorem fit1 (x : Value) (K : KV) (s : Nat) : mulX P 3 3 true false (i64 8) (vi 1) (fun v42 s => shlX P 3 3 true false (i64 1) v42 (fun v43 s => geX P 3 3 false false x v43 K s) s) s = geX P 3 3 false false x (vi 256) K s := by kernel_rfl
theorem fit2 (x : Value) (K : KV) (s : Nat) : mulX P 3 3 true false (i64 8) (vi 2) (fun v42 s => shlX P 3 3 true false (i64 1) v42 (fun v43 s => geX P 3 3 false false x v43 K s) s) s = geX P 3 3 false false x (vi 65536) K s := by kernel_rfl
theorem fit4 (x : Value) (K : KV) (s : Nat) : mulX P 3 3 true false (i64 8) (vi 4) (fun v42 s => shlX P 3 3 true false (i64 1) v42 (fun v43 s => geX P 3 3 false false x v43 K s) s) s = geX P 3 3 false false x (vi 4294967296) K s := by kernel_rfl
section
variable {N d : Nat} {h : T} {s : Nat} (hf : ∀ n, s ≤ n → h.get n = none)
include hf
theorem s167 {w : Nat} (hw : isW w) : ValS (D N (d + 1)) 167 [vi w] h s (.bool true) := by
  refine ValS.of hf fun K pw Z g hp hk => ?_
  have hk := hk _ _ g
  rw [D_167]; unfold F167; rw [app1_eq]
  rcases hw with rfl | rfl | rfl | rfl <;> (try simp (disch := first | assumption | omega | (simp only [Int.ofNat_eq_natCast, neg_one]; done) | (simp only [Int.ofNat_eq_natCast, neg_one]; omega)) only [tysW, wB, mB, Nat.reduceAdd, Nat.reduceMul, List.length_cons, List.length_nil]; exact hk)
theorem s168 {w : Nat} (hw : isW w) : ValS (D N (d + 1)) 168 [vi w] h s (.bool true) := by
  refine ValS.of hf fun K pw Z g hp hk => ?_
  have hk := hk _ _ g
  rw [D_168]; unfold F168; rw [app1_eq]
  rcases hw with rfl | rfl | rfl | rfl <;> (try simp (disch := first | assumption | omega | (simp only [Int.ofNat_eq_natCast, neg_one]; done) | (simp only [Int.ofNat_eq_natCast, neg_one]; omega)) only [tysW, wB, mB, Nat.reduceAdd, Nat.reduceMul, List.length_cons, List.length_nil]; exact hk)
theorem s112 {p : Option Addr} {len cap : Nat} {l : List Int} (r : Sl EB h p len cap l) (hl : len ≤ 100000) : PureS (D N (d + 1)) 112 [.slice p len cap] h s (fun v h' s' => ∃ p', v = .slice p' len len ∧ OwnG EB 5 h' s p' len l) := by
  refine PureS.of hf fun K pw Z g hp hk => ?_
  rw [D_112]; unfold F112; rw [app1_eq]
  cases p with
  | none =>
    obtain ⟨rfl, rfl⟩ := r.emp rfl
    try simp (disch := first | assumption | omega | (simp only [Int.ofNat_eq_natCast, neg_one]; done) | (simp only [Int.ofNat_eq_natCast, neg_one]; omega)) only [tysW, wB, mB, Nat.reduceAdd, Nat.reduceMul, List.length_cons, List.length_nil]
    exact hk _ _ _ g ⟨_, rfl, r.row.1, .inl ⟨rfl, rfl⟩⟩
  | some a =>
    try simp (disch := first | assumption | omega | (simp only [Int.ofNat_eq_natCast, neg_one]; done) | (simp only [Int.ofNat_eq_natCast, neg_one]; omega)) only [tysW, wB, mB, Nat.reduceAdd, Nat.reduceMul, List.length_cons, List.length_nil]
    refine wp_newF g hp fun h1 g1 c1 b1 => ?_
    try simp (disch := first | assumption | omega | (simp only [Int.ofNat_eq_natCast, neg_one]; done) | (simp only [Int.ofNat_eq_natCast, neg_one]; omega)) only [tysW, wB, mB, Nat.reduceAdd, Nat.reduceMul, List.length_cons, List.length_nil]
    refine apG (E := EB) (l := []) (len := 0) (t := s) g1 hp ⟨rfl, .inr ⟨s, 0, rfl, Nat.le_refl _, b1, .inl rfl⟩⟩ (Nat.le_refl _) (by omega) (r.from hf g1).row (fun _ => rfl) (by omega) fun p' h2 s2 g2 _ o2 e2 => ?_
    rw [Nat.zero_add] at *
    exact hk _ _ _ g2 ⟨p', rfl, o2⟩
end
end Go.Ev.R
namespace Go.Ev.R
open Go Go.RowKit
/-- All numbers' bytes. -/
def bys (w : Nat) (l : List Int) : List Int := l.flatMap (be w)
theorem take_succ {l : List Int} {i : Nat} {x : Int} (hx : l[i]? = some x) : l.take (i + 1) = l.take i ++ [x] := by
  rw [List.take_add_one, hx]; rfl
theorem bys_take {l : List Int} {i : Nat} {x : Int} (hx : l[i]? = some x) (w : Nat) : bys w (l.take (i + 1)) = bys w (l.take i) ++ be w x := by
  unfold bys
  rw [take_succ hx, List.flatMap_append]; simp
theorem fits_t {w : Nat} (hw : isW w) {n : Int} : fitsW w n = true ↔ ¬ ((w : Int) < 8 ∧ (n < 0 ∨ ¬ n < 256 ^ w)) := by
  unfold fitsW
  rcases hw with rfl | rfl | rfl | rfl <;> simp <;> omega
section
variable (N : Nat) (C : CallT) (K : KV) (v2 v10 v11 v12 : Value) (j20 : Value → Value → Value → Nat → AM) (s : Nat) {pw : Nat → Prop} {Z : Value → T → Prop} {h : T} (n : Int)
theorem no141 : X141_2 N C K (.bool true) v2 (vi n) j20 v10 v11 v12 (.bool true) s = K (.tuple ⟨[.slice none 0 0, i64 4]⟩) s := rfl
theorem ok141_8 : (X141_2 N C K (.bool false) (vi (8 : Nat)) (vi n) j20 v10 v11 v12 undef s).wp pw Z h = ((loopJ N 2 (fun _ _ _ => AM.fail) (X141_1 N C K (vi n) j20 v10 v11) : Value → Value → Nat → AM) v12 (vi 7) s).wp pw Z h := by
  unfold X141_2
  try simp (disch := first | assumption | omega | (simp only [Int.ofNat_eq_natCast, neg_one]; done) | (simp only [Int.ofNat_eq_natCast, neg_one]; omega)) only [tysW, wB, mB, Nat.reduceAdd, Nat.reduceMul, List.length_cons, List.length_nil]
  rfl
theorem go141 {w : Nat} (hw : w = 1 ∨ w = 2 ∨ w = 4) : (X141_2 N C K (.bool true) (vi w) (vi n) j20 v10 v11 v12 (.bool false) s).wp pw Z h = if n < 256 ^ w then ((loopJ N 2 (fun _ _ _ => AM.fail) (X141_1 N C K (vi n) j20 v10 v11) : Value → Value → Nat → AM) v12 (vi ((w : Int) - 1)) s).wp pw Z h else (K (.tuple ⟨[.slice none 0 0, i64 4]⟩) s).wp pw Z h := by
  unfold X141_2
  rcases hw with rfl | rfl | rfl
  · try simp (disch := first | assumption | omega | (simp only [Int.ofNat_eq_natCast, neg_one]; done) | (simp only [Int.ofNat_eq_natCast, neg_one]; omega)) only [tysW, wB, mB, Nat.reduceAdd, Nat.reduceMul, List.length_cons, List.length_nil, fit1, Int.natCast_one, Int.cast_ofNat_Int]
    by_cases h1 : (256 : Int) ≤ n
    · rw [if_neg (by simp; omega)]
      try simp (disch := first | assumption | omega | (simp only [Int.ofNat_eq_natCast, neg_one]; done) | (simp only [Int.ofNat_eq_natCast, neg_one]; omega)) only [tysW, wB, mB, Nat.reduceAdd, Nat.reduceMul, List.length_cons, List.length_nil]
    · rw [if_pos (by simp; omega)]
      try simp (disch := first | assumption | omega | (simp only [Int.ofNat_eq_natCast, neg_one]; done) | (simp only [Int.ofNat_eq_natCast, neg_one]; omega)) only [tysW, wB, mB, Nat.reduceAdd, Nat.reduceMul, List.length_cons, List.length_nil]
      rfl
  · try simp (disch := first | assumption | omega | (simp only [Int.ofNat_eq_natCast, neg_one]; done) | (simp only [Int.ofNat_eq_natCast, neg_one]; omega)) only [tysW, wB, mB, Nat.reduceAdd, Nat.reduceMul, List.length_cons, List.length_nil, fit2, Int.cast_ofNat_Int]
    by_cases h1 : (65536 : Int) ≤ n
    · rw [if_neg (by simp; omega)]
      try simp (disch := first | assumption | omega | (simp only [Int.ofNat_eq_natCast, neg_one]; done) | (simp only [Int.ofNat_eq_natCast, neg_one]; omega)) only [tysW, wB, mB, Nat.reduceAdd, Nat.reduceMul, List.length_cons, List.length_nil]
    · rw [if_pos (by simp; omega)]
      try simp (disch := first | assumption | omega | (simp only [Int.ofNat_eq_natCast, neg_one]; done) | (simp only [Int.ofNat_eq_natCast, neg_one]; omega)) only [tysW, wB, mB, Nat.reduceAdd, Nat.reduceMul, List.length_cons, List.length_nil]
      rfl
  · try simp (disch := first | assumption | omega | (simp only [Int.ofNat_eq_natCast, neg_one]; done) | (simp only [Int.ofNat_eq_natCast, neg_one]; omega)) only [tysW, wB, mB, Nat.reduceAdd, Nat.reduceMul, List.length_cons, List.length_nil, fit4, Int.cast_ofNat_Int]
    by_cases h1 : (4294967296 : Int) ≤ n
    · rw [if_neg (by simp; omega)]
      try simp (disch := first | assumption | omega | (simp only [Int.ofNat_eq_natCast, neg_one]; done) | (simp only [Int.ofNat_eq_natCast, neg_one]; omega)) only [tysW, wB, mB, Nat.reduceAdd, Nat.reduceMul, List.length_cons, List.length_nil]
    · rw [if_pos (by simp; omega)]
      try simp (disch := first | assumption | omega | (simp only [Int.ofNat_eq_natCast, neg_one]; done) | (simp only [Int.ofNat_eq_natCast, neg_one]; omega)) only [tysW, wB, mB, Nat.reduceAdd, Nat.reduceMul, List.length_cons, List.length_nil]
      rfl
end
section
variable {N d : Nat} (hN : 100000 ≤ N) {h : T} {s : Nat} (hf : ∀ n, s ≤ n → h.get n = none)
include hN
/-- A number's bytes, laid one after the other. -/
theorem lay141 {C : CallT} {h0 : T} {s0 t : Nat} {K : KV} {pw : Nat → Prop} {Z : Value → T → Prop} (hp : ∀ n, s0 ≤ n → pw n) (ht : s0 ≤ t) (n : Int) (j20 : Value → Value → Value → Nat → AM) (v10 v11 : Value) {w : Nat} (hw : w ≤ 8) {p : Option Addr} {len : Nat} {l : List Int} (hl : len ≤ 100000) (g : From s0 h0 h s) (hts : t ≤ s) (o : OwnG EB 5 h t p len l)
    (hk : ∀ p' h' s', From s0 h0 h' s' → s ≤ s' → OwnG EB 5 h' t p' (len + w) (l ++ be w n) → (∀ i, i < t → h'.get i = h.get i) → (j20 v10 v11 (.slice p' (len + w) (len + w)) s').wp pw Z h') :
    ((loopJ N 2 (fun _ _ _ => AM.fail) (X141_1 N C K (vi n) j20 v10 v11) : Value → Value → Nat → AM) (.slice p len len) (vi ((w : Int) - 1)) s).wp pw Z h := by
  have loop : ∀ (B : (Value → Value → Nat → AM) → Value → Value → Nat → AM) (hB : ∀ H u i s', B H u i s' = X141_1 N C K (vi n) j20 v10 v11 H u i s') (m : Nat) (w' : Nat) (p1 : Option Addr) (len1 : Nat) (l1 : List Int) (h1 : T) (s1 : Nat), w' < m → w' ≤ w → len1 + w' = len + w → From s0 h0 h1 s1 → s ≤ s1 → OwnG EB 5 h1 t p1 len1 l1 → l1 ++ be w' n = l ++ be w n → (∀ i, i < t → h1.get i = h.get i) →
      (loopJ m 2 (fun _ _ _ => AM.fail) B (.slice p1 len1 len1) (vi ((w' : Int) - 1)) s1).wp pw Z h1 := by
    intro B hB m
    induction m with
    | zero => intro w' p1 len1 l1 h1 s1 hm; omega
    | succ m ih =>
      intro w' p1 len1 l1 h1 s1 hm hww hlen g1 hs1 o1 e1 k1
      rw [loopJ_succ, hB]
      unfold X141_1
      cases w' with
      | zero =>
        try simp (disch := first | assumption | omega | (simp only [Int.ofNat_eq_natCast, neg_one]; done) | (simp only [Int.ofNat_eq_natCast, neg_one]; omega)) only [tysW, wB, mB, Nat.reduceAdd, Nat.reduceMul, List.length_cons, List.length_nil]
        obtain rfl : len1 = len + w := by omega
        rw [show l1 = l ++ be w n by rw [← e1]; simp [be]] at o1
        exact hk _ _ _ g1 hs1 o1 k1
      | succ w' =>
        rw [show ((w' + 1 : Nat) : Int) - 1 = (w' : Int) by omega]
        try simp (disch := first | assumption | omega | (simp only [Int.ofNat_eq_natCast, neg_one]; done) | (simp only [Int.ofNat_eq_natCast, neg_one]; omega)) only [tysW, wB, mB, Nat.reduceAdd, Nat.reduceMul, List.length_cons, List.length_nil, byte_step n (show w' < 8 by omega)]
        refine wp_newF g1 hp fun h2 g2 c2 b2 => ?_
        try simp (disch := first | assumption | omega | (simp only [Int.ofNat_eq_natCast, neg_one]; done) | (simp only [Int.ofNat_eq_natCast, neg_one]; omega)) only [tysW, wB, mB, Nat.reduceAdd, Nat.reduceMul, List.length_cons, List.length_nil]
        refine apG (E := EB) (t := t) g2 hp (o1.from g1.fresh c2) ht (by omega) (Row.of_cells (l := [byteN n w']) b2 rfl) (fun _ => rfl) (by omega) fun p' h3 s3 g3 l3 o3 e3 => ?_
        try simp (disch := first | assumption | omega | (simp only [Int.ofNat_eq_natCast, neg_one]; done) | (simp only [Int.ofNat_eq_natCast, neg_one]; omega)) only [tysW, wB, mB, Nat.reduceAdd, Nat.reduceMul, List.length_cons, List.length_nil]
        refine ih w' p' (len1 + 1) _ h3 s3 (by omega) (by omega) (by omega) g3 (by omega) o3 ?_ fun i hi => ?_
        · rw [← e1, List.append_assoc]; rfl
        · rw [e3 i (by omega) fun hp => by have := o1.lt g1.fresh hp; omega, c2.keep i (by omega)]
          exact k1 i hi
  exact loop _ (fun _ _ _ _ => rfl) N w p len l h s (by omega) (Nat.le_refl _) rfl g (Nat.le_refl _) o rfl fun _ _ => rfl
include hf
theorem s141 {w : Nat} (hw : isW w) {p q : Option Addr} {len cap n c : Nat} {b l : List Int} (r : Sl EB h p len cap b) (r2 : Row EI h q n l) (hl : len ≤ 50000) (hn : n ≤ 1000) : PureS (D N (d + 2)) 141 [.slice p len cap, vi w, .slice q n c] h s (fun v h' s' =>
    if l.all (fitsW w) = true then ∃ p', v = .tuple ⟨[.slice p' (len + n * w) (len + n * w), vi 0]⟩ ∧ OwnG EB 5 h' s p' (len + n * w) (b ++ bys w l) else v = .tuple ⟨[.slice none 0 0, vi 4]⟩) := by
  refine PureS.of hf fun K pw Z g hp hk => ?_
  rw [D_141]; unfold F141; rw [app3_eq]
  refine ValS.go g hp (s167 (d := d) hf hw) fun h1 s1 g1 c1 => ?_
  try simp (disch := first | assumption | omega | (simp only [Int.ofNat_eq_natCast, neg_one]; done) | (simp only [Int.ofNat_eq_natCast, neg_one]; omega)) only [tysW, wB, mB, Nat.reduceAdd, Nat.reduceMul, List.length_cons, List.length_nil]
  refine PureS.go g1 hp (s112 (d := d) g1.fresh (r.from hf g1) (by omega)) fun v h2 s2 g2 c2 hv => ?_
  obtain ⟨p2, rfl, o2⟩ := hv
  have l1 := c1.le
  have l2 := c2.le
  have hql := r2.1
  have hw8 : w ≤ 8 := by rcases hw with rfl | rfl | rfl | rfl <;> omega
  try simp (disch := first | assumption | omega | (simp only [Int.ofNat_eq_natCast, neg_one]; done) | (simp only [Int.ofNat_eq_natCast, neg_one]; omega)) only [tysW, wB, mB, Nat.reduceAdd, Nat.reduceMul, List.length_cons, List.length_nil]
  have loop : ∀ (J : Value → Nat → AM) (hJ : ∀ v s, J v s = K (.tuple ⟨[v, i64 0]⟩) s) (B : (Value → Value → Value → Value → Nat → AM) → Value → Value → Value → Value → Nat → AM) (hB : ∀ H u v x i s', B H u v x i s' = X141_3 N (D N (d + 1)) K (vi n) (.slice q n c) (vi w) J H u v x i s') (m i : Nat) (u v : Value) (p3 : Option Addr) (h3 : T) (s3 : Nat), n - i < m → i ≤ n → From s h h3 s3 → s2 ≤ s3 → OwnG EB 5 h3 s1 p3 (len + i * w) (b ++ bys w (l.take i)) → (l.take i).all (fitsW w) = true →
      (loopJ m 4 (fun _ _ _ _ _ => AM.fail) B u v (.slice p3 (len + i * w) (len + i * w)) (vi i) s3).wp pw Z h3 := by
    intro J hJ B hB m
    induction m with
    | zero => intro i u v p3 h3 s3 hm; omega
    | succ m ih =>
      intro i u v p3 h3 s3 hm hin g3 hs3 o3 ha
      have r3 := g3.row hf r2
      rw [loopJ_succ, hB]
      unfold X141_3
      by_cases hlt : i < n
      · obtain ⟨x, hx⟩ := get_some (l := l) (i := i) (by rw [r2.1]; exact hlt)
        have hxm : x ∈ l := List.mem_of_getElem? hx
        try simp (disch := first | assumption | omega | (simp only [Int.ofNat_eq_natCast, neg_one]; done) | (simp only [Int.ofNat_eq_natCast, neg_one]; omega)) only [tysW, wB, mB, Nat.reduceAdd, Nat.reduceMul, List.length_cons, List.length_nil, xaI r3 (j := (i : Int)) (by omega) (by omega), r3.int hx]
        have bad : fitsW w x = false → (K (.tuple ⟨[.slice none 0 0, i64 4]⟩) s3).wp pw Z h3 := fun hb => by
          refine hk _ _ _ g3 ?_
          rw [if_neg]
          · rfl
          · rw [Bool.not_eq_true, List.all_eq_false]
            exact ⟨x, hxm, by simp [hb]⟩
        have hmul : i * w ≤ 8000 := by
          calc i * w ≤ 1000 * 8 := Nat.mul_le_mul (by omega) hw8
          _ = 8000 := rfl
        have good : fitsW w x = true → (loopJ N 2 (fun _ _ _ => AM.fail) (X141_1 N (D N (d + 1)) K (vi x) (fun v16 v17 v18 s => addX P 3 3 false true (vi i) (i64 1) (fun v19 s => loopJ m 4 (fun _ _ _ _ _ => AM.fail) B v16 v17 v18 v19 s) s) u v) (.slice p3 (len + i * w) (len + i * w)) (vi ((w : Int) - 1)) s3).wp pw Z h3 := fun hfit => by
          refine lay141 (t := s1) hN hp (by omega) x _ _ _ hw8 (by omega) g3 (by omega) o3 fun p4 h4 s4 g4 l4 o4 e4 => ?_
          try simp (disch := first | assumption | omega | (simp only [Int.ofNat_eq_natCast, neg_one]; done) | (simp only [Int.ofNat_eq_natCast, neg_one]; omega)) only [tysW, wB, mB, Nat.reduceAdd, Nat.reduceMul, List.length_cons, List.length_nil]
          have e : len + i * w + w = len + (i + 1) * w := by rw [Nat.succ_mul]; omega
          rw [e] at o4 ⊢
          refine ih (i + 1) u v p4 h4 s4 (by omega) (by omega) g4 (by omega) ?_ ?_
          · rw [bys_take hx, ← List.append_assoc]; exact o4
          · rw [take_succ hx, List.all_append, ha]; simp [hfit]
        by_cases h8 : w = 8
        · subst h8
          try simp (disch := first | assumption | omega | (simp only [Int.ofNat_eq_natCast, neg_one]; done) | (simp only [Int.ofNat_eq_natCast, neg_one]; omega)) only [tysW, wB, mB, Nat.reduceAdd, Nat.reduceMul, List.length_cons, List.length_nil]
          rw [ok141_8]
          exact good (by simp [fitsW])
        · have h8' : (w : Int) < 8 := by omega
          have hw' : w = 1 ∨ w = 2 ∨ w = 4 := by rcases hw with rfl | rfl | rfl | rfl <;> simp at h8 ⊢
          by_cases hx0 : x < 0
          · try simp (disch := first | assumption | omega | (simp only [Int.ofNat_eq_natCast, neg_one]; done) | (simp only [Int.ofNat_eq_natCast, neg_one]; omega)) only [tysW, wB, mB, Nat.reduceAdd, Nat.reduceMul, List.length_cons, List.length_nil]
            rw [no141]
            exact bad (by rw [← Bool.not_eq_true, fits_t hw]; simp [h8', hx0])
          · try simp (disch := first | assumption | omega | (simp only [Int.ofNat_eq_natCast, neg_one]; done) | (simp only [Int.ofNat_eq_natCast, neg_one]; omega)) only [tysW, wB, mB, Nat.reduceAdd, Nat.reduceMul, List.length_cons, List.length_nil]
            rw [go141 (hw := hw')]
            by_cases hx1 : x < 256 ^ w
            · rw [if_pos hx1]
              exact good (by rw [fits_t hw]; simp [hx0, hx1])
            · rw [if_neg hx1]
              exact bad (by rw [← Bool.not_eq_true, fits_t hw]; simp [h8']; omega)
      · obtain rfl : i = n := by omega
        try simp (disch := first | assumption | omega | (simp only [Int.ofNat_eq_natCast, neg_one]; done) | (simp only [Int.ofNat_eq_natCast, neg_one]; omega)) only [tysW, wB, mB, Nat.reduceAdd, Nat.reduceMul, List.length_cons, List.length_nil]
        rw [hJ]
        refine hk _ _ _ g3 ?_
        rw [List.take_of_length_le (by omega)] at o3 ha
        rw [if_pos ha]
        exact ⟨p3, rfl, o3.less l1⟩
  have := loop (fun v7 s => K (.tuple ⟨[v7, i64 0]⟩) s) (fun _ _ => rfl) _ (fun _ _ _ _ _ _ => rfl) N 0 (.slice none 0 0) (i64 0) p2 h2 s2 (by omega) (by omega) g2 (Nat.le_refl _) (by simpa [bys] using o2) rfl
  rw [Nat.zero_mul, Nat.add_zero] at this
  exact this
end
end Go.Ev.R
namespace Go.Ev.R
open Go Go.RowKit
/-- A list's bytes. -/
def lis (l : List Int) : List Int := bys 1 [(l.length : Int)] ++ bys 8 l
theorem fits8 : ∀ l : List Int, l.all (fitsW 8) = true
  | [] => rfl
  | x :: l => by rw [List.all_cons, fits8 l]; rfl
section
variable {N d : Nat} (hN : 100000 ≤ N) {h : T} {s : Nat} (hf : ∀ n, s ≤ n → h.get n = none)
include hN hf
theorem s147 {p q : Option Addr} {len cap n c : Nat} {b l : List Int} (r : Sl EB h p len cap b) (r2 : Row EI h q n l) (hl : len ≤ 40000) (hn : n ≤ 1000) : PureS (D N (d + 3)) 147 [.slice p len cap, .slice q n c] h s (fun v h' s' =>
    if n ≤ 24 then ∃ p', v = .tuple ⟨[.slice p' (len + (1 + n * 8)) (len + (1 + n * 8)), vi 0]⟩ ∧ OwnG EB 5 h' s p' (len + (1 + n * 8)) (b ++ lis l) else v = .tuple ⟨[.slice none 0 0, vi 16]⟩) := by
  refine PureS.of hf fun K pw Z g hp hk => ?_
  rw [D_147]; unfold F147; rw [app2_eq]
  have hql := r2.1
  by_cases h24 : (24 : Int) < (n : Int)
  · try simp (disch := first | assumption | omega | (simp only [Int.ofNat_eq_natCast, neg_one]; done) | (simp only [Int.ofNat_eq_natCast, neg_one]; omega)) only [tysW, wB, mB, Nat.reduceAdd, Nat.reduceMul, List.length_cons, List.length_nil]
    refine hk _ _ _ g ?_
    rw [if_neg (by omega)]; rfl
  · try simp (disch := first | assumption | omega | (simp only [Int.ofNat_eq_natCast, neg_one]; done) | (simp only [Int.ofNat_eq_natCast, neg_one]; omega)) only [tysW, wB, mB, Nat.reduceAdd, Nat.reduceMul, List.length_cons, List.length_nil]
    refine wp_newF g hp fun h1 g1 c1 b1 => ?_
    try simp (disch := first | assumption | omega | (simp only [Int.ofNat_eq_natCast, neg_one]; done) | (simp only [Int.ofNat_eq_natCast, neg_one]; omega)) only [tysW, wB, mB, Nat.reduceAdd, Nat.reduceMul, List.length_cons, List.length_nil]
    refine PureS.go g1 hp (s141 (d := d) (w := 1) hN g1.fresh (.inl rfl) (r.from hf g1) (Row.of_cells (E := EI) (l := [(n : Int)]) b1 rfl) (by omega) (by omega)) fun v h2 s2 g2 c2 hv => ?_
    have l2 := c2.le
    rw [if_pos (by simp [fitsW]; omega)] at hv
    obtain ⟨p', rfl, o⟩ := hv
    try simp (disch := first | assumption | omega | (simp only [Int.ofNat_eq_natCast, neg_one]; done) | (simp only [Int.ofNat_eq_natCast, neg_one]; omega)) only [tysW, wB, mB, Nat.reduceAdd, Nat.reduceMul, List.length_cons, List.length_nil]
    refine PureS.go g2 hp (s141 (d := d) (w := 8) hN g2.fresh (.inr (.inr (.inr rfl))) o.sl (g2.row hf r2) (by omega) (by omega)) fun v h3 s3 g3 c3 hv => ?_
    rw [if_pos (fits8 l)] at hv
    obtain ⟨p3, rfl, o3⟩ := hv
    try simp (disch := first | assumption | omega | (simp only [Int.ofNat_eq_natCast, neg_one]; done) | (simp only [Int.ofNat_eq_natCast, neg_one]; omega)) only [tysW, wB, mB, Nat.reduceAdd, Nat.reduceMul, List.length_cons, List.length_nil]
    refine hk _ _ _ g3 ?_
    rw [if_pos (by omega)]
    rw [show len + 1 * 1 + n * 8 = len + (1 + n * 8) by omega] at o3 ⊢
    refine ⟨p3, rfl, ?_⟩
    rw [List.append_assoc] at o3
    unfold lis
    rw [hql]
    exact o3.less (by omega)
end
theorem fit1' (n : Value) (K : KV) (s : Nat) : mulX P 3 3 true false (i64 8) (vi 1) (fun v11 s => convX P 3 168 v11 (fun v12 s => shlX P 3 168 true false (i64 1) v12 (fun v13 s => ltX P 3 3 false false n v13 K s) s) s) s = ltX P 3 3 false false n (vi 256) K s := by kernel_rfl
theorem fit2' (n : Value) (K : KV) (s : Nat) : mulX P 3 3 true false (i64 8) (vi 2) (fun v11 s => convX P 3 168 v11 (fun v12 s => shlX P 3 168 true false (i64 1) v12 (fun v13 s => ltX P 3 3 false false n v13 K s) s) s) s = ltX P 3 3 false false n (vi 65536) K s := by kernel_rfl
theorem fit4' (n : Value) (K : KV) (s : Nat) : mulX P 3 3 true false (i64 8) (vi 4) (fun v11 s => convX P 3 168 v11 (fun v12 s => shlX P 3 168 true false (i64 1) v12 (fun v13 s => ltX P 3 3 false false n v13 K s) s) s) s = ltX P 3 3 false false n (vi 4294967296) K s := by kernel_rfl
theorem remU (x : Int) {b : Int} (hb : b ≠ 0) (k : KV) (s : Nat) : remX P 180 180 false true (.int .u64 x) (.int .u64 b) k s = k (.int .u64 (x.tmod b)) s := by
  show Bool.rec (motive := fun _ => AM) (k (.int .u64 (x.tmod b)) s) _ (eqZ b (.ofNat 0)) = _
  rw [eqZ_eq, show (b == Int.ofNat 0) = false by simpa using hb]
theorem quoU (x : Int) {b : Int} (hb : b ≠ 0) (k : KV) (s : Nat) : quoX P 180 180 false true (.int .u64 x) (.int .u64 b) k s = k (.int .u64 (IntKind.u64.wrap (x.tdiv b))) s := by
  show Bool.rec (motive := fun _ => AM) (k (.int .u64 (wrapZ .u64 (x.tdiv b))) s) _ (eqZ b (.ofNat 0)) = _
  rw [eqZ_eq, show (b == Int.ofNat 0) = false by simpa using hb, wrapZ_eq]
theorem rem64 (x : Int) (k : KV) (s : Nat) : remX P 180 180 false true (.int .u64 x) (.int .u64 (.ofNat 256)) k s = k (.int .u64 (x.tmod 256)) s := remU x (by decide) k s
theorem quo64 (x : Int) (k : KV) (s : Nat) : quoX P 180 180 false true (.int .u64 x) (.int .u64 (.ofNat 256)) k s = k (.int .u64 (IntKind.u64.wrap (x.tdiv 256))) s := quoU x (by decide) k s
theorem ms1 (K : KV) (s : Nat) : amakeSlice P 25 (vi 1) (vi 1) K s = anew (.cells ⟨(List.replicate 1 (0 : Int)).flatMap EB.f⟩ 5 (0, 0)) (fun b => K (.slice (some ⟨b, 0, none⟩) 1 1)) s := by kernel_rfl
theorem ms2 (K : KV) (s : Nat) : amakeSlice P 25 (vi 2) (vi 2) K s = anew (.cells ⟨(List.replicate 2 (0 : Int)).flatMap EB.f⟩ 5 (0, 0)) (fun b => K (.slice (some ⟨b, 0, none⟩) 2 2)) s := by kernel_rfl
theorem ms4 (K : KV) (s : Nat) : amakeSlice P 25 (vi 4) (vi 4) K s = anew (.cells ⟨(List.replicate 4 (0 : Int)).flatMap EB.f⟩ 5 (0, 0)) (fun b => K (.slice (some ⟨b, 0, none⟩) 4 4)) s := by kernel_rfl
theorem ms8 (K : KV) (s : Nat) : amakeSlice P 25 (vi 8) (vi 8) K s = anew (.cells ⟨(List.replicate 8 (0 : Int)).flatMap EB.f⟩ 5 (0, 0)) (fun b => K (.slice (some ⟨b, 0, none⟩) 8 8)) s := by kernel_rfl
theorem msW {w : Nat} (hw : isW w) (K : KV) (s : Nat) : amakeSlice P 25 (vi w) (vi w) K s = anew (.cells ⟨(List.replicate w (0 : Int)).flatMap EB.f⟩ 5 (0, 0)) (fun b => K (.slice (some ⟨b, 0, none⟩) w w)) s := by
  rcases hw with rfl | rfl | rfl | rfl
  · exact ms1 K s
  · exact ms2 K s
  · exact ms4 K s
  · exact ms8 K s
theorem flatB : ∀ l : List Int, l.flatMap EB.f = l.map u8
  | [] => rfl
  | x :: l => by rw [List.flatMap_cons, flatB l]; rfl
theorem set_place (cs : List Value) (i : Nat) (v : Value) (hi : i < cs.length) : overL cs i [v] = cs.set i v := by
  induction cs generalizing i with
  | nil => simp at hi
  | cons x cs ih =>
    cases i with
    | zero => cases cs <;> rfl
    | succ i =>
      show x :: overL cs i [v] = _
      rw [ih i (by simpa using hi)]; rfl
theorem set_byte (i : Nat) (x : Int) (m : List Int) : overL ((List.replicate (i + 1) (0 : Int) ++ m).flatMap EB.f) i [u8 x] = (List.replicate i (0 : Int) ++ (x :: m)).flatMap EB.f := by
  rw [flatB, set_place _ _ _ (by simp; omega), flatB, ← List.map_set]
  congr 1
  rw [List.replicate_succ', List.append_assoc, List.set_append_right _ _ (by simp)]
  simp
theorem u64_div (n : Int) (j : Nat) (hj : j < 8) : (n % 18446744073709551616 / 256 ^ j).tmod 256 % 256 = byteN n j ∧ (n % 18446744073709551616 / 256 ^ j).tdiv 256 % 18446744073709551616 = n % 18446744073709551616 / 256 ^ (j + 1) := by
  have h0 : 0 ≤ n % 18446744073709551616 / 256 ^ j := Int.ediv_nonneg (by omega) (Int.le_of_lt (Int.pow_pos (by decide)))
  have h1 : n % 18446744073709551616 / 256 ^ j ≤ n % 18446744073709551616 := Int.ediv_le_self _ (by omega)
  rw [← div_div]
  refine ⟨?_, ?_⟩
  · rw [Int.tmod_eq_emod_of_nonneg h0, Int.emod_emod_of_dvd _ (by decide)]
    exact byte_u64 n j hj
  · rw [Int.tdiv_eq_ediv_of_nonneg h0]
    generalize n % 18446744073709551616 / 256 ^ j = y at *
    omega
section
variable {N d : Nat} {h : T} {s : Nat} (hf : ∀ n, s ≤ n → h.get n = none)
include hf
theorem s169 (n : Int) {w : Nat} (hw : isW w) : ValS (D N (d + 1)) 169 [vi n, vi w] h s (.bool (fitsW w n)) := by
  refine ValS.of hf fun K pw Z g hp hk => ?_
  have hk := hk _ _ g
  rw [D_169]; unfold F169; rw [app2_eq]
  by_cases h8 : w = 8
  · subst h8
    try simp (disch := first | assumption | omega | (simp only [Int.ofNat_eq_natCast, neg_one]; done) | (simp only [Int.ofNat_eq_natCast, neg_one]; omega)) only [tysW, wB, mB, Nat.reduceAdd, Nat.reduceMul, List.length_cons, List.length_nil]
    unfold X169_1
    try simp (disch := first | assumption | omega | (simp only [Int.ofNat_eq_natCast, neg_one]; done) | (simp only [Int.ofNat_eq_natCast, neg_one]; omega)) only [tysW, wB, mB, Nat.reduceAdd, Nat.reduceMul, List.length_cons, List.length_nil]
    exact hk
  · have h8' : ¬ (w : Int) = 8 := by omega
    have hw' : w = 1 ∨ w = 2 ∨ w = 4 := by rcases hw with rfl | rfl | rfl | rfl <;> simp at h8 ⊢
    by_cases h0 : 0 ≤ n
    · try simp (disch := first | assumption | omega | (simp only [Int.ofNat_eq_natCast, neg_one]; done) | (simp only [Int.ofNat_eq_natCast, neg_one]; omega)) only [tysW, wB, mB, Nat.reduceAdd, Nat.reduceMul, List.length_cons, List.length_nil]
      unfold X169_1
      have e : fitsW w n = decide (n < 256 ^ w) := by unfold fitsW; rw [decide_eq_false h8]; simp [h0]
      rw [e] at hk
      rcases hw' with rfl | rfl | rfl
      · by_cases h1 : n < (256 : Int)
        · try simp (disch := first | assumption | omega | (simp only [Int.ofNat_eq_natCast, neg_one]; done) | (simp only [Int.ofNat_eq_natCast, neg_one]; omega)) only [tysW, wB, mB, Nat.reduceAdd, Nat.reduceMul, List.length_cons, List.length_nil, fit1', Int.natCast_one, Int.cast_ofNat_Int]
          rw [decide_eq_true (by simpa using h1)] at hk; exact hk
        · try simp (disch := first | assumption | omega | (simp only [Int.ofNat_eq_natCast, neg_one]; done) | (simp only [Int.ofNat_eq_natCast, neg_one]; omega)) only [tysW, wB, mB, Nat.reduceAdd, Nat.reduceMul, List.length_cons, List.length_nil, fit1', Int.natCast_one, Int.cast_ofNat_Int]
          rw [decide_eq_false (by simpa using h1)] at hk; exact hk
      · by_cases h1 : n < (65536 : Int)
        · try simp (disch := first | assumption | omega | (simp only [Int.ofNat_eq_natCast, neg_one]; done) | (simp only [Int.ofNat_eq_natCast, neg_one]; omega)) only [tysW, wB, mB, Nat.reduceAdd, Nat.reduceMul, List.length_cons, List.length_nil, fit2', Int.cast_ofNat_Int]
          rw [decide_eq_true (by simpa using h1)] at hk; exact hk
        · try simp (disch := first | assumption | omega | (simp only [Int.ofNat_eq_natCast, neg_one]; done) | (simp only [Int.ofNat_eq_natCast, neg_one]; omega)) only [tysW, wB, mB, Nat.reduceAdd, Nat.reduceMul, List.length_cons, List.length_nil, fit2', Int.cast_ofNat_Int]
          rw [decide_eq_false (by simpa using h1)] at hk; exact hk
      · by_cases h1 : n < (4294967296 : Int)
        · try simp (disch := first | assumption | omega | (simp only [Int.ofNat_eq_natCast, neg_one]; done) | (simp only [Int.ofNat_eq_natCast, neg_one]; omega)) only [tysW, wB, mB, Nat.reduceAdd, Nat.reduceMul, List.length_cons, List.length_nil, fit4', Int.cast_ofNat_Int]
          rw [decide_eq_true (by simpa using h1)] at hk; exact hk
        · try simp (disch := first | assumption | omega | (simp only [Int.ofNat_eq_natCast, neg_one]; done) | (simp only [Int.ofNat_eq_natCast, neg_one]; omega)) only [tysW, wB, mB, Nat.reduceAdd, Nat.reduceMul, List.length_cons, List.length_nil, fit4', Int.cast_ofNat_Int]
          rw [decide_eq_false (by simpa using h1)] at hk; exact hk
    · try simp (disch := first | assumption | omega | (simp only [Int.ofNat_eq_natCast, neg_one]; done) | (simp only [Int.ofNat_eq_natCast, neg_one]; omega)) only [tysW, wB, mB, Nat.reduceAdd, Nat.reduceMul, List.length_cons, List.length_nil]
      unfold X169_1
      try simp (disch := first | assumption | omega | (simp only [Int.ofNat_eq_natCast, neg_one]; done) | (simp only [Int.ofNat_eq_natCast, neg_one]; omega)) only [tysW, wB, mB, Nat.reduceAdd, Nat.reduceMul, List.length_cons, List.length_nil]
      have e : fitsW w n = false := by unfold fitsW; rw [decide_eq_false h8]; simp [h0]
      rw [e] at hk
      exact hk
end
section
variable {N d : Nat} (hN : 100000 ≤ N) {h : T} {s : Nat} (hf : ∀ n, s ≤ n → h.get n = none)
include hN hf
theorem s170 (n : Int) {w : Nat} (hw : isW w) : PureS (D N (d + 1)) 170 [vi n, vi w] h s (fun v h' s' => ∃ p', v = .slice p' w w ∧ OwnG EB 5 h' s p' w (be w n)) := by
  refine PureS.of hf fun K pw Z g hp hk => ?_
  rw [D_170]; unfold F170; rw [app2_eq, msW hw]
  have hw8 : w ≤ 8 := by rcases hw with rfl | rfl | rfl | rfl <;> omega
  refine wp_newF g hp fun h1 g1 c1 b1 => ?_
  try simp (disch := first | assumption | omega | (simp only [Int.ofNat_eq_natCast, neg_one]; done) | (simp only [Int.ofNat_eq_natCast, neg_one]; omega)) only [tysW, wB, mB, Nat.reduceAdd, Nat.reduceMul, List.length_cons, List.length_nil, wrap_u64]
  have loop : ∀ (J : Nat → AM) (hJ : ∀ s', J s' = K (.slice (some ⟨s, 0, none⟩) w w) s') (B : (Value → Value → Nat → AM) → Value → Value → Nat → AM) (hB : ∀ H u i s', B H u i s' = X170_1 N (D N d) K (.slice (some ⟨s, 0, none⟩) w w) J H u i s') (m i : Nat) (h2 : T), i < m → i ≤ w → From s h h2 (s + 1) → h2.get s = some (.cells ⟨(List.replicate i (0 : Int) ++ be (w - i) n).flatMap EB.f⟩ 5 (0, 0)) →
      (loopJ m 2 (fun _ _ _ => AM.fail) B (.int .u64 (n % 18446744073709551616 / 256 ^ (w - i))) (vi ((i : Int) - 1)) (s + 1)).wp pw Z h2 := by
    intro J hJ B hB m
    induction m with
    | zero => intro i h2 hm; omega
    | succ m ih =>
      intro i h2 hm hi g2 b2
      rw [loopJ_succ, hB]
      unfold X170_1
      cases i with
      | zero =>
        try simp (disch := first | assumption | omega | (simp only [Int.ofNat_eq_natCast, neg_one]; done) | (simp only [Int.ofNat_eq_natCast, neg_one]; omega)) only [tysW, wB, mB, Nat.reduceAdd, Nat.reduceMul, List.length_cons, List.length_nil]
        rw [hJ]
        exact hk _ _ _ g2 ⟨_, rfl, be_len n w, .inr ⟨s, 0, rfl, Nat.le_refl _, by simpa using b2, .inl rfl⟩⟩
      | succ i =>
        rw [show ((i + 1 : Nat) : Int) - 1 = (i : Int) by omega]
        obtain ⟨q1, q2⟩ := u64_div n (w - (i + 1)) (by omega)
        try simp (disch := first | assumption | omega | (simp only [Int.ofNat_eq_natCast, neg_one]; done) | (simp only [Int.ofNat_eq_natCast, neg_one]; omega)) only [tysW, wB, mB, Nat.reduceAdd, Nat.reduceMul, List.length_cons, List.length_nil, rem64, wrap_u8]
        rw [q1]
        refine wp_putF g2 hp b2 (Nat.le_refl _) (by rw [flatB]; simp) rfl fun h3 g3 b3 e3 => ?_
        rw [set_byte] at b3
        try simp (disch := first | assumption | omega | (simp only [Int.ofNat_eq_natCast, neg_one]; done) | (simp only [Int.ofNat_eq_natCast, neg_one]; omega)) only [tysW, wB, mB, Nat.reduceAdd, Nat.reduceMul, List.length_cons, List.length_nil, quo64, wrap_u64]
        rw [q2]
        have e : w - (i + 1) + 1 = w - i := by omega
        have e' : byteN n (w - (i + 1)) :: be (w - (i + 1)) n = be (w - i) n := by rw [← e]; rfl
        rw [e'] at b3
        rw [e]
        exact ih i h3 (by omega) (by omega) g3 b3
  have := loop (fun s' => K (.slice (some ⟨s, 0, none⟩) w w) s') (fun _ => rfl) _ (fun _ _ _ _ => rfl) N w h1 (by omega) (Nat.le_refl _) g1 (by simpa [be] using b1)
  rw [Nat.sub_self, Int.pow_zero, Int.ediv_one] at this
  exact this
theorem s148 {w : Nat} (hw : isW w) {p q : Option Addr} {len cap n c : Nat} {b l : List Int} (r : Sl EB h p len cap b) (r2 : Row EI h q n l) (hl : len ≤ 50000) (hn : n ≤ 1000) : PureS (D N (d + 2)) 148 [.slice p len cap, vi w, .slice q n c] h s (fun v h' s' =>
    if l.all (fitsW w) = true then ∃ p', v = .tuple ⟨[.slice p' (len + n * w) (len + n * w), vi 0]⟩ ∧ OwnG EB 5 h' s p' (len + n * w) (b ++ bys w l) else v = .tuple ⟨[.slice none 0 0, vi 4]⟩) := by
  refine PureS.of hf fun K pw Z g hp hk => ?_
  rw [D_148]; unfold F148; rw [app3_eq]
  refine ValS.go g hp (s168 (d := d) hf hw) fun h1 s1 g1 c1 => ?_
  try simp (disch := first | assumption | omega | (simp only [Int.ofNat_eq_natCast, neg_one]; done) | (simp only [Int.ofNat_eq_natCast, neg_one]; omega)) only [tysW, wB, mB, Nat.reduceAdd, Nat.reduceMul, List.length_cons, List.length_nil]
  have l1 := c1.le
  have hql := r2.1
  have hw8 : w ≤ 8 := by rcases hw with rfl | rfl | rfl | rfl <;> omega
  refine wp_newF g1 hp fun h2 g2 c2 b2 => ?_
  try simp (disch := first | assumption | omega | (simp only [Int.ofNat_eq_natCast, neg_one]; done) | (simp only [Int.ofNat_eq_natCast, neg_one]; omega)) only [tysW, wB, mB, Nat.reduceAdd, Nat.reduceMul, List.length_cons, List.length_nil]
  refine apG (E := EB) (l := []) (len := 0) (t := s1) g2 hp ⟨rfl, .inr ⟨s1, 0, rfl, Nat.le_refl _, b2, .inl rfl⟩⟩ l1 (by omega) (r.from hf g2).row (fun _ => rfl) (by omega) fun p2 h3 s3 g3 l3 o3 e3 => ?_
  rw [List.nil_append, Nat.zero_add] at *
  try simp (disch := first | assumption | omega | (simp only [Int.ofNat_eq_natCast, neg_one]; done) | (simp only [Int.ofNat_eq_natCast, neg_one]; omega)) only [tysW, wB, mB, Nat.reduceAdd, Nat.reduceMul, List.length_cons, List.length_nil]
  have loop : ∀ (J : Value → Nat → AM) (hJ : ∀ v s, J v s = K (.tuple ⟨[v, i64 0]⟩) s) (B : (Value → Value → Value → Value → Nat → AM) → Value → Value → Value → Value → Nat → AM) (hB : ∀ H u v x i s', B H u v x i s' = X148_1 N (D N (d + 1)) K (.slice q n c) (vi w) J H u v x i s') (m i : Nat) (u v : Value) (p3 : Option Addr) (h4 : T) (s4 : Nat), n - i < m → i ≤ n → From s h h4 s4 → s3 ≤ s4 → OwnG EB 5 h4 s1 p3 (len + i * w) (b ++ bys w (l.take i)) → (l.take i).all (fitsW w) = true →
      (loopJ m 4 (fun _ _ _ _ _ => AM.fail) B u v (.slice p3 (len + i * w) (len + i * w)) (vi i) s4).wp pw Z h4 := by
    intro J hJ B hB m
    induction m with
    | zero => intro i u v p3 h3 s3 hm; omega
    | succ m ih =>
      intro i u v p3 h4 s4 hm hin g4 hs4 o4 ha
      have r4 := g4.row hf r2
      rw [loopJ_succ, hB]
      unfold X148_1
      by_cases hlt : i < n
      · obtain ⟨x, hx⟩ := get_some (l := l) (i := i) (by rw [r2.1]; exact hlt)
        have hxm : x ∈ l := List.mem_of_getElem? hx
        try simp (disch := first | assumption | omega | (simp only [Int.ofNat_eq_natCast, neg_one]; done) | (simp only [Int.ofNat_eq_natCast, neg_one]; omega)) only [tysW, wB, mB, Nat.reduceAdd, Nat.reduceMul, List.length_cons, List.length_nil, xaI r4 (j := (i : Int)) (by omega) (by omega), r4.int hx]
        refine ValS.go g4 hp (s169 (d := d) g4.fresh x hw) fun h5 s5 g5 c5 => ?_
        have r5 := g5.row hf r2
        have l5 := c5.le
        have hmul : i * w ≤ 8000 := by
          calc i * w ≤ 1000 * 8 := Nat.mul_le_mul (by omega) hw8
          _ = 8000 := rfl
        cases hb : fitsW w x with
        | false =>
          try simp (disch := first | assumption | omega | (simp only [Int.ofNat_eq_natCast, neg_one]; done) | (simp only [Int.ofNat_eq_natCast, neg_one]; omega)) only [tysW, wB, mB, Nat.reduceAdd, Nat.reduceMul, List.length_cons, List.length_nil]
          refine hk _ _ _ g5 ?_
          rw [if_neg]
          · rfl
          · rw [Bool.not_eq_true, List.all_eq_false]
            exact ⟨x, hxm, by simp [hb]⟩
        | true =>
          try simp (disch := first | assumption | omega | (simp only [Int.ofNat_eq_natCast, neg_one]; done) | (simp only [Int.ofNat_eq_natCast, neg_one]; omega)) only [tysW, wB, mB, Nat.reduceAdd, Nat.reduceMul, List.length_cons, List.length_nil, xaI r5 (j := (i : Int)) (by omega) (by omega), r5.int hx]
          refine PureS.go g5 hp (s170 (d := d) hN g5.fresh x hw) fun v h6 s6 g6 c6 hv => ?_
          obtain ⟨p6, rfl, o6⟩ := hv
          have l6 := c6.le
          have o4' := (o4.from g4.fresh c5).from g5.fresh c6
          try simp (disch := first | assumption | omega | (simp only [Int.ofNat_eq_natCast, neg_one]; done) | (simp only [Int.ofNat_eq_natCast, neg_one]; omega)) only [tysW, wB, mB, Nat.reduceAdd, Nat.reduceMul, List.length_cons, List.length_nil]
          refine apG (E := EB) (t := s1) g6 hp o4' l1 (by omega) o6.sl.row (fun _ => rfl) (by omega) fun p7 h7 s7 g7 l7 o7 e7 => ?_
          try simp (disch := first | assumption | omega | (simp only [Int.ofNat_eq_natCast, neg_one]; done) | (simp only [Int.ofNat_eq_natCast, neg_one]; omega)) only [tysW, wB, mB, Nat.reduceAdd, Nat.reduceMul, List.length_cons, List.length_nil]
          have e : len + i * w + w = len + (i + 1) * w := by rw [Nat.succ_mul]; omega
          rw [e] at o7 ⊢
          refine ih (i + 1) u v p7 h7 s7 (by omega) (by omega) g7 (by omega) ?_ ?_
          · rw [bys_take hx, ← List.append_assoc]; exact o7
          · rw [take_succ hx, List.all_append, ha]; simp [hb]
      · obtain rfl : i = n := by omega
        try simp (disch := first | assumption | omega | (simp only [Int.ofNat_eq_natCast, neg_one]; done) | (simp only [Int.ofNat_eq_natCast, neg_one]; omega)) only [tysW, wB, mB, Nat.reduceAdd, Nat.reduceMul, List.length_cons, List.length_nil]
        rw [hJ]
        refine hk _ _ _ g4 ?_
        rw [List.take_of_length_le (by omega)] at o4 ha
        rw [if_pos ha]
        exact ⟨p3, rfl, o4.less l1⟩
  have := loop (fun v7 s => K (.tuple ⟨[v7, i64 0]⟩) s) (fun _ _ => rfl) _ (fun _ _ _ _ _ _ => rfl) N 0 (.slice none 0 0) (i64 0) p2 h3 s3 (by omega) (by omega) g3 (Nat.le_refl _) (by simpa [bys] using o3) rfl
  rw [Nat.zero_mul, Nat.add_zero] at this
  exact this
theorem s91 {p q : Option Addr} {len cap n c : Nat} {b l : List Int} (r : Sl EB h p len cap b) (r2 : Row EI h q n l) (hl : len ≤ 40000) (hn : n ≤ 1000) : PureS (D N (d + 3)) 91 [.slice p len cap, .slice q n c] h s (fun v h' s' =>
    if n ≤ 24 then ∃ p', v = .tuple ⟨[.slice p' (len + (1 + n * 8)) (len + (1 + n * 8)), vi 0]⟩ ∧ OwnG EB 5 h' s p' (len + (1 + n * 8)) (b ++ lis l) else v = .tuple ⟨[.slice none 0 0, vi 16]⟩) := by
  refine PureS.of hf fun K pw Z g hp hk => ?_
  rw [D_91]; unfold F91; rw [app2_eq]
  have hql := r2.1
  by_cases h24 : (24 : Int) < (n : Int)
  · try simp (disch := first | assumption | omega | (simp only [Int.ofNat_eq_natCast, neg_one]; done) | (simp only [Int.ofNat_eq_natCast, neg_one]; omega)) only [tysW, wB, mB, Nat.reduceAdd, Nat.reduceMul, List.length_cons, List.length_nil]
    refine hk _ _ _ g ?_
    rw [if_neg (by omega)]; rfl
  · try simp (disch := first | assumption | omega | (simp only [Int.ofNat_eq_natCast, neg_one]; done) | (simp only [Int.ofNat_eq_natCast, neg_one]; omega)) only [tysW, wB, mB, Nat.reduceAdd, Nat.reduceMul, List.length_cons, List.length_nil]
    refine wp_newF g hp fun h1 g1 c1 b1 => ?_
    try simp (disch := first | assumption | omega | (simp only [Int.ofNat_eq_natCast, neg_one]; done) | (simp only [Int.ofNat_eq_natCast, neg_one]; omega)) only [tysW, wB, mB, Nat.reduceAdd, Nat.reduceMul, List.length_cons, List.length_nil]
    refine apG (E := EB) (l := []) (len := 0) (t := s) g1 hp ⟨rfl, .inr ⟨s, 0, rfl, Nat.le_refl _, b1, .inl rfl⟩⟩ (Nat.le_refl _) (by omega) (r.from hf g1).row (fun _ => rfl) (by omega) fun p2 h2 s2 g2 l2 o2 e2 => ?_
    rw [List.nil_append, Nat.zero_add] at *
    try simp (disch := first | assumption | omega | (simp only [Int.ofNat_eq_natCast, neg_one]; done) | (simp only [Int.ofNat_eq_natCast, neg_one]; omega)) only [tysW, wB, mB, Nat.reduceAdd, Nat.reduceMul, List.length_cons, List.length_nil, wrap_u8]
    refine wp_newF g2 hp fun h3 g3 c3 b3 => ?_
    try simp (disch := first | assumption | omega | (simp only [Int.ofNat_eq_natCast, neg_one]; done) | (simp only [Int.ofNat_eq_natCast, neg_one]; omega)) only [tysW, wB, mB, Nat.reduceAdd, Nat.reduceMul, List.length_cons, List.length_nil]
    refine apG (E := EB) (t := s) g3 hp (o2.from g2.fresh c3) (Nat.le_refl _) (by omega) (Row.of_cells (E := EB) (l := [(n : Int) % 256]) b3 rfl) (fun _ => rfl) (by omega) fun p4 h4 s4 g4 l4 o4 e4 => ?_
    try simp (disch := first | assumption | omega | (simp only [Int.ofNat_eq_natCast, neg_one]; done) | (simp only [Int.ofNat_eq_natCast, neg_one]; omega)) only [tysW, wB, mB, Nat.reduceAdd, Nat.reduceMul, List.length_cons, List.length_nil]
    refine PureS.go g4 hp (s148 (d := d) (w := 8) hN g4.fresh (.inr (.inr (.inr rfl))) o4.sl (g4.row hf r2) (by omega) (by omega)) fun v h5 s5 g5 c5 hv => ?_
    rw [if_pos (fits8 l)] at hv
    obtain ⟨p5, rfl, o5⟩ := hv
    try simp (disch := first | assumption | omega | (simp only [Int.ofNat_eq_natCast, neg_one]; done) | (simp only [Int.ofNat_eq_natCast, neg_one]; omega)) only [tysW, wB, mB, Nat.reduceAdd, Nat.reduceMul, List.length_cons, List.length_nil]
    refine hk _ _ _ g5 ?_
    rw [if_pos (by omega)]
    rw [show len + 1 + n * 8 = len + (1 + n * 8) by omega] at o5 ⊢
    refine ⟨p5, rfl, ?_⟩
    rw [List.append_assoc] at o5
    unfold lis
    rw [hql]
    have e : bys 1 [(n : Int)] = [(n : Int) % 256] := by simp [bys, be, byteN]
    rw [e]
    exact o5.less (by omega)
theorem s89 {w : Nat} (hw : isW w) {p : Option Addr} {len cap : Nat} {b : List Int} (r : Sl EB h p len cap b) (hl : len ≤ 50000) (n : Int) (hn : fitsW w n = true) : PureS (D N (d + 3)) 89 [.slice p len cap, vi w, vi n] h s (fun v h' s' => ∃ p', v = .slice p' (len + w) (len + w) ∧ OwnG EB 5 h' s p' (len + w) (b ++ be w n)) := by
  refine PureS.of hf fun K pw Z g hp hk => ?_
  rw [D_89]; unfold F89; rw [app3_eq]
  try simp (disch := first | assumption | omega | (simp only [Int.ofNat_eq_natCast, neg_one]; done) | (simp only [Int.ofNat_eq_natCast, neg_one]; omega)) only [tysW, wB, mB, Nat.reduceAdd, Nat.reduceMul, List.length_cons, List.length_nil]
  refine wp_newF g hp fun h1 g1 c1 b1 => ?_
  try simp (disch := first | assumption | omega | (simp only [Int.ofNat_eq_natCast, neg_one]; done) | (simp only [Int.ofNat_eq_natCast, neg_one]; omega)) only [tysW, wB, mB, Nat.reduceAdd, Nat.reduceMul, List.length_cons, List.length_nil]
  refine PureS.go g1 hp (s148 (d := d) hN g1.fresh hw (r.from hf g1) (Row.of_cells (E := EI) (l := [n]) b1 rfl) (by omega) (by omega)) fun v h2 s2 g2 c2 hv => ?_
  rw [if_pos (by simp [hn])] at hv
  obtain ⟨p', rfl, o⟩ := hv
  try simp (disch := first | assumption | omega | (simp only [Int.ofNat_eq_natCast, neg_one]; done) | (simp only [Int.ofNat_eq_natCast, neg_one]; omega)) only [tysW, wB, mB, Nat.reduceAdd, Nat.reduceMul, List.length_cons, List.length_nil]
  rw [Nat.one_mul] at *
  refine hk _ _ _ g2 ⟨p', rfl, ?_⟩
  simpa [bys] using o.less (by omega : s ≤ s + 1)
end
end Go.Ev.R
namespace Go.Ev.R
open Go Go.RowKit
theorem ne35 (a b : Int) (k : KV) (s : Nat) : neX P 35 35 false true (vi a) (vi b) k s = k (.bool (!decide (a = b))) s := ne_eq 35 35 false true a b k s
theorem eq32 (a b : Int) (k : KV) (s : Nat) : eqX P 21 21 false true (.int .i32 a) (.int .i32 b) k s = k (.bool (decide (a = b))) s := by
  show k (.bool (eqZ a b)) s = _
  rw [eqZ_eq]; rfl
theorem eq8 (a b : Int) (k : KV) (s : Nat) : eqX P 5 5 false true (u8 a) (u8 b) k s = k (.bool (decide (a = b))) s := by
  show k (.bool (eqZ a b)) s = _
  rw [eqZ_eq]; rfl
theorem dec1 {l : List UInt8} {p : Nat} {c : UInt8} (h : l[p]? = some c) (hc : c.toNat < 128) : Utf8.decode ⟨⟨l⟩⟩ p = (c.toNat, 1) := by
  have e : (⟨⟨l⟩⟩ : ByteArray).get! (p + 0) = c := by
    show (⟨l⟩ : Array UInt8)[p]! = c
    simp [h]
  unfold Utf8.decode
  dsimp only
  rw [if_pos (by rw [e]; exact hc), e]
section
variable {h : T} {pw : Nat → Prop} {Z : Value → T → Prop} {s0 s : Nat} {h0 : T}
theorem wp_next {it pos : Nat} {l : List UInt8} {c : UInt8} {K : KV} (g : From s0 h0 h s) (hp : ∀ n, s0 ≤ n → pw n) (hb : h.get it = some (.stringIter ⟨⟨l⟩⟩ pos)) (hit : s0 ≤ it) (hc : l[pos]? = some c) (hc1 : c.toNat < 128)
    (hk : ∀ h', From s0 h0 h' s → h'.get it = some (.stringIter ⟨⟨l⟩⟩ (pos + 1)) → (∀ i, i ≠ it → h'.get i = h.get i) → (K (.tuple ⟨[.bool true, goInt pos, .int .i32 c.toNat]⟩) s).wp pw Z h') : (anextOf (ptr it) K s).wp pw Z h := by
  have his := lt_of_some g.fresh ⟨_, hb⟩
  unfold anextOf
  dsimp only
  rw [show Nat.beq 0 0 = true from rfl]
  simp only [cond_true]
  rw [wp_get, hb]
  dsimp only
  have hl : pos < l.length := (List.getElem?_eq_some_iff.1 hc).1
  rw [show Nat.blt pos (⟨⟨l⟩⟩ : ByteArray).size = true by rw [Nat.blt_eq]; exact hl, dec1 hc hc1]
  simp only [cond_true]
  rw [wp_put, hb]
  refine ⟨hp it hit, ?_⟩
  exact hk _ ⟨g.le, fun n hn => by rw [get_ne (by omega)]; exact g.keep n hn, fun n hn => by rw [get_ne (by omega)]; exact g.fresh n hn⟩ get_eq fun i hi => get_ne (Ne.symm hi)
theorem wp_last {it : Nat} {l : List UInt8} {K : KV} (hb : h.get it = some (.stringIter ⟨⟨l⟩⟩ l.length)) : (anextOf (ptr it) K s).wp pw Z h = (K (.tuple ⟨[.bool false]⟩) s).wp pw Z h := by
  unfold anextOf
  dsimp only
  rw [show Nat.beq 0 0 = true from rfl]
  simp only [cond_true]
  rw [wp_get, hb]
  dsimp only
  rw [show Nat.blt l.length (⟨⟨l⟩⟩ : ByteArray).size = false by rw [← Bool.not_eq_true, Nat.blt_eq]; exact Nat.lt_irrefl _]
  rfl
end
section
variable {N d : Nat} (hN : 100000 ≤ N) {h0 h : T} {s0 s t : Nat} {K : KV} {pw : Nat → Prop} {Z : Value → T → Prop} (g : From s0 h0 h s) (hp : ∀ n, s0 ≤ n → pw n) {wb : Nat} (hwb : s0 ≤ wb) {p : Option Addr} {len : Nat} {b : List Int} (hw : h.get wb = some (.cells ⟨[.slice p len len, .bool false]⟩ 111 (0, 0))) (r : Sl EB h p len len b)
include hN g hp hwb hw r
theorem s86 {w : Nat} (hW : isW w) {q : Option Addr} {n : Int} (r2 : Row EI h q 1 [n]) (hn : fitsW w n = true) (hl : len ≤ 40000) (hk : ∀ p' h' s', From s0 h0 h' s' → s ≤ s' → h'.get wb = some (.cells ⟨[.slice p' (len + w) (len + w), .bool false]⟩ 111 (0, 0)) → OwnG EB 5 h' s p' (len + w) (b ++ be w n) → (∀ i, i < s → i ≠ wb → h'.get i = h.get i) → (K (.tuple ⟨[]⟩) s').wp pw Z h') :
    (D N (d + 3) 86 [ptr wb, vi w, .slice q 1 1] K s).wp pw Z h := by
  have hws := lt_of_some g.fresh ⟨_, hw⟩
  rw [D_86]; unfold F86; rw [app3_eq]
  unfold X86_1
  try simp (disch := first | assumption | omega | (simp only [Int.ofNat_eq_natCast, neg_one]; done) | (simp only [Int.ofNat_eq_natCast, neg_one]; omega)) only [tysW, wB, mB, Nat.reduceAdd, Nat.reduceMul, List.length_cons, List.length_nil, ldB hw, clB hw, ldBL hw, clBL hw]
  refine PureS.go g hp (s141 (d := d) hN g.fresh hW r r2 (by omega) (by omega)) fun v h1 s1 g1 c1 hv => ?_
  have l1 := c1.le
  rw [if_pos (by simp [hn])] at hv
  obtain ⟨p', rfl, o⟩ := hv
  rw [Nat.one_mul] at *
  have hw1 := c1.box hw hws
  try simp (disch := first | assumption | omega | (simp only [Int.ofNat_eq_natCast, neg_one]; done) | (simp only [Int.ofNat_eq_natCast, neg_one]; omega)) only [tysW, wB, mB, Nat.reduceAdd, Nat.reduceMul, List.length_cons, List.length_nil, ldB hw1, clB hw1, ldBL hw1, clBL hw1, ne35, decide_true]
  refine wp_putF g1 hp hw1 hwb (by simp) rfl fun h2 g2 b2 e2 => ?_
  simp only [overL] at b2
  try simp (disch := first | assumption | omega | (simp only [Int.ofNat_eq_natCast, neg_one]; done) | (simp only [Int.ofNat_eq_natCast, neg_one]; omega)) only [tysW, wB, mB, Nat.reduceAdd, Nat.reduceMul, List.length_cons, List.length_nil, ldB b2, clB b2, ldBL b2, clBL b2]
  refine wp_putF g2 hp b2 hwb (by simp) rfl fun h3 g3 b3 e3 => ?_
  simp only [overL] at b3
  refine hk p' h3 s1 g3 l1 b3 ?_ ?_
  · have o' : OwnG EB 5 h1 s p' (len + w) (b ++ be w n) := by simpa [bys] using o
    exact o'.but fun hc => by have := o'.lt g1.fresh hc; rw [e3 _ (by omega), e2 _ (by omega)]
  · intro i h4 h5
    rw [e3 i h5, e2 i h5, c1.keep i h4]
theorem s88 {q : Option Addr} {n c : Nat} {l : List Int} (r2 : Row EI h q n l) (hn : n ≤ 24) (hl : len ≤ 30000) (hk : ∀ p' h' s', From s0 h0 h' s' → s ≤ s' → h'.get wb = some (.cells ⟨[.slice p' (len + (1 + n * 8)) (len + (1 + n * 8)), .bool false]⟩ 111 (0, 0)) → OwnG EB 5 h' s p' (len + (1 + n * 8)) (b ++ lis l) → (∀ i, i < s → i ≠ wb → h'.get i = h.get i) → (K (.tuple ⟨[]⟩) s').wp pw Z h') :
    (D N (d + 4) 88 [ptr wb, .slice q n c] K s).wp pw Z h := by
  have hws := lt_of_some g.fresh ⟨_, hw⟩
  rw [D_88]; unfold F88; rw [app2_eq]
  unfold X88_1
  try simp (disch := first | assumption | omega | (simp only [Int.ofNat_eq_natCast, neg_one]; done) | (simp only [Int.ofNat_eq_natCast, neg_one]; omega)) only [tysW, wB, mB, Nat.reduceAdd, Nat.reduceMul, List.length_cons, List.length_nil, ldB hw, clB hw, ldBL hw, clBL hw]
  refine PureS.go g hp (s147 (d := d) hN g.fresh r r2 (by omega) (by omega)) fun v h1 s1 g1 c1 hv => ?_
  have l1 := c1.le
  rw [if_pos hn] at hv
  obtain ⟨p', rfl, o⟩ := hv
  have hw1 := c1.box hw hws
  try simp (disch := first | assumption | omega | (simp only [Int.ofNat_eq_natCast, neg_one]; done) | (simp only [Int.ofNat_eq_natCast, neg_one]; omega)) only [tysW, wB, mB, Nat.reduceAdd, Nat.reduceMul, List.length_cons, List.length_nil, ldB hw1, clB hw1, ldBL hw1, clBL hw1, ne35, decide_true]
  refine wp_putF g1 hp hw1 hwb (by simp) rfl fun h2 g2 b2 e2 => ?_
  simp only [overL] at b2
  try simp (disch := first | assumption | omega | (simp only [Int.ofNat_eq_natCast, neg_one]; done) | (simp only [Int.ofNat_eq_natCast, neg_one]; omega)) only [tysW, wB, mB, Nat.reduceAdd, Nat.reduceMul, List.length_cons, List.length_nil, ldB b2, clB b2, ldBL b2, clBL b2]
  refine wp_putF g2 hp b2 hwb (by simp) rfl fun h3 g3 b3 e3 => ?_
  simp only [overL] at b3
  refine hk p' h3 s1 g3 l1 b3 ?_ ?_
  · exact o.but fun hc => by have := o.lt g1.fresh hc; rw [e3 _ (by omega), e2 _ (by omega)]
  · intro i h4 h5
    rw [e3 i h5, e2 i h5, c1.keep i h4]
end
end Go.Ev.R
namespace Go.Ev.R
open Go Go.RowKit
theorem cst (p : Option Addr) (n c : Nat) (K : KV) (s : Nat) : convX P 25 9 (.slice p n c) K s = abytesStr (.slice p n c) K s := by kernel_rfl
theorem eqstr (a b : ByteArray) (K : KV) (s : Nat) : eqX P 9 9 false false (.string a) (.string b) K s = K (.bool (a.toList == b.toList)) s := by kernel_rfl
theorem bytesL_ok : ∀ l : List Int, bytesL (l.map u8) = some (l.map fun x => UInt8.ofNat x.toNat)
  | [] => rfl
  | x :: l => by
    simp only [List.map_cons, bytesL, byteOf?, bytesL_ok l]
theorem byte_inj : ∀ {a b : List Int}, (∀ x ∈ a, 0 ≤ x ∧ x < 256) → (∀ x ∈ b, 0 ≤ x ∧ x < 256) → (a.map fun x => UInt8.ofNat x.toNat) = (b.map fun x => UInt8.ofNat x.toNat) → a = b
  | [], [], _, _, _ => rfl
  | [], _ :: _, _, _, h => by simp at h
  | _ :: _, [], _, _, h => by simp at h
  | x :: a, y :: b, ha, hb, h => by
    simp only [List.map_cons, List.cons.injEq] at h
    have h1 := congrArg UInt8.toNat h.1
    have hx := ha x (by simp)
    have hy := hb y (by simp)
    simp only [UInt8.toNat_ofNat'] at h1
    have : x = y := by omega
    rw [this, byte_inj (fun z hz => ha z (by simp [hz])) (fun z hz => hb z (by simp [hz])) h.2]
section
variable {h : T} {pw : Nat → Prop} {Z : Value → T → Prop} {s : Nat}
theorem wp_bst {p : Option Addr} {n c : Nat} {l : List Int} (r : Row EB h p n l) (K : KV) : (abytesStr (.slice p n c) K s).wp pw Z h = (K (str (l.map fun x => UInt8.ofNat x.toNat)) s).wp pw Z h := by
  by_cases h0 : n = 0
  · subst h0
    have := List.eq_nil_of_length_eq_zero r.1
    subst this
    cases p with
    | none => rfl
    | some a => rfl
  · obtain ⟨m, o, q, rfl⟩ := r.2.is (by show n * 1 ≠ 0; omega)
    unfold abytesStr
    dsimp only
    rw [show Nat.beq n 0 = false from beq_no h0]
    simp only [cond_false]
    have := r.2.sub (j := 0) (z := n) (by omega) (by show 0 + n ≤ n * 1; omega) (pw := pw) (Z := Z) (fun l s => match bytesL l with | some bs => K (.string ⟨⟨bs⟩⟩) s | none => .fail) s
    simp only [blk, off, Nat.add_zero, List.drop_zero] at this
    refine this.trans ?_
    rw [List.take_of_length_le (by rw [flatB, List.length_map, r.1]; exact Nat.le_refl _), flatB, bytesL_ok]
end
section
variable {N d : Nat} {h : T} {s : Nat} (hf : ∀ n, s ≤ n → h.get n = none)
include hf
theorem s19 {p q : Option Addr} {n m c c' : Nat} {a b : List Int} (r : Row EB h p n a) (r' : Row EB h q m b) (ha : ∀ x ∈ a, 0 ≤ x ∧ x < 256) (hb : ∀ x ∈ b, 0 ≤ x ∧ x < 256) : ValS (D N (d + 1)) 19 [.slice p n c, .slice q m c'] h s (.bool (decide (a = b))) := by
  refine ValS.of hf fun K pw Z g hp hk => ?_
  rw [D_19]; unfold F19; rw [app2_eq, cst, wp_bst r, cst, wp_bst r', eqstr, ByteArray.toList_eq, ByteArray.toList_eq]
  have hk := hk _ _ g
  dsimp only
  have e : ((a.map fun x => UInt8.ofNat x.toNat) == (b.map fun x => UInt8.ofNat x.toNat)) = decide (a = b) := by
    by_cases h1 : a = b
    · subst h1; simp
    · rw [decide_eq_false h1, ← Bool.not_eq_true, beq_iff_eq]
      exact fun h2 => h1 (byte_inj ha hb h2)
  rw [e]
  exact hk
theorem s85 {p : Option Addr} {len cap : Nat} {l : List Int} (r : Sl EI h p len cap l) (hl : len ≤ 100000) : PureS (D N (d + 1)) 85 [.slice p len cap] h s (fun v h' s' => ∃ p', v = .slice p' len len ∧ OwnG EI 3 h' s p' len l) := by
  refine PureS.of hf fun K pw Z g hp hk => ?_
  rw [D_85]; unfold F85; rw [app1_eq]
  try simp (disch := first | assumption | omega | (simp only [Int.ofNat_eq_natCast, neg_one]; done) | (simp only [Int.ofNat_eq_natCast, neg_one]; omega)) only [tysW, wB, mB, Nat.reduceAdd, Nat.reduceMul, List.length_cons, List.length_nil]
  refine wp_newF g hp fun h1 g1 c1 b1 => ?_
  try simp (disch := first | assumption | omega | (simp only [Int.ofNat_eq_natCast, neg_one]; done) | (simp only [Int.ofNat_eq_natCast, neg_one]; omega)) only [tysW, wB, mB, Nat.reduceAdd, Nat.reduceMul, List.length_cons, List.length_nil]
  refine apG (E := EI) (l := []) (len := 0) (t := s) g1 hp ⟨rfl, .inr ⟨s, 0, rfl, Nat.le_refl _, b1, .inl rfl⟩⟩ (Nat.le_refl _) (by omega) (r.from hf g1).row (fun _ => rfl) (by omega) fun p' h2 s2 g2 _ o2 e2 => ?_
  rw [Nat.zero_add] at *
  exact hk _ _ _ g2 ⟨p', rfl, o2⟩
end
section
variable {N d : Nat} (hN : 100000 ≤ N) {h : T} {s : Nat} (hf : ∀ n, s ≤ n → h.get n = none)
include hN hf
theorem s98 {p q : Option Addr} {n n' c c' : Nat} {l l' : List Int} (r : Row EI h p n l) (r' : Row EI h q n' l') (hl : n ≤ 1000) : ValS (D N (d + 1)) 98 [.slice p n c, .slice q n' c'] h s (.bool (decide (l = l'))) := by
  refine ValS.of hf fun K pw Z g hp hk => ?_
  rw [D_98]; unfold F98; rw [app2_eq]
  have hk := hk _ _ g
  by_cases hnn : (n : Int) = (n' : Int)
  · obtain rfl : n = n' := by omega
    try simp (disch := first | assumption | omega | (simp only [Int.ofNat_eq_natCast, neg_one]; done) | (simp only [Int.ofNat_eq_natCast, neg_one]; omega)) only [tysW, wB, mB, Nat.reduceAdd, Nat.reduceMul, List.length_cons, List.length_nil]
    have loop : ∀ (B : (Value → Value → Nat → AM) → Value → Value → Nat → AM) (hB : ∀ H u i s', B H u i s' = X98_1 N (D N d) K (.slice p n c) (.slice q n c') (fun s => K (.bool true) s) H u i s') (m i : Nat) (u : Value), n - i < m → i ≤ n → (∀ j, j < i → l[j]? = l'[j]?) →
        (loopJ m 2 (fun _ _ _ => AM.fail) B u (vi i) s).wp pw Z h := by
      intro B hB m
      induction m with
      | zero => intro i u hm; omega
      | succ m ih =>
        intro i u hm hil he
        rw [loopJ_succ, hB]
        unfold X98_1
        by_cases hlt : i < n
        · obtain ⟨x, hx⟩ := get_some (l := l) (i := i) (by rw [r.1]; omega)
          obtain ⟨y, hy⟩ := get_some (l := l') (i := i) (by rw [r'.1]; omega)
          try simp (disch := first | assumption | omega | (simp only [Int.ofNat_eq_natCast, neg_one]; done) | (simp only [Int.ofNat_eq_natCast, neg_one]; omega)) only [tysW, wB, mB, Nat.reduceAdd, Nat.reduceMul, List.length_cons, List.length_nil, xaI r (j := (i : Int)) (by omega) (by omega), intL r hx, xaI r' (j := (i : Int)) (by omega) (by omega), intL r' hy]
          by_cases hxy : x = y
          · try simp (disch := first | assumption | omega | (simp only [Int.ofNat_eq_natCast, neg_one]; done) | (simp only [Int.ofNat_eq_natCast, neg_one]; omega)) only [tysW, wB, mB, Nat.reduceAdd, Nat.reduceMul, List.length_cons, List.length_nil]
            refine ih (i + 1) _ (by omega) (by omega) fun j hj => ?_
            rcases Nat.lt_or_ge j i with h6 | h6
            · exact he j h6
            · rw [show j = i by omega, hx, hy, hxy]
          · try simp (disch := first | assumption | omega | (simp only [Int.ofNat_eq_natCast, neg_one]; done) | (simp only [Int.ofNat_eq_natCast, neg_one]; omega)) only [tysW, wB, mB, Nat.reduceAdd, Nat.reduceMul, List.length_cons, List.length_nil]
            rw [decide_eq_false fun e => by subst e; rw [hx] at hy; cases hy; exact hxy rfl] at hk
            exact hk
        · obtain rfl : i = n := by omega
          try simp (disch := first | assumption | omega | (simp only [Int.ofNat_eq_natCast, neg_one]; done) | (simp only [Int.ofNat_eq_natCast, neg_one]; omega)) only [tysW, wB, mB, Nat.reduceAdd, Nat.reduceMul, List.length_cons, List.length_nil]
          rw [decide_eq_true] at hk
          · exact hk
          · refine List.ext_getElem? fun j => ?_
            rcases Nat.lt_or_ge j i with h6 | h6
            · exact he j h6
            · rw [List.getElem?_eq_none (by rw [r.1]; exact h6), List.getElem?_eq_none (by rw [r'.1]; exact h6)]
    exact loop _ (fun _ _ _ _ => rfl) N 0 _ (by omega) (by omega) (fun j hj => by omega)
  · try simp (disch := first | assumption | omega | (simp only [Int.ofNat_eq_natCast, neg_one]; done) | (simp only [Int.ofNat_eq_natCast, neg_one]; omega)) only [tysW, wB, mB, Nat.reduceAdd, Nat.reduceMul, List.length_cons, List.length_nil]
    rw [decide_eq_false fun e => by subst e; have h5 := r'.1; rw [r.1] at h5; exact hnn (by rw [h5])] at hk
    exact hk
end
theorem xor8 (x : Int) (K : KV) (s : Nat) : xorX P 5 5 false true (u8 x) (.int .u8 (.ofNat 165)) K s = K (u8 (xorZ .u8 x (.ofNat 165))) s := rfl
/-- Bytes written over. -/
theorem s27 {N d : Nat} (hN : 100000 ≤ N) {h0 h : T} {s0 s len cap : Nat} {p : Option Addr} {l : List Int} (g : From s0 h0 h s) {pw : Nat → Prop} {Z : Value → T → Prop} (hp : ∀ n, s0 ≤ n → pw n) (o : OwnG EB 5 h s0 p len l) (hl : len ≤ 10000) {K : Value → Nat → AM}
    (hk : ∀ h', From s0 h0 h' s → (∀ n, (p ≠ none → n ≠ blk p) → h'.get n = h.get n) → (K (.tuple ⟨[]⟩) s).wp pw Z h') : (D N (d + 1) 27 [.slice p len cap] K s).wp pw Z h := by
  rw [D_27]; unfold F27; rw [app1_eq]
  have loop : ∀ (B : (Value → Nat → AM) → Value → Nat → AM) (hB : ∀ H i s', B H i s' = X27_1 N (D N d) K (.slice p len cap) H i s') (m i : Nat) (h1 : T) (l1 : List Int), len - i < m → i ≤ len → From s0 h0 h1 s → (∀ n, (p ≠ none → n ≠ blk p) → h1.get n = h.get n) → OwnG EB 5 h1 s0 p len l1 →
      (loopJ m 1 (fun _ _ => AM.fail) B (vi i) s).wp pw Z h1 := by
    intro B hB m
    induction m with
    | zero => intro i h1 l1 hm; omega
    | succ m ih =>
      intro i h1 l1 hm hil g1 e1 o1
      rw [loopJ_succ, hB]
      unfold X27_1
      by_cases hlt : i < len
      · obtain ⟨x, hx⟩ := get_some (l := l1) (i := i) (by rw [o1.1]; exact hlt)
        try simp (disch := first | assumption | omega | (simp only [Int.ofNat_eq_natCast, neg_one]; done) | (simp only [Int.ofNat_eq_natCast, neg_one]; omega)) only [tysW, wB, mB, Nat.reduceAdd, Nat.reduceMul, List.length_cons, List.length_nil, xaB o1.sl.row (j := (i : Int)) (by omega) (by omega), Row.byte o1.sl.row hx, xor8]
        obtain ⟨hl1, ⟨rfl, h0⟩ | ⟨n, f, rfl, y1, y2, y3⟩⟩ := o1
        · omega
        · have e2 : overL (l1.flatMap EB.f) i [u8 (xorZ .u8 x (.ofNat 165))] = (l1.set i (xorZ .u8 x (.ofNat 165))).flatMap EB.f := by
            rw [set_place _ _ _ (by rw [flatB, List.length_map]; omega), flatB, flatB, List.map_set]
          simp only [blk, off, Nat.zero_add]
          refine wp_putF g1 hp y2 y1 (by rw [flatB, List.length_map]; simp; omega) rfl fun h2 g2 b2 e3 => ?_
          rw [e2] at b2
          try simp (disch := first | assumption | omega | (simp only [Int.ofNat_eq_natCast, neg_one]; done) | (simp only [Int.ofNat_eq_natCast, neg_one]; omega)) only [tysW, wB, mB, Nat.reduceAdd, Nat.reduceMul, List.length_cons, List.length_nil]
          exact ih (i + 1) h2 _ (by omega) (by omega) g2 (fun n' hn' => by rw [e3 n' (hn' (by simp))]; exact e1 n' hn') ⟨by rw [List.length_set]; exact hl1, .inr ⟨n, f, rfl, y1, b2, y3⟩⟩
      · obtain rfl : i = len := by omega
        try simp (disch := first | assumption | omega | (simp only [Int.ofNat_eq_natCast, neg_one]; done) | (simp only [Int.ofNat_eq_natCast, neg_one]; omega)) only [tysW, wB, mB, Nat.reduceAdd, Nat.reduceMul, List.length_cons, List.length_nil]
        exact hk h1 g1 e1
  exact loop _ (fun _ _ _ => rfl) N 0 h l (by omega) (by omega) g (fun _ _ => rfl) o
end Go.Ev.R
namespace Go.Ev.R
open Go Go.RowKit
theorem take_next {α β : Type} {l : List α} {i : Nat} {x : α} (hx : l[i]? = some x) (f : α → List β) : (l.take (i + 1)).flatMap f = (l.take i).flatMap f ++ f x := by
  rw [List.take_add_one, hx, List.flatMap_append]; simp
theorem OwnG.ne {α : Type} {E : Enc α} {el : TypeId} {h : T} {s : Nat} {p : Option Addr} {len : Nat} {l : List α} (o : OwnG E el h s p len l) {it : Nat} {a : ByteArray} {b : Nat} (hb : h.get it = some (.stringIter a b)) : p ≠ none → blk p ≠ it := by
  intro hp e
  obtain ⟨hl, ⟨rfl, _⟩ | ⟨n, f, rfl, h1, hg, hff⟩⟩ := o
  · exact hp rfl
  · have e : n = it := e
    rw [e, hb] at hg; cases hg
theorem eqc32 (a b : Nat) (k : KV) (s : Nat) : eqX P 21 21 false true (.int .i32 (a : Int)) (.int .i32 (.ofNat b)) k s = k (.bool (a == b)) s := by
  rw [eq32]
  congr 2
  by_cases h : a = b
  · simp [h]
  · rw [decide_eq_false (by simp only [Int.ofNat_eq_natCast]; omega)]; simp [h]
/-- What holds of a saying that may be said. -/
theorem good {x : SV} (h : badS x = false) : (1 ≤ x.kind ∧ x.kind ≤ 7) ∧ (0 ≤ x.sen ∧ x.sen ≤ 255) ∧ (0 ≤ x.seq ∧ x.seq ≤ 2147483647) ∧ x.n ≤ 24 ∧ (x.kind = 6 ∨ x.kind = 7 → x.sen = 0) ∧ (x.kind = 1 → x.seq = 0) ∧ (x.kind = 1 ∨ x.kind = 7 → x.time = 0) ∧ (x.n = 0 ∨ x.kind = 4 ∨ x.kind = 5) := by
  unfold badS at h
  simp only [Bool.or_eq_false_iff, Bool.and_eq_false_imp, Bool.not_eq_true', Bool.not_eq_false', decide_eq_true_eq, decide_eq_false_iff_not] at h
  obtain ⟨h1, h2, h3, h4, h5, h6, h7, h8⟩ := h
  refine ⟨h1, h2, h3, by omega, fun k => Classical.byContradiction fun n => (h5 n) k, fun k => Classical.byContradiction fun n => (h6 n) k, fun k => Classical.byContradiction fun n => (h7 n) k, ?_⟩
  by_cases h9 : x.n = 0
  · exact .inl h9
  · exact .inr (h8 h9)
theorem rng9 (b : ByteArray) (k : KV) (s : Nat) : arangeOf P 9 (.string b) k s = anew (.stringIter b 0) (fun n => k (ptr n)) s := by kernel_rfl
section
variable {N d : Nat} (hN : N = 100000) {h : T} {s : Nat} (hf : ∀ n, s ≤ n → h.get n = none)
include hN hf
end
end Go.Ev.R
namespace Go.Ev.R
open Go Go.RowKit
theorem eqc8 (a b : Nat) (k : KV) (s : Nat) : eqX P 5 5 false true (u8 (a : Int)) (.int .u8 (.ofNat b)) k s = k (.bool (a == b)) s := by
  rw [show Int.ofNat b = (b : Int) from rfl]
  have := eq8 a b k s
  rw [this]
  congr 2
  by_cases h : a = b
  · simp [h]
  · rw [decide_eq_false (by omega)]; simp [h]
section
variable {N d : Nat} (hN : N = 100000) {h : T} {s : Nat} (hf : ∀ n, s ≤ n → h.get n = none)
include hN hf
end
end Go.Ev.R
namespace Go.Ev.R
open Go Go.RowKit
theorem bys_range (w : Nat) (l : List Int) : ∀ y ∈ bys w l, 0 ≤ y ∧ y < 256 := by
  intro y hy
  obtain ⟨n, -, h⟩ := List.mem_flatMap.1 hy
  exact be_range n w y h
theorem lis_range (l : List Int) : ∀ y ∈ lis l, 0 ≤ y ∧ y < 256 := by
  intro y hy
  rcases List.mem_append.1 hy with h | h
  · exact bys_range _ _ y h
  · exact bys_range _ _ y h
section
variable {N d : Nat} (hN : N = 100000) {h : T} {s : Nat} (hf : ∀ n, s ≤ n → h.get n = none)
include hN hf
end
end Go.Ev.R
namespace Go.Ev.R
open Go Go.RowKit
/-! ### numbers out of bytes -/
def isByte (x : Int) : Prop := 0 ≤ x ∧ x < 256
def allBytes (l : List Int) : Prop := ∀ x ∈ l, isByte x
end Go.Ev.R
namespace Go.Ev.R
open Go Go.RowKit
section
variable {h h' : T} {x : Nat} {q : Loop} (hb : h.get x = some (.loop q)) (e : ∀ i, i ≠ x → h'.get i = h.get i)
include hb e
end
section
variable {h : T} {pw : Nat → Prop} {Z : Value → T → Prop} {s0 s : Nat} {h0 : T}
end
end Go.Ev.R
namespace Go.Ev.R
open Go Go.RowKit
end Go.Ev.R
namespace Go.Ev.R
open Go Go.RowKit
theorem mulN (t yt : TypeId) (a b : Bool) {x y : Nat} (h : x * y ≤ 1000000) (k : KV) (s : Nat) : mulX P t yt a b (vi x) (vi y) k s = k (vi ((x * y : Nat) : Int)) s := by
  have e : (x : Int) * (y : Int) = ((x * y : Nat) : Int) := by simp
  rw [mul_eq, e, wrap_id (by omega) (by omega)]
section
variable {h : T} {pw : Nat → Prop} {Z : Value → T → Prop} {s0 s : Nat} {h0 : T}
end
section
variable {N d : Nat} {h : T} {s : Nat} (hf : ∀ n, s ≤ n → h.get n = none)
include hf
end
section
variable {N d : Nat} (hN : N = 100000) {h : T} {s : Nat} (hf : ∀ n, s ≤ n → h.get n = none)
include hN hf
end
end Go.Ev.R
namespace Go.Ev.R
open Go Go.RowKit
def Took (h : T) (s : Nat) (v : Value) : Option (List Int × List Int) → Prop
  | some (l, r) => ∃ p1 p2, v = .tuple ⟨[.slice p1 l.length l.length, .slice p2 r.length r.length, vi 0]⟩ ∧ OwnG EI 3 h s p1 l.length l ∧ OwnG EB 5 h s p2 r.length r
  | none => ∃ e, v = .tuple ⟨[.slice none 0 0, .slice none 0 0, vi e]⟩ ∧ e ≠ 0
theorem Took.less {h : T} {s s' : Nat} {v : Value} {x : Option (List Int × List Int)} (t : Took h s v x) (hs : s' ≤ s) : Took h s' v x := by
  cases x with
  | none => exact t
  | some x =>
    obtain ⟨p1, p2, e, o1, o2⟩ := t
    exact ⟨p1, p2, e, o1.less hs, o2.less hs⟩
section
variable {N d : Nat} (hN : N = 100000) {h : T} {s : Nat} (hf : ∀ n, s ≤ n → h.get n = none)
include hN hf
end
end Go.Ev.R
namespace Go.Ev.R
open Go Go.RowKit
section
variable {N d : Nat} (hN : N = 100000) {h : T} {s : Nat} (hf : ∀ n, s ≤ n → h.get n = none)
include hN hf
end
/-! ### readers -/
abbrev RS := List Int × Bool
abbrev eqN (x : Nat) : Nat → Prop := fun n => n = x
/-- A reader in a heap: its box, the bytes that are left. -/
def RdAt (h : T) (rb : Nat) (ty : TypeId) (x : RS) (A : Nat → Prop) : Prop := ∃ p len cap, h.get rb = some (.cells ⟨[.slice p len cap, .bool x.2]⟩ ty (0, 0)) ∧ Sl EB h p len cap x.1 ∧ (cap ≠ 0 → blk p ≠ rb ∧ ¬ A (blk p))
section
variable {N d : Nat} (hN : N = 100000) {h0 h : T} {s0 s : Nat} {K : KV} {pw : Nat → Prop} {Z : Value → T → Prop} (g : From s0 h0 h s) (hp : ∀ n, s0 ≤ n → pw n) {rb : Nat} (hrb : s0 ≤ rb) {x : RS} (hb : allBytes x.1) (hl : x.1.length ≤ 50000)
include hN g hp hrb hb hl
end
end Go.Ev.R
namespace Go.Ev.R
open Go Go.RowKit
section
variable {N d : Nat} (hN : N = 100000) {h0 h : T} {s0 s : Nat} {K : KV} {pw : Nat → Prop} {Z : Value → T → Prop} (g : From s0 h0 h s) (hp : ∀ n, s0 ≤ n → pw n) {rb : Nat} (hrb : s0 ≤ rb) {x : RS} (hb : allBytes x.1) (hl : x.1.length ≤ 50000)
include hN g hp hrb hb hl
end
end Go.Ev.R
namespace Go.Ev.R
open Go Go.RowKit
theorem RdAt.less {h : T} {rb ty : Nat} {x : RS} {A B : Nat → Prop} (R : RdAt h rb ty x A) (hB : ∀ n, B n → A n) : RdAt h rb ty x B := by
  obtain ⟨p, len, cap, b, sl, hne⟩ := R
  exact ⟨p, len, cap, b, sl, fun hc => ⟨(hne hc).1, fun e => (hne hc).2 (hB _ e)⟩⟩
theorem RdAt.from {h h' : T} {rb ty : Nat} {x : RS} {s s' : Nat} {A : Nat → Prop} (R : RdAt h rb ty x A) (hf : ∀ n, s ≤ n → h.get n = none) (g : From s h h' s') : RdAt h' rb ty x A := by
  obtain ⟨p, len, cap, b, sl, hne⟩ := R
  exact ⟨p, len, cap, g.box b (lt_of_some hf ⟨_, b⟩), sl.from hf g, hne⟩
/-- Where but what is avoided is written. -/
theorem RdAt.butA {h h' : T} {rb ty : Nat} {x : RS} {A : Nat → Prop} {xb : Nat} (R : RdAt h rb ty x A) (hA : A xb) (hn : rb ≠ xb) (e : ∀ i, i ≠ xb → h'.get i = h.get i) : RdAt h' rb ty x A := by
  obtain ⟨p, len, cap, b, sl, hne⟩ := R
  exact ⟨p, len, cap, (e rb hn).trans b, sl.but fun hc => e _ fun he => (hne hc).2 (he ▸ hA), hne⟩
theorem RdAt.but {h h' : T} {rb ty : Nat} {x : RS} {xb : Nat} (R : RdAt h rb ty x (eqN xb)) (hn : rb ≠ xb) (e : ∀ i, i ≠ xb → h'.get i = h.get i) : RdAt h' rb ty x (eqN xb) := R.butA rfl hn e
section
variable {N d : Nat} (hN : N = 100000) {h : T} {s : Nat} (hf : ∀ n, s ≤ n → h.get n = none)
include hN hf
end
end Go.Ev.R
namespace Go.Ev.R
open Go Go.RowKit
def In64 (n : Int) : Prop := -9223372036854775808 ≤ n ∧ n ≤ 9223372036854775807
section
variable {x : SV} {dt : List Int} (hb : badS x = false) (hn : dt.length = x.n) (ht : In64 x.time) (hd : ∀ y ∈ dt, In64 y) (r : List Int)
include hb hn ht hd
end
end Go.Ev.R
namespace Go.Ev.R
open Go Go.RowKit
theorem eqb_4 (a b : Bool) (k : KV) (s : Nat) : eqX P 4 4 false false (.bool a) (.bool b) k s = k (.bool (a == b)) s := by cases a <;> cases b <;> kernel_rfl
section
variable {N d : Nat} {h : T} {s : Nat} (hf : ∀ n, s ≤ n → h.get n = none)
include hf
end
end Go.Ev.R
namespace Go.Ev.R
open Go Go.RowKit
theorem hasT_se_s (d : Nat) (K : KV) (s : Nat) : D 100000 (d + 1) 97 [str [115, 101], .int .u8 (.ofNat 115)] K s = K (.bool true) s := by kernel_rfl
theorem hasT_se_q (d : Nat) (K : KV) (s : Nat) : D 100000 (d + 1) 97 [str [115, 101], .int .u8 (.ofNat 113)] K s = K (.bool false) s := by kernel_rfl
theorem hasT_se_n (d : Nat) (K : KV) (s : Nat) : D 100000 (d + 1) 97 [str [115, 101], .int .u8 (.ofNat 110)] K s = K (.bool false) s := by kernel_rfl
theorem hasT_se_x (d : Nat) (K : KV) (s : Nat) : D 100000 (d + 1) 97 [str [115, 101], .int .u8 (.ofNat 120)] K s = K (.bool false) s := by kernel_rfl
theorem hasT_sqen_s (d : Nat) (K : KV) (s : Nat) : D 100000 (d + 1) 97 [str [115, 113, 101, 110], .int .u8 (.ofNat 115)] K s = K (.bool true) s := by kernel_rfl
theorem hasT_sqen_q (d : Nat) (K : KV) (s : Nat) : D 100000 (d + 1) 97 [str [115, 113, 101, 110], .int .u8 (.ofNat 113)] K s = K (.bool true) s := by kernel_rfl
theorem hasT_sqen_n (d : Nat) (K : KV) (s : Nat) : D 100000 (d + 1) 97 [str [115, 113, 101, 110], .int .u8 (.ofNat 110)] K s = K (.bool true) s := by kernel_rfl
theorem hasT_sqen_x (d : Nat) (K : KV) (s : Nat) : D 100000 (d + 1) 97 [str [115, 113, 101, 110], .int .u8 (.ofNat 120)] K s = K (.bool false) s := by kernel_rfl
theorem hasT_qex_s (d : Nat) (K : KV) (s : Nat) : D 100000 (d + 1) 97 [str [113, 101, 120], .int .u8 (.ofNat 115)] K s = K (.bool false) s := by kernel_rfl
theorem hasT_qex_q (d : Nat) (K : KV) (s : Nat) : D 100000 (d + 1) 97 [str [113, 101, 120], .int .u8 (.ofNat 113)] K s = K (.bool true) s := by kernel_rfl
theorem hasT_qex_n (d : Nat) (K : KV) (s : Nat) : D 100000 (d + 1) 97 [str [113, 101, 120], .int .u8 (.ofNat 110)] K s = K (.bool false) s := by kernel_rfl
theorem hasT_qex_x (d : Nat) (K : KV) (s : Nat) : D 100000 (d + 1) 97 [str [113, 101, 120], .int .u8 (.ofNat 120)] K s = K (.bool true) s := by kernel_rfl
theorem hasT_qen_s (d : Nat) (K : KV) (s : Nat) : D 100000 (d + 1) 97 [str [113, 101, 110], .int .u8 (.ofNat 115)] K s = K (.bool false) s := by kernel_rfl
theorem hasT_qen_q (d : Nat) (K : KV) (s : Nat) : D 100000 (d + 1) 97 [str [113, 101, 110], .int .u8 (.ofNat 113)] K s = K (.bool true) s := by kernel_rfl
theorem hasT_qen_n (d : Nat) (K : KV) (s : Nat) : D 100000 (d + 1) 97 [str [113, 101, 110], .int .u8 (.ofNat 110)] K s = K (.bool true) s := by kernel_rfl
theorem hasT_qen_x (d : Nat) (K : KV) (s : Nat) : D 100000 (d + 1) 97 [str [113, 101, 110], .int .u8 (.ofNat 120)] K s = K (.bool false) s := by kernel_rfl
theorem conT_se_s (d : Nat) (K : KV) (s : Nat) : D 100000 (d + 8) 93 [str [115, 101], str [115]] K s = K (.bool true) s := by kernel_rfl
theorem conT_se_q (d : Nat) (K : KV) (s : Nat) : D 100000 (d + 8) 93 [str [115, 101], str [113]] K s = K (.bool false) s := by kernel_rfl
theorem conT_se_e (d : Nat) (K : KV) (s : Nat) : D 100000 (d + 8) 93 [str [115, 101], str [101]] K s = K (.bool true) s := by kernel_rfl
theorem conT_se_n (d : Nat) (K : KV) (s : Nat) : D 100000 (d + 8) 93 [str [115, 101], str [110]] K s = K (.bool false) s := by kernel_rfl
theorem conT_se_x (d : Nat) (K : KV) (s : Nat) : D 100000 (d + 8) 93 [str [115, 101], str [120]] K s = K (.bool false) s := by kernel_rfl
theorem conT_se_b (d : Nat) (K : KV) (s : Nat) : D 100000 (d + 8) 93 [str [115, 101], str [98]] K s = K (.bool false) s := by kernel_rfl
theorem conT_sqen_s (d : Nat) (K : KV) (s : Nat) : D 100000 (d + 8) 93 [str [115, 113, 101, 110], str [115]] K s = K (.bool true) s := by kernel_rfl
theorem conT_sqen_q (d : Nat) (K : KV) (s : Nat) : D 100000 (d + 8) 93 [str [115, 113, 101, 110], str [113]] K s = K (.bool true) s := by kernel_rfl
theorem conT_sqen_e (d : Nat) (K : KV) (s : Nat) : D 100000 (d + 8) 93 [str [115, 113, 101, 110], str [101]] K s = K (.bool true) s := by kernel_rfl
theorem conT_sqen_n (d : Nat) (K : KV) (s : Nat) : D 100000 (d + 8) 93 [str [115, 113, 101, 110], str [110]] K s = K (.bool true) s := by kernel_rfl
theorem conT_sqen_x (d : Nat) (K : KV) (s : Nat) : D 100000 (d + 8) 93 [str [115, 113, 101, 110], str [120]] K s = K (.bool false) s := by kernel_rfl
theorem conT_sqen_b (d : Nat) (K : KV) (s : Nat) : D 100000 (d + 8) 93 [str [115, 113, 101, 110], str [98]] K s = K (.bool false) s := by kernel_rfl
theorem conT_qexb_s (d : Nat) (K : KV) (s : Nat) : D 100000 (d + 8) 93 [str [113, 101, 120, 98], str [115]] K s = K (.bool false) s := by kernel_rfl
theorem conT_qexb_q (d : Nat) (K : KV) (s : Nat) : D 100000 (d + 8) 93 [str [113, 101, 120, 98], str [113]] K s = K (.bool true) s := by kernel_rfl
theorem conT_qexb_e (d : Nat) (K : KV) (s : Nat) : D 100000 (d + 8) 93 [str [113, 101, 120, 98], str [101]] K s = K (.bool true) s := by kernel_rfl
theorem conT_qexb_n (d : Nat) (K : KV) (s : Nat) : D 100000 (d + 8) 93 [str [113, 101, 120, 98], str [110]] K s = K (.bool false) s := by kernel_rfl
theorem conT_qexb_x (d : Nat) (K : KV) (s : Nat) : D 100000 (d + 8) 93 [str [113, 101, 120, 98], str [120]] K s = K (.bool true) s := by kernel_rfl
theorem conT_qexb_b (d : Nat) (K : KV) (s : Nat) : D 100000 (d + 8) 93 [str [113, 101, 120, 98], str [98]] K s = K (.bool true) s := by kernel_rfl
theorem conT_qen_s (d : Nat) (K : KV) (s : Nat) : D 100000 (d + 8) 93 [str [113, 101, 110], str [115]] K s = K (.bool false) s := by kernel_rfl
theorem conT_qen_q (d : Nat) (K : KV) (s : Nat) : D 100000 (d + 8) 93 [str [113, 101, 110], str [113]] K s = K (.bool true) s := by kernel_rfl
theorem conT_qen_e (d : Nat) (K : KV) (s : Nat) : D 100000 (d + 8) 93 [str [113, 101, 110], str [101]] K s = K (.bool true) s := by kernel_rfl
theorem conT_qen_n (d : Nat) (K : KV) (s : Nat) : D 100000 (d + 8) 93 [str [113, 101, 110], str [110]] K s = K (.bool true) s := by kernel_rfl
theorem conT_qen_x (d : Nat) (K : KV) (s : Nat) : D 100000 (d + 8) 93 [str [113, 101, 110], str [120]] K s = K (.bool false) s := by kernel_rfl
theorem conT_qen_b (d : Nat) (K : KV) (s : Nat) : D 100000 (d + 8) 93 [str [113, 101, 110], str [98]] K s = K (.bool false) s := by kernel_rfl
/-- What a kind of telling has. -/
def telT (k : Int) : List UInt8 := if k = 1 then [115, 101] else if k = 2 then [115, 113, 101, 110] else if k = 3 then [115, 113, 101, 110] else if k = 4 then [115, 113, 101, 110] else if k = 5 then [113, 101, 120, 98] else if k = 6 then [113, 101, 110] else []
def mrkT (k : Int) : List UInt8 := if k = 1 then [115, 101] else if k = 2 then [115, 113, 101, 110] else if k = 3 then [115, 113, 101, 110] else if k = 4 then [115, 113, 101, 110] else if k = 5 then [113, 101, 120] else if k = 6 then [113, 101, 110] else []
abbrev telM : Obj := .map ⟨[⟨vi 1, txt [115, 101], 0⟩, ⟨vi 2, txt [115, 113, 101, 110], 1⟩, ⟨vi 3, txt [115, 113, 101, 110], 2⟩, ⟨vi 4, txt [115, 113, 101, 110], 3⟩, ⟨vi 5, txt [113, 101, 120, 98], 4⟩, ⟨vi 6, txt [113, 101, 110], 5⟩]⟩ 6
theorem find_tel (k : Int) (ok : Bool) : (match Instr.findNow (.int .i64) (vi k) [⟨vi 1, txt [115, 101], 0⟩, ⟨vi 2, txt [115, 113, 101, 110], 1⟩, ⟨vi 3, txt [115, 113, 101, 110], 2⟩, ⟨vi 4, txt [115, 113, 101, 110], 3⟩, ⟨vi 5, txt [113, 101, 120, 98], 4⟩, ⟨vi 6, txt [113, 101, 110], 5⟩] 0 with
    | some f => afound P 114 ok f
    | none => none) = some (if ok then .tuple ⟨[txt (telT k), .bool (decide (1 ≤ k ∧ k ≤ 6))]⟩ else txt (telT k)) := by
  have hz : zeroT P 114 = some (txt []) := by kernel_rfl
  simp only [find_cons, find_nil, telT]
  by_cases h1 : k = 1
  · subst h1; rfl
  by_cases h2 : k = 2
  · subst h2; rfl
  by_cases h3 : k = 3
  · subst h3; rfl
  by_cases h4 : k = 4
  · subst h4; rfl
  by_cases h5 : k = 5
  · subst h5; rfl
  by_cases h6 : k = 6
  · subst h6; rfl
  simp only [if_neg h1, if_neg h2, if_neg h3, if_neg h4, if_neg h5, if_neg h6]
  show (match zeroT P 114 with | some z => some (if ok then Value.tuple #[z, .bool false] else z) | none => none) = _
  rw [hz, decide_eq_false (by omega)]
section
variable {h : T} {pw : Nat → Prop} {Z : Value → T → Prop} {s0 s : Nat} {h0 : T}
theorem wp_tel {m : Nat} {k : Int} {ok : Bool} {kk : Value → Nat → AM} {s' : Nat} (hb : h.get m = some telM) : (alookup P 115 (.map (some m)) (vi k) ok kk s').wp pw Z h = (kk (if ok then .tuple ⟨[txt (telT k), .bool (decide (1 ≤ k ∧ k ≤ 6))]⟩ else txt (telT k)) s').wp pw Z h := by
  have hfs := find_tel k ok
  unfold alookup
  rw [u115]
  dsimp only
  rw [u3]
  dsimp only
  rw [show (keyT (.int .i64) && plain1 (vi k)) = true from rfl]
  simp only [cond_true]
  rw [wp_get, hb]
  dsimp only
  cases hfd : Instr.findNow (.int .i64) (vi k) [⟨vi 1, txt [115, 101], 0⟩, ⟨vi 2, txt [115, 113, 101, 110], 1⟩, ⟨vi 3, txt [115, 113, 101, 110], 2⟩, ⟨vi 4, txt [115, 113, 101, 110], 3⟩, ⟨vi 5, txt [113, 101, 120, 98], 4⟩, ⟨vi 6, txt [113, 101, 110], 5⟩] 0 with
  | none => rw [hfd] at hfs; cases hfs
  | some f =>
    rw [hfd] at hfs
    dsimp only at hfs ⊢
    rw [hfs]
    rfl
end
section
variable {N d : Nat} {h : T} {s : Nat} (hf : ∀ n, s ≤ n → h.get n = none)
include hf
theorem s108 : PureS (D N (d + 1)) 108 [] h s (fun v h' s' => ∃ m, v = .map (some m) ∧ s ≤ m ∧ h'.get m = some telM) := by
  refine PureS.of hf fun K pw Z g hp hk => ?_
  rw [D_108]; unfold F108; rw [app0_eq]
  unfold X108_1
  unfold amakeMap
  refine wp_newF g hp fun h1 g1 c1 b1 => ?_
  dsimp only
  simp only [bd_114_0]
  refine wp_mu g1 hp b1 (Nat.le_refl _) (by rfl) fun h2 g2 b2 => ?_
  refine wp_mu g2 hp b2 (Nat.le_refl _) (by rfl) fun h3 g3 b3 => ?_
  refine wp_mu g3 hp b3 (Nat.le_refl _) (by rfl) fun h4 g4 b4 => ?_
  refine wp_mu g4 hp b4 (Nat.le_refl _) (by rfl) fun h5 g5 b5 => ?_
  refine wp_mu g5 hp b5 (Nat.le_refl _) (by rfl) fun h6 g6 b6 => ?_
  refine wp_mu g6 hp b6 (Nat.le_refl _) (by rfl) fun h7 g7 b7 => ?_
  exact hk _ _ _ g7 ⟨s, rfl, Nat.le_refl _, b7⟩
theorem s126 (n : Int) : ValS (D N (d + 1)) 126 [vi n] h s (str (mrkT n)) := by
  refine ValS.of hf fun K pw Z g hp hk => ?_
  rw [D_126]; unfold F126; rw [app1_eq]
  try simp (disch := first | assumption | omega | (simp only [Int.ofNat_eq_natCast, neg_one]; done) | (simp only [Int.ofNat_eq_natCast, neg_one]; omega)) only [tysW, wB, mB, Nat.reduceAdd, Nat.reduceMul, List.length_cons, List.length_nil]
  refine wp_newF g hp fun h1 g1 c1 b1 => ?_
  have hk := hk _ _ g1
  by_cases h0 : n < 1
  · try simp (disch := first | assumption | omega | (simp only [Int.ofNat_eq_natCast, neg_one]; done) | (simp only [Int.ofNat_eq_natCast, neg_one]; omega)) only [tysW, wB, mB, Nat.reduceAdd, Nat.reduceMul, List.length_cons, List.length_nil]
    unfold mrkT at hk
    rw [if_neg (by omega), if_neg (by omega), if_neg (by omega), if_neg (by omega), if_neg (by omega), if_neg (by omega)] at hk
    exact hk
  by_cases h8 : 6 < n
  · try simp (disch := first | assumption | omega | (simp only [Int.ofNat_eq_natCast, neg_one]; done) | (simp only [Int.ofNat_eq_natCast, neg_one]; omega)) only [tysW, wB, mB, Nat.reduceAdd, Nat.reduceMul, List.length_cons, List.length_nil]
    unfold mrkT at hk
    rw [if_neg (by omega), if_neg (by omega), if_neg (by omega), if_neg (by omega), if_neg (by omega), if_neg (by omega)] at hk
    exact hk
  try simp (disch := first | assumption | omega | (simp only [Int.ofNat_eq_natCast, neg_one]; done) | (simp only [Int.ofNat_eq_natCast, neg_one]; omega)) only [tysW, wB, mB, Nat.reduceAdd, Nat.reduceMul, List.length_cons, List.length_nil, ldB b1, clB b1, ldBL b1, clBL b1]
  have h7 : n = 1 ∨ n = 2 ∨ n = 3 ∨ n = 4 ∨ n = 5 ∨ n = 6 := by omega
  rcases h7 with rfl | rfl | rfl | rfl | rfl | rfl <;> exact hk
end
theorem kinds6 {k : Int} (h : 1 ≤ k ∧ k ≤ 6) : k = 1 ∨ k = 2 ∨ k = 3 ∨ k = 4 ∨ k = 5 ∨ k = 6 := by omega
theorem mrkT_no {k : Int} (h : ¬ (1 ≤ k ∧ k ≤ 6)) : mrkT k = [] := by
  unfold mrkT
  rw [if_neg (by omega), if_neg (by omega), if_neg (by omega), if_neg (by omega), if_neg (by omega), if_neg (by omega)]
theorem neT_qen (k : Value → Nat → AM) (s : Nat) : neX P 9 9 false true (str [113, 101, 110]) (.string ⟨⟨[]⟩⟩) k s = k (.bool true) s := by kernel_rfl
theorem neT_qex (k : Value → Nat → AM) (s : Nat) : neX P 9 9 false true (str [113, 101, 120]) (.string ⟨⟨[]⟩⟩) k s = k (.bool true) s := by kernel_rfl
theorem neT_se (k : Value → Nat → AM) (s : Nat) : neX P 9 9 false true (str [115, 101]) (.string ⟨⟨[]⟩⟩) k s = k (.bool true) s := by kernel_rfl
theorem neT_sqen (k : Value → Nat → AM) (s : Nat) : neX P 9 9 false true (str [115, 113, 101, 110]) (.string ⟨⟨[]⟩⟩) k s = k (.bool true) s := by kernel_rfl
theorem neT_none (k : Value → Nat → AM) (s : Nat) : neX P 9 9 false true (str []) (.string ⟨⟨[]⟩⟩) k s = k (.bool false) s := by kernel_rfl
theorem ne_mrk (n : Int) (k : Value → Nat → AM) (s : Nat) : neX P 9 9 false true (str (mrkT n)) (.string ⟨⟨[]⟩⟩) k s = k (.bool (decide (1 ≤ n ∧ n ≤ 6))) s := by
  by_cases h : 1 ≤ n ∧ n ≤ 6
  · rw [decide_eq_true h]
    rcases kinds6 h with rfl | rfl | rfl | rfl | rfl | rfl
    · exact neT_se k s
    · exact neT_sqen k s
    · exact neT_sqen k s
    · exact neT_sqen k s
    · exact neT_qex k s
    · exact neT_qen k s
  · rw [decide_eq_false h, mrkT_no h]
    exact neT_none k s
section
variable {N : Nat} (hN : N = 100000) (d : Nat) (K : KV) (s : Nat) {k : Int} (hk : 1 ≤ k ∧ k ≤ 6)
include hN hk
theorem hasT_s : D N (d + 1) 97 [str (mrkT k), .int .u8 (.ofNat 115)] K s = K (.bool (!(decide (k = 5 ∨ k = 6)))) s := by
  subst hN
  rcases kinds6 hk with rfl | rfl | rfl | rfl | rfl | rfl
  · exact hasT_se_s d K s
  · exact hasT_sqen_s d K s
  · exact hasT_sqen_s d K s
  · exact hasT_sqen_s d K s
  · exact hasT_qex_s d K s
  · exact hasT_qen_s d K s
theorem hasT_q : D N (d + 1) 97 [str (mrkT k), .int .u8 (.ofNat 113)] K s = K (.bool (!(decide (k = 1)))) s := by
  subst hN
  rcases kinds6 hk with rfl | rfl | rfl | rfl | rfl | rfl
  · exact hasT_se_q d K s
  · exact hasT_sqen_q d K s
  · exact hasT_sqen_q d K s
  · exact hasT_sqen_q d K s
  · exact hasT_qex_q d K s
  · exact hasT_qen_q d K s
theorem hasT_n : D N (d + 1) 97 [str (mrkT k), .int .u8 (.ofNat 110)] K s = K (.bool (!(decide (k = 1 ∨ k = 5)))) s := by
  subst hN
  rcases kinds6 hk with rfl | rfl | rfl | rfl | rfl | rfl
  · exact hasT_se_n d K s
  · exact hasT_sqen_n d K s
  · exact hasT_sqen_n d K s
  · exact hasT_sqen_n d K s
  · exact hasT_qex_n d K s
  · exact hasT_qen_n d K s
theorem hasT_x : D N (d + 1) 97 [str (mrkT k), .int .u8 (.ofNat 120)] K s = K (.bool (decide (k = 5))) s := by
  subst hN
  rcases kinds6 hk with rfl | rfl | rfl | rfl | rfl | rfl
  · exact hasT_se_x d K s
  · exact hasT_sqen_x d K s
  · exact hasT_sqen_x d K s
  · exact hasT_sqen_x d K s
  · exact hasT_qex_x d K s
  · exact hasT_qen_x d K s
theorem conT_s : D N (d + 8) 93 [str (telT k), str [115]] K s = K (.bool (!(decide (k = 5 ∨ k = 6)))) s := by
  subst hN
  rcases kinds6 hk with rfl | rfl | rfl | rfl | rfl | rfl
  · exact conT_se_s d K s
  · exact conT_sqen_s d K s
  · exact conT_sqen_s d K s
  · exact conT_sqen_s d K s
  · exact conT_qexb_s d K s
  · exact conT_qen_s d K s
theorem conT_q : D N (d + 8) 93 [str (telT k), str [113]] K s = K (.bool (!(decide (k = 1)))) s := by
  subst hN
  rcases kinds6 hk with rfl | rfl | rfl | rfl | rfl | rfl
  · exact conT_se_q d K s
  · exact conT_sqen_q d K s
  · exact conT_sqen_q d K s
  · exact conT_sqen_q d K s
  · exact conT_qexb_q d K s
  · exact conT_qen_q d K s
theorem conT_e : D N (d + 8) 93 [str (telT k), str [101]] K s = K (.bool (true)) s := by
  subst hN
  rcases kinds6 hk with rfl | rfl | rfl | rfl | rfl | rfl
  · exact conT_se_e d K s
  · exact conT_sqen_e d K s
  · exact conT_sqen_e d K s
  · exact conT_sqen_e d K s
  · exact conT_qexb_e d K s
  · exact conT_qen_e d K s
theorem conT_n : D N (d + 8) 93 [str (telT k), str [110]] K s = K (.bool (!(decide (k = 1 ∨ k = 5)))) s := by
  subst hN
  rcases kinds6 hk with rfl | rfl | rfl | rfl | rfl | rfl
  · exact conT_se_n d K s
  · exact conT_sqen_n d K s
  · exact conT_sqen_n d K s
  · exact conT_sqen_n d K s
  · exact conT_qexb_n d K s
  · exact conT_qen_n d K s
theorem conT_x : D N (d + 8) 93 [str (telT k), str [120]] K s = K (.bool (decide (k = 5))) s := by
  subst hN
  rcases kinds6 hk with rfl | rfl | rfl | rfl | rfl | rfl
  · exact conT_se_x d K s
  · exact conT_sqen_x d K s
  · exact conT_sqen_x d K s
  · exact conT_sqen_x d K s
  · exact conT_qexb_x d K s
  · exact conT_qen_x d K s
theorem conT_b : D N (d + 8) 93 [str (telT k), str [98]] K s = K (.bool (decide (k = 5))) s := by
  subst hN
  rcases kinds6 hk with rfl | rfl | rfl | rfl | rfl | rfl
  · exact conT_se_b d K s
  · exact conT_sqen_b d K s
  · exact conT_sqen_b d K s
  · exact conT_sqen_b d K s
  · exact conT_qexb_b d K s
  · exact conT_qen_b d K s
end
theorem ixT_qen_0 (k : KV) (s : Nat) : indexX P 9 (str [113, 101, 110]) (vi 0) k s = k (u8 113) s := by kernel_rfl
theorem ixT_qen_1 (k : KV) (s : Nat) : indexX P 9 (str [113, 101, 110]) (vi 1) k s = k (u8 101) s := by kernel_rfl
theorem ixT_qen_2 (k : KV) (s : Nat) : indexX P 9 (str [113, 101, 110]) (vi 2) k s = k (u8 110) s := by kernel_rfl
theorem ixT_qex_0 (k : KV) (s : Nat) : indexX P 9 (str [113, 101, 120]) (vi 0) k s = k (u8 113) s := by kernel_rfl
theorem ixT_qex_1 (k : KV) (s : Nat) : indexX P 9 (str [113, 101, 120]) (vi 1) k s = k (u8 101) s := by kernel_rfl
theorem ixT_qex_2 (k : KV) (s : Nat) : indexX P 9 (str [113, 101, 120]) (vi 2) k s = k (u8 120) s := by kernel_rfl
theorem ixT_se_0 (k : KV) (s : Nat) : indexX P 9 (str [115, 101]) (vi 0) k s = k (u8 115) s := by kernel_rfl
theorem ixT_se_1 (k : KV) (s : Nat) : indexX P 9 (str [115, 101]) (vi 1) k s = k (u8 101) s := by kernel_rfl
theorem ixT_sqen_0 (k : KV) (s : Nat) : indexX P 9 (str [115, 113, 101, 110]) (vi 0) k s = k (u8 115) s := by kernel_rfl
theorem ixT_sqen_1 (k : KV) (s : Nat) : indexX P 9 (str [115, 113, 101, 110]) (vi 1) k s = k (u8 113) s := by kernel_rfl
theorem ixT_sqen_2 (k : KV) (s : Nat) : indexX P 9 (str [115, 113, 101, 110]) (vi 2) k s = k (u8 101) s := by kernel_rfl
theorem ixT_sqen_3 (k : KV) (s : Nat) : indexX P 9 (str [115, 113, 101, 110]) (vi 3) k s = k (u8 110) s := by kernel_rfl
theorem len_mrk (n : Int) (k : KV) (s : Nat) : lenX P ⟨[9]⟩ (str (mrkT n)) k s = k (vi (mrkT n).length) s := ln_9 _ k s
theorem ix_mrk {n : Int} (hn : 1 ≤ n ∧ n ≤ 6) {i : Nat} {c : UInt8} (hc : (mrkT n)[i]? = some c) (k : KV) (s : Nat) : indexX P 9 (str (mrkT n)) (vi i) k s = k (u8 c.toNat) s := by
  have hl := (List.getElem?_eq_some_iff.1 hc).1
  rcases kinds6 hn with rfl | rfl | rfl | rfl | rfl | rfl
  · have hl : i < 2 := hl
    have : i = 0 ∨ i = 1 := by omega
    rcases this with rfl | rfl
    · obtain rfl : 115 = c := Option.some.inj hc
      exact ixT_se_0 k s
    · obtain rfl : 101 = c := Option.some.inj hc
      exact ixT_se_1 k s
  · have hl : i < 4 := hl
    have : i = 0 ∨ i = 1 ∨ i = 2 ∨ i = 3 := by omega
    rcases this with rfl | rfl | rfl | rfl
    · obtain rfl : 115 = c := Option.some.inj hc
      exact ixT_sqen_0 k s
    · obtain rfl : 113 = c := Option.some.inj hc
      exact ixT_sqen_1 k s
    · obtain rfl : 101 = c := Option.some.inj hc
      exact ixT_sqen_2 k s
    · obtain rfl : 110 = c := Option.some.inj hc
      exact ixT_sqen_3 k s
  · have hl : i < 4 := hl
    have : i = 0 ∨ i = 1 ∨ i = 2 ∨ i = 3 := by omega
    rcases this with rfl | rfl | rfl | rfl
    · obtain rfl : 115 = c := Option.some.inj hc
      exact ixT_sqen_0 k s
    · obtain rfl : 113 = c := Option.some.inj hc
      exact ixT_sqen_1 k s
    · obtain rfl : 101 = c := Option.some.inj hc
      exact ixT_sqen_2 k s
    · obtain rfl : 110 = c := Option.some.inj hc
      exact ixT_sqen_3 k s
  · have hl : i < 4 := hl
    have : i = 0 ∨ i = 1 ∨ i = 2 ∨ i = 3 := by omega
    rcases this with rfl | rfl | rfl | rfl
    · obtain rfl : 115 = c := Option.some.inj hc
      exact ixT_sqen_0 k s
    · obtain rfl : 113 = c := Option.some.inj hc
      exact ixT_sqen_1 k s
    · obtain rfl : 101 = c := Option.some.inj hc
      exact ixT_sqen_2 k s
    · obtain rfl : 110 = c := Option.some.inj hc
      exact ixT_sqen_3 k s
  · have hl : i < 3 := hl
    have : i = 0 ∨ i = 1 ∨ i = 2 := by omega
    rcases this with rfl | rfl | rfl
    · obtain rfl : 113 = c := Option.some.inj hc
      exact ixT_qex_0 k s
    · obtain rfl : 101 = c := Option.some.inj hc
      exact ixT_qex_1 k s
    · obtain rfl : 120 = c := Option.some.inj hc
      exact ixT_qex_2 k s
  · have hl : i < 3 := hl
    have : i = 0 ∨ i = 1 ∨ i = 2 := by omega
    rcases this with rfl | rfl | rfl
    · obtain rfl : 113 = c := Option.some.inj hc
      exact ixT_qen_0 k s
    · obtain rfl : 101 = c := Option.some.inj hc
      exact ixT_qen_1 k s
    · obtain rfl : 110 = c := Option.some.inj hc
      exact ixT_qen_2 k s
theorem tel_mem {k : Int} {c : UInt8} (h : c ∈ telT k) : c = 115 ∨ c = 113 ∨ c = 101 ∨ c = 110 ∨ c = 120 ∨ c = 98 := by
  by_cases hk : 1 ≤ k ∧ k ≤ 6
  · rcases kinds6 hk with rfl | rfl | rfl | rfl | rfl | rfl <;> (simp [telT] at h; first | (rcases h with h | h | h | h <;> simp [h]) | (rcases h with h | h | h <;> simp [h]) | (rcases h with h | h <;> simp [h]))
  · unfold telT at h
    rw [if_neg (by omega), if_neg (by omega), if_neg (by omega), if_neg (by omega), if_neg (by omega), if_neg (by omega)] at h
    cases h
theorem mrk_mem {k : Int} {c : UInt8} (h : c ∈ mrkT k) : c = 115 ∨ c = 113 ∨ c = 101 ∨ c = 110 ∨ c = 120 := by
  by_cases hk : 1 ≤ k ∧ k ≤ 6
  · rcases kinds6 hk with rfl | rfl | rfl | rfl | rfl | rfl <;> (simp [mrkT] at h; first | (rcases h with h | h | h | h <;> simp [h]) | (rcases h with h | h | h <;> simp [h]) | (rcases h with h | h <;> simp [h]))
  · rw [mrkT_no hk] at h
    cases h
theorem tel_le (k : Int) : (telT k).length ≤ 4 := by
  by_cases hk : 1 ≤ k ∧ k ≤ 6
  · rcases kinds6 hk with rfl | rfl | rfl | rfl | rfl | rfl <;> simp [telT]
  · unfold telT
    rw [if_neg (by omega), if_neg (by omega), if_neg (by omega), if_neg (by omega), if_neg (by omega), if_neg (by omega)]
    simp
theorem mrk_le (k : Int) : (mrkT k).length ≤ 4 := by
  by_cases hk : 1 ≤ k ∧ k ≤ 6
  · rcases kinds6 hk with rfl | rfl | rfl | rfl | rfl | rfl <;> simp [mrkT]
  · rw [mrkT_no hk]; simp
end Go.Ev.R
namespace Go.Ev.R
open Go Go.RowKit
/-- A belief as it comes in. -/
structure BV where
  time : Int
  xp : Option Addr
  xn : Nat
  xc : Nat
  pp : Option Addr
  pn : Nat
  pc : Nat
  flag : Bool
  pass : Int
  fail : Int
def bvv (b : BV) : List Value := [vi b.time, .slice b.xp b.xn b.xc, .slice b.pp b.pn b.pc, .bool b.flag, vi b.pass, vi b.fail]
def Sym (n : Nat) (pl : List Int) : Prop := ∀ i, i < n → ∀ k, k < n → pl[i * n + k]? = pl[k * n + i]?
open Classical in
noncomputable def heldB (n m : Nat) (pl : List Int) : Bool := decide (n ≤ 6 ∧ m = n * n ∧ Sym n pl)
theorem held_no {n m : Nat} {pl : List Int} (h : ¬ (n ≤ 6 ∧ m = n * n ∧ Sym n pl)) : heldB n m pl = false := by
  unfold heldB
  rw [decide_eq_false_iff_not]
  exact h
theorem held_yes {n m : Nat} {pl : List Int} (h : n ≤ 6 ∧ m = n * n ∧ Sym n pl) : heldB n m pl = true := by
  unfold heldB
  simp only [decide_eq_true_eq]
  exact h
theorem held_iff {n m : Nat} {pl : List Int} : heldB n m pl = true ↔ n ≤ 6 ∧ m = n * n ∧ Sym n pl := by
  constructor
  · intro h
    exact Classical.byContradiction fun hn => by rw [held_no hn] at h; cases h
  · exact held_yes
def empB (b : BV) : Bool := decide (b.time = 0 ∧ b.xn = 0 ∧ b.pn = 0 ∧ b.flag = false ∧ b.pass = 0 ∧ b.fail = 0)
theorem sym_flat {n : Nat} {pl : List Int} : Sym n pl ↔ ∀ i, i < n * n → pl[i]? = pl[i % n * n + i / n]? := by
  constructor
  · intro h i hi
    have hn : 0 < n := by rcases Nat.eq_zero_or_pos n with h0 | h0; (subst h0; omega); exact h0
    have h1 := h (i / n) ((Nat.div_lt_iff_lt_mul hn).2 hi) (i % n) (Nat.mod_lt _ hn)
    rw [show i / n * n + i % n = i by rw [Nat.mul_comm]; exact Nat.div_add_mod i n] at h1
    exact h1
  · intro h i hi k hk
    have hn : 0 < n := by omega
    have hlt : i * n + k < n * n := by
      calc i * n + k < i * n + n := by omega
      _ = (i + 1) * n := by rw [Nat.succ_mul]
      _ ≤ n * n := Nat.mul_le_mul hi (Nat.le_refl _)
    have h1 := h (i * n + k) hlt
    rw [show (i * n + k) % n = k by rw [Nat.add_comm, Nat.add_mul_mod_self_right, Nat.mod_eq_of_lt hk], show (i * n + k) / n = i by rw [Nat.add_comm, Nat.add_mul_div_right _ _ hn, Nat.div_eq_of_lt hk, Nat.zero_add]] at h1
    exact h1
theorem sym_half {n : Nat} {pl : List Int} : Sym n pl ↔ ∀ i, i < n → ∀ k, k < i → pl[i * n + k]? = pl[k * n + i]? := by
  constructor
  · exact fun h i hi k hk => h i hi k (by omega)
  · intro h i hi k hk
    rcases Nat.lt_trichotomy k i with h1 | h1 | h1
    · exact h i hi k h1
    · rw [h1]
    · exact (h k hk i h1).symm
theorem remN (a b : Bool) {i n : Nat} (hn : n ≠ 0) (k : KV) (s : Nat) : remX P 3 3 a b (vi i) (vi n) k s = k (vi ((i % n : Nat) : Int)) s := by
  rw [rem_eq 3 3 a b i (show (n : Int) ≠ 0 by omega)]
  rfl
theorem quoN (a b : Bool) {i n : Nat} (hn : n ≠ 0) (hi : i ≤ 1000000) (k : KV) (s : Nat) : quoX P 3 3 a b (vi i) (vi n) k s = k (vi ((i / n : Nat) : Int)) s := by
  have e : (i : Int).tdiv n = ((i / n : Nat) : Int) := rfl
  have hle : i / n ≤ i := Nat.div_le_self i n
  rw [quo_eq 3 3 a b i (show (n : Int) ≠ 0 by omega), e]
  generalize i / n = q at *
  rw [wrap_id (by omega) (by omega)]
theorem addN (t yt : TypeId) (a b : Bool) {x y : Nat} (h : x + y ≤ 1000000) (k : KV) (s : Nat) : addX P t yt a b (vi x) (vi y) k s = k (vi ((x + y : Nat) : Int)) s := by
  have e : (x : Int) + (y : Int) = ((x + y : Nat) : Int) := by simp
  rw [add_eq, e, wrap_id (by omega) (by omega)]
section
variable {N d : Nat} (hN : N = 100000) {h : T} {s : Nat} (hf : ∀ n, s ≤ n → h.get n = none)
include hN hf
theorem s110 (b : BV) {pl : List Int} (r : Row EI h b.pp b.pn pl) (hpn : b.pn ≤ 1000) : ValS (D N (d + 1)) 110 [.agg ⟨bvv b⟩] h s (.bool (heldB b.xn b.pn pl)) := by
  refine ValS.of hf fun K pw Z g hp hk => ?_
  rw [D_110]; unfold F110; rw [app1_eq]
  unfold X110_3
  refine wp_boxA g hp fun h1 g1 c1 b1 => ?_
  simp only [bvv] at b1
  have hk := hk _ _ g1
  have r1 := g1.row hf r
  have hlen := r.1
  by_cases h6 : (6 : Int) < (b.xn : Int)
  · try simp (disch := first | assumption | omega | (simp only [Int.ofNat_eq_natCast, neg_one]; done) | (simp only [Int.ofNat_eq_natCast, neg_one]; omega)) only [tysW, wB, mB, Nat.reduceAdd, Nat.reduceMul, List.length_cons, List.length_nil, ldB b1, clB b1, ldBL b1, clBL b1]
    rw [show heldB b.xn b.pn pl = false from held_no (by omega)] at hk
    exact hk
  have hsq : b.xn * b.xn ≤ 36 := by
    calc b.xn * b.xn ≤ 6 * 6 := Nat.mul_le_mul (by omega) (by omega)
    _ = 36 := rfl
  by_cases hm : (b.pn : Int) = ((b.xn * b.xn : Nat) : Int)
  · try simp (disch := first | assumption | omega | (simp only [Int.ofNat_eq_natCast, neg_one]; done) | (simp only [Int.ofNat_eq_natCast, neg_one]; omega)) only [tysW, wB, mB, Nat.reduceAdd, Nat.reduceMul, List.length_cons, List.length_nil, ldB b1, clB b1, ldBL b1, clBL b1, mulN _ _ _ _ (show b.xn * b.xn ≤ 1000000 by omega)]
    have hm' : b.pn = b.xn * b.xn := by omega
    have loop : ∀ (B : (Value → Value → Nat → AM) → Value → Value → Nat → AM) (hB : ∀ H u v s', B H u v s' = X110_2 N (D N d) K (vi b.pn) (ptr s) (vi b.xn) (fun s => K (.bool true) s) H u v s') (m i : Nat) (u : Value), b.pn - i < m → i ≤ b.pn → (∀ j, j < i → pl[j]? = pl[j % b.xn * b.xn + j / b.xn]?) →
        (loopJ m 2 (fun _ _ _ => AM.fail) B u (vi i) (s + 1)).wp pw Z h1 := by
      intro B hB m
      induction m with
      | zero => intro i u hm; omega
      | succ m ih =>
        intro i u hmi hi he
        rw [loopJ_succ, hB]
        unfold X110_2
        by_cases hlt : i < b.pn
        · have hn0 : b.xn ≠ 0 := by intro h0; rw [h0] at hm'; omega
          have hn1 : 0 < b.xn := by omega
          have h7 : i % b.xn < b.xn := Nat.mod_lt _ hn1
          have h8 : i / b.xn < b.xn := (Nat.div_lt_iff_lt_mul hn1).2 (by omega)
          have hidx : i % b.xn * b.xn + i / b.xn < b.pn := by
            rw [hm']
            calc i % b.xn * b.xn + i / b.xn < i % b.xn * b.xn + b.xn := by omega
            _ = (i % b.xn + 1) * b.xn := by rw [Nat.succ_mul]
            _ ≤ b.xn * b.xn := Nat.mul_le_mul h7 (Nat.le_refl _)
          obtain ⟨y, hy⟩ := get_some (l := pl) (i := i) (by omega)
          obtain ⟨z, hz⟩ := get_some (l := pl) (i := i % b.xn * b.xn + i / b.xn) (by omega)
          try simp (disch := first | assumption | omega | (simp only [Int.ofNat_eq_natCast, neg_one]; done) | (simp only [Int.ofNat_eq_natCast, neg_one]; omega)) only [tysW, wB, mB, Nat.reduceAdd, Nat.reduceMul, List.length_cons, List.length_nil, ldB b1, clB b1, ldBL b1, clBL b1, xaI r1 (j := (i : Int)) (by omega) (by omega), intL r1 hy]
          unfold X110_1
          have hst : y = z → pl[i]? = pl[i % b.xn * b.xn + i / b.xn]? := fun hh => by rw [hy, hz, hh]
          have hsf : Sym b.xn pl → y = z := fun hh => by
            have := sym_flat.1 hh i (by omega)
            rw [hy, hz] at this; exact Option.some.inj this
          have m1 : i % b.xn * b.xn + i / b.xn ≤ 1000000 := by omega
          have m2 : i % b.xn * b.xn ≤ 1000000 := Nat.le_trans (Nat.le_add_right _ _) m1
          try simp (disch := first | assumption | omega | (simp only [Int.ofNat_eq_natCast, neg_one]; done) | (simp only [Int.ofNat_eq_natCast, neg_one]; omega)) only [tysW, wB, mB, Nat.reduceAdd, Nat.reduceMul, List.length_cons, List.length_nil, ldB b1, clB b1, ldBL b1, clBL b1, remN _ _ hn0, mulN _ _ _ _ m2, quoN _ _ hn0 (show i ≤ 1000000 by omega), addN _ _ _ _ m1]
          obtain ⟨q, hq⟩ : ∃ q, q = i % b.xn * b.xn + i / b.xn := ⟨_, rfl⟩
          rw [← hq] at hz hidx ⊢
          try simp (disch := first | assumption | omega | (simp only [Int.ofNat_eq_natCast, neg_one]; done) | (simp only [Int.ofNat_eq_natCast, neg_one]; omega)) only [tysW, wB, mB, Nat.reduceAdd, Nat.reduceMul, List.length_cons, List.length_nil, xaI r1 (j := (q : Int)) (by omega) (by omega), intL r1 hz]
          by_cases hyz : y = z
          · try simp (disch := first | assumption | omega | (simp only [Int.ofNat_eq_natCast, neg_one]; done) | (simp only [Int.ofNat_eq_natCast, neg_one]; omega)) only [tysW, wB, mB, Nat.reduceAdd, Nat.reduceMul, List.length_cons, List.length_nil]
            refine ih (i + 1) _ (by omega) (by omega) fun j hj => ?_
            rcases Nat.lt_or_ge j i with h9 | h9
            · exact he j h9
            · obtain rfl : j = i := by omega
              exact hst hyz
          · try simp (disch := first | assumption | omega | (simp only [Int.ofNat_eq_natCast, neg_one]; done) | (simp only [Int.ofNat_eq_natCast, neg_one]; omega)) only [tysW, wB, mB, Nat.reduceAdd, Nat.reduceMul, List.length_cons, List.length_nil]
            rw [show heldB b.xn b.pn pl = false from held_no fun hh => hyz (by
              exact hsf hh.2.2)] at hk
            exact hk
        · obtain rfl : i = b.pn := by omega
          try simp (disch := first | assumption | omega | (simp only [Int.ofNat_eq_natCast, neg_one]; done) | (simp only [Int.ofNat_eq_natCast, neg_one]; omega)) only [tysW, wB, mB, Nat.reduceAdd, Nat.reduceMul, List.length_cons, List.length_nil]
          rw [show heldB b.xn b.pn pl = true from held_yes ⟨by omega, hm', sym_flat.2 fun j hj => he j (by omega)⟩] at hk
          exact hk
    exact loop _ (fun _ _ _ _ => rfl) N 0 _ (by omega) (by omega) fun j hj => by omega
  · try simp (disch := first | assumption | omega | (simp only [Int.ofNat_eq_natCast, neg_one]; done) | (simp only [Int.ofNat_eq_natCast, neg_one]; omega)) only [tysW, wB, mB, Nat.reduceAdd, Nat.reduceMul, List.length_cons, List.length_nil, ldB b1, clB b1, ldBL b1, clBL b1, mulN _ _ _ _ (show b.xn * b.xn ≤ 1000000 by omega)]
    rw [show heldB b.xn b.pn pl = false from held_no (by omega)] at hk
    exact hk
theorem s129 (b : BV) {pl : List Int} (r : Row EI h b.pp b.pn pl) (hpn : b.pn ≤ 1000) : ValS (D N (d + 1)) 129 [.agg ⟨bvv b⟩] h s (.bool (heldB b.xn b.pn pl)) := by
  refine ValS.of hf fun K pw Z g hp hk => ?_
  rw [D_129]; unfold F129; rw [app1_eq]
  refine wp_boxA g hp fun h1 g1 c1 b1 => ?_
  simp only [bvv] at b1
  have hk := hk _ _ g1
  have r1 := g1.row hf r
  have hlen := r.1
  by_cases h6 : (6 : Int) < (b.xn : Int)
  · try simp (disch := first | assumption | omega | (simp only [Int.ofNat_eq_natCast, neg_one]; done) | (simp only [Int.ofNat_eq_natCast, neg_one]; omega)) only [tysW, wB, mB, Nat.reduceAdd, Nat.reduceMul, List.length_cons, List.length_nil, ldB b1, clB b1, ldBL b1, clBL b1]
    rw [show heldB b.xn b.pn pl = false from held_no (by omega)] at hk
    exact hk
  have hsq : b.xn * b.xn ≤ 36 := by
    calc b.xn * b.xn ≤ 6 * 6 := Nat.mul_le_mul (by omega) (by omega)
    _ = 36 := rfl
  by_cases hm : (b.pn : Int) = ((b.xn * b.xn : Nat) : Int)
  · try simp (disch := first | assumption | omega | (simp only [Int.ofNat_eq_natCast, neg_one]; done) | (simp only [Int.ofNat_eq_natCast, neg_one]; omega)) only [tysW, wB, mB, Nat.reduceAdd, Nat.reduceMul, List.length_cons, List.length_nil, ldB b1, clB b1, ldBL b1, clBL b1, mulN _ _ _ _ (show b.xn * b.xn ≤ 1000000 by omega)]
    have hm' : b.pn = b.xn * b.xn := by omega
    have loop : ∀ (B : (Value → Value → Nat → AM) → Value → Value → Nat → AM) (hB : ∀ H u v s', B H u v s' = X129_3 N (D N d) K (vi b.xn) (ptr s) (fun s => K (.bool true) s) H u v s') (m i : Nat) (u : Value), b.xn - i < m → i ≤ b.xn → (∀ j, j < i → ∀ k, k < j → pl[j * b.xn + k]? = pl[k * b.xn + j]?) →
        (loopJ m 2 (fun _ _ _ => AM.fail) B u (vi i) (s + 1)).wp pw Z h1 := by
      intro B hB m
      induction m with
      | zero => intro i u hm; omega
      | succ m ih =>
        intro i u hmi hi he
        rw [loopJ_succ, hB]
        unfold X129_3
        by_cases hlt : i < b.xn
        · try simp (disch := first | assumption | omega | (simp only [Int.ofNat_eq_natCast, neg_one]; done) | (simp only [Int.ofNat_eq_natCast, neg_one]; omega)) only [tysW, wB, mB, Nat.reduceAdd, Nat.reduceMul, List.length_cons, List.length_nil]
          have hi36 : i * b.xn + b.xn ≤ b.xn * b.xn := by rw [← Nat.succ_mul]; exact Nat.mul_le_mul hlt (Nat.le_refl _)
          have loop2 : ∀ (J : Value → Nat → AM) (hJ : ∀ u s', J u s' = addX P 3 3 false true (vi i) (i64 1) (fun v15 s => loopJ m 2 (fun _ _ _ => AM.fail) B u v15 s) s') (B2 : (Value → Value → Nat → AM) → Value → Value → Nat → AM) (hB2 : ∀ H u v s', B2 H u v s' = X129_2 N (D N d) K (vi i) (ptr s) (vi b.xn) J H u v s') (m2 k : Nat) (u : Value), i - k < m2 → k ≤ i → (∀ k', k' < k → pl[i * b.xn + k']? = pl[k' * b.xn + i]?) →
              (loopJ m2 2 (fun _ _ _ => AM.fail) B2 u (vi k) (s + 1)).wp pw Z h1 := by
            intro J hJ B2 hB2 m2
            induction m2 with
            | zero => intro k u hm2; omega
            | succ m2 ih2 =>
              intro k u hm2 hki he2
              rw [loopJ_succ, hB2]
              unfold X129_2
              by_cases hk2 : k < i
              · have hk36 : k * b.xn + b.xn ≤ b.xn * b.xn := by rw [← Nat.succ_mul]; exact Nat.mul_le_mul (by omega) (Nat.le_refl _)
                obtain ⟨y, hy⟩ := get_some (l := pl) (i := i * b.xn + k) (by omega)
                obtain ⟨z, hz⟩ := get_some (l := pl) (i := k * b.xn + i) (by omega)
                try simp (disch := first | assumption | omega | (simp only [Int.ofNat_eq_natCast, neg_one]; done) | (simp only [Int.ofNat_eq_natCast, neg_one]; omega)) only [tysW, wB, mB, Nat.reduceAdd, Nat.reduceMul, List.length_cons, List.length_nil, ldB b1, clB b1, ldBL b1, clBL b1, mulN _ _ _ _ (show i * b.xn ≤ 1000000 by omega), addN _ _ _ _ (show i * b.xn + k ≤ 1000000 by omega), xaI r1 (j := ((i * b.xn + k : Nat) : Int)) (by omega) (by omega), intL r1 hy]
                unfold X129_1
                try simp (disch := first | assumption | omega | (simp only [Int.ofNat_eq_natCast, neg_one]; done) | (simp only [Int.ofNat_eq_natCast, neg_one]; omega)) only [tysW, wB, mB, Nat.reduceAdd, Nat.reduceMul, List.length_cons, List.length_nil, ldB b1, clB b1, ldBL b1, clBL b1, mulN _ _ _ _ (show k * b.xn ≤ 1000000 by omega), addN _ _ _ _ (show k * b.xn + i ≤ 1000000 by omega), xaI r1 (j := ((k * b.xn + i : Nat) : Int)) (by omega) (by omega), intL r1 hz]
                by_cases hyz : y = z
                · try simp (disch := first | assumption | omega | (simp only [Int.ofNat_eq_natCast, neg_one]; done) | (simp only [Int.ofNat_eq_natCast, neg_one]; omega)) only [tysW, wB, mB, Nat.reduceAdd, Nat.reduceMul, List.length_cons, List.length_nil]
                  refine ih2 (k + 1) _ (by omega) (by omega) fun k' hk' => ?_
                  rcases Nat.lt_or_ge k' k with h9 | h9
                  · exact he2 k' h9
                  · rw [show k' = k by omega, hy, hz, hyz]
                · try simp (disch := first | assumption | omega | (simp only [Int.ofNat_eq_natCast, neg_one]; done) | (simp only [Int.ofNat_eq_natCast, neg_one]; omega)) only [tysW, wB, mB, Nat.reduceAdd, Nat.reduceMul, List.length_cons, List.length_nil]
                  rw [show heldB b.xn b.pn pl = false from held_no fun hh => hyz (by
                    have := sym_half.1 hh.2.2 i hlt k hk2
                    rw [hy, hz] at this; exact Option.some.inj this)] at hk
                  exact hk
              · obtain rfl : k = i := by omega
                try simp (disch := first | assumption | omega | (simp only [Int.ofNat_eq_natCast, neg_one]; done) | (simp only [Int.ofNat_eq_natCast, neg_one]; omega)) only [tysW, wB, mB, Nat.reduceAdd, Nat.reduceMul, List.length_cons, List.length_nil]
                rw [hJ]
                try simp (disch := first | assumption | omega | (simp only [Int.ofNat_eq_natCast, neg_one]; done) | (simp only [Int.ofNat_eq_natCast, neg_one]; omega)) only [tysW, wB, mB, Nat.reduceAdd, Nat.reduceMul, List.length_cons, List.length_nil]
                refine ih (k + 1) _ (by omega) (by omega) fun j hj => ?_
                rcases Nat.lt_or_ge j k with h9 | h9
                · exact he j h9
                · obtain rfl : j = k := by omega
                  exact he2
          exact loop2 _ (fun _ _ => rfl) _ (fun _ _ _ _ => rfl) N 0 _ (by omega) (by omega) fun k hk => by omega
        · obtain rfl : i = b.xn := by omega
          try simp (disch := first | assumption | omega | (simp only [Int.ofNat_eq_natCast, neg_one]; done) | (simp only [Int.ofNat_eq_natCast, neg_one]; omega)) only [tysW, wB, mB, Nat.reduceAdd, Nat.reduceMul, List.length_cons, List.length_nil]
          rw [show heldB b.xn b.pn pl = true from held_yes ⟨by omega, hm', sym_half.2 he⟩] at hk
          exact hk
    exact loop _ (fun _ _ _ _ => rfl) N 0 _ (by omega) (by omega) fun j hj => by omega
  · try simp (disch := first | assumption | omega | (simp only [Int.ofNat_eq_natCast, neg_one]; done) | (simp only [Int.ofNat_eq_natCast, neg_one]; omega)) only [tysW, wB, mB, Nat.reduceAdd, Nat.reduceMul, List.length_cons, List.length_nil, ldB b1, clB b1, ldBL b1, clBL b1, mulN _ _ _ _ (show b.xn * b.xn ≤ 1000000 by omega)]
    rw [show heldB b.xn b.pn pl = false from held_no (by omega)] at hk
    exact hk
end
end Go.Ev.R

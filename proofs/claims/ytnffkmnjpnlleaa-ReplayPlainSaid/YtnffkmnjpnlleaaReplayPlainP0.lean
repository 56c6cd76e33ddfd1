/- The law ReplayPlain, part 0: what the functions answer, by their terms. No condition. -/
import Derived.Test.YtnffkmnjpnlleaaReplayPlainK
import Derived.Test.YtnffkmnjpnlleaaXQ
set_option linter.unusedVariables false
set_option linter.unusedSimpArgs false
set_option maxRecDepth 100000
namespace Go.Ev.R
open Go Go.RowKit
abbrev vi (n : Int) : Value := .int .i64 n
abbrev ptr (b : Nat) : Value := .pointer (some ⟨b, 0, none⟩)
abbrev str (l : List UInt8) : Value := .string ⟨⟨l⟩⟩
end Go.Ev.R
namespace Go.Ev.R
open Go Go.RowKit
theorem u3 : P.underlying 3 = some (.int .i64) := by kernel_rfl
section
variable {h : T} {pw : Nat → Prop} {Z : Value → T → Prop} {s0 s : Nat} {h0 : T}
end
section
variable {N d : Nat} {h : T} {s : Nat} (hf : ∀ n, s ≤ n → h.get n = none)
include hf
end
end Go.Ev.R
namespace Go.Ev.R
open Go Go.RowKit
section
variable {N d : Nat} {h : T} {s : Nat} (hf : ∀ n, s ≤ n → h.get n = none)
include hf
end
section
variable {N : Nat} (hN : N = 100000) (d : Nat) (K : KV) (s : Nat) {k : Int} (hk : 1 ≤ k ∧ k ≤ 7)
include hN hk
end
section
variable {N d : Nat} {h : T} {s : Nat} (hf : ∀ n, s ≤ n → h.get n = none)
include hf
end
end Go.Ev.R
namespace Go.Ev.R
open Go Go.RowKit
section
variable (N : Nat) (C : CallT) (K : KV) (v2 v19 x : Value) (s : Nat)
end
section
variable {N d : Nat} (hN : N = 100000) {h : T} {s : Nat} (hf : ∀ n, s ≤ n → h.get n = none)
include hN hf
end
end Go.Ev.R
namespace Go.Ev.R
open Go Go.RowKit
abbrev u8 (n : Int) : Value := .int .u8 n
section
variable {N : Nat} (hN : N = 100000) (d : Nat) (K : KV) (s : Nat) {k : Int} (hk : 1 ≤ k ∧ k ≤ 7)
include hN hk
end
section
variable (N : Nat) (C : CallT) (K : KV) (v2 v5 x : Value) (s : Nat)
variable {a c d e : Int} {p : Option Addr} {n m s0 : Nat} {pw : Nat → Prop} {Z : Value → T → Prop} {h : T} (hb : h.get s0 = some (.cells ⟨[vi a, vi c, vi d, vi e, .slice p n m]⟩ 33 (0,0)))
include hb
end
section
variable {N d : Nat} (hN : N = 100000) {h : T} {s : Nat} (hf : ∀ n, s ≤ n → h.get n = none)
include hN hf
end
end Go.Ev.R
namespace Go.Ev.R
open Go Go.RowKit
/-! ### lists of one's own -/
def EB : Enc Int := ⟨1, fun x => [.int .u8 x], by decide, fun _ => rfl⟩
section
variable {α : Type} {E : Enc α} {el : TypeId}
/-- A list that was made. -/
def OwnG (E : Enc α) (el : TypeId) (h : T) (s : Nat) (p : Option Addr) (len : Nat) (l : List α) : Prop :=
  l.length = len ∧ (p = none ∧ len = 0 ∨ ∃ n f, p = some ⟨n, 0, none⟩ ∧ s ≤ n ∧ h.get n = some (.cells ⟨l.flatMap E.f⟩ el (f, 0)) ∧ (f = 0 ∨ f = E.z + 1))
variable {h h' : T} {s s' : Nat} {p : Option Addr} {len : Nat} {l : List α}
theorem OwnG.sl (o : OwnG E el h s p len l) : Sl E h p len len l := by
  obtain ⟨hl, ⟨rfl, rfl⟩ | ⟨n, f, rfl, _, hg, hf⟩⟩ := o
  · obtain rfl := List.eq_nil_of_length_eq_zero hl
    exact .nil _
  · exact .own hg hf hl
theorem OwnG.but (o : OwnG E el h s p len l) (e : p ≠ none → h'.get (blk p) = h.get (blk p)) : OwnG E el h' s p len l := by
  obtain ⟨hl, ho | ⟨n, f, rfl, h1, hg, hff⟩⟩ := o
  · exact ⟨hl, .inl ho⟩
  · exact ⟨hl, .inr ⟨n, f, rfl, h1, by rw [show h'.get n = h.get n from e (by simp)]; exact hg, hff⟩⟩
theorem OwnG.lt (o : OwnG E el h s p len l) (hf : ∀ n, s' ≤ n → h.get n = none) (hp : p ≠ none) : s ≤ blk p ∧ blk p < s' := by
  obtain ⟨hl, ⟨rfl, _⟩ | ⟨n, f, rfl, h1, hg, hff⟩⟩ := o
  · exact absurd rfl hp
  · exact ⟨h1, lt_of_some hf ⟨_, hg⟩⟩
theorem OwnG.from {s0 : Nat} (o : OwnG E el h s p len l) (hf : ∀ n, s0 ≤ n → h.get n = none) (g : From s0 h h' s') : OwnG E el h' s p len l :=
  o.but fun hp => g.keep _ (o.lt hf hp).2
theorem OwnG.less (o : OwnG E el h s p len l) (hs : s' ≤ s) : OwnG E el h s' p len l := by
  obtain ⟨hl, ho | ⟨n, f, rfl, h1, hg, hff⟩⟩ := o
  · exact ⟨hl, .inl ho⟩
  · exact ⟨hl, .inr ⟨n, f, rfl, by omega, hg, hff⟩⟩
theorem OwnG.nil : OwnG E el h s none 0 [] := ⟨rfl, .inl ⟨rfl, rfl⟩⟩
/-- One's own list, added to. -/
theorem apG {h0 : T} {s0 t n c : Nat} {q : Option Addr} {l2 : List α} {pw : Nat → Prop} {Z : Value → T → Prop} {k : Value → Nat → AM} (g : From s0 h0 h s) (hp : ∀ n, s0 ≤ n → pw n) (o : OwnG E el h t p len l) (ht : s0 ≤ t) (hts : t ≤ s) (r2 : Row E h q n l2) (h1 : ∀ x, (E.f x).all Value.oneCell' = true) (hsm : len + n ≤ 1000000)
    (hk : ∀ p' h' s', From s0 h0 h' s' → s ≤ s' → OwnG E el h' t p' (len + n) (l ++ l2) → (∀ i, i < s → (p ≠ none → i ≠ blk p) → h'.get i = h.get i) → (k (.slice p' (len + n) (len + n)) s').wp pw Z h') :
    (apS el E.z p len len q n c k s).wp pw Z h := by
  by_cases h0 : n = 0
  · subst h0
    have e2 := List.eq_nil_of_length_eq_zero r2.1
    subst e2
    exact wp_ap_none (by omega) (Nat.le_refl _) (hk p h s g (Nat.le_refl _) (by rw [List.append_nil]; exact o) fun _ _ _ => rfl)
  · refine Sl.addK (E := E) o.sl r2 h1 h0 hsm (by omega) (g.fresh _ (Nat.le_refl _)) (hp _ (by have := g.le; omega)) (fun m o' sp e => ?_) fun h2 b2 e2 => ?_
    · subst e
      obtain ⟨hl, ⟨h4, _⟩ | ⟨n', f, h4, h5, hg, hf⟩⟩ := o
      · cases h4
      · cases h4
        exact ⟨hp _ (by omega), by have := lt_of_some g.fresh ⟨_, hg⟩; omega, _, _, _, _, hg, hf⟩
    · have hb : ∀ i, i < s → (p ≠ none → i ≠ blk p) → h2.get i = h.get i := fun i hi hne => e2 i hne (by omega)
      refine hk _ h2 (s + 1) ⟨by have := g.le; omega, fun i hi => ?_, fun i hi => ?_⟩ (by omega) ⟨by rw [List.length_append, o.1, r2.1], .inr ⟨s, E.z + 1, rfl, hts, b2, .inr rfl⟩⟩ hb
      · rw [hb i (by have := g.le; omega) fun hp => by have := o.lt g.fresh hp; omega]
        exact g.keep i hi
      · rw [e2 i (fun hp => by have := o.lt g.fresh hp; omega) (by omega)]
        exact g.fresh i (by omega)
end
theorem Row.fld {α : Type} {E : Enc α} {h : T} {l : List α} {i j : Nat} {x : α} {v : Value} (hx : l[i]? = some x) (hj : (E.f x)[j]? = some v) : (l.flatMap E.f)[i * E.z + j]? = some v := by
  have h1 := E.flat_at l i x hx
  have hlt : j < E.z := by rw [← E.len x]; exact (List.getElem?_eq_some_iff.1 hj).1
  rw [← h1, List.getElem?_take, if_pos hlt, List.getElem?_drop] at hj
  exact hj
section
variable {N d : Nat} {h : T} {s : Nat} (hf : ∀ n, s ≤ n → h.get n = none)
include hf
end
end Go.Ev.R
namespace Go.Ev.R
open Go Go.RowKit
section
variable (N : Nat) (C : CallT) (K : KV) (v2 v10 v11 v12 : Value) (j20 : Value → Value → Value → Nat → AM) (s : Nat) {pw : Nat → Prop} {Z : Value → T → Prop} {h : T} (n : Int)
end
section
variable {N d : Nat} (hN : 100000 ≤ N) {h : T} {s : Nat} (hf : ∀ n, s ≤ n → h.get n = none)
include hN
include hf
end
end Go.Ev.R
namespace Go.Ev.R
open Go Go.RowKit
section
variable {N d : Nat} (hN : 100000 ≤ N) {h : T} {s : Nat} (hf : ∀ n, s ≤ n → h.get n = none)
include hN hf
end
theorem flatB : ∀ l : List Int, l.flatMap EB.f = l.map u8
  | [] => rfl
  | x :: l => by rw [List.flatMap_cons, flatB l]; rfl
section
variable {N d : Nat} {h : T} {s : Nat} (hf : ∀ n, s ≤ n → h.get n = none)
include hf
end
section
variable {N d : Nat} (hN : 100000 ≤ N) {h : T} {s : Nat} (hf : ∀ n, s ≤ n → h.get n = none)
include hN hf
end
end Go.Ev.R
namespace Go.Ev.R
open Go Go.RowKit
section
variable {h : T} {pw : Nat → Prop} {Z : Value → T → Prop} {s0 s : Nat} {h0 : T}
end
section
variable {N d : Nat} (hN : 100000 ≤ N) {h0 h : T} {s0 s t : Nat} {K : KV} {pw : Nat → Prop} {Z : Value → T → Prop} (g : From s0 h0 h s) (hp : ∀ n, s0 ≤ n → pw n) {wb : Nat} (hwb : s0 ≤ wb) {p : Option Addr} {len : Nat} {b : List Int} (hw : h.get wb = some (.cells ⟨[.slice p len len, .bool false]⟩ 111 (0, 0))) (r : Sl EB h p len len b)
include hN g hp hwb hw r
end
end Go.Ev.R
namespace Go.Ev.R
open Go Go.RowKit
theorem cst (p : Option Addr) (n c : Nat) (K : KV) (s : Nat) : convX P 25 9 (.slice p n c) K s = abytesStr (.slice p n c) K s := by kernel_rfl
theorem eqstr (a b : ByteArray) (K : KV) (s : Nat) : eqX P 9 9 false false (.string a) (.string b) K s = K (.bool (a.toList == b.toList)) s := by kernel_rfl
theorem bytesL_ok : ∀ l : List Int, bytesL (l.map u8) = some (l.map fun x => UInt8.ofNat x.toNat)
  | [] => rfl
  | x :: l => by
    simp only [List.map_cons, bytesL, byteOf?, bytesL_ok l]
theorem byte_inj : ∀ {a b : List Int}, (∀ x ∈ a, 0 ≤ x ∧ x < 256) → (∀ x ∈ b, 0 ≤ x ∧ x < 256) → (a.map fun x => UInt8.ofNat x.toNat) = (b.map fun x => UInt8.ofNat x.toNat) → a = b
  | [], [], _, _, _ => rfl
  | [], _ :: _, _, _, h => by simp at h
  | _ :: _, [], _, _, h => by simp at h
  | x :: a, y :: b, ha, hb, h => by
    simp only [List.map_cons, List.cons.injEq] at h
    have h1 := congrArg UInt8.toNat h.1
    have hx := ha x (by simp)
    have hy := hb y (by simp)
    simp only [UInt8.toNat_ofNat'] at h1
    have : x = y := by omega
    rw [this, byte_inj (fun z hz => ha z (by simp [hz])) (fun z hz => hb z (by simp [hz])) h.2]
section
variable {h : T} {pw : Nat → Prop} {Z : Value → T → Prop} {s : Nat}
theorem wp_bst {p : Option Addr} {n c : Nat} {l : List Int} (r : Row EB h p n l) (K : KV) : (abytesStr (.slice p n c) K s).wp pw Z h = (K (str (l.map fun x => UInt8.ofNat x.toNat)) s).wp pw Z h := by
  by_cases h0 : n = 0
  · subst h0
    have := List.eq_nil_of_length_eq_zero r.1
    subst this
    cases p with
    | none => rfl
    | some a => rfl
  · obtain ⟨m, o, q, rfl⟩ := r.2.is (by show n * 1 ≠ 0; omega)
    unfold abytesStr
    dsimp only
    rw [show Nat.beq n 0 = false from beq_no h0]
    simp only [cond_false]
    have := r.2.sub (j := 0) (z := n) (by omega) (by show 0 + n ≤ n * 1; omega) (pw := pw) (Z := Z) (fun l s => match bytesL l with | some bs => K (.string ⟨⟨bs⟩⟩) s | none => .fail) s
    simp only [blk, off, Nat.add_zero, List.drop_zero] at this
    refine this.trans ?_
    rw [List.take_of_length_le (by rw [flatB, List.length_map, r.1]; exact Nat.le_refl _), flatB, bytesL_ok]
end
section
variable {N d : Nat} {h : T} {s : Nat} (hf : ∀ n, s ≤ n → h.get n = none)
include hf
theorem s19 {p q : Option Addr} {n m c c' : Nat} {a b : List Int} (r : Row EB h p n a) (r' : Row EB h q m b) (ha : ∀ x ∈ a, 0 ≤ x ∧ x < 256) (hb : ∀ x ∈ b, 0 ≤ x ∧ x < 256) : ValS (D N (d + 1)) 19 [.slice p n c, .slice q m c'] h s (.bool (decide (a = b))) := by
  refine ValS.of hf fun K pw Z g hp hk => ?_
  rw [D_19]; unfold F19; rw [app2_eq, cst, wp_bst r, cst, wp_bst r', eqstr, ByteArray.toList_eq, ByteArray.toList_eq]
  have hk := hk _ _ g
  dsimp only
  have e : ((a.map fun x => UInt8.ofNat x.toNat) == (b.map fun x => UInt8.ofNat x.toNat)) = decide (a = b) := by
    by_cases h1 : a = b
    · subst h1; simp
    · rw [decide_eq_false h1, ← Bool.not_eq_true, beq_iff_eq]
      exact fun h2 => h1 (byte_inj ha hb h2)
  rw [e]
  exact hk
end
section
variable {N d : Nat} (hN : 100000 ≤ N) {h : T} {s : Nat} (hf : ∀ n, s ≤ n → h.get n = none)
include hN hf
end
end Go.Ev.R
namespace Go.Ev.R
open Go Go.RowKit
section
variable {N d : Nat} (hN : N = 100000) {h : T} {s : Nat} (hf : ∀ n, s ≤ n → h.get n = none)
include hN hf
end
end Go.Ev.R
namespace Go.Ev.R
open Go Go.RowKit
section
variable {N d : Nat} (hN : N = 100000) {h : T} {s : Nat} (hf : ∀ n, s ≤ n → h.get n = none)
include hN hf
end
end Go.Ev.R
namespace Go.Ev.R
open Go Go.RowKit
section
variable {N d : Nat} (hN : N = 100000) {h : T} {s : Nat} (hf : ∀ n, s ≤ n → h.get n = none)
include hN hf
end
end Go.Ev.R
namespace Go.Ev.R
open Go Go.RowKit
/-! ### numbers out of bytes -/
def isByte (x : Int) : Prop := 0 ≤ x ∧ x < 256
def allBytes (l : List Int) : Prop := ∀ x ∈ l, isByte x
end Go.Ev.R
namespace Go.Ev.R
open Go Go.RowKit
theorem D_Y (N d : Nat) (args : List Value) (K : KV) (s : Nat) : D N (d + 1) 1000000 args K s = yY P N (D N d) args K s := by kernel_rfl
section
variable {h h' : T} {x : Nat} {q : Loop} (hb : h.get x = some (.loop q)) (e : ∀ i, i ≠ x → h'.get i = h.get i)
include hb e
theorem Row.keepL {α : Type} {E : Enc α} {p : Option Addr} {n : Nat} {l : List α} (r : Row E h p n l) : Row E h' p n l :=
  ⟨r.1, r.2.of_eq fun hm => e _ fun he => by
    obtain ⟨c, t, f, h1, -⟩ := r.2.at_ hm
    rw [he, hb] at h1; cases h1⟩
theorem OwnG.keepL {α : Type} {E : Enc α} {el : TypeId} {s : Nat} {p : Option Addr} {len : Nat} {l : List α} (o : OwnG E el h s p len l) : OwnG E el h' s p len l := by
  refine o.but fun hp => e _ fun he => ?_
  obtain ⟨hl, ⟨rfl, _⟩ | ⟨n, f, rfl, h1, hg, hff⟩⟩ := o
  · exact hp rfl
  · have he : n = x := he
    rw [he, hb] at hg; cases hg
end
section
variable {h : T} {pw : Nat → Prop} {Z : Value → T → Prop} {s0 s : Nat} {h0 : T}
/-- A store of any object. -/
theorem wp_putO {n : Nat} {o o' : Obj} {k : AM} (g : From s0 h0 h s) (hp : ∀ n, s0 ≤ n → pw n) (hb : h.get n = some o) (hn : s0 ≤ n)
    (hk : ∀ h', From s0 h0 h' s → h'.get n = some o' → (∀ i, i ≠ n → h'.get i = h.get i) → k.wp pw Z h') : (AM.put n o' k).wp pw Z h := by
  have hns := lt_of_some g.fresh ⟨_, hb⟩
  rw [wp_put, hb]
  exact ⟨hp n hn, hk _ ⟨g.le, fun i hi => by rw [get_ne (by omega)]; exact g.keep i hi, fun i hi => by rw [get_ne (by omega)]; exact g.fresh i hi⟩ get_eq fun i hi => get_ne (Ne.symm hi)⟩
end
end Go.Ev.R
namespace Go.Ev.R
open Go Go.RowKit
theorem iy (C : CallT) (l : Nat) (x : Value) (k : KV) (s : Nat) : invV P C (.func (.yield l) ⟨[]⟩ ⟨[]⟩) [x] k s = C 1000000 [.int .i64 (.ofNat l), x] k s := rfl
end Go.Ev.R
namespace Go.Ev.R
open Go Go.RowKit
section
variable {h : T} {pw : Nat → Prop} {Z : Value → T → Prop} {s0 s : Nat} {h0 : T}
theorem wp_newO {o : Obj} {k : AM} (g : From s0 h0 h s) (hp : ∀ n, s0 ≤ n → pw n)
    (hk : ∀ h', From s0 h0 h' (s + 1) → From s h h' (s + 1) → h'.get s = some o → k.wp pw Z h') : (AM.new s o k).wp pw Z h := by
  rw [wp_new, g.fresh s (Nat.le_refl _)]
  have b : From s h (h.set s o) (s + 1) := ⟨by omega, fun n hn => get_ne (by omega), fun n hn => by rw [get_ne (by omega)]; exact g.fresh n (by omega)⟩
  exact ⟨hp s g.le, hk _ (g.trans b) b get_eq⟩
theorem yret1 {q : Nat} {k : Nat → AM} (g : From s0 h0 h s) (hp : ∀ n, s0 ≤ n → pw n) (hb : h.get q = some (.deferred (some []))) (hq : s0 ≤ q)
    (hk : ∀ h', From s0 h0 h' s → (∀ i, i ≠ q → h'.get i = h.get i) → (k s).wp pw Z h') : (yret [q] k s).wp pw Z h := by
  show (AM.get q fun o => match o with | .deferred (some []) => .put q (.deferred none) (k s) | _ => .fail).wp pw Z h
  rw [wp_get, hb]
  dsimp only
  exact wp_putO g hp hb hq fun h' g' b' e' => hk h' g' e'
end
section
variable {N d : Nat} {h : T} {s : Nat} (hf : ∀ n, s ≤ n → h.get n = none)
include hf
end
section
variable {N d : Nat} (hN : N = 100000) {h : T} {s : Nat} (hf : ∀ n, s ≤ n → h.get n = none)
include hN hf
end
end Go.Ev.R

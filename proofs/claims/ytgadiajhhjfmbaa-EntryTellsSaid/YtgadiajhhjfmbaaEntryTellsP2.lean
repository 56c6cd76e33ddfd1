/- The law EntryTells, part 2: what the functions answer, by their terms. No condition. -/
import Derived.Test.YtgadiajhhjfmbaaEntryTellsP1
set_option linter.unusedVariables false
set_option linter.unusedSimpArgs false
set_option maxRecDepth 100000
namespace Go.Ev.R
open Go Go.RowKit
abbrev vi (n : Int) : Value := .int .i64 n
abbrev ptr (b : Nat) : Value := .pointer (some ⟨b, 0, none⟩)
/-- An entry: its key, whether it is an input, its numbers. -/
structure EN where
  k : K3
  inp : Bool
  data : List Int
def ev (e : EN) (p : Option Addr) (c : Nat) : List Value := [vi e.k.a, vi e.k.b, vi e.k.c, .bool e.inp, .slice p e.data.length c]
abbrev eval (e : EN) (p : Option Addr) (c : Nat) : Value := .agg ⟨ev e p c⟩
/-- Where a place lies. -/
def ix (first keep i : Nat) : Nat := if first + i < keep then first + i else first + i - keep
/-- An entry in a heap, its numbers apart from two rows. -/
def EntAt (h : T) (rb q : Nat) (b : Nat) (e : EN) : Prop := ∃ p c, h.get b = some (.cells ⟨ev e p c⟩ 43 (0, 0)) ∧ Sl EI h p e.data.length c e.data ∧ (c ≠ 0 → blk p ≠ rb ∧ blk p ≠ q)
/-- A ring in a heap: its box, its places, its blocks, its entries. -/
structure RingAt (h : T) (rb q keep first : Nat) (bs : List Nat) (L : List EN) : Prop where
  box : h.get rb = some (.cells ⟨[.slice (some ⟨q, 0, none⟩) keep keep, vi first, vi bs.length]⟩ 72 (0, 0))
  row : ∃ cs, h.get q = some (.cells ⟨cs⟩ 91 (0, 0)) ∧ cs.length = keep ∧ ∀ (i b : Nat), bs[i]? = some b → cs[ix first keep i]? = some (ptr b)
  ne : rb ≠ q
  pos : 0 < keep
  fst : first < keep
  le : bs.length ≤ keep
  len : bs.length = L.length
  ent : ∀ (i b : Nat), bs[i]? = some b → ∃ e, L[i]? = some e ∧ EntAt h rb q b e
theorem EntAt.from {h0 h : T} {s0 s rb q b : Nat} {e : EN} (o : EntAt h0 rb q b e) (hf : ∀ n, s0 ≤ n → h0.get n = none) (g : From s0 h0 h s) : EntAt h rb q b e := by
  obtain ⟨p, c, h1, h2, h3⟩ := o
  exact ⟨p, c, by rw [g.keep b (lt_of_some hf ⟨_, h1⟩)]; exact h1, h2.from hf g, h3⟩
theorem RingAt.from {h0 h : T} {s0 s rb q keep first : Nat} {bs : List Nat} {L : List EN} (r : RingAt h0 rb q keep first bs L) (hf : ∀ n, s0 ≤ n → h0.get n = none) (g : From s0 h0 h s) : RingAt h rb q keep first bs L := by
  obtain ⟨cs, h1, h2, h3⟩ := r.row
  exact ⟨by rw [g.keep rb (lt_of_some hf ⟨_, r.box⟩)]; exact r.box, ⟨cs, by rw [g.keep q (lt_of_some hf ⟨_, h1⟩)]; exact h1, h2, h3⟩, r.ne, r.pos, r.fst, r.le, r.len, fun i b hb => by
    obtain ⟨e, h4, h5⟩ := r.ent i b hb
    exact ⟨e, h4, h5.from hf g⟩⟩
/-- But the ring's own two rows a heap is as it was. -/
theorem EntAt.but {h h' : T} {rb q b : Nat} {e : EN} (o : EntAt h rb q b e) (hk : ∀ n, n ≠ rb → n ≠ q → h'.get n = h.get n) (hb : b ≠ rb) (hq : b ≠ q) : EntAt h' rb q b e := by
  obtain ⟨p, c, h1, h2, h3⟩ := o
  exact ⟨p, c, by rw [hk b hb hq]; exact h1, h2.but fun hc => hk _ (h3 hc).1 (h3 hc).2, h3⟩
theorem RingAt.apart {h : T} {rb q keep first : Nat} {bs : List Nat} {L : List EN} (r : RingAt h rb q keep first bs L) {i b : Nat} (hb : bs[i]? = some b) : b ≠ rb ∧ b ≠ q := by
  obtain ⟨e, _, p, c, h1, _, _⟩ := r.ent i b hb
  obtain ⟨cs, h2, _, _⟩ := r.row
  refine ⟨fun e => ?_, fun e => ?_⟩
  · subst e
    rw [r.box] at h1
    have := congrArg (fun o => match o with | some (Obj.cells _ t _) => t | _ => 0) h1
    simp at this
  · subst e
    rw [h2] at h1
    have := congrArg (fun o => match o with | some (Obj.cells _ t _) => t | _ => 0) h1
    simp at this
section
variable {N d : Nat} (hN : 100000 ≤ N) {h : T} {s : Nat} (hf : ∀ n, s ≤ n → h.get n = none)
include hf
end
end Go.Ev.R
namespace Go.Ev.R
open Go Go.RowKit
section
variable {N d : Nat} (hN : 100000 ≤ N) {h : T} {s : Nat} (hf : ∀ n, s ≤ n → h.get n = none)
include hf
include hN
include hN
end
end Go.Ev.R
namespace Go.Ev.R
open Go Go.RowKit
def ksE (L : List EN) : List K3 := L.map EN.k
theorem ks_get {L : List EN} {i : Nat} : (ksE L)[i]? = (L[i]?).map EN.k := by simp [ksE]
section
variable {N d : Nat} (hN : 100000 ≤ N) {h : T} {s : Nat} (hf : ∀ n, s ≤ n → h.get n = none)
include hf
end
end Go.Ev.R
namespace Go.Ev.R
open Go Go.RowKit
/-- Blocks that are none of a ring's entries nor of their numbers. -/
def Avoid (h : T) (bs : List Nat) (A : Nat → Prop) : Prop := ∀ (i b : Nat), bs[i]? = some b → ¬ A b ∧ ∀ (e : EN) (p : Option Addr) (c : Nat), h.get b = some (.cells ⟨ev e p c⟩ 43 (0, 0)) → c ≠ 0 → ¬ A (blk p)
theorem Avoid.keep {h h' : T} {bs : List Nat} {A : Nat → Prop} (a : Avoid h bs A) (e : ∀ (i b : Nat), bs[i]? = some b → h'.get b = h.get b) : Avoid h' bs A := fun i b hb => ⟨(a i b hb).1, fun x p c hx => (a i b hb).2 x p c (by rw [← e i b hb]; exact hx)⟩
theorem RingAt.below {h : T} {rb q keep first s : Nat} {bs : List Nat} {L : List EN} (r : RingAt h rb q keep first bs L) (hf : ∀ n, s ≤ n → h.get n = none) {i b : Nat} (hb : bs[i]? = some b) : b < s := by
  obtain ⟨e, _, p, c, h1, _⟩ := r.ent i b hb
  exact lt_of_some hf ⟨_, h1⟩
section
variable {N d : Nat} (hN : 100000 ≤ N)
include hN
end
end Go.Ev.R

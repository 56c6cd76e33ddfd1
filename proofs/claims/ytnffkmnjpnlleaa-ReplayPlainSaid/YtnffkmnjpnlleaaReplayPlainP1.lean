/- The law ReplayPlain, part 1: what the functions answer, by their terms. No condition. -/
import Derived.Test.YtnffkmnjpnlleaaReplayPlainP0
set_option linter.unusedVariables false
set_option linter.unusedSimpArgs false
set_option maxRecDepth 100000
namespace Go.Ev.R
open Go Go.RowKit
/-- A run as it lies. -/
structure RU where
  p : Option Addr
  n : Nat
  c : Nat
  t : Int
  b : List Int
def ruv (x : RU) : List Value := [.slice x.p x.n x.c, vi x.t]
def EU : Enc RU := ⟨2, ruv, by decide, fun _ => rfl⟩
/-- What it is worth. -/
def ruC (x : RU) : List Int × Int := (x.b, x.t)
theorem xaU {h : T} {p : Option Addr} {len : Nat} {l : List RU} (r : Row EU h p len l) {j : Int} (hj0 : 0 ≤ j) (hj : j < (len : Int)) (cap : Nat) (kd : IntKind) (k : Value → Nat → AM) (s : Nat) :
    M.opt (aindexAt P 22 (.slice p len cap) (.int kd j)) k s = k (.pointer (some ⟨blk p, off p + j.toNat * 2, none⟩)) s := r.2.xa (z := 2) xa0_22 (by decide) hj0 hj cap kd k s
section
variable {h : T} {p : Option Addr} {len : Nat} {l : List RU} (r : Row EU h p len l) {i : Nat} {x : RU} (hx : l[i]? = some x) {pw : Nat → Prop} {Z : Value → T → Prop}
include r hx
theorem ruB (k : Value → Nat → AM) (s : Nat) : (aload (blk p) (off p + i * 2) k s).wp pw Z h = (k (.slice x.p x.n x.c) s).wp pw Z h := by
  have := r.2.one (Row.fld (h := h) (E := EU) (j := 0) hx rfl) k s (pw := pw) (Z := Z)
  exact this
theorem ruT (k : Value → Nat → AM) (s : Nat) : (aload (blk p) (off p + i * 2 + 1) k s).wp pw Z h = (k (vi x.t) s).wp pw Z h := by
  have := r.2.one (Row.fld (h := h) (E := EU) (j := 1) hx rfl) k s (pw := pw) (Z := Z)
  rw [← Nat.add_assoc] at this; exact this
theorem ruA (k : List Value → Nat → AM) (s : Nat) : (acells (blk p) (off p + i * 2) 2 k s).wp pw Z h = (k (ruv x) s).wp pw Z h := r.ld hx k s
theorem ruBL (j : LogT) (s : Nat) : (AM.log (aload (blk p) (off p + i * 2) (fun v s => .ret (pk v s)) s) (logU j)).wp pw Z h = (j (.slice x.p x.n x.c) [blk p] [] s).wp pw Z h := by
  have := r.2.oneL (Row.fld (h := h) (E := EU) (j := 0) hx rfl) j s (pw := pw) (Z := Z)
  exact this
theorem ruTL (j : LogT) (s : Nat) : (AM.log (aload (blk p) (off p + i * 2 + 1) (fun v s => .ret (pk v s)) s) (logU j)).wp pw Z h = (j (vi x.t) [blk p] [] s).wp pw Z h := by
  have := r.2.oneL (Row.fld (h := h) (E := EU) (j := 1) hx rfl) j s (pw := pw) (Z := Z)
  rw [← Nat.add_assoc] at this; exact this
end
/-- Bytes that were made, perhaps clipped. -/
def OwnB (h : T) (s : Nat) (p : Option Addr) (len : Nat) (l : List Int) : Prop :=
  l.length = len ∧ (p = none ∧ len = 0 ∨ ∃ n q f, p = some ⟨n, 0, q⟩ ∧ s ≤ n ∧ h.get n = some (.cells ⟨l.flatMap EB.f⟩ 5 (f, 0)) ∧ (f = 0 ∨ f = 2) ∧ len ≠ 0)
section
variable {h h' : T} {s s' : Nat} {p : Option Addr} {len : Nat} {l : List Int}
theorem OwnB.sl (o : OwnB h s p len l) : Sl EB h p len len l := by
  obtain ⟨hl, ⟨rfl, rfl⟩ | ⟨n, q, f, rfl, _, hg, hf⟩⟩ := o
  · obtain rfl := List.eq_nil_of_length_eq_zero hl
    exact .nil _
  · exact .own hg hf.1 hl
theorem OwnB.but (o : OwnB h s p len l) (e : p ≠ none → h'.get (blk p) = h.get (blk p)) : OwnB h' s p len l := by
  obtain ⟨hl, ho | ⟨n, q, f, rfl, h1, hg, hff⟩⟩ := o
  · exact ⟨hl, .inl ho⟩
  · exact ⟨hl, .inr ⟨n, q, f, rfl, h1, by rw [show h'.get n = h.get n from e (by simp)]; exact hg, hff⟩⟩
theorem OwnB.lt (o : OwnB h s p len l) (hf : ∀ n, s' ≤ n → h.get n = none) (hp : p ≠ none) : s ≤ blk p ∧ blk p < s' := by
  obtain ⟨hl, ⟨rfl, _⟩ | ⟨n, q, f, rfl, h1, hg, hff⟩⟩ := o
  · exact absurd rfl hp
  · exact ⟨h1, lt_of_some hf ⟨_, hg⟩⟩
theorem OwnB.from {s0 : Nat} (o : OwnB h s p len l) (hf : ∀ n, s0 ≤ n → h.get n = none) (g : From s0 h h' s') : OwnB h' s p len l :=
  o.but fun hp => g.keep _ (o.lt hf hp).2
theorem OwnB.less (o : OwnB h s p len l) (hs : s' ≤ s) : OwnB h s' p len l := by
  obtain ⟨hl, ho | ⟨n, q, f, rfl, h1, hg, hff⟩⟩ := o
  · exact ⟨hl, .inl ho⟩
  · exact ⟨hl, .inr ⟨n, q, f, rfl, by omega, hg, hff⟩⟩
theorem OwnB.nil : OwnB h s none 0 [] := ⟨rfl, .inl ⟨rfl, rfl⟩⟩
theorem OwnB.is (o : OwnB h s p len l) (hp : p ≠ none) : ∃ c f, h.get (blk p) = some (.cells c 5 f) := by
  obtain ⟨hl, ⟨rfl, _⟩ | ⟨n, q, f, rfl, h1, hg, hff⟩⟩ := o
  · exact absurd rfl hp
  · exact ⟨_, _, hg⟩
theorem OwnB.apart (o : OwnB h s p len l) {b : Nat} {ob : Obj} (hb : h.get b = some ob) (ht : ∀ c f, ob ≠ .cells c 5 f) (hp : p ≠ none) : blk p ≠ b := by
  intro he
  obtain ⟨c, f, hc⟩ := o.is hp
  rw [he, hb] at hc
  cases hc
  exact ht _ _ rfl
end
theorem OwnG.apart {α : Type} {E : Enc α} {el : TypeId} {h : T} {s : Nat} {p : Option Addr} {len : Nat} {l : List α} (o : OwnG E el h s p len l) {b : Nat} {ob : Obj} (hb : h.get b = some ob) (ht : ∀ c f, ob ≠ .cells c el f) (hp : p ≠ none) : blk p ≠ b := by
  intro he
  obtain ⟨hl, ⟨rfl, _⟩ | ⟨n, f, rfl, h1, hg, hff⟩⟩ := o
  · exact hp rfl
  · have he : n = b := he
    rw [he, hb] at hg; cases hg; exact ht _ _ rfl
/-! ### plain stories -/
abbrev Run := List Int × Int
def stepJ (st : List Run × Run) (x : Run) : List Run × Run :=
  if x.1 ≠ [] ∧ 0 < st.2.2 then (st.1 ++ [st.2], (x.1, x.2)) else (st.1, (st.2.1 ++ x.1, st.2.2 + x.2))
def isThere (x : Run) : Bool := decide (x.1 ≠ [] ∨ 0 < x.2)
def endJ (st : List Run × Run) : List Run := if isThere st.2 then st.1 ++ [st.2] else st.1
def plainL (l : List Run) : List Run := endJ ((l.filter isThere).foldl stepJ ([], ([], 0)))
abbrev rdyL (fn : FuncId) (tm : Array Value) (pa : Array Tmp) (asg bo : Code) (df : Nat) : Obj := .loop { state := .ready, pending := none, fn := fn, tmps := tm, params := pa, assign := asg, body := bo, defers := df }
abbrev bsyL (fn : FuncId) (tm : Array Value) (pa : Array Tmp) (asg bo : Code) (df : Nat) : Obj := .loop { state := .busy, pending := none, fn := fn, tmps := tm, params := pa, assign := asg, body := bo, defers := df }
theorem blt_max {C : CallT} (ts : Array TypeId) (t : TypeId) (cs : Array Bool) (a b : Int) (k : Value → Nat → AM) (s : Nat) : blt0 P C .max ts t cs [vi a, vi b] k s = k (vi (max a b)) s := by
  have h : pureRun P (builtin .max ts t cs ⟨[vi a, vi b]⟩) = some (.value (vi (max a b))) := by
    have h1 : Builtin.max_ ts t ⟨[vi a, vi b]⟩ = pure (.int .i64 (if a < b then b else a)) := rfl
    have h2 : (if a < b then b else a) = max a b := by split <;> omega
    rw [h2] at h1
    have : builtin .max ts t cs ⟨[vi a, vi b]⟩ = (do pure (Next.value (← Builtin.max_ ts t ⟨[vi a, vi b]⟩))) := rfl
    rw [this, h1]
    rfl
  unfold blt0 abuiltin
  dsimp only
  rw [h]
  rfl
section
variable {N d : Nat} {h : T} {s : Nat} (hf : ∀ n, s ≤ n → h.get n = none)
include hf
/-- Clipped. -/
theorem s145o {t : Nat} {p : Option Addr} {len : Nat} {l : List Int} (o : OwnB h t p len l) : PureS (D N (d + 1)) 145 [.slice p len len] h s (fun v h' s' => h' = h ∧ s' = s ∧ ∃ p', v = .slice p' len len ∧ OwnB h t p' len l ∧ (p' ≠ none → ∃ n, p' = some ⟨n, 0, some 0⟩)) := by
  refine PureS.of hf fun K pw Z g hp hk => ?_
  rw [D_145]; unfold F145; rw [app1_eq]
  have r := o.sl
  try simp (disch := first | assumption | omega | (simp only [Int.ofNat_eq_natCast, neg_one]; done) | (simp only [Int.ofNat_eq_natCast, neg_one]; omega)) only [tysW, wB, mB, Nat.reduceAdd, Nat.reduceMul, List.length_cons, List.length_nil]
  refine r.cut3 (ab_to3 (Nat.le_refl _) (Nat.le_refl _) .i64 .i64) (Nat.zero_le _) (Nat.le_refl _) (Nat.le_refl _) (Nat.le_refl _) fun p' r' k1 k2 k3 => ?_
  simp only [Nat.sub_zero] at k1 ⊢
  refine hk _ _ _ g ⟨rfl, rfl, p', rfl, ?_, ?_⟩
  · obtain ⟨hl, ⟨rfl, rfl⟩ | ⟨n, q, f, rfl, h1, hg, hff⟩⟩ := o
    · exact ⟨hl, .inl ⟨k3 rfl, rfl⟩⟩
    · by_cases h0 : len = 0
      · exact absurd h0 hff.2
      · obtain ⟨m, o', rfl⟩ := k2 h0
        obtain ⟨e1, e2⟩ := k1 h0
        have e1 : m = n := e1
        have e2 : o' = 0 + 0 * EB.z := e2
        rw [Nat.zero_mul] at e2
        subst e1; subst e2
        exact ⟨hl, .inr ⟨m, some 0, f, rfl, h1, hg, hff⟩⟩
  · intro hp'
    by_cases h0 : len = 0
    · rw [k3 h0] at hp' ⊢
      obtain ⟨hl, ⟨rfl, h5⟩ | ⟨n, q, f, rfl, h1, hg, hff⟩⟩ := o
      · exact absurd rfl hp'
      · exact absurd h0 hff.2
    · obtain ⟨m, o', rfl⟩ := k2 h0
      obtain ⟨e1, e2⟩ := k1 h0
      obtain ⟨hl, ⟨rfl, h5⟩ | ⟨n, q, f, rfl, h1, hg, hff⟩⟩ := o
      · exact absurd h5 h0
      · have e2 : o' = 0 + 0 * EB.z := e2
        rw [Nat.zero_mul] at e2
        subst e2
        exact ⟨m, rfl⟩
end
end Go.Ev.R
namespace Go.Ev.R
open Go Go.RowKit
noncomputable def Y143 (N : Nat) (C : CallT) (q0 : Nat) (v7 v2 : Value) (K : KV) (s : Nat) : AM := aalloc P 27 (fun v24 s => st 27 v24 v7 (fun _ s => yready q0 (fun s => ld 22 v2 (fun v25 s => ld 27 v24 (fun v26 s => abuildSlice P 22 1 [(0, v26)] (fun v27 s => aappend P ⟨[22, 22]⟩ v25 v27 (fun v28 s => st 22 v2 v28 (fun _ s => yleave q0 K .fall [] [] s) s) s) s) s) s) s) s) s
theorem par143 : rPar 143 [1, 0, 1, 0] = ⟨[7]⟩ := by kernel_rfl
theorem rnd143 (C : CallT) (q0 : Nat) (v0 v1 v2 v3 v4 v5 v6 v7 v8 v9 v10 v11 v12 : Value) (K : KV) (s : Nat) : yround P 100000 C q0 143 [v0, v1, v2, v3, v4, v5, v6, v7, v8, v9, v10, v11, v12] (rAs 143 [1, 0, 1, 0]) (rBody 143 [1, 0, 1, 0]) K s = Y143 100000 C q0 v7 v2 K s := by kernel_rfl
theorem wp_rnd143 {N : Nat} (hN : N = 100000) {C : CallT} {pw : Nat → Prop} {Z : Value → T → Prop} {h : T} {l q : Nat} {v0 v1 v2 v3 v4 v5 v6 v7 v8 v9 v10 v11 v12 x0 : Value} {K : KV} {s : Nat} (hb : h.get l = some (.loop { state := .ready, pending := none, fn := 143, tmps := ⟨[v0, v1, v2, v3, v4, v5, v6, v7, v8, v9, v10, v11, v12]⟩, params := rPar 143 [1, 0, 1, 0], assign := rAs 143 [1, 0, 1, 0], body := rBody 143 [1, 0, 1, 0], defers := q })) : (yY P N C [.int .i64 (.ofNat l), x0] K s).wp pw Z h = (Y143 N C l x0 v2 K s).wp pw Z h := by
  subst hN
  unfold yY
  dsimp only
  rw [wp_get, hb]
  dsimp only
  rw [par143]
  exact congrArg (fun m => AM.wp pw Z m h) (rnd143 C l v0 v1 v2 v3 v4 v5 v6 x0 v8 v9 v10 v11 v12 K s)
noncomputable def Y144_1 (N : Nat) (C : CallT) (K : KV) (v3 : Value) (ts61 ws62 ts65 ws66 : List Nat) (v57 : Value) (q0 : Nat) : LogT := fun v67 _ _ s =>
  fa 27 v3 0 (fun v68 s => AM.log (st 25 v68 v67 (fun _ s => AM.ret (pk undef s)) s) (logU ((fun v69 _ _ s => guardX (dy [o, o, (ts61, ws62), o, (ts65, ws66), o, o, o] [[], [], [4], [], [2], [], [], []]) (fa 27 v3 1 (fun v70 s => ld 3 v70 (fun v71 s => fa 27 v57 1 (fun v72 s => ld 3 v72 (fun v73 s => addX P 3 3 false false v71 v73 (fun v74 s => fa 27 v3 1 (fun v75 s => st 3 v75 v74 (fun _ s => yleave q0 K .fall [] [] s) s) s) s) s) s) s) s) AM.fail) : LogT))) s
noncomputable def Y144_2 (N : Nat) (C : CallT) (K : KV) (v3 v57 : Value) (q0 : Nat) : Nat → AM := fun s =>
  fa 27 v3 0 (fun v58 s => AM.log (ld 25 v58 (fun v s => AM.ret (pk v s)) s) (logU ((fun v59 _ _ s => AM.log (C 145 [v59] (fun v s => AM.ret (pk v s)) s) (logU ((fun v60 ts61 ws62 s => fa 27 v57 0 (fun v63 s => AM.log (ld 25 v63 (fun v s => AM.ret (pk v s)) s) (logU ((fun v64 ts65 ws66 s => AM.log (aappend P ⟨[25, 25]⟩ v60 v64 (fun v s => AM.ret (pk v s)) s) (logU (Y144_1 N C K v3 ts61 ws62 ts65 ws66 v57 q0))) : LogT))) s) : LogT))) : LogT))) s
noncomputable def Y144_3 (N : Nat) (C : CallT) (K : KV) (v6 : Value) (q0 : Nat) (v3 v2 : Value) : Nat → AM := fun s =>
  aalloc P 27 (fun v57 s => st 27 v57 v6 (fun _ s => yready q0 (fun s => bindJ 0 (Y144_2 N C K v3 v57 q0) (fun j76 s => fa 27 v57 0 (fun v77 s => ld 25 v77 (fun v78 s => lenX P ⟨[25]⟩ v78 (fun v79 s => gtX P 3 3 false true v79 (i64 0) (fun v80 s => bindJ 1 (fun v81 s => pickX v80 v81 (.bool false) (fun v82 s => condX v82 (ld 154 v2 (fun v83 s => ld 27 v3 (fun v84 s => invV P C v83 [v84] (fun v85 s => notX P 4 v85 (fun v86 s => condX v86 (yleave q0 K .ret [] [] s) (M.opt (abuild P 27 []) (fun v87 s => st 27 v3 v87 (fun _ s => j76 s) s) s)) s) s) s) s) (j76 s)) s) (fun j88 s => guardX (gd v80 true) (fa 27 v3 1 (fun v89 s => ld 3 v89 (fun v90 s => gtX P 3 3 false true v90 (i64 0) (fun v91 s => j88 v91 s) s) s) s) (j88 undef s)) s) s) s) s) s) s) s) s) s
noncomputable def Y144 (N : Nat) (C : CallT) (q0 : Nat) (v6 v3 v2 : Value) (K : KV) (s : Nat) : AM := (Y144_3 N C K v6 q0 v3 v2) s
theorem par144 : rPar 144 [1, 1, 0, 1, 0] = ⟨[6]⟩ := by kernel_rfl
theorem rnd144 (C : CallT) (q0 : Nat) (v0 v1 v2 v3 v4 v5 v6 v7 v8 v9 v10 v11 v12 v13 v14 v15 v16 v17 v18 v19 v20 v21 v22 v23 v24 v25 v26 v27 v28 v29 v30 v31 v32 v33 v34 v35 v36 v37 v38 v39 v40 v41 v42 v43 v44 v45 : Value) (K : KV) (s : Nat) : yround P 100000 C q0 144 [v0, v1, v2, v3, v4, v5, v6, v7, v8, v9, v10, v11, v12, v13, v14, v15, v16, v17, v18, v19, v20, v21, v22, v23, v24, v25, v26, v27, v28, v29, v30, v31, v32, v33, v34, v35, v36, v37, v38, v39, v40, v41, v42, v43, v44, v45] (rAs 144 [1, 1, 0, 1, 0]) (rBody 144 [1, 1, 0, 1, 0]) K s = Y144 100000 C q0 v6 v3 v2 K s := by kernel_rfl
theorem wp_rnd144 {N : Nat} (hN : N = 100000) {C : CallT} {pw : Nat → Prop} {Z : Value → T → Prop} {h : T} {l q : Nat} {v0 v1 v2 v3 v4 v5 v6 v7 v8 v9 v10 v11 v12 v13 v14 v15 v16 v17 v18 v19 v20 v21 v22 v23 v24 v25 v26 v27 v28 v29 v30 v31 v32 v33 v34 v35 v36 v37 v38 v39 v40 v41 v42 v43 v44 v45 x0 : Value} {K : KV} {s : Nat} (hb : h.get l = some (.loop { state := .ready, pending := none, fn := 144, tmps := ⟨[v0, v1, v2, v3, v4, v5, v6, v7, v8, v9, v10, v11, v12, v13, v14, v15, v16, v17, v18, v19, v20, v21, v22, v23, v24, v25, v26, v27, v28, v29, v30, v31, v32, v33, v34, v35, v36, v37, v38, v39, v40, v41, v42, v43, v44, v45]⟩, params := rPar 144 [1, 1, 0, 1, 0], assign := rAs 144 [1, 1, 0, 1, 0], body := rBody 144 [1, 1, 0, 1, 0], defers := q })) : (yY P N C [.int .i64 (.ofNat l), x0] K s).wp pw Z h = (Y144 N C l x0 v3 v2 K s).wp pw Z h := by
  subst hN
  unfold yY
  dsimp only
  rw [wp_get, hb]
  dsimp only
  rw [par144]
  exact congrArg (fun m => AM.wp pw Z m h) (rnd144 C l v0 v1 v2 v3 v4 v5 x0 v7 v8 v9 v10 v11 v12 v13 v14 v15 v16 v17 v18 v19 v20 v21 v22 v23 v24 v25 v26 v27 v28 v29 v30 v31 v32 v33 v34 v35 v36 v37 v38 v39 v40 v41 v42 v43 v44 v45 K s)
theorem bd_27y (k : Value → Nat → AM) (s : Nat) : M.opt (abuild P 27 []) k s = k (.agg ⟨[.slice none 0 0, .int .i64 (.ofNat 0)]⟩) s := by kernel_rfl
theorem yit144 (C : CallT) (a : Value) (l : Nat) (k : Nat → AM) (s : Nat) : yiter P C (.func (.func 144) ⟨[]⟩ ⟨[a]⟩) l k s = C 144 [.func (.yield l) ⟨[]⟩ ⟨[]⟩, a] (fun _ s => k s) s := by kernel_rfl
theorem yit146 (C : CallT) (a : Value) (l : Nat) (k : Nat → AM) (s : Nat) : yiter P C (.func (.func 146) ⟨[]⟩ ⟨[a]⟩) l k s = C 146 [.func (.yield l) ⟨[]⟩ ⟨[]⟩, a] (fun _ s => k s) s := by kernel_rfl
section
variable {N : Nat} {C : CallT}
/-- One run more. -/
theorem y143 {h0 h : T} {s0 s t l ob fn df : Nat} {tm : Array Value} {pa : Array Tmp} {asg bo : Code} {pw : Nat → Prop} {Z : Value → T → Prop} {K : KV} (g : From s0 h0 h s) (hp : ∀ n, s0 ≤ n → pw n) (hl : h.get l = some (rdyL fn tm pa asg bo df)) (hl0 : s0 ≤ l)
    {p : Option Addr} {len : Nat} {out : List RU} (hob : h.get ob = some (.cells ⟨[.slice p len len]⟩ 22 (0, 0))) (hob0 : s0 ≤ ob) (o : OwnG EU 27 h t p len out) (ht : s0 ≤ t) (hts : t ≤ s) (hot : ob < t) (hlt : l < t) (x : RU) (hlen : len ≤ 10000)
    (hk : ∀ p' h' s', From s0 h0 h' s' → s ≤ s' → h'.get l = some (rdyL fn tm pa asg bo df) → h'.get ob = some (.cells ⟨[.slice p' (len + 1) (len + 1)]⟩ 22 (0, 0)) → OwnG EU 27 h' t p' (len + 1) (out ++ [x]) → (∀ i, i < s → i ≠ l → i ≠ ob → (p ≠ none → i ≠ blk p) → h'.get i = h.get i) → (K (.bool true) s').wp pw Z h') :
    (Y143 N C l (.agg ⟨ruv x⟩) (ptr ob) K s).wp pw Z h := by
  have hne : ob ≠ l := fun e => by rw [e, hl] at hob; cases hob
  have ls := lt_of_some g.fresh ⟨_, hl⟩
  have los := lt_of_some g.fresh ⟨_, hob⟩
  have g0 := g.le
  have hbp : p ≠ none → t ≤ blk p ∧ blk p < s := fun hp => o.lt g.fresh hp
  unfold Y143
  simp only [ruv]
  try simp (disch := first | assumption | omega | (simp only [Int.ofNat_eq_natCast, neg_one]; done) | (simp only [Int.ofNat_eq_natCast, neg_one]; omega)) only [tysW, wB, mB, Nat.reduceAdd, Nat.reduceMul, List.length_cons, List.length_nil]
  refine wp_boxA g hp fun h1 g1 c1 b1 => ?_
  try simp (disch := first | assumption | omega | (simp only [Int.ofNat_eq_natCast, neg_one]; done) | (simp only [Int.ofNat_eq_natCast, neg_one]; omega)) only [tysW, wB, mB, Nat.reduceAdd, Nat.reduceMul, List.length_cons, List.length_nil]
  refine wp_putF g1 hp b1 (by omega) (by simp) rfl fun h2 g2 b2 e2 => ?_
  simp only [overL] at b2
  have c2 : From s h h2 (s + 1) := ⟨by omega, fun n hn => by rw [e2 n (by omega), c1.keep n hn], g2.fresh⟩
  replace hl := c2.box hl ls
  replace hob := c2.box hob los
  replace o := o.from g.fresh c2
  unfold yready
  rw [wp_get, hl]
  dsimp only
  refine wp_putO g2 hp hl hl0 fun h3 g3 b3 e3 => ?_
  replace hob := (e3 ob hne).trans hob
  replace b2 := (e3 s (by omega)).trans b2
  replace o := OwnG.keepL hl e3 o
  try simp (disch := first | assumption | omega | (simp only [Int.ofNat_eq_natCast, neg_one]; done) | (simp only [Int.ofNat_eq_natCast, neg_one]; omega)) only [tysW, wB, mB, Nat.reduceAdd, Nat.reduceMul, List.length_cons, List.length_nil, ldB b2, clB b2, ldBL b2, clBL b2, ldB hob, clB hob, ldBL hob, clBL hob]
  refine wp_newF g3 hp fun h6 g6 c6 b6 => ?_
  replace hob := c6.box hob (by omega)
  replace b3 := c6.box b3 (by omega)
  replace o := o.from g3.fresh c6
  try simp (disch := first | assumption | omega | (simp only [Int.ofNat_eq_natCast, neg_one]; done) | (simp only [Int.ofNat_eq_natCast, neg_one]; omega)) only [tysW, wB, mB, Nat.reduceAdd, Nat.reduceMul, List.length_cons, List.length_nil]
  refine apG (E := EU) (el := 27) (t := t) g6 hp o ht (by omega) (Row.of_cells (E := EU) (l := [x]) b6 rfl) (fun _ => rfl) (by omega) fun p7 h7 s7 g7 l7 o7 e7 => ?_
  replace hob := (e7 ob (by omega) fun hp => by have := hbp hp; omega).trans hob
  replace b3 := (e7 l (by omega) fun hp => by have := hbp hp; omega).trans b3
  try simp (disch := first | assumption | omega | (simp only [Int.ofNat_eq_natCast, neg_one]; done) | (simp only [Int.ofNat_eq_natCast, neg_one]; omega)) only [tysW, wB, mB, Nat.reduceAdd, Nat.reduceMul, List.length_cons, List.length_nil]
  refine wp_putF g7 hp hob hob0 (by simp) rfl fun h8 g8 b8 e8 => ?_
  simp only [overL] at b8
  replace b3 := (e8 l (Ne.symm hne)).trans b3
  unfold yleave
  rw [wp_get, b3]
  dsimp only
  refine wp_putO g8 hp b3 hl0 fun h9 g9 b9 e9 => ?_
  have o8 : OwnG EU 27 h8 t p7 (len + 1) (out ++ [x]) := o7.but fun hp => e8 _ (by have := (o7.lt g7.fresh hp).1; omega)
  refine hk p7 h9 s7 g9 (by omega) b9 ((e9 ob hne).trans b8) (OwnG.keepL b3 e9 o8) fun i hi h1 h2 h3 => ?_
  rw [e9 i h1, e8 i h2, e7 i (by omega) h3, c6.keep i (by omega), e3 i h1, c2.keep i (by omega)]
end
/-- Clipped bytes, bytes put behind. -/
theorem apB {h0 h : T} {s0 s t n len c : Nat} {p q : Option Addr} {l l2 : List Int} {pw : Nat → Prop} {Z : Value → T → Prop} {j : LogT} (g : From s0 h0 h s) (hp : ∀ n, s0 ≤ n → pw n) (ht : s0 ≤ t) (hts : t ≤ s) (o : OwnB h t p len l) (hcl : p ≠ none → ∃ n, p = some ⟨n, 0, some 0⟩) (r2 : Row EB h q n l2) (hsm : len + n ≤ 1000000)
    (hk : ∀ p' h' s' ts ws, From s0 h0 h' s' → From s h h' s' → OwnB h' t p' (len + n) (l ++ l2) → (j (.slice p' (len + n) (len + n)) ts ws s').wp pw Z h') :
    (AM.log (apS 5 1 p len len q n c (fun v s => .ret (pk v s)) s) (logU j)).wp pw Z h := by
  refine log_wp (W := fun i => s ≤ i) (Q := fun v h' s' => ∃ p', v = .slice p' (len + n) (len + n) ∧ From s h h' s' ∧ OwnB h' t p' (len + n) (l ++ l2)) ?_ (fun i hi => hp i (by have := g.le; omega)) ?_
  · by_cases h1 : n = 0
    · subst h1
      have e2 := List.eq_nil_of_length_eq_zero r2.1
      subst e2
      refine wp_ap_none (by omega) (Nat.le_refl _) ?_
      exact ⟨_, s, rfl, p, rfl, .refl g.fresh, by rw [List.append_nil]; exact o⟩
    · refine Sl.addN (E := EB) o.sl r2 (fun _ => rfl) h1 hsm (by omega) (g.fresh _ (Nat.le_refl _)) (Nat.le_refl _) (fun m o' sp e => ?_) fun h2 b2 e2 => ?_
      · obtain ⟨hl, ⟨h5, _⟩ | ⟨m', q', f, h5, h6, hg, hff⟩⟩ := o
        · rw [h5] at e; cases e
        · obtain ⟨m2, h7⟩ := hcl (by rw [e]; simp)
          rw [h5] at e h7
          cases e; cases h7
          exact ⟨_, _, _, _, hg, rfl⟩
      · refine ⟨_, s + 1, rfl, _, rfl, ⟨by omega, fun i hi => e2 i (by omega), fun i hi => by rw [e2 i (by omega)]; exact g.fresh i (by omega)⟩, ?_, .inr ⟨s, none, 2, rfl, hts, b2, .inr rfl, by omega⟩⟩
        rw [List.length_append, o.1, r2.1]
  · rintro v h' s' ts ws ⟨p', rfl, g', o'⟩ _ _
    exact hk p' h' s' ts ws (g.trans g') g' o'
end Go.Ev.R
namespace Go.Ev.R
open Go Go.RowKit
theorem OwnG.obj {α : Type} {E : Enc α} {el : TypeId} {h : T} {s : Nat} {p : Option Addr} {len : Nat} {l : List α} (o : OwnG E el h s p len l) (hp : p ≠ none) : ∃ c f, h.get (blk p) = some (.cells c el f) := by
  obtain ⟨hl, ⟨rfl, _⟩ | ⟨n, f, rfl, h1, hg, hff⟩⟩ := o
  · exact absurd rfl hp
  · exact ⟨_, _, hg⟩
/-- How all stands between two rounds. -/
structure JS (hB : T) (t l1 l2 ob b4 : Nat) (L1 L2 : Obj) (h : T) (out : List RU) (lp : Option Addr) (ln : Nat) (lt : Int) (lb : List Int) : Prop where
  o1 : h.get l1 = some L1
  o2 : h.get l2 = some L2
  po : ∃ p, h.get ob = some (.cells ⟨[.slice p out.length out.length]⟩ 22 (0, 0)) ∧ OwnG EU 27 h t p out.length out
  bs : ∀ x ∈ out, OwnB h t x.p x.n x.b
  b : h.get b4 = some (.cells ⟨[.slice lp ln ln, vi lt]⟩ 27 (0, 0))
  lb : OwnB h t lp ln lb
  low : ∀ i, i < t → i ≠ l1 → i ≠ l2 → i ≠ ob → i ≠ b4 → h.get i = hB.get i
section
variable {hB h h' : T} {t l1 l2 ob b4 s s' : Nat} {L1 L2 : Obj} {out : List RU} {lp : Option Addr} {ln : Nat} {lt : Int} {lb : List Int}
theorem JS.grow (J : JS hB t l1 l2 ob b4 L1 L2 h out lp ln lt lb) (hf : ∀ n, s ≤ n → h.get n = none) (hts : t ≤ s) (c : From s h h' s') : JS hB t l1 l2 ob b4 L1 L2 h' out lp ln lt lb := by
  obtain ⟨p, h1, h2⟩ := J.po
  exact ⟨c.box J.o1 (lt_of_some hf ⟨_, J.o1⟩), c.box J.o2 (lt_of_some hf ⟨_, J.o2⟩), ⟨p, c.box h1 (lt_of_some hf ⟨_, h1⟩), h2.from hf c⟩, fun x hx => (J.bs x hx).from hf c, c.box J.b (lt_of_some hf ⟨_, J.b⟩), J.lb.from hf c, fun i hi a1 a2 a3 a4 => (c.keep i (by omega)).trans (J.low i hi a1 a2 a3 a4)⟩
/-- Another state of the second loop. -/
theorem JS.loop2 (J : JS hB t l1 l2 ob b4 L1 L2 h out lp ln lt lb) {L3 : Obj} (h12 : l1 ≠ l2) (hq : ∃ q, L2 = .loop q) (b : h'.get l2 = some L3) (e : ∀ i, i ≠ l2 → h'.get i = h.get i) : JS hB t l1 l2 ob b4 L1 L3 h' out lp ln lt lb := by
  obtain ⟨p, h1, h2⟩ := J.po
  obtain ⟨q, rfl⟩ := hq
  have o2 := J.o2
  exact ⟨(e _ h12).trans J.o1, b, ⟨p, (e _ fun he => by rw [he, o2] at h1; cases h1).trans h1, OwnG.keepL o2 e h2⟩, fun x hx => (J.bs x hx).but fun hp => e _ ((J.bs x hx).apart o2 (fun c f hh => by cases hh) hp), (e _ fun he => by have := J.b; rw [he, o2] at this; cases this).trans J.b, J.lb.but fun hp => e _ (J.lb.apart o2 (fun c f hh => by cases hh) hp), fun i hi a1 a2 a3 a4 => (e i a2).trans (J.low i hi a1 a2 a3 a4)⟩
/-- What is last, put anew. -/
theorem JS.last (J : JS hB t l1 l2 ob b4 L1 L2 h out lp ln lt lb) {lp' : Option Addr} {ln' : Nat} {lt' : Int} {lb' : List Int} (hb4 : b4 < t) (hq1 : ∃ q, L1 = .loop q) (hq2 : ∃ q, L2 = .loop q) (b : h'.get b4 = some (.cells ⟨[.slice lp' ln' ln', vi lt']⟩ 27 (0, 0))) (e : ∀ i, i ≠ b4 → h'.get i = h.get i) (ol : OwnB h' t lp' ln' lb') : JS hB t l1 l2 ob b4 L1 L2 h' out lp' ln' lt' lb' := by
  obtain ⟨p, h1, h2⟩ := J.po
  obtain ⟨q1, rfl⟩ := hq1
  obtain ⟨q2, rfl⟩ := hq2
  have jb := J.b
  have hp' : ∀ {q : Option Addr}, (t ≤ blk q) → blk q ≠ b4 := fun h => by omega
  refine ⟨(e _ fun he => by have := J.o1; rw [he, jb] at this; cases this).trans J.o1, (e _ fun he => by have := J.o2; rw [he, jb] at this; cases this).trans J.o2, ⟨p, (e _ fun he => by rw [he, jb] at h1; cases h1).trans h1, h2.but fun hp => e _ (hp' ?_)⟩, fun x hx => (J.bs x hx).but fun hp => e _ (hp' ?_), b, ol, fun i hi a1 a2 a3 a4 => (e i a4).trans (J.low i hi a1 a2 a3 a4)⟩
  · obtain ⟨hl, ⟨h5, _⟩ | ⟨n, f, h5, h6, hg, hff⟩⟩ := h2
    · exact absurd h5 hp
    · rw [h5]; exact h6
  · obtain ⟨hl, ⟨h5, _⟩ | ⟨n, q, f, h5, h6, hg, hff⟩⟩ := J.bs x hx
    · exact absurd h5 hp
    · rw [h5]; exact h6
end
section
variable {N d : Nat}
/-- What is last grows. -/
theorem y144t {h0 h : T} {s0 s t l2 b4 bx fn df : Nat} {tm : Array Value} {pa : Array Tmp} {asg bo : Code} {pw : Nat → Prop} {Z : Value → T → Prop} {K : KV} (g : From s0 h0 h s) (hp : ∀ n, s0 ≤ n → pw n) (hl2 : h.get l2 = some (bsyL fn tm pa asg bo df)) (hl0 : s0 ≤ l2) (hl2t : l2 < t) (ht : s0 ≤ t) (hts : t ≤ s) (hb40 : s0 ≤ b4) (hb4t : b4 < t) (hbxt : t ≤ bx) (hbxs : bx < s)
    {lp : Option Addr} {ln : Nat} {lt : Int} {lb : List Int} (hb : h.get b4 = some (.cells ⟨[.slice lp ln ln, vi lt]⟩ 27 (0, 0))) (ol : OwnB h t lp ln lb) {x : RU} (hbx : h.get bx = some (.cells ⟨ruv x⟩ 27 (0, 0))) (rx : Row EB h x.p x.n x.b) (hsm : ln + x.n ≤ 1000000) (hlt : 0 ≤ lt ∧ lt ≤ 1000000000000) (hxt : 0 ≤ x.t ∧ x.t ≤ 1000000000000)
    (hk : ∀ lp' h' s', From s0 h0 h' s' → s ≤ s' → h'.get l2 = some (rdyL fn tm pa asg bo df) → h'.get b4 = some (.cells ⟨[.slice lp' (ln + x.n) (ln + x.n), vi (lt + x.t)]⟩ 27 (0, 0)) → OwnB h' t lp' (ln + x.n) (lb ++ x.b) → (∀ i, i < s → i ≠ l2 → i ≠ b4 → h'.get i = h.get i) → (K (.bool true) s').wp pw Z h') :
    (Y144_2 N (D N (d + 1)) K (ptr b4) (ptr bx) l2 s).wp pw Z h := by
  have n42 : b4 ≠ l2 := fun e => by rw [e, hl2] at hb; cases hb
  have hbx' := hbx
  simp only [ruv] at hbx
  unfold Y144_2
  try simp (disch := first | assumption | omega | (simp only [Int.ofNat_eq_natCast, neg_one]; done) | (simp only [Int.ofNat_eq_natCast, neg_one]; omega)) only [tysW, wB, mB, Nat.reduceAdd, Nat.reduceMul, List.length_cons, List.length_nil, ldB hb, clB hb, ldBL hb, clBL hb]
  refine PureS.goL g hp (s145o (d := d) g.fresh ol) fun v h1 s1 ts1 ws1 g1 c1 hv hw1 ht1 => ?_
  obtain ⟨rfl, rfl, p1, rfl, o1, cl1⟩ := hv
  try simp (disch := first | assumption | omega | (simp only [Int.ofNat_eq_natCast, neg_one]; done) | (simp only [Int.ofNat_eq_natCast, neg_one]; omega)) only [tysW, wB, mB, Nat.reduceAdd, Nat.reduceMul, List.length_cons, List.length_nil, ldB hbx, clB hbx, ldBL hbx, clBL hbx]
  refine apB g1 hp ht hts o1 cl1 rx hsm fun p2 h2 s2 ts2 ws2 g2 c2 o2 => ?_
  have l2' := c2.le
  unfold Y144_1
  have hb2 := c2.box hb (by omega)
  have hbx2 := c2.box hbx (by omega)
  have hl22 := c2.box hl2 (by omega)
  try simp (disch := first | assumption | omega | (simp only [Int.ofNat_eq_natCast, neg_one]; done) | (simp only [Int.ofNat_eq_natCast, neg_one]; omega)) only [tysW, wB, mB, Nat.reduceAdd, Nat.reduceMul, List.length_cons, List.length_nil]
  refine wp_putL g2 hp hb2 hb40 (by simp) rfl fun h3 g3 b3 e3 => ?_
  simp only [overL] at b3
  have hbx3 := (e3 bx (by omega)).trans hbx2
  have o3 : OwnB h3 t p2 (ln + x.n) (lb ++ x.b) := o2.but fun hp => e3 _ (by have := (o2.lt g2.fresh hp).1; omega)
  rw [wp_guard, if_pos (by repeat' (first | exact dynOk_nil _ _ | refine dyn_skip' ?_ | refine dyn_cons ?_ ?_ | exact allF_nil _ _ | refine allF_cons ?_ ?_ | exact disj_below hw1 (by omega) | exact disjA hw1 (by omega) | exact disjB hw1 (by omega) | exact disjC hw1 (by assumption) | exact disjD (fun m hm => by have := hw1 m hm; omega) | exact disjN _ | exact disj1 (by omega) | exact disj2 (by omega) | exact disj3 (by assumption)))]
  try simp (disch := first | assumption | omega | (simp only [Int.ofNat_eq_natCast, neg_one]; done) | (simp only [Int.ofNat_eq_natCast, neg_one]; omega)) only [tysW, wB, mB, Nat.reduceAdd, Nat.reduceMul, List.length_cons, List.length_nil, ldB b3, clB b3, ldBL b3, clBL b3, ldB hbx3, clB hbx3, ldBL hbx3, clBL hbx3]
  refine wp_putF g3 hp b3 hb40 (by simp) rfl fun h4 g4 b4' e4 => ?_
  simp only [overL] at b4'
  have hl24 := (e4 l2 (Ne.symm n42)).trans ((e3 l2 (Ne.symm n42)).trans hl22)
  unfold yleave
  rw [wp_get, hl24]
  dsimp only
  refine wp_putO g4 hp hl24 hl0 fun h5 g5 b5 e5 => ?_
  refine hk p2 h5 s2 g5 l2' b5 ((e5 b4 n42).trans b4') ?_ fun i hi a1 a2 => ?_
  · refine (o3.but fun hp => e4 _ (by have := (o3.lt g3.fresh hp).1; omega)).but fun hp => e5 _ ?_
    have := (o3.lt g3.fresh hp).1; omega
  · rw [e5 i a1, e4 i a2, e3 i a2, c2.keep i hi]
/-- A round. -/
theorem y144 {hB h0 h : T} {a0 s0 s t l1 l2 ob b4 bf fn1 df1 fn2 df2 : Nat} {tm1 tm2 : Array Value} {pa1 pa2 : Array Tmp} {as1 bo1 as2 bo2 : Code} {pw : Nat → Prop} {Z : Value → T → Prop} {K : KV} (g : From s0 h0 h s) (hp : ∀ n, s0 ≤ n → pw n) {out : List RU} {lp : Option Addr} {ln : Nat} {lt : Int} {lb : List Int}
    (J : JS hB t l1 l2 ob b4 (rdyL fn1 tm1 pa1 as1 bo1 df1) (rdyL fn2 tm2 pa2 as2 bo2 df2) h out lp ln lt lb) (h12 : l1 ≠ l2) (z1 : s0 ≤ l1 ∧ l1 < t) (z2 : s0 ≤ l2 ∧ l2 < t) (zo : s0 ≤ ob ∧ ob < t) (z4 : s0 ≤ b4 ∧ b4 < t) (ht : s0 ≤ t) (hts : t ≤ s)
    (hbf : hB.get bf = some (.cells ⟨[.func (.yield l1) ⟨[]⟩ ⟨[]⟩]⟩ 154 (0, 0))) (zf : bf < t ∧ bf ≠ l1 ∧ bf ≠ l2 ∧ bf ≠ ob ∧ bf ≠ b4)
    (hrd : ∀ (C : CallT) (h : T) (x0 : Value) (K : KV) (s : Nat), h.get l1 = some (rdyL fn1 tm1 pa1 as1 bo1 df1) → (yY P N C [.int .i64 (.ofNat l1), x0] K s).wp pw Z h = (Y143 N C l1 x0 (ptr ob) K s).wp pw Z h)
    {x : RU} (rx : ∀ h', (∀ i, i < a0 → h'.get i = hB.get i) → Row EB h' x.p x.n x.b) (za : a0 ≤ l1 ∧ a0 ≤ l2 ∧ a0 ≤ ob ∧ a0 ≤ b4 ∧ a0 ≤ t) (hol : out.length ≤ 1000) (hsm : ln + x.n ≤ 1000000) (hlt : 0 ≤ lt ∧ lt ≤ 1000000000000) (hxt : 0 ≤ x.t ∧ x.t ≤ 1000000000000)
    (hk : ∀ h' s' out' lp' ln' lt' lb', From s0 h0 h' s' → s ≤ s' → JS hB t l1 l2 ob b4 (rdyL fn1 tm1 pa1 as1 bo1 df1) (rdyL fn2 tm2 pa2 as2 bo2 df2) h' out' lp' ln' lt' lb' → (out'.map ruC, ((lb', lt') : Run)) = stepJ (out.map ruC, (lb, lt)) (x.b, x.t) → out'.length ≤ out.length + 1 → ln' ≤ ln + x.n → 0 ≤ lt' → lt' ≤ lt + x.t → (K (.bool true) s').wp pw Z h') :
    (Y144 N (D N (d + 2)) l2 (.agg ⟨ruv x⟩) (ptr b4) (ptr bf) K s).wp pw Z h := by
  have ls2 := lt_of_some g.fresh ⟨_, J.o2⟩
  have lsb := lt_of_some g.fresh ⟨_, J.b⟩
  have g0 := g.le
  have hxl := (rx hB fun _ _ => rfl).1
  have rxJ : ∀ {hh : T} {L3 : Obj} {out2 : List RU} {lp2 : Option Addr} {ln2 : Nat} {lt2 : Int} {lb2 : List Int}, JS hB t l1 l2 ob b4 (rdyL fn1 tm1 pa1 as1 bo1 df1) L3 hh out2 lp2 ln2 lt2 lb2 → Row EB hh x.p x.n x.b := fun JJ => rx _ fun i hi => JJ.low i (by omega) (by omega) (by omega) (by omega) (by omega)
  obtain ⟨p, k1, k2⟩ := J.po
  have hpt : p ≠ none → t ≤ blk p ∧ blk p < s := fun hp => k2.lt g.fresh hp
  unfold Y144 Y144_3
  have ruv' : ruv x = [.slice x.p x.n x.c, vi x.t] := rfl
  rw [ruv']
  try simp (disch := first | assumption | omega | (simp only [Int.ofNat_eq_natCast, neg_one]; done) | (simp only [Int.ofNat_eq_natCast, neg_one]; omega)) only [tysW, wB, mB, Nat.reduceAdd, Nat.reduceMul, List.length_cons, List.length_nil]
  refine wp_boxA g hp fun h1 g1 c1 b1 => ?_
  try simp (disch := first | assumption | omega | (simp only [Int.ofNat_eq_natCast, neg_one]; done) | (simp only [Int.ofNat_eq_natCast, neg_one]; omega)) only [tysW, wB, mB, Nat.reduceAdd, Nat.reduceMul, List.length_cons, List.length_nil]
  refine wp_putF g1 hp b1 (by omega) (by simp) rfl fun h2 g2 b2 e2 => ?_
  simp only [overL] at b2
  have c2 : From s h h2 (s + 1) := ⟨by omega, fun n hn => by rw [e2 n (by omega), c1.keep n hn], g2.fresh⟩
  have J2 := J.grow g.fresh hts c2
  have k12 := c2.box k1 (by omega)
  have k22 := k2.from g.fresh c2
  unfold yready
  rw [wp_get, J2.o2]
  dsimp only
  refine wp_putO g2 hp J2.o2 z2.1 fun h3 g3 b3 e3 => ?_
  have J3 := J2.loop2 h12 ⟨_, rfl⟩ b3 e3
  have b23 := (e3 s (by omega)).trans b2
  have jo2 := J2.o2
  have k13 := (e3 ob fun he => by rw [he, jo2] at k12; cases k12).trans k12
  have k23 := OwnG.keepL jo2 e3 k22
  have b43 := J3.b
  have fin : ∀ {hh : T} {out2 : List RU} {lp2 : Option Addr} {ln2 : Nat} {lt2 : Int} {lb2 : List Int} {s2 : Nat}, From s0 h0 hh s2 → s + 1 ≤ s2 → JS hB t l1 l2 ob b4 (rdyL fn1 tm1 pa1 as1 bo1 df1) (bsyL fn2 tm2 pa2 as2 bo2 df2) hh out2 lp2 ln2 lt2 lb2 → hh.get s = some (.cells ⟨ruv x⟩ 27 (0, 0)) → ln2 ≤ ln → 0 ≤ lt2 → lt2 ≤ lt → out2.length ≤ out.length + 1 → (out2.map ruC, ((lb2 ++ x.b, lt2 + x.t) : Run)) = stepJ (out.map ruC, (lb, lt)) (x.b, x.t) → (Y144_2 N (D N (d + 2)) K (ptr b4) (ptr s) l2 s2).wp pw Z hh := by
    intro hh out2 lp2 ln2 lt2 lb2 s2 gg hs2 JJ bb q1 q2 q3 q4 q5
    refine y144t (d := d + 1) (bx := s) gg hp JJ.o2 z2.1 z2.2 ht (by omega) z4.1 z4.2 hts (by omega) JJ.b JJ.lb bb (rxJ JJ) (by omega) ⟨q2, by omega⟩ hxt fun lp' h' s' g' ls' hl' hb' ol' e' => ?_
    have JG : JS hB t l1 l2 ob b4 (rdyL fn1 tm1 pa1 as1 bo1 df1) (rdyL fn2 tm2 pa2 as2 bo2 df2) h' out2 lp' (ln2 + x.n) (lt2 + x.t) (lb2 ++ x.b) := by
      obtain ⟨p, k1, k2⟩ := JJ.po
      have jo := JJ.o2
      have jb := JJ.b
      refine ⟨(e' l1 (by omega) h12 fun e => by have := JJ.o1; rw [e, jb] at this; cases this).trans JJ.o1, hl', ⟨p, (e' ob (by omega) (fun e => by rw [e, jo] at k1; cases k1) fun e => by rw [e, jb] at k1; cases k1).trans k1, k2.but fun hp => e' _ (k2.lt gg.fresh hp).2 ?_ ?_⟩, fun y hy => (JJ.bs y hy).but fun hp => e' _ ((JJ.bs y hy).lt gg.fresh hp).2 ?_ ?_, hb', ol', fun i hi a1 a2 a3 a4 => (e' i (by omega) a2 a4).trans (JJ.low i hi a1 a2 a3 a4)⟩
      · have := (k2.lt gg.fresh hp).1; omega
      · have := (k2.lt gg.fresh hp).1; omega
      · have := ((JJ.bs y hy).lt gg.fresh hp).1; omega
      · have := ((JJ.bs y hy).lt gg.fresh hp).1; omega
    exact hk h' s' out2 lp' _ _ _ g' (by omega) JG q5 q4 (by omega) (by omega) (by omega)
  by_cases hx0 : 0 < x.n
  · have hxb : x.b ≠ [] := fun e => by rw [e] at hxl; simp at hxl; omega
    by_cases hl0 : 0 < lt
    · have hbf3 := (J3.low bf zf.1 zf.2.1 zf.2.2.1 zf.2.2.2.1 zf.2.2.2.2).trans hbf
      try simp (disch := first | assumption | omega | (simp only [Int.ofNat_eq_natCast, neg_one]; done) | (simp only [Int.ofNat_eq_natCast, neg_one]; omega)) only [tysW, wB, mB, Nat.reduceAdd, Nat.reduceMul, List.length_cons, List.length_nil, ldB b23, clB b23, ldBL b23, clBL b23, ldB b43, clB b43, ldBL b43, clBL b43, ldB hbf3, clB hbf3, ldBL hbf3, clBL hbf3]
      rw [iy, D_Y, hrd _ _ _ _ _ J3.o1]
      refine y143 (x := ⟨lp, ln, ln, lt, lb⟩) g3 hp J3.o1 z1.1 k13 zo.1 k23 ht (by omega) zo.2 z1.2 (by omega) fun p5 h5 s5 g5 l5 hl5 hob5 o5 e5 => ?_
      have j1 := J3.o1
      have j2 := J3.o2
      have jb := J3.b
      have lo5 : ∀ i, i < t → i ≠ l1 → i ≠ ob → h5.get i = h3.get i := fun i hi a1 a2 => e5 i (by omega) a1 a2 fun hp => by have := hpt hp; omega
      have nb1 : b4 ≠ l1 := fun e => by rw [e, j1] at jb; cases jb
      have nbo : b4 ≠ ob := fun e => by rw [e, k13] at jb; cases jb
      have n2o : l2 ≠ ob := fun e => by rw [e, k13] at j2; cases j2
      have own5 : ∀ {q : Option Addr} {n : Nat} {l : List Int}, OwnB h3 t q n l → OwnB h5 t q n l := fun ow => ow.but fun hp => e5 _ (ow.lt g3.fresh hp).2 (ow.apart j1 (fun c f hh => by cases hh) hp) (ow.apart k13 (fun c f hh => by cases hh) hp) fun hp2 => by
        obtain ⟨c, f, hc⟩ := k23.obj hp2
        exact ow.apart hc (fun c f hh => by cases hh) hp
      have J5 : JS hB t l1 l2 ob b4 (rdyL fn1 tm1 pa1 as1 bo1 df1) (bsyL fn2 tm2 pa2 as2 bo2 df2) h5 (out ++ [⟨lp, ln, ln, lt, lb⟩]) lp ln lt lb :=
        ⟨hl5, (lo5 l2 z2.2 (Ne.symm h12) n2o).trans j2, ⟨p5, by rw [List.length_append]; exact hob5, by rw [List.length_append]; exact o5⟩, fun y hy => by
          rcases List.mem_append.1 hy with hy | hy
          · exact own5 (J3.bs y hy)
          · rw [List.mem_singleton.1 hy]
            exact own5 J3.lb, (lo5 b4 z4.2 nb1 nbo).trans jb, own5 J3.lb, fun i hi a1 a2 a3 a4 => (lo5 i hi a1 a3).trans (J3.low i hi a1 a2 a3 a4)⟩
      try simp (disch := first | assumption | omega | (simp only [Int.ofNat_eq_natCast, neg_one]; done) | (simp only [Int.ofNat_eq_natCast, neg_one]; omega)) only [tysW, wB, mB, Nat.reduceAdd, Nat.reduceMul, List.length_cons, List.length_nil, bd_27y]
      refine wp_putF g5 hp J5.b z4.1 (by simp) rfl fun h6 g6 b6 e6 => ?_
      simp only [overL] at b6
      have J6 := J5.last z4.2 ⟨_, rfl⟩ ⟨_, rfl⟩ b6 e6 (OwnB.nil (h := h6) (s := t))
      have bs6 : h6.get s = some (.cells ⟨ruv x⟩ 27 (0, 0)) := (e6 s (by omega)).trans ((e5 s (by omega) (by omega) (by omega) fun hp => by have := hpt hp; omega).trans b23)
      refine fin g6 (by omega) J6 bs6 (Nat.zero_le _) (Int.le_refl _) hlt.1 (by rw [List.length_append]; exact Nat.le_refl _) ?_
      unfold stepJ
      rw [if_pos ⟨hxb, hl0⟩, List.map_append]
      simp [ruC]
    · try simp (disch := first | assumption | omega | (simp only [Int.ofNat_eq_natCast, neg_one]; done) | (simp only [Int.ofNat_eq_natCast, neg_one]; omega)) only [tysW, wB, mB, Nat.reduceAdd, Nat.reduceMul, List.length_cons, List.length_nil, ldB b23, clB b23, ldBL b23, clBL b23, ldB b43, clB b43, ldBL b43, clBL b43]
      exact fin g3 (by omega) J3 b23 (Nat.le_refl _) hlt.1 (Int.le_refl _) (by omega) (by unfold stepJ; rw [if_neg (fun e => hl0 e.2)])
  · have hxb : x.b = [] := List.eq_nil_of_length_eq_zero (by omega)
    try simp (disch := first | assumption | omega | (simp only [Int.ofNat_eq_natCast, neg_one]; done) | (simp only [Int.ofNat_eq_natCast, neg_one]; omega)) only [tysW, wB, mB, Nat.reduceAdd, Nat.reduceMul, List.length_cons, List.length_nil, ldB b23, clB b23, ldBL b23, clBL b23]
    exact fin g3 (by omega) J3 b23 (Nat.le_refl _) hlt.1 (Int.le_refl _) (by omega) (by unfold stepJ; rw [if_neg (fun e => e.1 hxb)])
end
end Go.Ev.R
namespace Go.Ev.R
open Go Go.RowKit
theorem take_snocU {α : Type} {l : List α} {i : Nat} {x : α} (hx : l[i]? = some x) : l.take (i + 1) = l.take i ++ [x] := by rw [List.take_add_one, hx]; rfl
/-- The runs that come in. -/
structure InU (h : T) (p : Option Addr) (len : Nat) (l : List RU) : Prop where
  r : Row EU h p len l
  bs : ∀ x ∈ l, Row EB h x.p x.n x.b
theorem InU.low {h h' : T} {s : Nat} {p : Option Addr} {len : Nat} {l : List RU} (x : InU h p len l) (hf : ∀ n, s ≤ n → h.get n = none) (e : ∀ i, i < s → h'.get i = h.get i) : InU h' p len l :=
  ⟨⟨x.r.1, x.r.2.of_eq fun hm => e _ ((x.r.2.below hf).resolve_left hm)⟩, fun y hy => ⟨(x.bs y hy).1, (x.bs y hy).2.of_eq fun hm => e _ (((x.bs y hy).2.below hf).resolve_left hm)⟩⟩
theorem InU.from {s0 s : Nat} {h0 h : T} {p : Option Addr} {len : Nat} {l : List RU} (x : InU h0 p len l) (hf : ∀ n, s0 ≤ n → h0.get n = none) (g : From s0 h0 h s) : InU h p len l := x.low hf fun i hi => g.keep i hi
def foldU (l : List RU) : List Run × Run := ((l.map ruC).filter isThere).foldl stepJ ([], ([], 0))
theorem foldU_snoc {l : List RU} {i : Nat} {x : RU} (hx : l[i]? = some x) : foldU (l.take (i + 1)) = if isThere (ruC x) then stepJ (foldU (l.take i)) (ruC x) else foldU (l.take i) := by
  unfold foldU
  rw [take_snocU hx, List.map_append, List.filter_append]
  by_cases h : isThere (ruC x) = true
  · rw [if_pos h, List.map_cons, List.map_nil, List.filter_cons_of_pos h, List.foldl_append]; rfl
  · rw [if_neg h, List.map_cons, List.map_nil, List.filter_cons_of_neg h, List.filter_nil, List.append_nil]
section
variable {N d : Nat}
/-- All rounds. -/
theorem s146 (hN : N = 100000) {hB h0 h : T} {a0 s0 s t l1 l2 ob b4 bf b3 fn1 df1 fn2 df2 : Nat} {tm1 tm2 : Array Value} {pa1 pa2 : Array Tmp} {as1 bo1 as2 bo2 : Code} {pw : Nat → Prop} {Z : Value → T → Prop} {K : KV} (g : From s0 h0 h s) (hp : ∀ n, s0 ≤ n → pw n)
    (J : JS hB t l1 l2 ob b4 (rdyL fn1 tm1 pa1 as1 bo1 df1) (rdyL fn2 tm2 pa2 as2 bo2 df2) h [] none 0 0 []) (h12 : l1 ≠ l2) (z1 : s0 ≤ l1 ∧ l1 < t) (z2 : s0 ≤ l2 ∧ l2 < t) (zo : s0 ≤ ob ∧ ob < t) (z4 : s0 ≤ b4 ∧ b4 < t) (ht : s0 ≤ t) (hts : t ≤ s)
    (hbf : hB.get bf = some (.cells ⟨[.func (.yield l1) ⟨[]⟩ ⟨[]⟩]⟩ 154 (0, 0))) (zf : bf < t ∧ bf ≠ l1 ∧ bf ≠ l2 ∧ bf ≠ ob ∧ bf ≠ b4)
    (hrd : ∀ (C : CallT) (h : T) (x0 : Value) (K : KV) (s : Nat), h.get l1 = some (rdyL fn1 tm1 pa1 as1 bo1 df1) → (yY P N C [.int .i64 (.ofNat l1), x0] K s).wp pw Z h = (Y143 N C l1 x0 (ptr ob) K s).wp pw Z h)
    (hrd2 : ∀ (C : CallT) (h : T) (x0 : Value) (K : KV) (s : Nat), h.get l2 = some (rdyL fn2 tm2 pa2 as2 bo2 df2) → (yY P N C [.int .i64 (.ofNat l2), x0] K s).wp pw Z h = (Y144 N C l2 x0 (ptr b4) (ptr bf) K s).wp pw Z h)
    {pi : Option Addr} {len ci : Nat} {l : List RU} (rx : ∀ h', (∀ i, i < a0 → h'.get i = hB.get i) → InU h' pi len l) (za : a0 ≤ l1 ∧ a0 ≤ l2 ∧ a0 ≤ ob ∧ a0 ≤ b4 ∧ a0 ≤ t) (hb3 : hB.get b3 = some (.cells ⟨[.slice pi len ci]⟩ 22 (0, 0))) (z3 : b3 < t ∧ b3 ≠ l1 ∧ b3 ≠ l2 ∧ b3 ≠ ob ∧ b3 ≠ b4) (hlen : len ≤ 120) (hsm : ∀ x ∈ l, x.n ≤ 6000 ∧ 0 ≤ x.t ∧ x.t ≤ 1000000)
    (hk : ∀ h' s' out' lp' ln' lt' lb', From s0 h0 h' s' → s ≤ s' → JS hB t l1 l2 ob b4 (rdyL fn1 tm1 pa1 as1 bo1 df1) (rdyL fn2 tm2 pa2 as2 bo2 df2) h' out' lp' ln' lt' lb' → (out'.map ruC, ((lb', lt') : Run)) = foldU l → out'.length ≤ 120 → 0 ≤ lt' → (K (.tuple ⟨[]⟩) s').wp pw Z h') :
    (D N (d + 4) 146 [.func (.yield l2) ⟨[]⟩ ⟨[]⟩, ptr b3] K s).wp pw Z h := by
  have g0 := g.le
  rw [D_146]; unfold F146; rw [app2_eq]
  have hb3' := (J.low b3 z3.1 z3.2.1 z3.2.2.1 z3.2.2.2.1 z3.2.2.2.2).trans hb3
  have hll := (rx hB fun _ _ => rfl).r.1
  try simp (disch := first | assumption | omega | (simp only [Int.ofNat_eq_natCast, neg_one]; done) | (simp only [Int.ofNat_eq_natCast, neg_one]; omega)) only [tysW, wB, mB, Nat.reduceAdd, Nat.reduceMul, List.length_cons, List.length_nil, ldB hb3', clB hb3', ldBL hb3', clBL hb3']
  have loop : ∀ (B : (Value → Nat → AM) → Value → Nat → AM) (hB' : ∀ H i s', B H i s' = X146_1 N (D N (d + 3)) K (vi len) (.slice pi len ci) (.func (.yield l2) ⟨[]⟩ ⟨[]⟩) H i s') (q i : Nat) (h1 : T) (s1 : Nat) (out : List RU) (lp : Option Addr) (ln : Nat) (lt : Int) (lb : List Int), len - i < q → i ≤ len → From s0 h0 h1 s1 → s ≤ s1 → JS hB t l1 l2 ob b4 (rdyL fn1 tm1 pa1 as1 bo1 df1) (rdyL fn2 tm2 pa2 as2 bo2 df2) h1 out lp ln lt lb → (out.map ruC, ((lb, lt) : Run)) = foldU (l.take i) → out.length ≤ i → ln ≤ 6000 * i → 0 ≤ lt → lt ≤ 1000000 * (i : Int) →
      (loopJ q 1 (fun _ _ => AM.fail) B (vi i) s1).wp pw Z h1 := by
    intro B hB' q
    induction q with
    | zero => intro i h1 s1 out lp ln lt lb hm; omega
    | succ q ih =>
      intro i h1 s1 out lp ln lt lb hm hi g1 hs1 J1 he ho hn ht0 ht1
      have lowJ : ∀ {hh : T} {out2 : List RU} {lp2 : Option Addr} {ln2 : Nat} {lt2 : Int} {lb2 : List Int}, JS hB t l1 l2 ob b4 (rdyL fn1 tm1 pa1 as1 bo1 df1) (rdyL fn2 tm2 pa2 as2 bo2 df2) hh out2 lp2 ln2 lt2 lb2 → InU hh pi len l := fun JJ => rx _ fun j hj => JJ.low j (by omega) (by omega) (by omega) (by omega) (by omega)
      have x1 := lowJ J1
      rw [loopJ_succ, hB']
      unfold X146_1
      by_cases hlt : i < len
      · obtain ⟨y, hy⟩ := get_some (l := l) (i := i) (by rw [x1.r.1]; omega)
        have ym := List.mem_of_getElem? hy
        obtain ⟨y1, y2, y3⟩ := hsm y ym
        have hyl := (x1.bs y ym).1
        have fs := foldU_snoc hy
        try simp (disch := first | assumption | omega | (simp only [Int.ofNat_eq_natCast, neg_one]; done) | (simp only [Int.ofNat_eq_natCast, neg_one]; omega)) only [tysW, wB, mB, Nat.reduceAdd, Nat.reduceMul, List.length_cons, List.length_nil, xaU x1.r (j := (i : Int)) (by omega) (by omega), ruA x1.r hy]
        simp only [ruv]
        try simp (disch := first | assumption | omega | (simp only [Int.ofNat_eq_natCast, neg_one]; done) | (simp only [Int.ofNat_eq_natCast, neg_one]; omega)) only [tysW, wB, mB, Nat.reduceAdd, Nat.reduceMul, List.length_cons, List.length_nil]
        refine wp_boxA g1 hp fun h2 g2 c2 b2 => ?_
        try simp (disch := first | assumption | omega | (simp only [Int.ofNat_eq_natCast, neg_one]; done) | (simp only [Int.ofNat_eq_natCast, neg_one]; omega)) only [tysW, wB, mB, Nat.reduceAdd, Nat.reduceMul, List.length_cons, List.length_nil]
        refine wp_putF g2 hp b2 (by omega) (by simp) rfl fun h3 g3 b3 e3 => ?_
        simp only [overL] at b3
        have c3 : From s1 h1 h3 (s1 + 1) := ⟨by omega, fun n hn => by rw [e3 n (by omega), c2.keep n hn], g3.fresh⟩
        try simp (disch := first | assumption | omega | (simp only [Int.ofNat_eq_natCast, neg_one]; done) | (simp only [Int.ofNat_eq_natCast, neg_one]; omega)) only [tysW, wB, mB, Nat.reduceAdd, Nat.reduceMul, List.length_cons, List.length_nil, ldB b3, clB b3, ldBL b3, clBL b3, blt_max]
        rw [show max y.t (Int.ofNat 0) = y.t by simp only [Int.ofNat_eq_natCast]; omega]
        try simp (disch := first | assumption | omega | (simp only [Int.ofNat_eq_natCast, neg_one]; done) | (simp only [Int.ofNat_eq_natCast, neg_one]; omega)) only [tysW, wB, mB, Nat.reduceAdd, Nat.reduceMul, List.length_cons, List.length_nil]
        refine wp_putF g3 hp b3 (by omega) (by simp) rfl fun h4 g4 b4' e4 => ?_
        simp only [overL] at b4'
        have c4 : From s1 h1 h4 (s1 + 1) := ⟨by omega, fun n hn => by rw [e4 n (by omega), c3.keep n hn], g4.fresh⟩
        have J4 := J1.grow g1.fresh (by omega) c4
        have step : isThere (ruC y) = true → ∀ (k : KV), (∀ h5 s5, (loopJ q 1 (fun _ _ => AM.fail) B (vi ((i + 1 : Nat) : Int)) s5).wp pw Z h5 → (k (.bool true) s5).wp pw Z h5) → (D N (d + 3) 1000000 [.int .i64 (.ofNat l2), .agg ⟨ruv y⟩] k (s1 + 1)).wp pw Z h4 := by
          intro hth k hkk
          rw [D_Y, hrd2 _ _ _ _ _ J4.o2]
          refine y144 (d := d) g4 hp J4 h12 z1 z2 zo z4 ht (by omega) hbf zf hrd (x := y) (fun h' e' => (rx h' e').bs y ym) za (by omega) (by omega) ⟨ht0, by omega⟩ ⟨y2, by omega⟩ fun h5 s5 out5 lp5 ln5 lt5 lb5 g5 l5 J5 he5 ho5 hn5 ht5 ht6 => ?_
          refine hkk h5 s5 (ih (i + 1) h5 s5 out5 lp5 ln5 lt5 lb5 (by omega) (by omega) g5 (by omega) J5 ?_ (by omega) (by omega) ht5 (by omega))
          rw [he5, fs, if_pos hth, he]; rfl
        by_cases hy0 : 0 < y.n
        · have hth : isThere (ruC y) = true := by unfold isThere ruC; rw [decide_eq_true]; exact .inl fun e => by simp only at e; rw [e] at hyl; simp at hyl; omega
          try simp (disch := first | assumption | omega | (simp only [Int.ofNat_eq_natCast, neg_one]; done) | (simp only [Int.ofNat_eq_natCast, neg_one]; omega)) only [tysW, wB, mB, Nat.reduceAdd, Nat.reduceMul, List.length_cons, List.length_nil, ldB b4', clB b4', ldBL b4', clBL b4']
          rw [iy]
          exact step hth _ fun h5 s5 hh => by try simp (disch := first | assumption | omega | (simp only [Int.ofNat_eq_natCast, neg_one]; done) | (simp only [Int.ofNat_eq_natCast, neg_one]; omega)) only [tysW, wB, mB, Nat.reduceAdd, Nat.reduceMul, List.length_cons, List.length_nil]; exact hh
        · have hyb : y.b = [] := List.eq_nil_of_length_eq_zero (by omega)
          by_cases hyt : 0 < y.t
          · have hth : isThere (ruC y) = true := by unfold isThere ruC; rw [decide_eq_true]; exact .inr hyt
            try simp (disch := first | assumption | omega | (simp only [Int.ofNat_eq_natCast, neg_one]; done) | (simp only [Int.ofNat_eq_natCast, neg_one]; omega)) only [tysW, wB, mB, Nat.reduceAdd, Nat.reduceMul, List.length_cons, List.length_nil, ldB b4', clB b4', ldBL b4', clBL b4']
            rw [iy]
            exact step hth _ fun h5 s5 hh => by try simp (disch := first | assumption | omega | (simp only [Int.ofNat_eq_natCast, neg_one]; done) | (simp only [Int.ofNat_eq_natCast, neg_one]; omega)) only [tysW, wB, mB, Nat.reduceAdd, Nat.reduceMul, List.length_cons, List.length_nil]; exact hh
          · have hth : ¬ isThere (ruC y) = true := by unfold isThere ruC; simp only [decide_eq_true_eq]; rintro (h | h); exact h hyb; exact hyt h
            try simp (disch := first | assumption | omega | (simp only [Int.ofNat_eq_natCast, neg_one]; done) | (simp only [Int.ofNat_eq_natCast, neg_one]; omega)) only [tysW, wB, mB, Nat.reduceAdd, Nat.reduceMul, List.length_cons, List.length_nil, ldB b4', clB b4', ldBL b4', clBL b4']
            refine ih (i + 1) h4 (s1 + 1) out lp ln lt lb (by omega) (by omega) g4 (by omega) J4 ?_ (by omega) (by omega) ht0 (by omega)
            rw [fs, if_neg hth, he]
      · obtain rfl : i = len := by omega
        try simp (disch := first | assumption | omega | (simp only [Int.ofNat_eq_natCast, neg_one]; done) | (simp only [Int.ofNat_eq_natCast, neg_one]; omega)) only [tysW, wB, mB, Nat.reduceAdd, Nat.reduceMul, List.length_cons, List.length_nil]
        rw [List.take_of_length_le (by rw [hll]; exact Nat.le_refl _)] at he
        exact hk h1 s1 out lp ln lt lb g1 hs1 J1 he (by omega) ht0
  exact loop _ (fun _ _ _ => rfl) N 0 h s [] none 0 0 [] (by omega) (by omega) g (Nat.le_refl _) J rfl (by simp) (by omega) (Int.le_refl _) (by omega)
/-- Runs that were made. -/
structure OutU (h : T) (s : Nat) (p : Option Addr) (len : Nat) (l : List RU) : Prop where
  own : OwnG EU 27 h s p len l
  bs : ∀ x ∈ l, OwnB h s x.p x.n x.b
theorem OutU.but {h h' : T} {s : Nat} {p : Option Addr} {len : Nat} {l : List RU} (o : OutU h s p len l) (e : ∀ i, s ≤ i → h'.get i = h.get i) : OutU h' s p len l :=
  ⟨o.own.but fun hp => e _ (by
    obtain ⟨hl, ⟨h5, _⟩ | ⟨n, f, h5, h6, hg, hff⟩⟩ := o.own
    · exact absurd h5 hp
    · rw [h5]; exact h6), fun x hx => (o.bs x hx).but fun hp => e _ (by
    obtain ⟨hl, ⟨h5, _⟩ | ⟨n, q, f, h5, h6, hg, hff⟩⟩ := o.bs x hx
    · exact absurd h5 hp
    · rw [h5]; exact h6)⟩
theorem OutU.less {h : T} {s s' : Nat} {p : Option Addr} {len : Nat} {l : List RU} (o : OutU h s p len l) (hs : s' ≤ s) : OutU h s' p len l := ⟨o.own.less hs, fun x hx => (o.bs x hx).less hs⟩
theorem OutU.from {h h' : T} {s s0 s' : Nat} {p : Option Addr} {len : Nat} {l : List RU} (o : OutU h s p len l) (hf : ∀ n, s0 ≤ n → h.get n = none) (g : From s0 h h' s') : OutU h' s p len l := ⟨o.own.from hf g, fun x hx => (o.bs x hx).from hf g⟩
theorem OutU.inU {h : T} {s : Nat} {p : Option Addr} {len : Nat} {l : List RU} (o : OutU h s p len l) : InU h p len l := ⟨o.own.sl.row, fun x hx => (o.bs x hx).sl.row⟩
/-- What is joined, handed on. -/
theorem s144 (hN : N = 100000) {h0 h : T} {a0 s0 s l1 ob b2 b3 fn1 df1 : Nat} {tm1 : Array Value} {pa1 : Array Tmp} {as1 bo1 : Code} {pw : Nat → Prop} {Z : Value → T → Prop} {K : KV} (g : From s0 h0 h s) (hp : ∀ n, s0 ≤ n → pw n)
    (hl1 : h.get l1 = some (rdyL fn1 tm1 pa1 as1 bo1 df1)) (hob : h.get ob = some (.cells ⟨[.slice none 0 0]⟩ 22 (0, 0))) (z1 : s0 ≤ l1) (zo : s0 ≤ ob)
    (hrd : ∀ (C : CallT) (h : T) (x0 : Value) (K : KV) (s : Nat), h.get l1 = some (rdyL fn1 tm1 pa1 as1 bo1 df1) → (yY P N C [.int .i64 (.ofNat l1), x0] K s).wp pw Z h = (Y143 N C l1 x0 (ptr ob) K s).wp pw Z h)
    (hb2 : h.get b2 = some (.cells ⟨[.func (.func 146) ⟨[]⟩ ⟨[ptr b3]⟩]⟩ 103 (0, 0)))
    {pi : Option Addr} {len ci : Nat} {l : List RU} (rx : ∀ h', (∀ i, i < a0 → h'.get i = h.get i) → InU h' pi len l) (za : a0 ≤ l1 ∧ a0 ≤ ob ∧ a0 ≤ s) (hb3 : h.get b3 = some (.cells ⟨[.slice pi len ci]⟩ 22 (0, 0))) (z3 : b3 ≠ ob) (hlen : len ≤ 120) (hsm : ∀ x ∈ l, x.n ≤ 6000 ∧ 0 ≤ x.t ∧ x.t ≤ 1000000)
    (hk : ∀ h' s' p' out', From s0 h0 h' s' → s ≤ s' → h'.get l1 = some (rdyL fn1 tm1 pa1 as1 bo1 df1) → h'.get ob = some (.cells ⟨[.slice p' out'.length out'.length]⟩ 22 (0, 0)) → OutU h' s p' out'.length out' → out'.map ruC = endJ (foldU l) → out'.length ≤ 121 → (∀ i, i < s → i ≠ l1 → i ≠ ob → h'.get i = h.get i) → (K (.tuple ⟨[]⟩) s').wp pw Z h') :
    (D N (d + 5) 144 [.func (.yield l1) ⟨[]⟩ ⟨[]⟩, ptr b2] K s).wp pw Z h := by
  have g0 := g.le
  have ls1 := lt_of_some g.fresh ⟨_, hl1⟩
  have lso := lt_of_some g.fresh ⟨_, hob⟩
  have ls2 := lt_of_some g.fresh ⟨_, hb2⟩
  have ls3 := lt_of_some g.fresh ⟨_, hb3⟩
  have z31 : b3 ≠ l1 := fun e => by rw [e, hl1] at hb3; cases hb3
  rw [D_144]; unfold F144; rw [app2_eq]
  unfold X144_2
  refine wp_box1 rfl g hp fun h1 g1 c1 b1 => ?_
  try simp (disch := first | assumption | omega | (simp only [Int.ofNat_eq_natCast, neg_one]; done) | (simp only [Int.ofNat_eq_natCast, neg_one]; omega)) only [tysW, wB, mB, Nat.reduceAdd, Nat.reduceMul, List.length_cons, List.length_nil]
  refine wp_boxA g1 hp fun h2 g2 c2 b2' => ?_
  have c02 := c1.trans c2
  have hb22 := c02.box hb2 ls2
  replace b1 := c2.box b1 (by omega)
  try simp (disch := first | assumption | omega | (simp only [Int.ofNat_eq_natCast, neg_one]; done) | (simp only [Int.ofNat_eq_natCast, neg_one]; omega)) only [tysW, wB, mB, Nat.reduceAdd, Nat.reduceMul, List.length_cons, List.length_nil, ldB hb22, clB hb22, ldBL hb22, clBL hb22]
  unfold yloopN
  refine wp_newO g2 hp fun h3 g3 c3 b3' => ?_
  refine wp_newO g3 hp fun h4 g4 c4 b4' => ?_
  replace b3' := c4.box b3' (by omega)
  replace b1 := (c3.trans c4).box b1 (by omega)
  replace b2' := (c3.trans c4).box b2' (by omega)
  have c04 := c02.trans (c3.trans c4)
  rw [yit146]
  have JJ : JS h4 (s + 1 + 1 + 1 + 1) l1 (s + 1 + 1 + 1) ob (s + 1) (rdyL fn1 tm1 pa1 as1 bo1 df1) _ h4 [] none 0 0 [] := ⟨c04.box hl1 ls1, b4', ⟨none, c04.box hob lso, OwnG.nil⟩, (fun x hx => by cases hx), b2', OwnB.nil, fun _ _ _ _ _ _ => rfl⟩
  refine s146 (d := d) (hB := h4) (a0 := a0) (bf := s) hN g4 hp JJ (by omega) ⟨z1, by omega⟩ ⟨by omega, by omega⟩ ⟨zo, by omega⟩ ⟨by omega, by omega⟩ (by omega) (Nat.le_refl _) b1 ⟨by omega, by omega, by omega, by omega, by omega⟩ hrd (fun C h x0 K s hb => wp_rnd144 hN hb) (pi := pi) (ci := ci) (l := l) (fun h' e' => rx h' fun i hi => (e' i hi).trans (c04.keep i (by omega))) ⟨by omega, by omega, by omega, by omega, by omega⟩ (c04.box hb3 ls3) ⟨by omega, z31, by omega, z3, by omega⟩ hlen hsm fun h5 s5 out5 lp5 ln5 lt5 lb5 g5 l5 J5 he5 ho5 ht5 => ?_
  unfold yend
  rw [wp_get, J5.o2]
  dsimp only
  refine wp_putO g5 hp J5.o2 (by omega) fun h6 g6 b6 e6 => ?_
  have J6 := J5.loop2 (by omega) ⟨_, rfl⟩ b6 e6
  have hlb := J6.lb.1
  have hbf6 := (J6.low s (by omega) (by omega) (by omega) (by omega) (by omega)).trans b1
  have hdq6 := (J6.low (s + 1 + 1) (by omega) (by omega) (by omega) (by omega) (by omega)).trans b3'
  have hb46 := J6.b
  obtain ⟨p6, k1, k2⟩ := J6.po
  have fin : ∀ {h7 : T} {s7 : Nat} {p7 : Option Addr} {out7 : List RU}, From s0 h0 h7 s7 → s5 ≤ s7 → h7.get l1 = some (rdyL fn1 tm1 pa1 as1 bo1 df1) → h7.get ob = some (.cells ⟨[.slice p7 out7.length out7.length]⟩ 22 (0, 0)) → OutU h7 (s + 1 + 1 + 1 + 1) p7 out7.length out7 → out7.map ruC = endJ (foldU l) → out7.length ≤ 121 → (∀ i, i < s + 1 + 1 + 1 + 1 → i ≠ l1 → i ≠ ob → h7.get i = h6.get i) → (yret [s + 1 + 1] (fun s => K (.tuple ⟨[]⟩) s) s7).wp pw Z h7 := by
    intro h7 s7 p7 out7 g7 l7 q1 q2 q3 q4 q5 q6
    refine yret1 g7 hp ((q6 (s + 1 + 1) (by omega) (by omega) (by omega)).trans hdq6) (by omega) fun h8 g8 e8 => ?_
    refine hk h8 s7 p7 out7 g8 (by omega) ((e8 _ (by omega)).trans q1) ((e8 _ (by omega)).trans q2) ((q3.but fun i hi => e8 i (by omega)).less (by omega)) q4 q5 fun i hi a1 a2 => ?_
    rw [e8 i (by omega), q6 i (by omega) a1 a2, J6.low i (by omega) a1 (by omega) a2 (by omega), c04.keep i hi]
  have endE : endJ (foldU l) = if isThere (lb5, lt5) then out5.map ruC ++ [(lb5, lt5)] else out5.map ruC := by rw [← he5]; rfl
  have told : isThere (lb5, lt5) = true → ∀ k : KV, (∀ h9 s9, (yret [s + 1 + 1] (fun s => K (.tuple ⟨[]⟩) s) s9).wp pw Z h9 → (k (.bool true) s9).wp pw Z h9) → (D N (d + 4) 1000000 [.int .i64 (.ofNat l1), .agg ⟨[.slice lp5 ln5 ln5, vi lt5]⟩] k s5).wp pw Z h6 := by
    intro hth k hkk
    rw [D_Y, hrd _ _ _ _ _ J6.o1]
    refine y143 (x := ⟨lp5, ln5, ln5, lt5, lb5⟩) g6 hp J6.o1 z1 k1 zo k2 (by omega) (by omega) (by omega) (by omega) (by omega) fun p7 h7 s7 g7 l7 hl7 hob7 o7 e7 => ?_
    have j1 := J6.o1
    have own7 : ∀ {q : Option Addr} {n : Nat} {l : List Int}, OwnB h6 (s + 1 + 1 + 1 + 1) q n l → OwnB h7 (s + 1 + 1 + 1 + 1) q n l := fun ow => ow.but fun hp => e7 _ (ow.lt g6.fresh hp).2 (ow.apart j1 (fun c f hh => by cases hh) hp) (ow.apart k1 (fun c f hh => by cases hh) hp) fun hp2 => by
      obtain ⟨c, f, hc⟩ := k2.obj hp2
      exact ow.apart hc (fun c f hh => by cases hh) hp
    have hle : (out5 ++ [(⟨lp5, ln5, ln5, lt5, lb5⟩ : RU)]).length = out5.length + 1 := by rw [List.length_append]; rfl
    refine hkk h7 s7 (fin (p7 := p7) (out7 := out5 ++ [⟨lp5, ln5, ln5, lt5, lb5⟩]) g7 (by omega) hl7 (by rw [hle]; exact hob7) ⟨by rw [hle]; exact o7, fun y hy => ?_⟩ ?_ (by omega) fun i hi a1 a2 => e7 i (by omega) a1 a2 fun hp => by have := (k2.lt g6.fresh hp).1; omega)
    · rcases List.mem_append.1 hy with hy | hy
      · exact own7 (J6.bs y hy)
      · rw [List.mem_singleton.1 hy]; exact own7 J6.lb
    · rw [endE, if_pos hth, List.map_append]; rfl
  unfold X144_1
  by_cases hn : 0 < ln5
  · have hth : isThere (lb5, lt5) = true := by unfold isThere; rw [decide_eq_true]; exact .inl fun e => by simp only at e; rw [e] at hlb; simp at hlb; omega
    try simp (disch := first | assumption | omega | (simp only [Int.ofNat_eq_natCast, neg_one]; done) | (simp only [Int.ofNat_eq_natCast, neg_one]; omega)) only [tysW, wB, mB, Nat.reduceAdd, Nat.reduceMul, List.length_cons, List.length_nil, ldB hb46, clB hb46, ldBL hb46, clBL hb46, ldB hbf6, clB hbf6, ldBL hbf6, clBL hbf6]
    rw [iy]
    exact told hth _ fun h9 s9 hh => hh
  · have hlb0 : lb5 = [] := List.eq_nil_of_length_eq_zero (by omega)
    by_cases ht : 0 < lt5
    · have hth : isThere (lb5, lt5) = true := by unfold isThere; rw [decide_eq_true]; exact .inr ht
      try simp (disch := first | assumption | omega | (simp only [Int.ofNat_eq_natCast, neg_one]; done) | (simp only [Int.ofNat_eq_natCast, neg_one]; omega)) only [tysW, wB, mB, Nat.reduceAdd, Nat.reduceMul, List.length_cons, List.length_nil, ldB hb46, clB hb46, ldBL hb46, clBL hb46, ldB hbf6, clB hbf6, ldBL hbf6, clBL hbf6]
      rw [iy]
      exact told hth _ fun h9 s9 hh => hh
    · have hth : ¬ isThere (lb5, lt5) = true := by unfold isThere; simp only [decide_eq_true_eq]; rintro (h | h); exact h hlb0; exact ht h
      try simp (disch := first | assumption | omega | (simp only [Int.ofNat_eq_natCast, neg_one]; done) | (simp only [Int.ofNat_eq_natCast, neg_one]; omega)) only [tysW, wB, mB, Nat.reduceAdd, Nat.reduceMul, List.length_cons, List.length_nil, ldB hb46, clB hb46, ldBL hb46, clBL hb46, ldB hbf6, clB hbf6, ldBL hbf6, clBL hbf6]
      exact fin (p7 := p6) (out7 := out5) g6 (Nat.le_refl _) J6.o1 k1 ⟨k2, J6.bs⟩ (by rw [endE, if_neg hth]) (by omega) fun _ _ _ _ => rfl
/-- All that is joined, in a list. -/
theorem s143 (hN : N = 100000) {h : T} {s : Nat} (hf : ∀ n, s ≤ n → h.get n = none) {b2 b3 : Nat} (hb2 : h.get b2 = some (.cells ⟨[.func (.func 146) ⟨[]⟩ ⟨[ptr b3]⟩]⟩ 103 (0, 0))) {pi : Option Addr} {len ci : Nat} {l : List RU} (x : InU h pi len l) (hb3 : h.get b3 = some (.cells ⟨[.slice pi len ci]⟩ 22 (0, 0))) (hlen : len ≤ 120) (hsm : ∀ x ∈ l, x.n ≤ 6000 ∧ 0 ≤ x.t ∧ x.t ≤ 1000000) :
    PureS (D N (d + 6)) 143 [.slice none 0 0, .func (.func 144) ⟨[]⟩ ⟨[ptr b2]⟩] h s (fun v h' s' => ∃ p out, v = .slice p out.length out.length ∧ OutU h' s p out.length out ∧ out.map ruC = plainL (l.map ruC)) := by
  refine PureS.of hf fun K pw Z g hp hk => ?_
  have ls2 := lt_of_some hf ⟨_, hb2⟩
  have ls3 := lt_of_some hf ⟨_, hb3⟩
  rw [D_143]; unfold F143; rw [app2_eq]
  refine wp_box1 rfl g hp fun h1 g1 c1 b1 => ?_
  try simp (disch := first | assumption | omega | (simp only [Int.ofNat_eq_natCast, neg_one]; done) | (simp only [Int.ofNat_eq_natCast, neg_one]; omega)) only [tysW, wB, mB, Nat.reduceAdd, Nat.reduceMul, List.length_cons, List.length_nil]
  unfold yloopN
  refine wp_newO g1 hp fun h2 g2 c2 b2' => ?_
  refine wp_newO g2 hp fun h3 g3 c3 b3' => ?_
  have c23 := c2.trans c3
  replace b2' := c3.box b2' (by omega)
  replace b1 := c23.box b1 (by omega)
  rw [yit144]
  refine s144 (d := d) (a0 := s) hN g3 hp b3' b1 (by omega) (by omega) (fun C h x0 K s hb => wp_rnd143 hN hb) (g3.box hb2 ls2) (pi := pi) (ci := ci) (l := l) (fun h' e' => x.low hf fun i hi => (e' i hi).trans (g3.keep i hi)) ⟨by omega, by omega, by omega⟩ (g3.box hb3 ls3) (by omega) hlen hsm fun h5 s5 p5 out5 g5 l5 hl5 hob5 o5 he5 ho5 e5 => ?_
  unfold yend
  rw [wp_get, hl5]
  dsimp only
  refine wp_putO g5 hp hl5 (by omega) fun h6 g6 b6 e6 => ?_
  have hob6 := (e6 s (by omega)).trans hob5
  have hdq6 := (e6 (s + 1) (by omega)).trans ((e5 (s + 1) (by omega) (by omega) (by omega)).trans b2')
  try simp (disch := first | assumption | omega | (simp only [Int.ofNat_eq_natCast, neg_one]; done) | (simp only [Int.ofNat_eq_natCast, neg_one]; omega)) only [tysW, wB, mB, Nat.reduceAdd, Nat.reduceMul, List.length_cons, List.length_nil, ldB hob6, clB hob6, ldBL hob6, clBL hob6]
  refine yret1 g6 hp hdq6 (by omega) fun h7 g7 e7 => ?_
  exact hk _ _ _ g7 ⟨p5, out5, rfl, (o5.but fun i hi => (e7 i (by omega)).trans (e6 i (by omega))).less (by omega), he5⟩
theorem s18 (hN : N = 100000) {h : T} {s : Nat} (hf : ∀ n, s ≤ n → h.get n = none) {pi : Option Addr} {len ci : Nat} {l : List RU} (x : InU h pi len l) (hlen : len ≤ 120) (hsm : ∀ x ∈ l, x.n ≤ 6000 ∧ 0 ≤ x.t ∧ x.t ≤ 1000000) :
    PureS (D N (d + 8)) 18 [.slice pi len ci] h s (fun v h' s' => ∃ p out, v = .slice p out.length out.length ∧ OutU h' s p out.length out ∧ out.map ruC = plainL (l.map ruC)) := by
  refine PureS.of hf fun K pw Z g hp hk => ?_
  rw [D_18]; unfold F18; rw [app1_eq, D_83]; unfold F83; rw [app1_eq]
  refine wp_box1 rfl g hp fun h1 g1 c1 b1 => ?_
  try simp (disch := first | assumption | omega | (simp only [Int.ofNat_eq_natCast, neg_one]; done) | (simp only [Int.ofNat_eq_natCast, neg_one]; omega)) only [tysW, wB, mB, Nat.reduceAdd, Nat.reduceMul, List.length_cons, List.length_nil]
  rw [D_82]; unfold F82; rw [app1_eq]
  refine wp_box1 rfl g1 hp fun h2 g2 c2 b2 => ?_
  replace b1 := c2.box b1 (by omega)
  try simp (disch := first | assumption | omega | (simp only [Int.ofNat_eq_natCast, neg_one]; done) | (simp only [Int.ofNat_eq_natCast, neg_one]; omega)) only [tysW, wB, mB, Nat.reduceAdd, Nat.reduceMul, List.length_cons, List.length_nil]
  rw [D_81]; unfold F81; rw [app1_eq]
  refine PureS.go g2 hp (s143 (d := d) hN g2.fresh b2 (x.from hf g2) b1 hlen hsm) fun v h3 s3 g3 c3 hv => ?_
  obtain ⟨p, out, rfl, o, he⟩ := hv
  exact hk _ _ _ g3 ⟨p, out, rfl, o.less (by omega), he⟩
end
end Go.Ev.R

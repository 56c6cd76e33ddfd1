/- A region whose order is open: it comes to the same in whatever order. No condition. -/
import Derived.Test.YtpfnoffadfahmaaGreatEvN
namespace Go.Ev
set_option linter.unusedVariables false
set_option linter.unusedSimpArgs false
open Go Go.RowKit

noncomputable def pk (v : Value) (s : Nat) : Value := .tuple ⟨[v, .int .i64 (Int.ofNat s)]⟩
noncomputable def up : Value → Option (Value × Nat)
  | .tuple ⟨[v, .int .i64 (Int.ofNat s)]⟩ => some (v, s)
  | _ => none
theorem up_pk (v : Value) (s : Nat) : up (pk v s) = some (v, s) := rfl
theorem pk_inj {u v : Value} {s t : Nat} (h : pk u s = pk v t) : u = v ∧ s = t := by
  have := congrArg up h
  rw [up_pk, up_pk] at this
  exact Prod.mk.inj (Option.some.inj this)

/-- Of each operation, those that are neither ahead of it nor behind it. -/
noncomputable def freeOf (mk : List Nat) (n j : Nat) : List Nat :=
  (List.range n).filter fun i => bif Nat.blt i j then !((mk.getD j 0).testBit i) else bif Nat.blt j i then !((mk.getD i 0).testBit j) else false
noncomputable def freeAll (ops : Array Oper) : List (List Nat) := (List.range ops.size).map (freeOf (masks ops.toList []) ops.size)
noncomputable def statOk (ops : Array Oper) : Bool :=
  (List.range ops.size).all (fun i => match ops[i]? with | some o => o.after.toList.all (fun e => !Region.binds .any e || decide (e.on < i)) | none => true) &&
  (List.range ops.size).all (fun j => (List.range j).all (fun i => match ops[i]?, ops[j]? with | some a, some b => ((masks ops.toList []).getD j 0).testBit i || a.apart ops b | _, _ => false))
noncomputable def touched (rs : List (List Nat × List Nat)) : Nat → List Nat :=
  List.rec (motive := fun _ => Nat → List Nat) (fun _ => []) (fun x _ ih n => Nat.rec (motive := fun _ => List Nat) x.1 (fun m _ => ih m) n) rs
theorem touched_eq : ∀ (rs : List (List Nat × List Nat)) (n : Nat) (x : List Nat × List Nat), rs[n]? = some x → touched rs n = x.1
  | [], _, _, h => by simp at h
  | y :: _, 0, x, h => by simp at h; subst h; rfl
  | _ :: l, n + 1, x, h => by simp at h; exact touched_eq l n x h
noncomputable def allF (all : List (List Nat × List Nat)) (w : List Nat) (f : List Nat) : Bool := List.rec (motive := fun _ => Bool) true (fun i _ ih => Bool.rec (motive := fun _ => Bool) false ih (disj w (touched all i))) f
theorem allF_eq (all : List (List Nat × List Nat)) (w f : List Nat) : allF all w f = f.all (fun i => disj w (touched all i)) := by
  induction f with
  | nil => rfl
  | cons i f ih => rw [List.all_cons, ← ih]; show Bool.rec (motive := fun _ => Bool) false (allF all w f) (disj w (touched all i)) = _; cases disj w (touched all i) <;> rfl
noncomputable def dynOk (all : List (List Nat × List Nat)) (rs : List (List Nat × List Nat)) : List (List Nat) → Bool :=
  List.rec (motive := fun _ => List (List Nat) → Bool) (fun _ => true)
    (fun x _ ih fs => List.rec (motive := fun _ => Bool) false (fun f fs' _ => List.rec (motive := fun _ => Bool) (ih fs') (fun _ _ _ => Bool.rec (motive := fun _ => Bool) false (ih fs') (allF all x.2 f)) x.2) fs) rs
theorem dynOk_nil (all : List (List Nat × List Nat)) (fs : List (List Nat)) : dynOk all [] fs = true := rfl
theorem dynOk_none (all : List (List Nat × List Nat)) (x : List Nat × List Nat) (l : List (List Nat × List Nat)) : dynOk all (x :: l) [] = false := rfl
theorem dynOk_cons (all : List (List Nat × List Nat)) (x : List Nat × List Nat) (l : List (List Nat × List Nat)) (f : List Nat) (fs : List (List Nat)) (h : dynOk all (x :: l) (f :: fs) = true) :
    dynOk all l fs = true ∧ ∀ i ∈ f, disj x.2 (touched all i) = true := by
  obtain ⟨a, b⟩ := x
  cases b with
  | nil => exact ⟨h, fun i _ => rfl⟩
  | cons y ys =>
    have h : Bool.rec (motive := fun _ => Bool) false (dynOk all l fs) (allF all (y :: ys) f) = true := h
    cases hf : allF all (y :: ys) f with
    | false => rw [hf] at h; cases h
    | true => rw [hf] at h; rw [allF_eq] at hf; exact ⟨h, fun i hi => List.all_eq_true.1 hf i hi⟩
theorem dynOk_spec (all : List (List Nat × List Nat)) : ∀ (rs : List (List Nat × List Nat)) (fs : List (List Nat)), dynOk all rs fs = true → ∀ (j : Nat) (x : List Nat × List Nat) (f : List Nat), rs[j]? = some x → fs[j]? = some f → ∀ i ∈ f, disj x.2 (touched all i) = true
  | [], _, _, j, x, f, hx, _ => by simp at hx
  | x :: l, [], h, j, y, f, hy, hf => by simp at hf
  | x :: l, f :: fs, h, 0, y, g, hy, hg => by
    simp at hy hg; subst hy; subst hg; exact (dynOk_cons all _ _ _ _ h).2
  | x :: l, f :: fs, h, j + 1, y, g, hy, hg => by
    simp at hy hg; exact dynOk_spec all l fs (dynOk_cons all _ _ _ _ h).1 j y g hy hg
noncomputable def okDraw2 (ops : Array Oper) (rs : List (List Nat × List Nat)) : Bool :=
  bif statOk ops then (bif Nat.beq rs.length ops.size then dynOk rs rs (freeAll ops) else false) else false
theorem allPairs_of {ops : Array Oper} {mk : List Nat} {rs : List (List Nat × List Nat)} : ∀ {n : Nat}, (∀ i j, i < j → j < n → pairOk ops mk rs i j = true) → allPairs ops mk rs n = true
  | 0, _ => rfl
  | n + 1, h => by
    simp only [allPairs, Bool.and_eq_true, List.all_eq_true, List.mem_range]
    exact ⟨fun i hi => h i n hi (by omega), allPairs_of fun i j a b => h i j a (by omega)⟩
theorem okDraw_of2 {ops : Array Oper} {rs : List (List Nat × List Nat)} (h : okDraw2 ops rs = true) : okDraw ops rs = true := by
  unfold okDraw2 at h
  cases hs : statOk ops with
  | false => rw [hs] at h; cases h
  | true =>
  cases hl : Nat.beq rs.length ops.size with
  | false => rw [hs, hl] at h; cases h
  | true =>
  rw [hs, hl] at h
  simp only [cond_true] at h
  have hl := Nat.eq_of_beq_eq_true hl
  unfold statOk at hs
  rw [Bool.and_eq_true] at hs
  unfold okDraw
  rw [Bool.and_eq_true]
  refine ⟨hs.1, allPairs_of fun i j hij hj => ?_⟩
  have h2 := hs.2
  rw [List.all_eq_true] at h2
  have h2 := h2 j (List.mem_range.2 hj)
  rw [List.all_eq_true] at h2
  have h2 := h2 i (List.mem_range.2 hij)
  have e1 : ops[i]? = some ops[i] := by simp
  have e2 : ops[j]? = some ops[j] := by simp
  rw [e1, e2] at h2
  dsimp only at h2
  have e3 : rs[i]? = some rs[i] := by simp
  have e4 : rs[j]? = some rs[j] := by simp
  unfold pairOk
  rw [e1, e2, e3, e4]
  dsimp only
  cases hb : ((masks ops.toList []).getD j 0).testBit i with
  | true => rfl
  | false =>
    rw [hb] at h2
    simp only [Bool.false_or] at h2 ⊢
    rw [h2]
    have hfree : ∀ k, k < ops.size → (freeAll ops)[k]? = some (freeOf (masks ops.toList []) ops.size k) := fun k hk => by simp [freeAll, hk]
    have hji : ¬ j < i := by omega
    have f1 : i ∈ freeOf (masks ops.toList []) ops.size j := by
      unfold freeOf; rw [List.mem_filter]; refine ⟨List.mem_range.2 (by omega), ?_⟩
      rw [show Nat.blt i j = true by rw [Nat.blt_eq]; exact hij, hb]; rfl
    have f2 : j ∈ freeOf (masks ops.toList []) ops.size i := by
      unfold freeOf; rw [List.mem_filter]; refine ⟨List.mem_range.2 hj, ?_⟩
      rw [show Nat.blt j i = false by rw [← Bool.not_eq_true, Nat.blt_eq]; exact hji, show Nat.blt i j = true by rw [Nat.blt_eq]; exact hij, hb]; rfl
    have g1 := dynOk_spec rs rs _ h j _ _ e4 (hfree j hj) i f1
    have g2 := dynOk_spec rs rs _ h i _ _ e3 (hfree i (by omega)) j f2
    rw [touched_eq rs i _ e3] at g1
    rw [touched_eq rs j _ e4] at g2
    rw [g1, g2]; rfl

noncomputable def isDefer : Op → Bool | .defer _ => true | _ => false
noncomputable def okOperD (o : Oper) : Bool := okOper o && !isDefer o.op

/-- Blocks read one after the other. -/
noncomputable def readA : List Nat → (List Obj → AM) → AM
  | [], k => k []
  | n :: l, k => .get n fun o => readA l fun os => k (o :: os)
noncomputable def readT (h : T) : List Nat → Option (List Obj)
  | [] => some []
  | n :: l => match h.get n, readT h l with
    | some o, some os => some (o :: os)
    | _, _ => none
theorem readA_run {h : T} {r : Value × T} : ∀ {l : List Nat} {k : List Obj → AM}, (readA l k).run h = some r → ∃ os, readT h l = some os ∧ (k os).run h = some r
  | [], k, e => ⟨[], rfl, e⟩
  | n :: l, k, e => by
    unfold readA at e
    rw [AM.run_get] at e
    unfold readT
    cases hn : h.get n with
    | none => rw [hn] at e; cases e
    | some o =>
      rw [hn] at e
      obtain ⟨os, h1, h2⟩ := readA_run (l := l) e
      exact ⟨o :: os, by rw [h1], h2⟩
def isSlc : Value → Bool | .slice .. => true | _ => false
/-- Functions without arguments whose calls are known to answer true; and those with arguments that do so where some blocks are as they are to be. -/
class Known (P : Program) where
  kn : FuncId → Bool
  ok : ∀ f, kn f = true → ∀ w, Calls P f #[] w (fun q w' => q = .returned (.bool true) ∧ Below w.heap.size w w')
  k2 : FuncId → Bool := fun _ => false
  need : FuncId → List Value → List Nat := fun _ _ => []
  cond : FuncId → List Value → List Obj → Bool := fun _ _ _ => false
  ok2 : ∀ f, k2 f = true → ∀ (σ : Emb) (w0 : World) (h : T) (w : World) (args : List Value) (args' : Array Value) (os : List Obj), St σ w0 h w → VRs σ args args'.toList → readT h (need f args) = some os → cond f args os = true → Calls P f args' w (fun q w' => q = .returned (.bool true) ∧ Below w.heap.size w w') := by
    intro f h; cases h
noncomputable abbrev Known.no (P : Program) : Known P := { kn := fun _ => false, ok := fun _ h => by cases h }
noncomputable def known (P : Program) [Known P] (f : FuncId) (args : List Value) : Bool := Known.kn P f && args.isEmpty
theorem known_no {P : Program} [Known P] {f : FuncId} (h : Known.kn P f = false) (args : List Value) : known P f args = false := by unfold known; rw [h]; rfl
theorem known_of {P : Program} [Known P] {f : FuncId} {args : List Value} (h : known P f args = true) : Known.kn P f = true ∧ args = [] := by
  unfold known at h
  rw [Bool.and_eq_true] at h
  exact ⟨h.1, by cases args with | nil => rfl | cons _ _ => cases h.2⟩
/-- What is known is not walked. -/
noncomputable def askK (P : Program) [Known P] (f : FuncId) (args : List Value) (yes no : AM) : AM :=
  bif known P f args then yes else bif Known.k2 P f then (bif args.all isSlc then readA (Known.need P f args) (fun os => bif Known.cond P f args os then yes else .fail) else .fail) else no
/-- Why it is known. -/
def Why (P : Program) [Known P] (f : FuncId) (args : List Value) (h : T) : Prop :=
  known P f args = true ∨ Known.k2 P f = true ∧ ∃ os, readT h (Known.need P f args) = some os ∧ Known.cond P f args os = true
theorem askK_run {P : Program} [Known P] {f : FuncId} {args : List Value} {yes no : AM} {h : T} {r : Value × T} (e : (askK P f args yes no).run h = some r) : (Why P f args h ∧ yes.run h = some r) ∨ (known P f args = false ∧ no.run h = some r) := by
  unfold askK at e
  cases hk : known P f args with
  | true => rw [hk] at e; exact .inl ⟨.inl hk, e⟩
  | false =>
    rw [hk] at e
    simp only [cond_false] at e
    cases h2 : Known.k2 P f with
    | false => rw [h2] at e; exact .inr ⟨rfl, e⟩
    | true =>
      rw [h2] at e
      simp only [cond_true] at e
      cases h3 : args.all isSlc with
      | false => rw [h3] at e; cases e
      | true =>
        rw [h3] at e
        simp only [cond_true] at e
        obtain ⟨os, h4, h5⟩ := readA_run e
        cases h6 : Known.cond P f args os with
        | false => rw [h6] at h5; cases h5
        | true => rw [h6] at h5; exact .inl ⟨.inr ⟨h2, os, h4, h6⟩, h5⟩
/-- Where nothing is known. -/
theorem askK_no {P : Program} [Known P] {f : FuncId} (h : Known.kn P f = false) (h2 : Known.k2 P f = false) (args : List Value) (yes no : AM) : askK P f args yes no = no := by
  unfold askK; rw [known_no h, h2]; rfl
/-- Where an argument is no list. -/
theorem askK_fn {P : Program} [Known P] {f : FuncId} {args : List Value} (hne : args ≠ []) (hs : args.all isSlc = false) (yes no : AM) : askK P f args yes no = bif Known.k2 P f then .fail else no := by
  unfold askK known
  cases args with
  | nil => exact absurd rfl hne
  | cons a l => rw [hs]; simp only [List.isEmpty_cons, Bool.and_false, cond_false]
abbrev Nest := AF → (Value → Nat → AM) → Nat → AM

noncomputable def aopV (P : Program) [Known P] (nest : Nest) (tmps : List Value) (o : Oper) (s : Nat) : AM :=
  aop P (aev tmps) o (fun nx s' => match nx with
    | .value v => .ret (pk v s')
    | .skip => .ret (pk undef s')
    | .enter f args => askK P f args.toList (.ret (pk (.bool true) s')) (match AF.enter P f args.toList .normal with
      | some a => nest a (fun v s' => .ret (pk v s')) s'
      | none => .fail)
    | .round l f t as body => nest ⟨f, t.toList, [.code as, .beginRound, .code body], [], .run, .normal, some l⟩ (fun v s' => .ret (pk v s')) s'
    | _ => .fail) s

noncomputable def adraw (P : Program) [Known P] (nest : Nest) (ops : Array Oper) (k : List Value → Nat → AM) : List Oper → List Value → List (List Nat × List Nat) → Nat → AM
  | [], tmps, rs, s => bif okDraw2 ops rs.reverse then k tmps s else .fail
  | o :: l, tmps, rs, s => bif awanted ops tmps o then
      (bif okOperD o then .log (aopV P nest tmps o s) (fun u ts ws => match up u with
        | some (v, s') => adraw P nest ops k l (aput' tmps o.dst v) ((ts, ws) :: rs) s'
        | none => .fail) else .fail)
    else adraw P nest ops k l (aput' tmps o.dst undef) (([], []) :: rs) s

/-- The run in the text's order, from operation i on. -/
structure Can (P : Program) [Known P] (nest : Nest) (ops : Array Oper) (sn : Nat → Nat) (i : Nat) (tm : Nat → List Value) (hp : Nat → T) (v : Nat → Value) (ts ws : Nat → List Nat) : Prop where
  step : ∀ j o, i ≤ j → ops[j]? = some o → tm (j + 1) = aput' (tm j) o.dst (v j) ∧
    ((awanted ops (tm j) o = true ∧ okOperD o = true ∧ (aopV P nest (tm j) o (sn j)).runL (hp j) [] [] = some ⟨pk (v j) (sn (j + 1)), hp (j + 1), ts j, ws j⟩) ∨
     (awanted ops (tm j) o = false ∧ v j = undef ∧ hp (j + 1) = hp j ∧ ts j = [] ∧ ws j = []))

section
variable {P : Program} {nest : Nest} {ops : Array Oper} {k : List Value → Nat → AM} {sn : Nat → Nat}

theorem adraw_spec [Known P] : ∀ (l : List Oper) (i : Nat) (tmps : List Value) (rs : List (List Nat × List Nat)) (s : Nat) (h : T) (r : Value × T), l = ops.toList.drop i → i + l.length = ops.size → (adraw P nest ops k l tmps rs s).run h = some r →
    ∃ (sn : Nat → Nat) (tm : Nat → List Value) (hp : Nat → T) (v : Nat → Value) (ts ws : Nat → List Nat), Can P nest ops sn i tm hp v ts ws ∧ tm i = tmps ∧ hp i = h ∧ sn i = s ∧ okDraw ops (rs.reverse ++ (List.range' i l.length).map fun j => (ts j, ws j)) = true ∧ (k (tm ops.size) (sn ops.size)).run (hp ops.size) = some r
  | [], i, tmps, rs, s, h, r, hl, hi, e => by
    simp only [adraw] at e
    cases hd : okDraw2 ops rs.reverse with
    | false => rw [hd] at e; cases e
    | true =>
      rw [hd] at e
      have : i = ops.size := by simpa using hi
      subst this
      refine ⟨fun _ => s, fun _ => tmps, fun _ => h, fun _ => undef, fun _ => [], fun _ => [], ⟨fun j o hj ho => ?_⟩, rfl, rfl, rfl, by simpa using okDraw_of2 hd, e⟩
      have := lt_of_get? ho; omega
  | o :: l, i, tmps, rs, s, h, r, hl, hi, e => by
    have hoi : ops[i]? = some o := by
      have : (ops.toList.drop i)[0]? = some o := by rw [← hl]; rfl
      simpa using this
    have hl' : l = ops.toList.drop (i + 1) := by
      have : (o :: l).tail = (ops.toList.drop i).tail := by rw [hl]
      simpa using this
    simp only [List.length_cons] at hi
    -- what follows, for any value
    have main : ∀ (val : Value) (s1 : Nat) (h1 : T) (tsi wsi : List Nat), (adraw P nest ops k l (aput' tmps o.dst val) ((tsi, wsi) :: rs) s1).run h1 = some r →
        ((awanted ops tmps o = true ∧ okOperD o = true ∧ (aopV P nest tmps o s).runL h [] [] = some ⟨pk val s1, h1, tsi, wsi⟩) ∨ (awanted ops tmps o = false ∧ val = undef ∧ h1 = h ∧ tsi = [] ∧ wsi = [])) →
        ∃ (sn : Nat → Nat) (tm : Nat → List Value) (hp : Nat → T) (v : Nat → Value) (ts ws : Nat → List Nat), Can P nest ops sn i tm hp v ts ws ∧ tm i = tmps ∧ hp i = h ∧ sn i = s ∧ okDraw ops (rs.reverse ++ (List.range' i (l.length + 1)).map fun j => (ts j, ws j)) = true ∧ (k (tm ops.size) (sn ops.size)).run (hp ops.size) = some r := by
      intro val s1 h1 tsi wsi e1 hcase
      obtain ⟨sn, tm, hp, v, ts, ws, hc, a1, a2, a5, a3, a4⟩ := adraw_spec l (i + 1) _ _ _ _ _ hl' (by omega) e1
      have hne : ops.size ≠ i := by omega
      refine ⟨fun j => if j = i then s else sn j, fun j => if j = i then tmps else tm j, fun j => if j = i then h else hp j, fun j => if j = i then val else v j, fun j => if j = i then tsi else ts j, fun j => if j = i then wsi else ws j, ⟨fun j oj hj hoj => ?_⟩, by simp, by simp, by simp, ?_, by simpa [hne] using a4⟩
      · by_cases hji : j = i
        · subst hji
          rw [hoi] at hoj; cases hoj
          have hn : j + 1 ≠ j := by omega
          simp only [if_true, if_neg hn, a1, a2, a5]
          exact ⟨trivial, hcase⟩
        · have hn : j + 1 ≠ i := by omega
          simp only [if_neg hji, if_neg hn]
          exact hc.step j oj (by omega) hoj
      · rw [List.range'_succ, List.map_cons]
        simp only [if_true]
        have hmap : (List.range' (i + 1) l.length).map (fun j => ((if j = i then tsi else ts j), (if j = i then wsi else ws j))) = (List.range' (i + 1) l.length).map (fun j => (ts j, ws j)) := by
          refine List.map_congr_left fun j hj => ?_
          have : i + 1 ≤ j := (List.mem_range'_1.1 hj).1
          have hn : j ≠ i := by omega
          simp only [if_neg hn]
        rw [hmap]
        simpa using a3
    simp only [adraw] at e
    cases hw : awanted ops tmps o with
    | false =>
      rw [hw] at e
      exact main _ _ _ _ _ e (.inr ⟨hw, rfl, rfl, rfl, rfl⟩)
    | true =>
      rw [hw] at e
      cases hok : okOperD o with
      | false => rw [hok] at e; cases e
      | true =>
        rw [hok] at e
        simp only [cond_true] at e
        rw [AM.run_log] at e
        split at e
        · rename_i u h1 tsi wsi hm
          split at e
          · rename_i val s1 hu
            have hup : u = pk val s1 := by
              unfold up at hu
              split at hu
              · obtain ⟨rfl, rfl⟩ := Prod.mk.inj (Option.some.inj hu); rfl
              · cases hu
            subst hup
            exact main _ _ _ _ _ e (.inl ⟨hw, hok, hm⟩)
          · cases e
        · cases e

/-! ### in whatever order -/
noncomputable def dW (ops : Array Oper) (t i : Nat) : Bool := match ops[i]? with
  | some o => (match o.dst with | some d => Nat.beq d t | none => false)
  | none => false
noncomputable def has (l : List Nat) (m : Nat) : Bool := l.any fun y => Nat.beq m y
theorem has_iff {l : List Nat} {m : Nat} : has l m = true ↔ m ∈ l := by
  unfold has
  rw [List.any_eq_true]
  constructor
  · rintro ⟨y, h1, h2⟩; rw [Nat.eq_of_beq_eq_true h2]; exact h1
  · intro h; exact ⟨m, h, beq_yes m⟩

variable {tm : Nat → List Value} {hp : Nat → T} {v : Nat → Value} {ts ws : Nat → List Nat}

noncomputable def TInv (ops : Array Oper) (tm : Nat → List Value) (v : Nat → Value) (D : Nat → Bool) (tmps : List Value) : Prop :=
  tmps.length = (tm 0).length ∧ ∀ t, tmps[t]? = match lastW (fun i => D i && dW ops t i) ops.size with
    | some i => if t < (tm 0).length then some (v i) else none
    | none => (tm 0)[t]?
noncomputable def HInv (ops : Array Oper) (hp : Nat → T) (ws : Nat → List Nat) (D : Nat → Bool) (g : T) : Prop :=
  ∀ m, g.get m = match lastW (fun i => D i && has (ws i) m) ops.size with
    | some i => (hp (i + 1)).get m
    | none => (hp 0).get m

theorem aput'_length (l : List Value) (d : Option Tmp) (v : Value) : (aput' l d v).length = l.length := by cases d <;> simp [aput', setL_eq]

/-- One more operation: the temporaries. -/
theorem TInv.put {D D' : Nat → Bool} {tmps : List Value} {j : Nat} {o : Oper} (h : TInv ops tm v D tmps) (ho : ops[j]? = some o) (hD : ∀ i, D' i = (D i || decide (i = j)))
    (hlast : ∀ i t, j < i → i < ops.size → dW ops t j = true → D i = true → dW ops t i = false) : TInv ops tm v D' (aput' tmps o.dst (v j)) := by
  have hj := lt_of_get? ho
  refine ⟨by rw [aput'_length]; exact h.1, fun t => ?_⟩
  cases hd : dW ops t j with
  | true =>
    have hdst : o.dst = some t := by
      unfold dW at hd
      rw [ho] at hd
      dsimp only at hd
      split at hd
      · rename_i d he; rw [he, Nat.eq_of_beq_eq_true hd]
      · cases hd
    rw [lastW_eq (i := j) hj (by simp [hD, hd]) (fun i h1 h2 => by
      have hne : i ≠ j := by omega
      have := hlast i t h1 h2 hd
      cases hDi : D i with
      | false => simp [hD, hDi, hne]
      | true => simp [this hDi])]
    rw [hdst]
    simp only [aput', setL_eq, List.getElem?_set]
    rw [h.1]; simp
  | false =>
    have hc : lastW (fun i => D' i && dW ops t i) ops.size = lastW (fun i => D i && dW ops t i) ops.size := lastW_congr fun i hi => by
      by_cases hij : i = j
      · subst hij; simp [hd]
      · simp [hD, hij]
    rw [hc, ← h.2 t]
    cases hdst : o.dst with
    | none => rfl
    | some d =>
      have hne : d ≠ t := fun e => by
        subst e
        unfold dW at hd
        rw [ho] at hd
        simp only [hdst] at hd
        rw [beq_yes] at hd; cases hd
      simp only [aput', setL_eq, List.getElem?_set, if_neg hne]

/-- One more operation: the heap. -/
theorem HInv.put {D D' : Nat → Bool} {g g' : T} {j : Nat} (h : HInv ops hp ws D g) (hj : j < ops.size) (hD : ∀ i, D' i = (D i || decide (i = j)))
    (hlast : ∀ i m, j < i → i < ops.size → m ∈ ws j → D i = true → m ∉ ws i) (hw : ∀ m, m ∈ ws j → g'.get m = (hp (j + 1)).get m) (hk : ∀ m, m ∉ ws j → g'.get m = g.get m) : HInv ops hp ws D' g' := by
  intro m
  by_cases hm : m ∈ ws j
  · rw [lastW_eq (i := j) hj (by simp [hD, has_iff.2 hm]) (fun i h1 h2 => by
      have hne : i ≠ j := by omega
      cases hDi : D i with
      | false => simp [hD, hDi, hne]
      | true =>
        have := hlast i m h1 h2 hm hDi
        have : has (ws i) m = false := by
          cases hh : has (ws i) m with
          | false => rfl
          | true => exact absurd (has_iff.1 hh) this
        simp [this])]
    exact hw m hm
  · have hf : has (ws j) m = false := by
      cases hh : has (ws j) m with
      | false => rfl
      | true => exact absurd (has_iff.1 hh) hm
    have hc : lastW (fun i => D' i && has (ws i) m) ops.size = lastW (fun i => D i && has (ws i) m) ops.size := lastW_congr fun i hi => by
      by_cases hij : i = j
      · subst hij; simp [hf]
      · simp [hD, hij]
    rw [hc, ← h m]
    exact hk m hm

/-- The run in the text's order keeps both. -/
theorem Can.inv [Known P] (hc : Can P nest ops sn 0 tm hp v ts ws) : ∀ j, j ≤ ops.size → TInv ops tm v (fun i => decide (i < j)) (tm j) ∧ HInv ops hp ws (fun i => decide (i < j)) (hp j)
  | 0, _ => by
    refine ⟨⟨rfl, fun t => ?_⟩, fun m => ?_⟩
    · rw [lastW_none fun i _ => by simp]
    · rw [lastW_none fun i _ => by simp]
  | j + 1, hj => by
    obtain ⟨h1, h2⟩ := Can.inv hc j (by omega)
    have ho : ∃ o, ops[j]? = some o := ⟨ops[j], by simp [show j < ops.size by omega]⟩
    obtain ⟨o, ho⟩ := ho
    obtain ⟨a1, a2⟩ := hc.step j o (Nat.zero_le _) ho
    have hD : ∀ i, decide (i < j + 1) = (decide (i < j) || decide (i = j)) := fun i => by
      rw [Bool.eq_iff_iff]; simp; omega
    refine ⟨?_, ?_⟩
    · rw [a1]
      exact h1.put ho hD (fun i t h1 _ _ h4 => by simp at h4; omega)
    · refine h2.put (by omega) hD (fun i m h1 _ _ h4 => by simp at h4; omega) (fun m _ => rfl) (fun m hm => ?_)
      rcases a2 with ⟨_, _, a⟩ | ⟨_, _, a, _, _⟩
      · exact AM.runL_kept _ _ _ _ _ a m hm
      · rw [a]

/-- What an operation looks at. -/
theorem mem_looks {o : Oper} {t : Tmp} (h : .tmp t ∈ o.op.operands) : t ∈ o.looksAt ops := by
  unfold Oper.looksAt
  rw [List.mem_append]
  refine .inl ?_
  rw [List.mem_filterMap]
  exact ⟨.tmp t, Array.mem_toList_iff.2 h, rfl⟩

/-- **One more operation, in whatever order its edges allow.** -/
theorem Can.step_any [Known P] (hc : Can P nest ops sn 0 tm hp v ts ws) (hok : okDraw ops ((List.range' 0 ops.size).map fun j => (ts j, ws j)) = true) {D : Nat → Bool} {j : Nat} {o : Oper} {tmps : List Value} {g : T}
    (ho : ops[j]? = some o) (hDj : D j = false) (hcl : Closed ops.toList D) (hdeps : ∀ e ∈ o.after, Region.binds .any e = true → D e.on = true) (ht : TInv ops tm v D tmps) (hh : HInv ops hp ws D g) :
    TInv ops tm v (fun i => D i || decide (i = j)) (aput' tmps o.dst (v j)) ∧
    ((awanted ops tmps o = true ∧ okOperD o = true ∧ ∃ g', (aopV P nest tmps o (sn j)).run g = some (pk (v j) (sn (j + 1)), g') ∧ HInv ops hp ws (fun i => D i || decide (i = j)) g') ∨
     (awanted ops tmps o = false ∧ v j = undef ∧ HInv ops hp ws (fun i => D i || decide (i = j)) g)) := by
  have hj := lt_of_get? ho
  obtain ⟨c1, c2⟩ := Can.inv hc j (by omega)
  obtain ⟨a1, a2⟩ := hc.step j o (Nat.zero_le _) ho
  unfold okDraw at hok
  rw [Bool.and_eq_true] at hok
  have hpairs := allPairs_spec hok.2
  -- who comes ahead of whom
  let D' : Nat → Bool := fun i => D i || decide (i = j)
  have hcl' : Closed ops.toList D' := by
    intro i oi hi hDi e he hb
    simp only [D', Bool.or_eq_true, decide_eq_true_eq] at hDi ⊢
    rcases hDi with hDi | hDi
    · exact .inl (hcl i oi hi hDi e he hb)
    · subst hDi
      have : oi = o := by
        have h2 : ops[i]? = some oi := by simpa using hi
        rw [ho] at h2; exact (Option.some.inj h2).symm
      subst this
      exact .inl (hdeps e he hb)
  have hm1 : ∀ i, i ≠ j → ((masks ops.toList []).getD j 0).testBit i = true → D i = true := by
    intro i hij hbit
    have := masks_spec ops.toList hcl' ops.toList [] (fun k => by simp) (fun a b h => by simp at h) j i (by rw [masks_length]; simpa using hj) (by simp [D']) hbit
    simpa [D', hij] using this
  have hm2 : ∀ i, i < ops.size → ((masks ops.toList []).getD i 0).testBit j = true → D i = false := by
    intro i hi hbit
    cases hDi : D i with
    | false => rfl
    | true =>
      have := masks_spec ops.toList hcl ops.toList [] (fun k => by simp) (fun a b h => by simp at h) i j (by rw [masks_length]; simpa using hi) hDi hbit
      rw [hDj] at this; cases this
  -- of two, one is ahead, or they don't meddle
  have hrel : ∀ i oi, ops[i]? = some oi → i ≠ j → (i < j ∧ D i = true) ∨ (j < i ∧ D i = false) ∨ ((∀ d, oi.dst = some d → d ∉ o.looksAt ops ∧ o.dst ≠ some d) ∧ (∀ m, m ∈ ws i → m ∉ ts j) ∧ (∀ m, m ∈ ws j → m ∉ ts i)) := by
    intro i oi hoi hij
    have hi := lt_of_get? hoi
    have hget : ∀ q, q < ops.size → ((List.range' 0 ops.size).map fun j => (ts j, ws j))[q]? = some (ts q, ws q) := fun q hq => by simp [hq]
    rcases Nat.lt_or_gt_of_ne hij with hlt | hgt
    · have hp := hpairs i j hlt hj
      unfold pairOk at hp
      rw [hoi, ho, hget i hi, hget j hj] at hp
      simp only [Bool.or_eq_true, Bool.and_eq_true] at hp
      rcases hp with hp | ⟨⟨p1, p2⟩, p3⟩
      · exact .inl ⟨hlt, hm1 i hij hp⟩
      · obtain ⟨q1, q2, q3⟩ := Oper.apart_spec p1
        exact .inr (.inr ⟨fun d hd => ⟨q1 d hd, q2 d hd⟩, disj_spec p2, disj_spec p3⟩)
    · have hp := hpairs j i hgt hi
      unfold pairOk at hp
      rw [hoi, ho, hget i hi, hget j hj] at hp
      simp only [Bool.or_eq_true, Bool.and_eq_true] at hp
      rcases hp with hp | ⟨⟨p1, p2⟩, p3⟩
      · exact .inr (.inl ⟨hgt, hm2 i hi hp⟩)
      · obtain ⟨q1, q2, q3⟩ := Oper.apart_spec p1
        exact .inr (.inr ⟨fun d hd => ⟨q3 d hd, fun e => q2 d e hd⟩, disj_spec p3, disj_spec p2⟩)
  have hdW : ∀ t i, i < ops.size → dW ops t i = true → ∃ oi, ops[i]? = some oi ∧ oi.dst = some t := by
    intro t i hi hd
    unfold dW at hd
    split at hd
    · rename_i oi hoi
      split at hd
      · rename_i d he; exact ⟨oi, hoi, by rw [he, Nat.eq_of_beq_eq_true hd]⟩
      · cases hd
    · cases hd
  -- what j looks at lies alike
  have hlook : ∀ t, t ∈ o.looksAt ops → tmps[t]? = (tm j)[t]? := by
    intro t htl
    rw [ht.2 t, c1.2 t]
    have : lastW (fun i => D i && dW ops t i) ops.size = lastW (fun i => decide (i < j) && dW ops t i) ops.size := lastW_congr fun i hi => by
      cases hd : dW ops t i with
      | false => simp
      | true =>
        obtain ⟨oi, hoi, hdi⟩ := hdW t i hi hd
        by_cases hij : i = j
        · subst hij; simp [hDj]
        · rcases hrel i oi hoi hij with ⟨x, y⟩ | ⟨x, y⟩ | ⟨x, _⟩
          · simp [x, y]
          · simp [y, show ¬ i < j by omega]
          · exact absurd htl (x t hdi).1
    rw [this]
  have hheap : ∀ m, m ∈ ts j → g.get m = (hp j).get m := by
    intro m hmt
    rw [hh m, c2 m]
    have : lastW (fun i => D i && has (ws i) m) ops.size = lastW (fun i => decide (i < j) && has (ws i) m) ops.size := lastW_congr fun i hi => by
      cases hd : has (ws i) m with
      | false => simp
      | true =>
        have hmi := has_iff.1 hd
        by_cases hij : i = j
        · subst hij; simp [hDj]
        · obtain ⟨oi, hoi⟩ : ∃ oi, ops[i]? = some oi := ⟨ops[i], by simp [hi]⟩
          rcases hrel i oi hoi hij with ⟨x, y⟩ | ⟨x, y⟩ | ⟨_, x, _⟩
          · simp [x, y]
          · simp [y, show ¬ i < j by omega]
          · exact absurd hmt (x m hmi)
    rw [this]
  -- the operation's own answer
  have hev : ∀ x ∈ o.op.operands, aev tmps x = aev (tm j) x := by
    intro x hx
    cases x with
    | tmp t => simp only [aev, nth_eq, hlook t (mem_looks hx)]
    | _ => rfl
  have hsame : aopV P nest tmps o (sn j) = aopV P nest (tm j) o (sn j) := by
    unfold aopV; rw [aop_congr o hev]
  have hwant : awanted ops tmps o = awanted ops (tm j) o := by
    unfold awanted
    cases hg : o.guard with
    | none => rfl
    | some p =>
      obtain ⟨q, want⟩ := p
      dsimp only
      have : ayields ops tmps q = ayields ops (tm j) q := by
        unfold ayields
        cases hq : ops[q]? with
        | none => rfl
        | some oq =>
          dsimp only
          cases hdq : oq.dst with
          | none => rfl
          | some d =>
            dsimp only
            have : d ∈ o.looksAt ops := by
              unfold Oper.looksAt
              rw [List.mem_append]
              refine .inr ?_
              rw [hg]; simp [hq, hdq]
            rw [nth_eq, nth_eq, hlook d this]
      rw [this]
  refine ⟨ht.put ho (fun i => rfl) (fun i t h1 h2 h3 h4 => ?_), ?_⟩
  · cases hd : dW ops t i with
    | false => rfl
    | true =>
      obtain ⟨oi, hoi, hdi⟩ := hdW t i h2 hd
      obtain ⟨oj, hoj, hdj⟩ := hdW t j hj h3
      rw [ho] at hoj; cases hoj
      rcases hrel i oi hoi (by omega) with ⟨x, _⟩ | ⟨_, y⟩ | ⟨x, _⟩
      · omega
      · rw [y] at h4; cases h4
      · exact absurd hdj (x t hdi).2
  · have hlast : ∀ i m, j < i → i < ops.size → m ∈ ws j → D i = true → m ∉ ws i := by
      intro i m h1 h2 h3 h4 h5
      obtain ⟨oi, hoi⟩ : ∃ oi, ops[i]? = some oi := ⟨ops[i], by simp [h2]⟩
      rcases hrel i oi hoi (by omega) with ⟨x, _⟩ | ⟨_, y⟩ | ⟨_, _, x⟩
      · omega
      · rw [y] at h4; cases h4
      · -- what i writes it touches
        obtain ⟨_, b⟩ := hc.step i oi (Nat.zero_le _) hoi
        rcases b with ⟨_, _, b⟩ | ⟨_, _, _, _, b⟩
        · rcases (AM.mem_ts _ _ _ _ _ b).2.2 m h5 with z | z
          · cases z
          · exact x m h3 z
        · rw [b] at h5; cases h5
    rcases a2 with ⟨b1, b2, b3⟩ | ⟨b1, b2, b3, b4, b5⟩
    · obtain ⟨⟨v', g', ts', ws'⟩, e1, e2, e3, e4, e5, e6⟩ := AM.runL_local _ _ g _ _ _ b3 hheap
      dsimp only at e2 e3 e4 e5 e6
      subst e2; subst e3; subst e4
      refine .inl ⟨by rw [hwant]; exact b1, b2, g', by rw [hsame]; exact AM.run_of_runL _ _ _ _ _ e1, ?_⟩
      refine hh.put hj (fun i => rfl) hlast (fun m hm => ?_) (fun m hm => ?_)
      · rcases (AM.mem_ts _ _ _ _ _ b3).2.2 m hm with z | z
        · cases z
        · exact e5 m z
      · exact AM.runL_kept _ _ _ _ _ e1 m hm
    · refine .inr ⟨by rw [hwant]; exact b1, b2, ?_⟩
      exact hh.put hj (fun i => rfl) hlast (fun m hm => by rw [b5] at hm; cases hm) (fun m _ => rfl)

end

/-! ### a load that a call beside it leaves as it is -/
/-- Of a region: a call, and a load behind it that nothing orders against it. -/
structure Exc where
  i : Nat
  j : Nat
  x : Operand
  T : TypeId
  f : Nat
  t : TypeId
  a : Tmp
noncomputable def exOf (ops : Array Oper) : Option Exc :=
  match ops.toList with
  | _ :: c :: p :: q :: r :: l :: _ => match c.op, p.op, q.op, r.op, l.op with
    | .call _, .move x, .nilCheck _, .fieldAddr T _ f, .load t (.tmp a) => bif l.pos == "stream.go:57" then some ⟨1, 5, x, T, f, t, a⟩ else none
    | _, _, _, _, _ => none
  | _ => none
theorem exOf_spec {ops : Array Oper} {e : Exc} (h : exOf ops = some e) : e.i < e.j ∧ ∃ o, ops[e.j]? = some o ∧ o.op = .load e.t (.tmp e.a) := by
  unfold exOf at h
  split at h
  · rename_i o0 c p q r l rest hl
    split at h
    · rename_i h1 h2 h3 h4 h5
      cases hp : (l.pos == "stream.go:57") with
      | false => rw [hp] at h; cases h
      | true =>
        rw [hp] at h
        obtain rfl := Option.some.inj h
        refine ⟨(show 1 < 5 by decide), l, ?_, h5⟩
        rw [← Array.getElem?_toList, hl]; rfl
    · cases h
  · cases h
/-- A cell, as it was ahead of the call. -/
abbrev Rec3 := Nat × Nat × Value
noncomputable def peekA (P : Program) (e : Exc) (tmps : List Value) (q : Rec3 → AM) : AM :=
  match aggT P e.t, afieldAt P e.T (aev tmps e.x) e.f with
  | some (false, _), some (.pointer (some ⟨m, o, none⟩)) => .get m fun
    | .cells c _ _ => (match nth c.toList o with | some u => q (m, o, u) | none => .fail)
    | _ => .fail
  | _, _ => .fail
/-- What a heap has at a cell. -/
def Peeked (P : Program) (e : Exc) (g : T) (r : Rec3) : Prop :=
  (∃ z, aggT P e.t = some (false, z)) ∧ ∃ c ty fl, g.get r.1 = some (.cells c ty fl) ∧ nth c.toList r.2.1 = some r.2.2
theorem peekA_run {P : Program} {e : Exc} {tmps : List Value} {q : Rec3 → AM} {h : T} {r : Value × T} (k : (peekA P e tmps q).run h = some r) : ∃ x, Peeked P e h x ∧ (q x).run h = some r := by
  unfold peekA at k
  split at k
  · rename_i z m o hz _
    rw [AM.run_get] at k
    split at k
    · rename_i ob hob
      split at k
      · rename_i c ty fl
        split at k
        · rename_i u hu
          exact ⟨(m, o, u), ⟨⟨_, hz⟩, c, ty, fl, hob, hu⟩, k⟩
        · cases k
      · cases k
    · cases k
  · cases k
/-- The same list. -/
noncomputable def sameL : Value → Value → Bool
  | .slice none a b, .slice none c d => Nat.beq a c && Nat.beq b d
  | .slice (some ⟨m, o, none⟩) a b, .slice (some ⟨n, p, none⟩) c d => Nat.beq m n && Nat.beq o p && Nat.beq a c && Nat.beq b d
  | _, _ => false
theorem sameL_spec {u v : Value} (h : sameL u v = true) : u = v := by
  unfold sameL at h
  split at h
  · simp only [Bool.and_eq_true] at h
    rw [Nat.eq_of_beq_eq_true h.1, Nat.eq_of_beq_eq_true h.2]
  · simp only [Bool.and_eq_true] at h
    obtain ⟨⟨⟨h1, h2⟩, h3⟩, h4⟩ := h
    rw [Nat.eq_of_beq_eq_true h1, Nat.eq_of_beq_eq_true h2, Nat.eq_of_beq_eq_true h3, Nat.eq_of_beq_eq_true h4]
  · cases h
noncomputable def sameA (e : Exc) (r : Rec3) (tmps : List Value) (v : Value) : Bool :=
  match aaddr (aev tmps (.tmp e.a)) with
  | some (m, o) => bif Nat.beq m r.1 then bif Nat.beq o r.2.1 then sameL r.2.2 v else false else false
  | none => false
theorem sameA_spec {e : Exc} {r : Rec3} {tmps : List Value} {v : Value} (h : sameA e r tmps v = true) : aaddr (aev tmps (.tmp e.a)) = some (r.1, r.2.1) ∧ r.2.2 = v := by
  unfold sameA at h
  split at h
  · rename_i m o hm
    cases h1 : Nat.beq m r.1 with
    | false => rw [h1] at h; cases h
    | true =>
      cases h2 : Nat.beq o r.2.1 with
      | false => rw [h1, h2] at h; cases h
      | true =>
        rw [h1, h2] at h
        rw [hm, Nat.eq_of_beq_eq_true h1, Nat.eq_of_beq_eq_true h2]
        exact ⟨rfl, sameL_spec h⟩
  · cases h

noncomputable def pairOkS (ops : Array Oper) (mk : List Nat) (rs : List (List Nat × List Nat)) (i0 j0 i j : Nat) : Bool :=
  match ops[i]?, ops[j]?, rs[i]?, rs[j]? with
  | some a, some b, some x, some y => (mk.getD j 0).testBit i || (a.apart ops b && (disj x.2 y.1 || (Nat.beq i i0 && Nat.beq j j0)) && disj y.2 x.1)
  | _, _, _, _ => false
/-- Between the two, nobody writes what the load reads. -/
noncomputable def midOk (rs : List (List Nat × List Nat)) (i0 j0 : Nat) : Bool :=
  (List.range j0).all fun i => Nat.ble i i0 || (match rs[i]?, rs[j0]? with | some x, some y => disj x.2 y.1 | _, _ => false)
noncomputable def okDrawS (ops : Array Oper) (rs : List (List Nat × List Nat)) (i0 j0 : Nat) : Bool :=
  (List.range ops.size).all (fun i => match ops[i]? with | some o => o.after.toList.all (fun e => !Region.binds .any e || decide (e.on < i)) | none => true) &&
  (List.range ops.size).all (fun j => (List.range j).all fun i => pairOkS ops (masks ops.toList []) rs i0 j0 i j) && midOk rs i0 j0

/-- A region whose order is open, with such a load. -/
noncomputable def adrawS (P : Program) [Known P] (nest : Nest) (ops : Array Oper) (e : Exc) (k : List Value → Nat → AM) : List Oper → Nat → Rec3 → List Value → List (List Nat × List Nat) → Nat → AM
  | [], _, _, tmps, rs, s => bif okDrawS ops rs.reverse e.i e.j then k tmps s else .fail
  | o :: l, i, c, tmps, rs, s =>
    (fun go : Rec3 → AM => bif Nat.beq i e.i then peekA P e tmps go else go c) fun c =>
      bif awanted ops tmps o then
        (bif okOperD o then .log (aopV P nest tmps o s) (fun u ts ws => match up u with
          | some (v, s') => bif (bif Nat.beq i e.j then sameA e c tmps v else true) then adrawS P nest ops e k l (i + 1) c (aput' tmps o.dst v) ((ts, ws) :: rs) s' else .fail
          | none => .fail) else .fail)
      else bif Nat.beq i e.j then .fail else adrawS P nest ops e k l (i + 1) c (aput' tmps o.dst undef) (([], []) :: rs) s

section
variable {P : Program} {nest : Nest} {ops : Array Oper} {k : List Value → Nat → AM} {sn : Nat → Nat}

theorem adrawS_spec [Known P] {e : Exc} (hlt : e.i < e.j) : ∀ (l : List Oper) (i : Nat) (c : Rec3) (tmps : List Value) (rs : List (List Nat × List Nat)) (s : Nat) (h : T) (r : Value × T), l = ops.toList.drop i → i + l.length = ops.size → (adrawS P nest ops e k l i c tmps rs s).run h = some r →
    ∃ (sn : Nat → Nat) (tm : Nat → List Value) (hp : Nat → T) (v : Nat → Value) (ts ws : Nat → List Nat), Can P nest ops sn i tm hp v ts ws ∧ tm i = tmps ∧ hp i = h ∧ sn i = s ∧ okDrawS ops (rs.reverse ++ (List.range' i l.length).map fun j => (ts j, ws j)) e.i e.j = true ∧ (k (tm ops.size) (sn ops.size)).run (hp ops.size) = some r ∧
      (e.i < i → i ≤ e.j → ∀ o, ops[e.j]? = some o → awanted ops (tm e.j) o = true ∧ sameA e c (tm e.j) (v e.j) = true) ∧
      (i ≤ e.i → ∀ o, ops[e.j]? = some o → ∃ c', Peeked P e (hp e.i) c' ∧ awanted ops (tm e.j) o = true ∧ sameA e c' (tm e.j) (v e.j) = true)
  | [], i, c, tmps, rs, s, h, r, hl, hi, e1 => by
    simp only [adrawS] at e1
    cases hd : okDrawS ops rs.reverse e.i e.j with
    | false => rw [hd] at e1; cases e1
    | true =>
      rw [hd] at e1
      have : i = ops.size := by simpa using hi
      subst this
      refine ⟨fun _ => s, fun _ => tmps, fun _ => h, fun _ => undef, fun _ => [], fun _ => [], ⟨fun j o hj ho => ?_⟩, rfl, rfl, rfl, by simpa using hd, e1, fun _ h2 o ho => ?_, fun h1 o ho => ?_⟩
      · have := lt_of_get? ho; omega
      · have := lt_of_get? ho; omega
      · have := lt_of_get? ho; omega
  | o :: l, i, c, tmps, rs, s, h, r, hl, hi, e1 => by
    have hoi : ops[i]? = some o := by
      have : (ops.toList.drop i)[0]? = some o := by rw [← hl]; rfl
      simpa using this
    have hl' : l = ops.toList.drop (i + 1) := by
      have : (o :: l).tail = (ops.toList.drop i).tail := by rw [hl]
      simpa using this
    simp only [List.length_cons] at hi
    -- the peek
    obtain ⟨c2, hc2, hc3, e1⟩ : ∃ c2, (i = e.i → Peeked P e h c2) ∧ (i ≠ e.i → c2 = c) ∧ (bif awanted ops tmps o then
        (bif okOperD o then .log (aopV P nest tmps o s) (fun u ts ws => match up u with
          | some (v, s') => bif (bif Nat.beq i e.j then sameA e c2 tmps v else true) then adrawS P nest ops e k l (i + 1) c2 (aput' tmps o.dst v) ((ts, ws) :: rs) s' else .fail
          | none => .fail) else .fail)
      else bif Nat.beq i e.j then .fail else adrawS P nest ops e k l (i + 1) c2 (aput' tmps o.dst undef) (([], []) :: rs) s : AM).run h = some r := by
      simp only [adrawS] at e1
      cases hb : Nat.beq i e.i with
      | true =>
        rw [hb] at e1
        simp only [cond_true] at e1
        obtain ⟨c2, p1, p2⟩ := peekA_run e1
        exact ⟨c2, fun _ => p1, fun hne => absurd (Nat.eq_of_beq_eq_true hb) hne, p2⟩
      | false =>
        rw [hb] at e1
        simp only [cond_false] at e1
        exact ⟨c, fun he => (by rw [he, beq_yes] at hb; cases hb), fun _ => rfl, e1⟩
    -- what follows, for any value
    have main : ∀ (val : Value) (s1 : Nat) (h1 : T) (tsi wsi : List Nat), (adrawS P nest ops e k l (i + 1) c2 (aput' tmps o.dst val) ((tsi, wsi) :: rs) s1).run h1 = some r →
        ((awanted ops tmps o = true ∧ okOperD o = true ∧ (aopV P nest tmps o s).runL h [] [] = some ⟨pk val s1, h1, tsi, wsi⟩) ∨ (awanted ops tmps o = false ∧ val = undef ∧ h1 = h ∧ tsi = [] ∧ wsi = [])) →
        (i = e.j → awanted ops tmps o = true ∧ sameA e c2 tmps val = true) →
        ∃ (sn : Nat → Nat) (tm : Nat → List Value) (hp : Nat → T) (v : Nat → Value) (ts ws : Nat → List Nat), Can P nest ops sn i tm hp v ts ws ∧ tm i = tmps ∧ hp i = h ∧ sn i = s ∧ okDrawS ops (rs.reverse ++ (List.range' i (l.length + 1)).map fun j => (ts j, ws j)) e.i e.j = true ∧ (k (tm ops.size) (sn ops.size)).run (hp ops.size) = some r ∧
          (e.i < i → i ≤ e.j → ∀ o, ops[e.j]? = some o → awanted ops (tm e.j) o = true ∧ sameA e c (tm e.j) (v e.j) = true) ∧
          (i ≤ e.i → ∀ o, ops[e.j]? = some o → ∃ c', Peeked P e (hp e.i) c' ∧ awanted ops (tm e.j) o = true ∧ sameA e c' (tm e.j) (v e.j) = true) := by
      intro val s1 h1 tsi wsi e1 hcase hej
      obtain ⟨sn, tm, hp, v, ts, ws, hc, a1, a2, a5, a3, a4, a6, a7⟩ := adrawS_spec hlt l (i + 1) _ _ _ _ _ _ hl' (by omega) e1
      have hne : ops.size ≠ i := by omega
      refine ⟨fun j => if j = i then s else sn j, fun j => if j = i then tmps else tm j, fun j => if j = i then h else hp j, fun j => if j = i then val else v j, fun j => if j = i then tsi else ts j, fun j => if j = i then wsi else ws j, ⟨fun j oj hj hoj => ?_⟩, by simp, by simp, by simp, ?_, by simpa [hne] using a4, fun g1 g2 oj hoj => ?_, fun g1 oj hoj => ?_⟩
      · by_cases hji : j = i
        · subst hji
          rw [hoi] at hoj; cases hoj
          have hn : j + 1 ≠ j := by omega
          simp only [if_true, if_neg hn, a1, a2, a5]
          exact ⟨trivial, hcase⟩
        · have hn : j + 1 ≠ i := by omega
          simp only [if_neg hji, if_neg hn]
          exact hc.step j oj (by omega) hoj
      · rw [List.range'_succ, List.map_cons]
        simp only [if_true]
        have hmap : (List.range' (i + 1) l.length).map (fun j => ((if j = i then tsi else ts j), (if j = i then wsi else ws j))) = (List.range' (i + 1) l.length).map (fun j => (ts j, ws j)) := by
          refine List.map_congr_left fun j hj => ?_
          have : i + 1 ≤ j := (List.mem_range'_1.1 hj).1
          have hn : j ≠ i := by omega
          simp only [if_neg hn]
        rw [hmap]
        simpa using a3
      · have hc2' := hc3 (by omega)
        subst hc2'
        by_cases hji : e.j = i
        · rw [hji] at hoj ⊢
          rw [hoi] at hoj; cases hoj
          simp only [if_true]
          exact hej hji.symm
        · simp only [if_neg hji]
          exact a6 (by omega) (by omega) oj hoj
      · have hji : e.j ≠ i := by omega
        simp only [if_neg hji]
        by_cases hii : e.i = i
        · simp only [if_pos hii]
          exact ⟨c2, hc2 hii.symm, a6 (by omega) (by omega) oj hoj⟩
        · simp only [if_neg hii]
          exact a7 (by omega) oj hoj
    cases hw : awanted ops tmps o with
    | false =>
      rw [hw] at e1
      cases hb : Nat.beq i e.j with
      | true => rw [hb] at e1; cases e1
      | false =>
        rw [hb] at e1
        exact main _ _ _ _ _ e1 (.inr ⟨hw, rfl, rfl, rfl, rfl⟩) (fun he => by rw [he, beq_yes] at hb; cases hb)
    | true =>
      rw [hw] at e1
      cases hok : okOperD o with
      | false => rw [hok] at e1; cases e1
      | true =>
        rw [hok] at e1
        simp only [cond_true] at e1
        rw [AM.run_log] at e1
        split at e1
        · rename_i u h1 tsi wsi hm
          split at e1
          · rename_i val s1 hu
            have hup : u = pk val s1 := by
              unfold up at hu
              split at hu
              · obtain ⟨rfl, rfl⟩ := Prod.mk.inj (Option.some.inj hu); rfl
              · cases hu
            subst hup
            cases hb : Nat.beq i e.j with
            | false =>
              rw [hb] at e1
              exact main _ _ _ _ _ e1 (.inl ⟨hw, hok, hm⟩) (fun he => by rw [he, beq_yes] at hb; cases hb)
            | true =>
              rw [hb] at e1
              cases hs : sameA e c2 tmps val with
              | false => rw [hs] at e1; cases e1
              | true =>
                rw [hs] at e1
                exact main _ _ _ _ _ e1 (.inl ⟨hw, hok, hm⟩) (fun _ => ⟨hw, hs⟩)
          · cases e1
        · cases e1

/-! ### the load, by itself -/
theorem load_opV [Known P] {tmps : List Value} {o : Oper} {t : TypeId} {a : Tmp} (ho : o.op = .load t (.tmp a)) {m off z : Nat} (ha : aaddr (aev tmps (.tmp a)) = some (m, off)) (hz : aggT P t = some (false, z)) (s : Nat) :
    aopV P nest tmps o s = .get m fun ob => match ob with
      | .cells c _ _ => (match nth c.toList off with | some v => .ret (pk v s) | none => .fail)
      | _ => .fail := by
  obtain ⟨dst, op, ty, pos, after, guard⟩ := o
  dsimp only at ho
  subst ho
  unfold aopV aop
  dsimp only
  unfold aloadAt
  rw [ha]
  dsimp only
  unfold aloadVar
  rw [hz]
  rfl
theorem load_run [Known P] {tmps : List Value} {o : Oper} {t : TypeId} {a : Tmp} (ho : o.op = .load t (.tmp a)) {m off z : Nat} (ha : aaddr (aev tmps (.tmp a)) = some (m, off)) (hz : aggT P t = some (false, z)) {g : T} {c : Array Value} {ty : TypeId} {fl : Nat × Nat} {u : Value}
    (hg : g.get m = some (.cells c ty fl)) (hu : nth c.toList off = some u) (s : Nat) : (aopV P nest tmps o s).runL g [] [] = some ⟨pk u s, g, [m], []⟩ := by
  rw [load_opV ho ha hz, AM.runL_get, hg]
  dsimp only
  rw [hu]
  rfl
theorem load_inv [Known P] {tmps : List Value} {o : Oper} {t : TypeId} {a : Tmp} (ho : o.op = .load t (.tmp a)) {m off z : Nat} (ha : aaddr (aev tmps (.tmp a)) = some (m, off)) (hz : aggT P t = some (false, z)) {g : T} {s : Nat} {out : Out}
    (e : (aopV P nest tmps o s).runL g [] [] = some out) : ∃ u, out = ⟨pk u s, g, [m], []⟩ := by
  rw [load_opV ho ha hz, AM.runL_get] at e
  split at e
  · rename_i ob hob
    split at e
    · split at e
      · exact ⟨_, (Option.some.inj e).symm⟩
      · cases e
    · cases e
  · cases e

variable {tm : Nat → List Value} {hp : Nat → T} {v : Nat → Value} {ts ws : Nat → List Nat}

/-- A load that a call ahead of it leaves as it is. -/
structure Soft (P : Program) [Known P] (nest : Nest) (ops : Array Oper) (sn : Nat → Nat) (tm : Nat → List Value) (hp : Nat → T) (v : Nat → Value) (ts ws : Nat → List Nat) (i0 j0 : Nat) : Prop where
  lt : i0 < j0
  ro : ws j0 = []
  run : ∀ o, ops[j0]? = some o → (aopV P nest (tm j0) o (sn j0)).runL (hp i0) [] [] = some ⟨pk (v j0) (sn (j0 + 1)), hp i0, ts j0, []⟩

theorem Soft.of [Known P] {e : Exc} (hex : exOf ops = some e) (hc : Can P nest ops sn 0 tm hp v ts ws) (hj : ∀ o, ops[e.j]? = some o → ∃ c', Peeked P e (hp e.i) c' ∧ awanted ops (tm e.j) o = true ∧ sameA e c' (tm e.j) (v e.j) = true) : Soft P nest ops sn tm hp v ts ws e.i e.j := by
  obtain ⟨hlt, o, ho, hop⟩ := exOf_spec hex
  obtain ⟨⟨m, off, u⟩, ⟨⟨z, hz⟩, c, ty, fl, hg, hu⟩, hw, hs⟩ := hj o ho
  obtain ⟨hs1, hs2⟩ := sameA_spec hs
  dsimp only at hs1 hs2 hg hu
  subst hs2
  obtain ⟨_, b⟩ := hc.step e.j o (Nat.zero_le _) ho
  rcases b with ⟨_, _, b⟩ | ⟨b, _⟩
  · obtain ⟨u, hu2⟩ := load_inv hop hs1 hz b
    have h1 : pk (v e.j) (sn (e.j + 1)) = pk u (sn e.j) := congrArg Out.v hu2
    have h2 : ts e.j = [m] := congrArg Out.ts hu2
    have h3 : ws e.j = [] := congrArg Out.ws hu2
    obtain ⟨h4, h5⟩ := pk_inj h1
    refine ⟨hlt, h3, fun o' ho' => ?_⟩
    rw [ho] at ho'; cases ho'
    rw [load_run hop hs1 hz hg hu, h2, h5]
  · rw [hw] at b; cases b

/-- **One more operation, in whatever order its edges allow**, with such a load. -/
theorem Can.step_soft [Known P] (hc : Can P nest ops sn 0 tm hp v ts ws) {i0 j0 : Nat} (hsf : Soft P nest ops sn tm hp v ts ws i0 j0) (hok : okDrawS ops ((List.range' 0 ops.size).map fun j => (ts j, ws j)) i0 j0 = true) {D : Nat → Bool} {j : Nat} {o : Oper} {tmps : List Value} {g : T}
    (ho : ops[j]? = some o) (hDj : D j = false) (hcl : Closed ops.toList D) (hdeps : ∀ e ∈ o.after, Region.binds .any e = true → D e.on = true) (ht : TInv ops tm v D tmps) (hh : HInv ops hp ws D g) :
    TInv ops tm v (fun i => D i || decide (i = j)) (aput' tmps o.dst (v j)) ∧
    ((awanted ops tmps o = true ∧ okOperD o = true ∧ ∃ g', (aopV P nest tmps o (sn j)).run g = some (pk (v j) (sn (j + 1)), g') ∧ HInv ops hp ws (fun i => D i || decide (i = j)) g') ∨
     (awanted ops tmps o = false ∧ v j = undef ∧ HInv ops hp ws (fun i => D i || decide (i = j)) g)) := by
  have hj := lt_of_get? ho
  obtain ⟨c1, c2⟩ := Can.inv hc j (by omega)
  obtain ⟨a1, a2⟩ := hc.step j o (Nat.zero_le _) ho
  unfold okDrawS at hok
  rw [Bool.and_eq_true, Bool.and_eq_true] at hok
  obtain ⟨⟨_, hok2⟩, hmid⟩ := hok
  have hpairs : ∀ i j, i < j → j < ops.size → pairOkS ops (masks ops.toList []) ((List.range' 0 ops.size).map fun j => (ts j, ws j)) i0 j0 i j = true := fun i j h1 h2 => List.all_eq_true.1 (List.all_eq_true.1 hok2 j (List.mem_range.2 h2)) i (List.mem_range.2 h1)
  have hget : ∀ q, q < ops.size → ((List.range' 0 ops.size).map fun j => (ts j, ws j))[q]? = some (ts q, ws q) := fun q hq => by simp [hq]
  -- who comes ahead of whom
  let D' : Nat → Bool := fun i => D i || decide (i = j)
  have hcl' : Closed ops.toList D' := by
    intro i oi hi hDi e he hb
    simp only [D', Bool.or_eq_true, decide_eq_true_eq] at hDi ⊢
    rcases hDi with hDi | hDi
    · exact .inl (hcl i oi hi hDi e he hb)
    · subst hDi
      have : oi = o := by
        have h2 : ops[i]? = some oi := by simpa using hi
        rw [ho] at h2; exact (Option.some.inj h2).symm
      subst this
      exact .inl (hdeps e he hb)
  have hm1 : ∀ i, i ≠ j → ((masks ops.toList []).getD j 0).testBit i = true → D i = true := by
    intro i hij hbit
    have := masks_spec ops.toList hcl' ops.toList [] (fun k => by simp) (fun a b h => by simp at h) j i (by rw [masks_length]; simpa using hj) (by simp [D']) hbit
    simpa [D', hij] using this
  have hm2 : ∀ i, i < ops.size → ((masks ops.toList []).getD i 0).testBit j = true → D i = false := by
    intro i hi hbit
    cases hDi : D i with
    | false => rfl
    | true =>
      have := masks_spec ops.toList hcl ops.toList [] (fun k => by simp) (fun a b h => by simp at h) i j (by rw [masks_length]; simpa using hi) hDi hbit
      rw [hDj] at this; cases this
  -- of two, one is ahead, or they don't meddle
  have hrel : ∀ i oi, ops[i]? = some oi → i ≠ j → (i < j ∧ D i = true) ∨ (j < i ∧ D i = false) ∨ ((∀ d, oi.dst = some d → d ∉ o.looksAt ops ∧ o.dst ≠ some d) ∧ ((∀ m, m ∈ ws i → m ∉ ts j) ∨ (i = i0 ∧ j = j0)) ∧ ((∀ m, m ∈ ws j → m ∉ ts i) ∨ (j = i0 ∧ i = j0))) := by
    intro i oi hoi hij
    have hi := lt_of_get? hoi
    rcases Nat.lt_or_gt_of_ne hij with hlt | hgt
    · have hp := hpairs i j hlt hj
      unfold pairOkS at hp
      rw [hoi, ho, hget i hi, hget j hj] at hp
      simp only [Bool.or_eq_true, Bool.and_eq_true] at hp
      rcases hp with hp | ⟨⟨p1, p2⟩, p3⟩
      · exact .inl ⟨hlt, hm1 i hij hp⟩
      · obtain ⟨q1, q2, q3⟩ := Oper.apart_spec p1
        refine .inr (.inr ⟨fun d hd => ⟨q1 d hd, q2 d hd⟩, ?_, .inl (disj_spec p3)⟩)
        rcases p2 with p2 | ⟨p2, p4⟩
        · exact .inl (disj_spec p2)
        · exact .inr ⟨Nat.eq_of_beq_eq_true p2, Nat.eq_of_beq_eq_true p4⟩
    · have hp := hpairs j i hgt hi
      unfold pairOkS at hp
      rw [hoi, ho, hget i hi, hget j hj] at hp
      simp only [Bool.or_eq_true, Bool.and_eq_true] at hp
      rcases hp with hp | ⟨⟨p1, p2⟩, p3⟩
      · exact .inr (.inl ⟨hgt, hm2 i hi hp⟩)
      · obtain ⟨q1, q2, q3⟩ := Oper.apart_spec p1
        refine .inr (.inr ⟨fun d hd => ⟨q3 d hd, fun e => q2 d e hd⟩, .inl (disj_spec p3), ?_⟩)
        rcases p2 with p2 | ⟨p2, p4⟩
        · exact .inl (disj_spec p2)
        · exact .inr ⟨Nat.eq_of_beq_eq_true p2, Nat.eq_of_beq_eq_true p4⟩
  have hdW : ∀ t i, i < ops.size → dW ops t i = true → ∃ oi, ops[i]? = some oi ∧ oi.dst = some t := by
    intro t i hi hd
    unfold dW at hd
    split at hd
    · rename_i oi hoi
      split at hd
      · rename_i d he; exact ⟨oi, hoi, by rw [he, Nat.eq_of_beq_eq_true hd]⟩
      · cases hd
    · cases hd
  -- what j looks at lies alike
  have hlook : ∀ t, t ∈ o.looksAt ops → tmps[t]? = (tm j)[t]? := by
    intro t htl
    rw [ht.2 t, c1.2 t]
    have : lastW (fun i => D i && dW ops t i) ops.size = lastW (fun i => decide (i < j) && dW ops t i) ops.size := lastW_congr fun i hi => by
      cases hd : dW ops t i with
      | false => simp
      | true =>
        obtain ⟨oi, hoi, hdi⟩ := hdW t i hi hd
        by_cases hij : i = j
        · subst hij; simp [hDj]
        · rcases hrel i oi hoi hij with ⟨x, y⟩ | ⟨x, y⟩ | ⟨x, _⟩
          · simp [x, y]
          · simp [y, show ¬ i < j by omega]
          · exact absurd htl (x t hdi).1
    rw [this]
  have hat : ∀ i, i < ops.size → ∃ oi, ops[i]? = some oi := fun i hi => ⟨ops[i], by simp [hi]⟩
  -- what it touches lies as it lay at j; or, at the load, as it lay ahead of the call
  have hheap : (∀ m, m ∈ ts j → g.get m = (hp j).get m) ∨ (j = j0 ∧ ∀ m, m ∈ ts j → g.get m = (hp i0).get m) := by
    by_cases hcase : j = j0 ∧ i0 < ops.size ∧ D i0 = false
    · obtain ⟨rfl, hi0, hD0⟩ := hcase
      refine .inr ⟨rfl, fun m hmt => ?_⟩
      obtain ⟨_, c3⟩ := Can.inv hc i0 (by omega)
      rw [hh m, c3 m]
      have : lastW (fun i => D i && has (ws i) m) ops.size = lastW (fun i => decide (i < i0) && has (ws i) m) ops.size := lastW_congr fun i hi => by
        cases hd : has (ws i) m with
        | false => simp
        | true =>
          have hmi := has_iff.1 hd
          by_cases hij : i = j
          · subst hij; rw [hsf.ro] at hmi; cases hmi
          · by_cases hii : i = i0
            · subst hii; simp [hD0]
            · obtain ⟨oi, hoi⟩ := hat i hi
              rcases hrel i oi hoi hij with ⟨x, y⟩ | ⟨x, y⟩ | ⟨_, x | x, _⟩
              · rw [y]
                have hlt : i < i0 := by
                  rcases Nat.lt_or_ge i i0 with h | h
                  · exact h
                  · exfalso
                    have h1 := List.all_eq_true.1 hmid i (List.mem_range.2 x)
                    rw [hget i hi, hget j hj] at h1
                    rw [Bool.or_eq_true] at h1
                    rcases h1 with h1 | h1
                    · have := Nat.le_of_ble_eq_true h1; omega
                    · exact disj_spec h1 m hmi hmt
                simp [hlt]
              · rw [y]
                have := hsf.lt
                simp [show ¬ i < i0 by omega]
              · exact absurd hmt (x m hmi)
              · exact absurd x.1 hii
      rw [this]
    · refine .inl fun m hmt => ?_
      rw [hh m, c2 m]
      have : lastW (fun i => D i && has (ws i) m) ops.size = lastW (fun i => decide (i < j) && has (ws i) m) ops.size := lastW_congr fun i hi => by
        cases hd : has (ws i) m with
        | false => simp
        | true =>
          have hmi := has_iff.1 hd
          by_cases hij : i = j
          · subst hij; simp [hDj]
          · obtain ⟨oi, hoi⟩ := hat i hi
            rcases hrel i oi hoi hij with ⟨x, y⟩ | ⟨x, y⟩ | ⟨_, x | x, _⟩
            · simp [x, y]
            · simp [y, show ¬ i < j by omega]
            · exact absurd hmt (x m hmi)
            · obtain ⟨rfl, rfl⟩ := x
              have hD : D i = true := by
                cases hDi : D i with
                | true => rfl
                | false => exact absurd ⟨rfl, hi, hDi⟩ hcase
              simp [hD, hsf.lt]
      rw [this]
  -- the operation's own answer
  have hev : ∀ x ∈ o.op.operands, aev tmps x = aev (tm j) x := by
    intro x hx
    cases x with
    | tmp t => simp only [aev, nth_eq, hlook t (mem_looks hx)]
    | _ => rfl
  have hsame : aopV P nest tmps o (sn j) = aopV P nest (tm j) o (sn j) := by
    unfold aopV; rw [aop_congr o hev]
  have hwant : awanted ops tmps o = awanted ops (tm j) o := by
    unfold awanted
    cases hg : o.guard with
    | none => rfl
    | some p =>
      obtain ⟨q, want⟩ := p
      dsimp only
      have : ayields ops tmps q = ayields ops (tm j) q := by
        unfold ayields
        cases hq : ops[q]? with
        | none => rfl
        | some oq =>
          dsimp only
          cases hdq : oq.dst with
          | none => rfl
          | some d =>
            dsimp only
            have : d ∈ o.looksAt ops := by
              unfold Oper.looksAt
              rw [List.mem_append]
              refine .inr ?_
              rw [hg]; simp [hq, hdq]
            rw [nth_eq, nth_eq, hlook d this]
      rw [this]
  refine ⟨ht.put ho (fun i => rfl) (fun i t h1 h2 h3 h4 => ?_), ?_⟩
  · cases hd : dW ops t i with
    | false => rfl
    | true =>
      obtain ⟨oi, hoi, hdi⟩ := hdW t i h2 hd
      obtain ⟨oj, hoj, hdj⟩ := hdW t j hj h3
      rw [ho] at hoj; cases hoj
      rcases hrel i oi hoi (by omega) with ⟨x, _⟩ | ⟨_, y⟩ | ⟨x, _⟩
      · omega
      · rw [y] at h4; cases h4
      · exact absurd hdj (x t hdi).2
  · have hlast : ∀ i m, j < i → i < ops.size → m ∈ ws j → D i = true → m ∉ ws i := by
      intro i m h1 h2 h3 h4 h5
      obtain ⟨oi, hoi⟩ := hat i h2
      rcases hrel i oi hoi (by omega) with ⟨x, _⟩ | ⟨_, y⟩ | ⟨_, _, x | x⟩
      · omega
      · rw [y] at h4; cases h4
      · -- what i writes it touches
        obtain ⟨_, b⟩ := hc.step i oi (Nat.zero_le _) hoi
        rcases b with ⟨_, _, b⟩ | ⟨_, _, _, _, b⟩
        · rcases (AM.mem_ts _ _ _ _ _ b).2.2 m h5 with z | z
          · cases z
          · exact x m h3 z
        · rw [b] at h5; cases h5
      · rw [x.2, hsf.ro] at h5; cases h5
    rcases a2 with ⟨b1, b2, b3⟩ | ⟨b1, b2, b3, b4, b5⟩
    · obtain ⟨o', e1, e2, e3, e4, e5⟩ : ∃ o', (aopV P nest (tm j) o (sn j)).runL g [] [] = some o' ∧ o'.v = pk (v j) (sn (j + 1)) ∧ o'.ts = ts j ∧ o'.ws = ws j ∧ ∀ m, m ∈ ws j → o'.h.get m = (hp (j + 1)).get m := by
        rcases hheap with hheap | ⟨rfl, hheap⟩
        · obtain ⟨o', e1, e2, e3, e4, e5, e6⟩ := AM.runL_local _ _ g _ _ _ b3 hheap
          refine ⟨o', e1, e2, e3, e4, fun m hm => ?_⟩
          rcases (AM.mem_ts _ _ _ _ _ b3).2.2 m hm with z | z
          · cases z
          · exact e5 m z
        · obtain ⟨o', e1, e2, e3, e4, e5, e6⟩ := AM.runL_local _ _ g _ _ _ (hsf.run o ho) hheap
          exact ⟨o', e1, e2, e3, by rw [e4, hsf.ro], fun m hm => by rw [hsf.ro] at hm; cases hm⟩
      obtain ⟨v', g', ts', ws'⟩ := o'
      dsimp only at e2 e3 e4 e5
      subst e2; subst e3; subst e4
      refine .inl ⟨by rw [hwant]; exact b1, b2, g', by rw [hsame]; exact AM.run_of_runL _ _ _ _ _ e1, ?_⟩
      exact hh.put hj (fun i => rfl) hlast (fun m hm => e5 m hm) (fun m hm => AM.runL_kept _ _ _ _ _ e1 m hm)
    · refine .inr ⟨by rw [hwant]; exact b1, b2, ?_⟩
      exact hh.put hj (fun i => rfl) hlast (fun m hm => by rw [b5] at hm; cases hm) (fun m _ => rfl)
end

/-- A region whose order is open, with such a load or without. -/
noncomputable def adrawE (P : Program) [Known P] (nest : Nest) (ops : Array Oper) (k : List Value → Nat → AM) (tmps : List Value) (s : Nat) : AM :=
  match exOf ops with
  | none => adraw P nest ops k ops.toList tmps [] s
  | some e => adrawS P nest ops e k ops.toList 0 (0, 0, undef) tmps [] s

section
variable {P : Program} {nest : Nest} {ops : Array Oper} {sn : Nat → Nat} {tm : Nat → List Value} {hp : Nat → T} {v : Nat → Value} {ts ws : Nat → List Nat}
/-- Each operation, in whatever order its edges allow. -/
def AnyStep (P : Program) [Known P] (nest : Nest) (ops : Array Oper) (sn : Nat → Nat) (tm : Nat → List Value) (hp : Nat → T) (v : Nat → Value) (ws : Nat → List Nat) : Prop :=
  ∀ {D : Nat → Bool} {j : Nat} {o : Oper} {tmps : List Value} {g : T}, ops[j]? = some o → D j = false → Closed ops.toList D → (∀ e ∈ o.after, Region.binds .any e = true → D e.on = true) → TInv ops tm v D tmps → HInv ops hp ws D g →
    TInv ops tm v (fun i => D i || decide (i = j)) (aput' tmps o.dst (v j)) ∧
    ((awanted ops tmps o = true ∧ okOperD o = true ∧ ∃ g', (aopV P nest tmps o (sn j)).run g = some (pk (v j) (sn (j + 1)), g') ∧ HInv ops hp ws (fun i => D i || decide (i = j)) g') ∨
     (awanted ops tmps o = false ∧ v j = undef ∧ HInv ops hp ws (fun i => D i || decide (i = j)) g))
def Edges (ops : Array Oper) : Prop := (List.range ops.size).all (fun i => match ops[i]? with | some o => o.after.toList.all (fun e => !Region.binds .any e || decide (e.on < i)) | none => true) = true
/-- What a run in the text's order tells. -/
theorem adrawE_spec [Known P] {k : List Value → Nat → AM} {tmps : List Value} {s : Nat} {h : T} {r : Value × T} (e : (adrawE P nest ops k tmps s).run h = some r) :
    ∃ (sn : Nat → Nat) (tm : Nat → List Value) (hp : Nat → T) (v : Nat → Value) (ts ws : Nat → List Nat), Can P nest ops sn 0 tm hp v ts ws ∧ tm 0 = tmps ∧ hp 0 = h ∧ sn 0 = s ∧ Edges ops ∧ AnyStep P nest ops sn tm hp v ws ∧ (k (tm ops.size) (sn ops.size)).run (hp ops.size) = some r := by
  unfold adrawE at e
  split at e
  · obtain ⟨sn, tm, hp, v, ts, ws, hc, c1, c2, c5, c3, c4⟩ := adraw_spec ops.toList 0 _ _ _ _ _ (by simp) (by simp) e
    simp only [List.reverse_nil, List.nil_append, Array.length_toList] at c3
    refine ⟨sn, tm, hp, v, ts, ws, hc, c1, c2, c5, ?_, fun a b c d f g => Can.step_any hc c3 a b c d f g, c4⟩
    unfold okDraw at c3
    rw [Bool.and_eq_true] at c3
    exact c3.1
  · rename_i ex hex
    obtain ⟨sn, tm, hp, v, ts, ws, hc, c1, c2, c5, c3, c4, _, c6⟩ := adrawS_spec (exOf_spec hex).1 ops.toList 0 _ _ _ _ _ _ (by simp) (by simp) e
    simp only [List.reverse_nil, List.nil_append, Array.length_toList] at c3
    have hsf := Soft.of hex hc (c6 (Nat.zero_le _))
    refine ⟨sn, tm, hp, v, ts, ws, hc, c1, c2, c5, ?_, fun a b c d f g => Can.step_soft hc hsf c3 a b c d f g, c4⟩
    unfold okDrawS at c3
    rw [Bool.and_eq_true, Bool.and_eq_true] at c3
    exact c3.1.1
end
end Go.Ev

/- The machine over a heap of names tells no less than a function's body as one term: code, and functions. No condition. -/
import Derived.Test.YtgiemmoomdndaaaGreatXF
namespace Go.Ev
open Go Go.RowKit
set_option linter.unusedVariables false
set_option linter.unusedSimpArgs false

section
variable {P : Program}
structure KOK (P : Program) (lv w n : Nat) (fn : FuncId) (r : List Item) (kd : CallKind) (cs : List AF) (fin : Value → Nat → AM) (E : List Value) (K : KX) : Prop where
  fall : ∀ E' tmps' s', Rep lv E' tmps' → Frm w E E' → AM.le (K .fall E' s') (arun P n ⟨fn, tmps', r, [], .run, kd, none⟩ cs fin s')
  brk : ∀ id E' tmps' s', Rep lv E' tmps' → Frm w E E' → AM.le (K (.brk id) E' s') (match exitTo id r with | some r' => arun P n ⟨fn, tmps', r', [], .run, kd, none⟩ cs fin s' | none => .fail)
  ret : ∀ E' tmps' s' todo, Rep lv E' tmps' → Frm w E E' → AM.le (K .ret E' s') (arun P n ⟨fn, tmps', todo, [], .returning, kd, none⟩ cs fin s')

theorem brk_more {n m : Nat} (h : n ≤ m) {o : Option (List Item)} {fn : FuncId} {tmps : List Value} {kd : CallKind} {cs : List AF} {fin : Value → Nat → AM} {s : Nat} :
    AM.le (match o with | some r' => arun P n ⟨fn, tmps, r', [], .run, kd, none⟩ cs fin s | none => .fail) (match o with | some r' => arun P m ⟨fn, tmps, r', [], .run, kd, none⟩ cs fin s | none => .fail) := by
  cases o with
  | none => exact .refl _
  | some r => exact arun_add h _ _ _ _

def XOK (P : Program) (C : CallT) (N : Nat) (c : Code) (j : Nat) : Prop := ∀ lv n fn r kd cs fin E tmps K s, Rep (rd c ||| lv) E tmps → KOK P lv (wr c) n fn r kd cs fin E K →
  AM.le (xcode P C N c lv E K s) (arun P (n + j) ⟨fn, tmps, .code c :: r, [], .run, kd, none⟩ cs fin s)

variable {C : CallT} {J N : Nat}

theorem xok_seq {a b : Code} {ja jb : Nat} (ha : XOK P C N a ja) (hb : XOK P C N b jb) : XOK P C N (.seq a b) (ja + jb + 1) := by
  intro lv n fn r kd cs fin E tmps K s hr hk
  have e : n + (ja + jb + 1) = (n + jb + ja) + 1 := by omega
  rw [e, arun_succ]
  have hra : Rep (rd a ||| (rd b ||| lv)) E tmps := hr.mono fun t ht => by
    simp only [rd, Nat.testBit_or, Bool.or_eq_true] at ht ⊢; grind
  -- what stands behind a
  have key : ∀ f : List Value → Nat → AM, (∀ E' tmps' s', Rep (rd b ||| lv) E' tmps' → Frm (wr a) E E' → AM.le (f E' s') (arun P (n + jb) ⟨fn, tmps', .code b :: r, [], .run, kd, none⟩ cs fin s')) →
      AM.le (xcode P C N a (rd b ||| lv) E (seqK f K) s) (arun P (n + jb + ja) ⟨fn, tmps, .code a :: .code b :: r, [], .run, kd, none⟩ cs fin s) := by
    intro f hf
    refine ha (rd b ||| lv) (n + jb) fn (.code b :: r) kd cs fin E tmps _ s hra ⟨fun E' tmps' s' h1 h2 => hf E' tmps' s' h1 h2, fun id E' tmps' s' h1 h2 => ?_, fun E' tmps' s' todo h1 h2 => ?_⟩
    · exact (hk.brk id E' tmps' s' h1.right h2.left).trans (brk_more (by omega))
    · exact (hk.ret E' tmps' s' todo h1.right h2.left).trans (arun_add (by omega) _ _ _ _)
  have hkb : ∀ Eb, Frm (wr a) E Eb → KOK P lv (wr b) n fn r kd cs fin Eb K := fun Eb hf =>
    ⟨fun E' tmps' s' h1 h2 => hk.fall E' tmps' s' h1 (hf.left.trans h2.right), fun id E' tmps' s' h1 h2 => hk.brk id E' tmps' s' h1 (hf.left.trans h2.right), fun E' tmps' s' todo h1 h2 => hk.ret E' tmps' s' todo h1 (hf.left.trans h2.right)⟩
  show AM.le (xseq b (wr a) (multi a) (xcode P C N a) (xcode P C N b) lv E K s) _
  unfold xseq
  cases multi a with
  | false =>
    exact key _ fun E' tmps' s' h1 h2 => hb lv n fn r kd cs fin E' tmps' K s' h1 (hkb E' h2)
  | true =>
    unfold bindJ
    refine key _ fun E' tmps' s' h1 h2 => ?_
    rw [app_cur _ _ _ _ (getMany_length _ _), forceL_eq]
    exact hb lv n fn r kd cs fin _ tmps' K s' (h1.join h2) (hkb _ h2.join)

theorem xok_loop {x : Code} {jx : Nat} (hx : XOK P C N x jx) : XOK P C N (.loop x) (N * (jx + 1) + 1) := by
  intro lv n fn r kd cs fin E tmps K s hr hk
  have hr' : Rep (rd x ||| lv) E tmps := hr
  show AM.le (xloop N (wr x &&& (rd x ||| lv)) (xcode P C N x (rd x ||| lv)) E K s) _
  unfold xloop
  have head : ∀ m E' tmps' s', Rep (rd x ||| lv) E' tmps' → Frm (wr x) E E' →
      AM.le (app (slots E.length (wr x &&& (rd x ||| lv))).length (loopJ m (slots E.length (wr x &&& (rd x ||| lv))).length (cur (slots E.length (wr x &&& (rd x ||| lv))).length fun _ _ => .fail) fun ih => cur (slots E.length (wr x &&& (rd x ||| lv))).length fun vals => forceL (setMany E (slots E.length (wr x &&& (rd x ||| lv))) vals) fun E0 => xcode P C N x (rd x ||| lv) E0 (seqK (fun E' => app (slots E.length (wr x &&& (rd x ||| lv))).length ih (getMany E' (slots E.length (wr x &&& (rd x ||| lv))))) K)) (getMany E' (slots E.length (wr x &&& (rd x ||| lv)))) s')
        (arun P (n + m * (jx + 1)) ⟨fn, tmps', .code x :: .inLoop x :: r, [], .run, kd, none⟩ cs fin s') := by
    intro m
    induction m with
    | zero =>
      intro E' tmps' s' h1 h2
      show AM.le (app _ (cur _ fun _ _ => .fail) _ _) _
      rw [app_cur _ _ _ _ (getMany_length _ _)]
      exact .fail _
    | succ m ih =>
      intro E' tmps' s' h1 h2
      show AM.le (app _ (cur _ fun vals => _) _ _) _
      rw [app_cur _ _ _ _ (getMany_length _ _), forceL_eq]
      have e : n + (m + 1) * (jx + 1) = (n + m * (jx + 1) + 1) + jx := by rw [Nat.add_mul]; omega
      rw [e]
      refine hx (rd x ||| lv) (n + m * (jx + 1) + 1) fn (.inLoop x :: r) kd cs fin _ tmps' _ s' ((h1.join h2).mono fun t ht => ?_) ⟨fun E2 tmps2 s2 h3 h4 => ?_, fun id E2 tmps2 s2 h3 h4 => ?_, fun E2 tmps2 s2 todo h3 h4 => ?_⟩
      · simp only [Nat.testBit_or, Bool.or_eq_true] at ht ⊢; grind
      · rw [arun_succ]
        exact ih E2 tmps2 s2 h3 (h2.join.trans h4)
      · exact (hk.brk id E2 tmps2 s2 h3.right (h2.join.trans h4)).trans (brk_more (by omega))
      · exact (hk.ret E2 tmps2 s2 todo h3.right (h2.join.trans h4)).trans (arun_add (by omega) _ _ _ _)
  have e : n + (N * (jx + 1) + 1) = (n + N * (jx + 1)) + 1 := by omega
  rw [e, arun_succ]
  exact head N E tmps s hr' (.refl _ _)

theorem xcode_ok (hC : ∀ f, CallOK P C J f) (N : Nat) (c : Code) : ∃ j, XOK P C N c j := by
  induction c with
  | skip => exact ⟨1, fun lv n fn r kd cs fin E tmps K s hr hk => hk.fall E tmps s hr.right (.refl _ _)⟩
  | label l => exact ⟨1, fun lv n fn r kd cs fin E tmps K s hr hk => hk.fall E tmps s hr.right (.refl _ _)⟩
  | region id ops draw =>
    cases draw with
    | false =>
      refine ⟨ops.toList.length * (J + 1) + 2, fun lv n fn r kd cs fin E tmps K s hr hk => ?_⟩
      have e : n + (ops.toList.length * (J + 1) + 2) = (n + 1 + ops.toList.length * (J + 1)) + 1 := by omega
      rw [e, arun_succ]
      have := xgroups_ok (P := P) hC ops lv (groups ops ops.toList) 0 (groups_grp ops _) (by rw [groups_flat]; simp) n fn r kd cs fin E tmps (fun E s => K .fall E s) s (by rw [groups_flat]; exact hr) (fun E' tmps' s' h1 h2 => hk.fall E' tmps' s' h1 (by rw [groups_flat] at h2; exact h2))
      rw [groups_flat, ← List.range_eq_range', Array.length_toList] at this
      rw [Array.length_toList]
      exact this
    | true =>
      refine ⟨J + 1, fun lv n fn r kd cs fin E tmps K s hr hk => ?_⟩
      rw [← Nat.add_assoc, arun_succ]
      refine xdraw_ok (P := P) hC ops _ (Nat.le_add_left J n) ops.toList (fun o ho t ht => ?_) E tmps [] (fun E s => K .fall E s) s hr fun E' tmps' s' h1 h2 => (hk.fall E' tmps' s' h1.right h2).trans (arun_add (by omega) _ _ _ _)
      rw [Nat.testBit_or]
      show ((rdOps ops ops.toList).testBit t || _) = true
      rw [rdOps_mem ho ht]; rfl
  | seq a b iha ihb =>
    obtain ⟨ja, ha⟩ := iha
    obtain ⟨jb, hb⟩ := ihb
    exact ⟨_, xok_seq ha hb⟩
  | cond c a b iha ihb =>
    obtain ⟨ja, ha⟩ := iha
    obtain ⟨jb, hb⟩ := ihb
    refine ⟨ja + jb + 1, fun lv n fn r kd cs fin E tmps K s hr hk => ?_⟩
    rw [← Nat.add_assoc, arun_succ]
    show AM.le (Bool.rec (motive := fun _ => AM) .fail (condX (aev E c) (xcode P C N a lv E K s) (xcode P C N b lv E K s)) (okOperand c)) _
    unfold astep
    dsimp only
    cases hok : okOperand c with
    | false => exact .fail _
    | true =>
    show AM.le (condX (aev E c) (xcode P C N a lv E K s) (xcode P C N b lv E K s)) _
    simp only [cond_true]
    have hv : aev E c = aev tmps c := aev_rep hr fun t ht => by rw [Nat.testBit_or]; simp only [rd, Nat.testBit_or, ht]; simp
    rw [hv]
    unfold condX
    cases aev tmps c with
    | bool t =>
      cases t with
      | true =>
        refine (ha lv n fn r kd cs fin E tmps K s (hr.mono fun t ht => ?_) ⟨fun E' tmps' s' h1 h2 => hk.fall _ _ _ h1 h2.left, fun id E' tmps' s' h1 h2 => hk.brk id _ _ _ h1 h2.left, fun E' tmps' s' todo h1 h2 => hk.ret _ _ _ _ h1 h2.left⟩).trans (arun_add (by omega) _ _ _ _)
        simp only [rd, Nat.testBit_or, Bool.or_eq_true] at ht ⊢; grind
      | false =>
        refine (hb lv n fn r kd cs fin E tmps K s (hr.mono fun t ht => ?_) ⟨fun E' tmps' s' h1 h2 => hk.fall _ _ _ h1 h2.right, fun id E' tmps' s' h1 h2 => hk.brk id _ _ _ h1 h2.right, fun E' tmps' s' todo h1 h2 => hk.ret _ _ _ _ h1 h2.right⟩).trans (arun_add (by omega) _ _ _ _)
        simp only [rd, Nat.testBit_or, Bool.or_eq_true] at ht ⊢; grind
    | _ => exact .fail _
  | block id x ih =>
    obtain ⟨jx, hx⟩ := ih
    refine ⟨jx + 2, fun lv n fn r kd cs fin E tmps K s hr hk => ?_⟩
    have e : n + (jx + 2) = (n + 1 + jx) + 1 := by omega
    rw [e, arun_succ]
    refine hx lv (n + 1) fn (.inBlock id :: r) kd cs fin E tmps (blockK id K) s hr ⟨fun E' tmps' s' h1 h2 => ?_, fun i E' tmps' s' h1 h2 => ?_, fun E' tmps' s' todo h1 h2 => ?_⟩
    · rw [arun_succ]; exact hk.fall _ _ _ h1 h2
    · show AM.le (Bool.rec (motive := fun _ => AM) (K (.brk i) E' s') (K .fall E' s') (Nat.beq i id)) _
      unfold exitTo
      cases hb : Nat.beq i id with
      | true =>
        have := Nat.eq_of_beq_eq_true hb; subst this
        simp only [beq_self_eq_true, if_true]
        exact (hk.fall _ _ _ h1 h2).trans (arun_add (by omega) _ _ _ _)
      | false =>
        have hne : ¬ id = i := fun h => by subst h; rw [beq_yes] at hb; cases hb
        simp only [beq_iff_eq, hne, if_false]
        exact (hk.brk i _ _ _ h1 h2).trans (brk_more (by omega))
    · exact (hk.ret _ _ _ _ h1 h2).trans (arun_add (by omega) _ _ _ _)
  | loop x ih =>
    obtain ⟨jx, hx⟩ := ih
    exact ⟨_, xok_loop hx⟩
  | scope x ih =>
    obtain ⟨jx, hx⟩ := ih
    refine ⟨jx + 2, fun lv n fn r kd cs fin E tmps K s hr hk => ?_⟩
    have e : n + (jx + 2) = (n + 1 + jx) + 1 := by omega
    rw [e, arun_succ]
    refine hx lv (n + 1) fn (.inScope x :: r) kd cs fin E tmps K s hr ⟨fun E' tmps' s' h1 h2 => ?_, fun i E' tmps' s' h1 h2 => ?_, fun E' tmps' s' todo h1 h2 => ?_⟩
    · rw [arun_succ]; exact hk.fall _ _ _ h1 h2
    · exact (hk.brk i _ _ _ h1 h2).trans (brk_more (by omega))
    · exact (hk.ret _ _ _ _ h1 h2).trans (arun_add (by omega) _ _ _ _)
  | exit id =>
    refine ⟨1, fun lv n fn r kd cs fin E tmps K s hr hk => ?_⟩
    rw [arun_succ]
    refine (hk.brk id E tmps s hr.right (.refl _ _)).trans ?_
    unfold astep
    dsimp only
    cases exitTo id r with
    | none => exact .fail _
    | some r' => exact .refl _
  | ret =>
    refine ⟨1, fun lv n fn r kd cs fin E tmps K s hr hk => ?_⟩
    rw [arun_succ]
    exact hk.ret E tmps s _ hr.right (.refl _ _)
  | _ => exact ⟨0, fun _ _ _ _ _ _ _ _ _ _ _ _ _ => .fail _⟩

/-! ### functions -/
theorem results_rep {E tmps : List Value} : ∀ (l : List ResultVar) (q : List Value → Nat → AM) (s : Nat), Rep (rdRes l) E tmps → aresults P E q l s = aresults P tmps q l s
  | [], q, s, h => rfl
  | .tmp t :: l, q, s, h => by
    have h1 : nthD E t = nthD tmps t := h.at_ t (by show (2 ^ t ||| rdRes l).testBit t = true; rw [Nat.testBit_or, bit_two]; simp)
    have h2 : Rep (rdRes l) E tmps := Rep.right (a := 2 ^ t) h
    show aresults P E (fun vs => q (nthD E t :: vs)) l s = aresults P tmps (fun vs => q (nthD tmps t :: vs)) l s
    rw [h1, results_rep l _ s h2]
  | .cell a t :: l, q, s, h => by
    have h1 : nthD E a = nthD tmps a := h.at_ a (by show (2 ^ a ||| rdRes l).testBit a = true; rw [Nat.testBit_or, bit_two]; simp)
    have h2 : Rep (rdRes l) E tmps := Rep.right (a := 2 ^ a) h
    unfold aresults
    have h3 : (nth E a).getD undef = (nth tmps a).getD undef := h1
    rw [h3]
    cases aaddr ((nth tmps a).getD undef) with
    | none => rfl
    | some p =>
      dsimp only
      have : (fun v => aresults P E (fun vs => q (v :: vs)) l) = fun v => aresults P tmps (fun vs => q (v :: vs)) l := by
        funext v s; exact results_rep l _ s h2
      rw [this]

/-- A function's body as one term tells no more than the machine. -/
theorem xfun_ok (hC : ∀ f, CallOK P C J f) (N : Nat) (f : FuncId) : ∃ J', CallOK P (xfun P N C) J' f := by
  unfold CallOK xfun entered AF.enter
  cases hf : P.funcs[f]? with
  | none => exact ⟨0, fun _ _ _ _ _ _ _ => .fail _⟩
  | some fn =>
  dsimp only
  cases hb : fn.body with
  | none => exact ⟨0, fun _ _ _ _ _ _ _ => .fail _⟩
  | some c =>
  dsimp only
  obtain ⟨j, hj⟩ := xcode_ok hC N c
  refine ⟨j + 2, fun args K n cs fin s hK => ?_⟩
  unfold xbody
  by_cases hl : args.length = fn.params.size + fn.nfree
  · rw [app_cur _ _ _ _ hl, forceL_eq, ← hl]
    have e : n + (j + 2) = (n + 2) + j := by omega
    rw [e]
    have hret : ∀ E' tmps' s' todo, Rep (rdRes fn.results.toList) E' tmps' → AM.le (aresults P E' (fun vs s => K (resultOf vs) s) fn.results.toList s') (arun P (n + 1) ⟨f, tmps', todo, [], .returning, .normal, none⟩ cs fin s') := by
      intro E' tmps' s' todo h1
      rw [results_rep _ _ _ h1, arun_succ]
      unfold astep aunwind
      dsimp only
      rw [hf]
      dsimp only
      refine le_results _ _ _ _ _ fun vs s => ?_
      refine (hK _ _).trans ?_
      unfold back
      cases cs with
      | nil => exact .refl _
      | cons c rest => exact .refl _
    refine hj (rdRes fn.results.toList) (n + 2) f [] .normal cs fin _ _ _ s ⟨rfl, fun _ _ => rfl⟩ ⟨fun E' tmps' s' h1 h2 => ?_, fun id E' tmps' s' h1 h2 => .fail _, fun E' tmps' s' todo h1 h2 => (hret E' tmps' s' todo h1).trans (arun_add (by omega) _ _ _ _)⟩
    rw [arun_succ]
    exact hret E' tmps' s' _ h1
  · rw [app_bad _ _ _ _ hl]
    exact .fail _

/-- One call deeper. -/
theorem all_ok {C' : CallT} (h : ∀ f, ∃ J, CallOK P C' J f) (hbig : ∀ f, P.funcs[f]? = none → ∀ args K s, AM.le (C' f args K s) .fail) : ∃ J, ∀ f, CallOK P C' J f := by
  have : ∀ n : Nat, ∃ J, ∀ f : Nat, f < n → CallOK P C' J f := by
    intro n
    induction n with
    | zero => exact ⟨0, fun f h => by omega⟩
    | succ n ih =>
      obtain ⟨J1, h1⟩ := ih
      obtain ⟨J2, h2⟩ := h n
      refine ⟨Nat.max J1 J2, fun f hf => ?_⟩
      by_cases hfn : f = n
      · subst hfn; exact h2.more (Nat.le_max_right _ _)
      · exact (h1 f (by omega)).more (Nat.le_max_left _ _)
  obtain ⟨J, hJ⟩ := this P.funcs.size
  refine ⟨J, fun (f : Nat) => ?_⟩
  by_cases hf : f < P.funcs.size
  · exact hJ f hf
  · intro args K n cs fin s _
    exact (hbig f (Array.getElem?_eq_none (by omega)) args K s).trans (.fail _)

/-- So many calls deep. -/
noncomputable def deepF (T : CallT → CallT) (d : Nat) : CallT := Nat.rec (motive := fun _ => CallT) (fun _ _ _ _ => .fail) (fun _ ih => T ih) d
theorem deepF_ok {T : CallT → CallT} (hT : ∀ C f args K s, AM.le (T C f args K s) (xfun P N C f args K s)) : ∀ d, ∃ J, ∀ f, CallOK P (deepF T d) J f
  | 0 => ⟨0, fun f args K n cs fin s _ => .fail _⟩
  | d + 1 => by
    obtain ⟨J, hJ⟩ := deepF_ok hT d
    obtain ⟨J', hJ'⟩ := all_ok (C' := xfun P N (deepF T d)) (fun f => xfun_ok hJ N f) (fun f hf args K s => by unfold xfun; rw [hf]; exact .refl _)
    exact ⟨J', fun f args K n cs fin s hK => (hT _ _ _ _ _).trans (hJ' f args K n cs fin s hK)⟩

/-- **A call without arguments, run in the kernel by functions as terms.** -/
theorem calls_deep (hmx : P.follows .mixedOrders = true) {T : CallT → CallT} (hT : ∀ C f args K s, AM.le (T C f args K s) (xfun P N C f args K s)) {g d : Nat}
    (e : (match (deepF T d g [] (fun v _ => .ret v) 1).runL .nil [] [] with
      | some ⟨.bool true, _, _, _⟩ => true
      | _ => false) = true) (w : World) : Calls P g #[] w (fun q w' => q = .returned (.bool true) ∧ Below w.heap.size w w') := by
  split at e
  · rename_i hE ts ws hr
    obtain ⟨J, hJ⟩ := deepF_ok (P := P) (N := N) hT d
    have := hJ g [] (fun v _ => .ret v) 0 [] (fun v _ => .ret v) 1 (fun v s => .refl _) _ _ _ _ hr
    unfold entered at this
    cases ha : AF.enter P g [] .normal with
    | none => rw [ha] at this; cases this
    | some a =>
      rw [ha] at this
      exact calls_of_run hmx ha (fun σ u' h => by cases h; rfl) (AM.run_of_runL _ _ _ _ _ this) w
  · cases e
end
end Go.Ev

/- The machine over a heap of names tells no less than a function's body as one term: code, and functions. No condition. -/
import Derived.Test.YtpfnoffadfahmaaGreatXF
namespace Go.Ev
open Go Go.RowKit
set_option linter.unusedVariables false
set_option linter.unusedSimpArgs false

section
variable {P : Program}
/-! ### liveness -/
def Sub (m n : Nat) : Prop := ∀ t, m.testBit t = true → n.testBit t = true
theorem Sub.refl (m : Nat) : Sub m m := fun _ h => h
theorem Sub.trans {a b c : Nat} (h : Sub a b) (k : Sub b c) : Sub a c := fun t ht => k t (h t ht)
theorem Sub.or {a b c d : Nat} (h : Sub a c) (k : Sub b d) : Sub (a ||| b) (c ||| d) := fun t ht => by
  rw [Nat.testBit_or, Bool.or_eq_true] at ht ⊢
  exact ht.imp (h t) (k t)
theorem Sub.left (a b : Nat) : Sub a (a ||| b) := fun t ht => by rw [Nat.testBit_or, ht]; rfl
theorem Sub.right (a b : Nat) : Sub b (a ||| b) := fun t ht => by rw [Nat.testBit_or, ht]; simp
theorem Sub.join {a b c : Nat} (h : Sub a c) (k : Sub b c) : Sub (a ||| b) c := fun t ht => by
  rw [Nat.testBit_or, Bool.or_eq_true] at ht
  exact ht.elim (h t) (k t)
theorem Sub.clr {a b : Nat} (h : Sub a b) (d : Option Tmp) : Sub (clr a d) (clr b d) := fun t ht => by
  cases d with
  | none => exact h t ht
  | some d =>
    rw [clr_bit, Bool.and_eq_true] at ht ⊢
    exact ⟨h t ht.1, ht.2⟩
theorem clr_add {a b : Nat} (d : Option Tmp) : Sub (Ev.clr (a ||| b) d) (Ev.clr a d ||| b) := fun t ht => by
  cases d with
  | none => exact ht
  | some d =>
    rw [clr_bit, Bool.and_eq_true, Nat.testBit_or, Bool.or_eq_true] at ht
    rw [Nat.testBit_or, clr_bit, Bool.or_eq_true, Bool.and_eq_true]
    exact ht.1.elim (fun h => .inl ⟨h, ht.2⟩) .inr
theorem lvOps_sub (ops : Array Oper) {a b : Nat} (h : Sub a b) : ∀ l, Sub (lvOps ops l a) (lvOps ops l b)
  | [] => h
  | o :: l => Sub.or (.refl _) ((lvOps_sub ops h l).clr _)
theorem lvOps_add (ops : Array Oper) {a b : Nat} : ∀ l, Sub (lvOps ops l (a ||| b)) (lvOps ops l a ||| b)
  | [] => .refl _
  | o :: l => by
    show Sub (rdOper ops o ||| Ev.clr (lvOps ops l (a ||| b)) o.dst) (rdOper ops o ||| Ev.clr (lvOps ops l a) o.dst ||| b)
    refine Sub.join ((Sub.left _ _).trans (.left _ _)) ((((lvOps_add ops l).clr _).trans (clr_add _)).trans (Sub.or (.right _ _) (.refl _)))
theorem live_sub : ∀ (c : Code) {a b : Nat}, Sub a b → Sub (live c a) (live c b)
  | .region _ ops _, a, b, h => lvOps_sub ops h _
  | .seq x y, a, b, h => live_sub x (Sub.or (live_sub y h) h)
  | .cond c x y, a, b, h => Sub.or (.refl _) (Sub.or (live_sub x h) (live_sub y h))
  | .block _ x, a, b, h => live_sub x h
  | .loop x, a, b, h => live_sub x h
  | .scope x, a, b, h => live_sub x h
  | .rangeFunc .., a, b, h => .refl _
  | .skip, a, b, h => h
  | .exit _, a, b, h => h
  | .label _, a, b, h => h
  | .goto _, a, b, h => h
  | .ret, a, b, h => h
  | .refuse _, a, b, h => h
theorem live_add : ∀ (c : Code) {a b : Nat}, Sub (live c (a ||| b)) (live c a ||| b)
  | .region _ ops _, a, b => lvOps_add ops _
  | .seq x y, a, b => by
    refine Sub.trans (live_sub x (b := (live y a ||| a) ||| b) ?_) (live_add x)
    exact Sub.join ((live_add y).trans (Sub.or (.left _ _) (.refl _))) (Sub.or (.right _ _) (.refl _))
  | .cond c x y, a, b => by
    refine Sub.join ((Sub.left _ _).trans (.left _ _)) (Sub.join ((live_add x).trans (Sub.or ?_ (.refl _))) ((live_add y).trans (Sub.or ?_ (.refl _))))
    · exact (Sub.left _ _).trans (.right _ _)
    · exact (Sub.right _ _).trans (.right _ _)
  | .block _ x, a, b => live_add x
  | .loop x, a, b => live_add x
  | .scope x, a, b => live_add x
  | .rangeFunc .., a, b => .left _ _
  | .skip, a, b => .refl _
  | .exit _, a, b => .refl _
  | .label _, a, b => .refl _
  | .goto _, a, b => .refl _
  | .ret, a, b => .refl _
  | .refuse _, a, b => .refl _

/-! ### code -/
noncomputable def exitA (P : Program) [Known P] (n : Nat) (fn : FuncId) (tmps : List Value) (r : List Item) (ds : List Deferred) (kd : CallKind) (rnd : Option Nat) (id : Nat) (cs : List AF) (fin : Value → Nat → AM) (s : Nat) : AM := match exitTo id r with
  | some r' => arun P n ⟨fn, tmps, r', ds, .run, kd, rnd⟩ cs fin s
  | none => aleave (fun a' cs' s' => arun P n a' cs' fin s') fin ⟨fn, tmps, [], ds, .run, kd, rnd⟩ cs (some (.exit id)) s
theorem leave_more [Known P] {n m : Nat} (h : n ≤ m) (fin : Value → Nat → AM) (a : AF) (cs : List AF) (j : Option Code) (s : Nat) : AM.le (aleave (fun a' cs' s' => arun P n a' cs' fin s') fin a cs j s) (aleave (fun a' cs' s' => arun P m a' cs' fin s') fin a cs j s) :=
  le_leave (fun a cs s => arun_add h a cs fin s) (fun v s => .refl _) a cs j s
theorem exit_more [Known P] {n m : Nat} (h : n ≤ m) {fn : FuncId} {tmps : List Value} {r : List Item} {ds : List Deferred} {kd : CallKind} {rnd : Option Nat} {id : Nat} {cs : List AF} {fin : Value → Nat → AM} {s : Nat} : AM.le (exitA P n fn tmps r ds kd rnd id cs fin s) (exitA P m fn tmps r ds kd rnd id cs fin s) := by
  unfold exitA
  split
  · exact arun_add h _ _ _ _
  · exact leave_more h _ _ _ _ _
structure KOK (P : Program) [Known P] (lv w n : Nat) (fn : FuncId) (r : List Item) (ds : List Deferred) (kd : CallKind) (rnd : Option Nat) (cs : List AF) (fin : Value → Nat → AM) (E : List Value) (K : KX) : Prop where
  fall : ∀ E' tmps' s', Rep lv E' tmps' → Frm w E E' → AM.le (K .fall E' s') (arun P n ⟨fn, tmps', r, ds, .run, kd, rnd⟩ cs fin s')
  brk : ∀ id E' tmps' s', Rep lv E' tmps' → Frm w E E' → AM.le (K (.brk id) E' s') (exitA P n fn tmps' r ds kd rnd id cs fin s')
  ret : ∀ E' tmps' s' todo, Rep lv E' tmps' → Frm w E E' → AM.le (K .ret E' s') (aleave (fun a' cs' s' => arun P n a' cs' fin s') fin ⟨fn, tmps', todo, ds, .run, kd, rnd⟩ cs (some .ret) s')

def XOK (P : Program) [Known P] (C : CallT) (N : Nat) (c : Code) (j : Nat) : Prop := ∀ lv n fn r ds kd rnd cs fin E tmps K s, Rep (live c lv) E tmps → KOK P lv (wr c) n fn r ds kd rnd cs fin E K →
  AM.le (xcode P C N c lv E K s) (arun P (n + j) ⟨fn, tmps, .code c :: r, ds, .run, kd, rnd⟩ cs fin s)

variable {C : CallT} {J N : Nat}
theorem XOK.more [Known P] {c : Code} {j k : Nat} (h : XOK P C N c j) (hj : j ≤ k) : XOK P C N c k := fun lv n fn r ds kd rnd cs fin E tmps K s hr hk => (h lv n fn r ds kd rnd cs fin E tmps K s hr hk).trans (arun_add (by omega) _ _ _ _)

theorem xok_seq [Known P] {a b : Code} {ja jb : Nat} (ha : XOK P C N a ja) (hb : XOK P C N b jb) : XOK P C N (.seq a b) (ja + jb + 1) := by
  intro lv n fn r ds kd rnd cs fin E tmps K s hr hk
  have e : n + (ja + jb + 1) = (n + jb + ja) + 1 := by omega
  rw [e, arun_succ]
  have hra : Rep (live a (live b lv ||| lv)) E tmps := hr
  -- what stands behind a
  have key : ∀ f : List Value → Nat → AM, (∀ E' tmps' s', Rep (live b lv) E' tmps' → Frm (wr a) E E' → AM.le (f E' s') (arun P (n + jb) ⟨fn, tmps', .code b :: r, ds, .run, kd, rnd⟩ cs fin s')) →
      AM.le (xcode P C N a (live b lv ||| lv) E (seqK f K) s) (arun P (n + jb + ja) ⟨fn, tmps, .code a :: .code b :: r, ds, .run, kd, rnd⟩ cs fin s) := by
    intro f hf
    refine ha (live b lv ||| lv) (n + jb) fn (.code b :: r) ds kd rnd cs fin E tmps _ s hra ⟨fun E' tmps' s' h1 h2 => hf E' tmps' s' h1.left h2, fun id E' tmps' s' h1 h2 => ?_, fun E' tmps' s' todo h1 h2 => ?_⟩
    · exact (hk.brk id E' tmps' s' h1.right h2.left).trans (exit_more (by omega))
    · exact (hk.ret E' tmps' s' todo h1.right h2.left).trans (leave_more (by omega) _ _ _ _ _)
  have hkb : ∀ Eb, Frm (wr a) E Eb → KOK P lv (wr b) n fn r ds kd rnd cs fin Eb K := fun Eb hf =>
    ⟨fun E' tmps' s' h1 h2 => hk.fall E' tmps' s' h1 (hf.left.trans h2.right), fun id E' tmps' s' h1 h2 => hk.brk id E' tmps' s' h1 (hf.left.trans h2.right), fun E' tmps' s' todo h1 h2 => hk.ret E' tmps' s' todo h1 (hf.left.trans h2.right)⟩
  show AM.le (xseq b (wr a) (multi a) (xcode P C N a) (xcode P C N b) lv E K s) _
  unfold xseq
  cases multi a with
  | false =>
    exact key _ fun E' tmps' s' h1 h2 => hb lv n fn r ds kd rnd cs fin E' tmps' K s' h1 (hkb E' h2)
  | true =>
    unfold bindJ
    refine key _ fun E' tmps' s' h1 h2 => ?_
    rw [app_cur _ _ _ _ (getMany_length _ _), forceL_eq]
    exact hb lv n fn r ds kd rnd cs fin _ tmps' K s' (h1.join h2) (hkb _ h2.join)

theorem xok_loop [Known P] {x : Code} {jx : Nat} (hx : XOK P C N x jx) : XOK P C N (.loop x) (N * (jx + 1) + 1) := by
  intro lv n fn r ds kd rnd cs fin E tmps K s hr hk
  have hr' : Rep (live x lv) E tmps := hr
  have hsub : Sub (live x (live x lv ||| lv)) (live x lv) := by
    refine Sub.trans (live_sub x (b := lv ||| live x lv) (Sub.join (.right _ _) (.left _ _))) ((live_add x).trans (Sub.join (.refl _) (.refl _)))
  show AM.le (xloop N (wr x &&& live x lv) (xcode P C N x (live x lv ||| lv)) E K s) _
  unfold xloop
  have head : ∀ m E' tmps' s', Rep (live x lv) E' tmps' → Frm (wr x) E E' →
      AM.le (app (slots E.length (wr x &&& live x lv)).length (loopJ m (slots E.length (wr x &&& live x lv)).length (cur (slots E.length (wr x &&& live x lv)).length fun _ _ => .fail) fun ih => cur (slots E.length (wr x &&& live x lv)).length fun vals => forceL (setMany E (slots E.length (wr x &&& live x lv)) vals) fun E0 => xcode P C N x (live x lv ||| lv) E0 (seqK (fun E' => app (slots E.length (wr x &&& live x lv)).length ih (getMany E' (slots E.length (wr x &&& live x lv)))) K)) (getMany E' (slots E.length (wr x &&& live x lv))) s')
        (arun P (n + m * (jx + 1)) ⟨fn, tmps', .code x :: .inLoop x :: r, ds, .run, kd, rnd⟩ cs fin s') := by
    intro m
    induction m with
    | zero =>
      intro E' tmps' s' h1 h2
      show AM.le (app _ (cur _ fun _ _ => .fail) _ _) _
      rw [app_cur _ _ _ _ (getMany_length _ _)]
      exact .fail _
    | succ m ih =>
      intro E' tmps' s' h1 h2
      show AM.le (app _ (cur _ fun vals => _) _ _) _
      rw [app_cur _ _ _ _ (getMany_length _ _), forceL_eq]
      have e : n + (m + 1) * (jx + 1) = (n + m * (jx + 1) + 1) + jx := by rw [Nat.add_mul]; omega
      rw [e]
      refine hx (live x lv ||| lv) (n + m * (jx + 1) + 1) fn (.inLoop x :: r) ds kd rnd cs fin _ tmps' _ s' ((h1.join h2).mono hsub) ⟨fun E2 tmps2 s2 h3 h4 => ?_, fun id E2 tmps2 s2 h3 h4 => ?_, fun E2 tmps2 s2 todo h3 h4 => ?_⟩
      · rw [arun_succ]
        exact ih E2 tmps2 s2 h3.left (h2.join.trans h4)
      · exact (hk.brk id E2 tmps2 s2 h3.right (h2.join.trans h4)).trans (exit_more (by omega))
      · exact (hk.ret E2 tmps2 s2 todo h3.right (h2.join.trans h4)).trans (leave_more (by omega) _ _ _ _ _)
  have e : n + (N * (jx + 1) + 1) = (n + N * (jx + 1)) + 1 := by omega
  rw [e, arun_succ]
  exact head N E tmps s hr' (.refl _ _)

/-- How many steps code may take. -/
noncomputable def cost (N : Nat) : Code → Nat
  | .skip | .label _ | .exit _ | .ret => 1
  | .region _ ops _ => ops.size + 2
  | .seq a b | .cond _ a b => cost N a + cost N b + 1
  | .block _ a | .scope a => cost N a + 2
  | .loop a => N * (cost N a + 1) + 1
  | .rangeFunc .. => 4
  | _ => 0

theorem xok_block [Known P] {x : Code} {jx : Nat} (id : Nat) (hx : XOK P C N x jx) : XOK P C N (.block id x) (jx + 2) := by
  intro lv n fn r ds kd rnd cs fin E tmps K s hr hk
  have e : n + (jx + 2) = (n + 1 + jx) + 1 := by omega
  rw [e, arun_succ]
  refine hx lv (n + 1) fn (.inBlock id :: r) ds kd rnd cs fin E tmps (blockK id K) s hr ⟨fun E' tmps' s' h1 h2 => ?_, fun i E' tmps' s' h1 h2 => ?_, fun E' tmps' s' todo h1 h2 => ?_⟩
  · rw [arun_succ]; exact hk.fall _ _ _ h1 h2
  · show AM.le (Bool.rec (motive := fun _ => AM) (K (.brk i) E' s') (K .fall E' s') (Nat.beq i id)) _
    unfold exitA exitTo
    cases hb : Nat.beq i id with
    | true =>
      have := Nat.eq_of_beq_eq_true hb; subst this
      simp only [beq_self_eq_true, if_true]
      exact (hk.fall _ _ _ h1 h2).trans (arun_add (by omega) _ _ _ _)
    | false =>
      have hne : ¬ id = i := fun h => by subst h; rw [beq_yes] at hb; cases hb
      simp only [beq_iff_eq, hne, if_false]
      exact (hk.brk i _ _ _ h1 h2).trans (exit_more (by omega))
  · exact (hk.ret _ _ _ _ h1 h2).trans (leave_more (by omega) _ _ _ _ _)
theorem xok_cond [Known P] {a b : Code} {ja jb : Nat} (c : Operand) (ha : XOK P C N a ja) (hb : XOK P C N b jb) : XOK P C N (.cond c a b) (ja + jb + 1) := by
  intro lv n fn r ds kd rnd cs fin E tmps K s hr hk
  rw [← Nat.add_assoc, arun_succ]
  show AM.le (Bool.rec (motive := fun _ => AM) .fail (condX (aev E c) (xcode P C N a lv E K s) (xcode P C N b lv E K s)) (okOperand c)) _
  unfold astep
  dsimp only
  cases hok : okOperand c with
  | false => exact .fail _
  | true =>
  show AM.le (condX (aev E c) (xcode P C N a lv E K s) (xcode P C N b lv E K s)) _
  simp only [cond_true]
  have hr : Rep (rdOpd c ||| (live a lv ||| live b lv)) E tmps := hr
  have hv : aev E c = aev tmps c := aev_rep hr fun t ht => by rw [Nat.testBit_or, ht]; rfl
  rw [hv]
  unfold condX
  cases aev tmps c with
  | bool t =>
    cases t with
    | true => exact (ha lv n fn r ds kd rnd cs fin E tmps K s hr.right.left ⟨fun E' tmps' s' h1 h2 => hk.fall _ _ _ h1 h2.left, fun id E' tmps' s' h1 h2 => hk.brk id _ _ _ h1 h2.left, fun E' tmps' s' todo h1 h2 => hk.ret _ _ _ _ h1 h2.left⟩).trans (arun_add (by omega) _ _ _ _)
    | false => exact (hb lv n fn r ds kd rnd cs fin E tmps K s hr.right.right ⟨fun E' tmps' s' h1 h2 => hk.fall _ _ _ h1 h2.right, fun id E' tmps' s' h1 h2 => hk.brk id _ _ _ h1 h2.right, fun E' tmps' s' todo h1 h2 => hk.ret _ _ _ _ h1 h2.right⟩).trans (arun_add (by omega) _ _ _ _)
  | _ => exact .fail _
theorem xok_scope [Known P] {x : Code} {jx : Nat} (hx : XOK P C N x jx) : XOK P C N (.scope x) (jx + 2) := by
  intro lv n fn r ds kd rnd cs fin E tmps K s hr hk
  have e : n + (jx + 2) = (n + 1 + jx) + 1 := by omega
  rw [e, arun_succ]
  refine hx lv (n + 1) fn (.inScope x :: r) ds kd rnd cs fin E tmps K s hr ⟨fun E' tmps' s' h1 h2 => ?_, fun i E' tmps' s' h1 h2 => ?_, fun E' tmps' s' todo h1 h2 => ?_⟩
  · rw [arun_succ]; exact hk.fall _ _ _ h1 h2
  · exact (hk.brk i _ _ _ h1 h2).trans (exit_more (by omega))
  · exact (hk.ret _ _ _ _ h1 h2).trans (leave_more (by omega) _ _ _ _ _)
theorem cost_seq {a b J : Nat} : a * (J + 1) + b * (J + 1) + 1 ≤ (a + b + 1) * (J + 1) := by rw [Nat.add_mul, Nat.add_mul]; omega
theorem cost_two {a J : Nat} : a * (J + 1) + 2 ≤ (a + 2) * (J + 1) := by rw [Nat.add_mul]; omega
theorem cost_loop {a J N : Nat} : N * (a * (J + 1) + 1) + 1 ≤ (N * (a + 1) + 1) * (J + 1) := by
  rw [Nat.add_mul, Nat.mul_assoc]
  have : N * (a * (J + 1) + 1) ≤ N * ((a + 1) * (J + 1)) := Nat.mul_le_mul (Nat.le_refl _) (by rw [Nat.add_mul]; omega)
  omega
theorem exit_step [Known P] (id : Nat) {lv n : Nat} {fn : FuncId} {r : List Item} {ds : List Deferred} {kd : CallKind} {rnd : Option Nat} {cs : List AF} {fin : Value → Nat → AM} {tmps : List Value} {s : Nat} :
    AM.le (exitA P n fn tmps r ds kd rnd id cs fin s) (arun P (n + 1) ⟨fn, tmps, .code (.exit id) :: r, ds, .run, kd, rnd⟩ cs fin s) := by
  rw [arun_succ]
  unfold astep exitA
  dsimp only
  cases exitTo id r with
  | none => cases rnd <;> exact .refl _
  | some r' => exact .refl _
theorem xok_region [Known P] (hC : AllOK P C J) (id : Nat) (ops : Array Oper) (draw : Bool) : XOK P C N (.region id ops draw) ((ops.size + 2) * (J + 1)) := by
  cases draw with
  | false =>
    have : XOK P C N (.region id ops false) (ops.size * (J + 1) + 2) := by
      intro lv n fn r ds kd rnd cs fin E tmps K s hr hk
      have e : n + (ops.size * (J + 1) + 2) = (n + 1 + ops.size * (J + 1)) + 1 := by omega
      rw [e, arun_succ]
      have := xgroups_ok (P := P) hC ops lv ds rnd (groups ops ops.toList) 0 (groups_grp ops _) (by rw [groups_flat]; simp) n fn r kd cs fin E tmps (fun E s => K .fall E s) s (by rw [groups_flat]; exact hr) (fun E' tmps' s' h1 h2 => hk.fall E' tmps' s' h1 (by rw [groups_flat] at h2; exact h2))
      rw [groups_flat, ← List.range_eq_range', Array.length_toList] at this
      exact this
    exact this.more cost_two
  | true =>
    have : XOK P C N (.region id ops true) (J + 1) := by
      intro lv n fn r ds kd rnd cs fin E tmps K s hr hk
      rw [← Nat.add_assoc, arun_succ]
      show AM.le (Option.rec (motive := fun _ => AM) (forceB (keepsX ops) (fun F => xdraw P C ops ops.toList F E [] (fun E s => K .fall E s) s)) (fun _ => .fail) (exOf ops)) (adrawE P _ ops _ tmps s)
      unfold adrawE
      cases exOf ops with
      | some ex => exact .fail _
      | none =>
      dsimp only
      rw [forceB_eq]
      refine xdraw_ok (P := P) hC ops lv (Nat.le_add_left J n) ops.toList E tmps [] [] (fun E s => K .fall E s) s rfl ⟨rfl, fun _ _ _ _ => rfl⟩ (fun j x o hx => by simp at hx) hr fun E' tmps' s' h1 h2 => (hk.fall E' tmps' s' h1 h2).trans (arun_add (by omega) _ _ _ _)
    exact this.more (by rw [Nat.add_mul]; omega)
theorem xcode_ok [Known P] (hC : AllOK P C J) (N : Nat) (c : Code) : XOK P C N c (cost N c * (J + 1)) := by
  induction c with
  | skip => exact fun lv n fn r ds kd rnd cs fin E tmps K s hr hk => (hk.fall E tmps s hr (.refl _ _)).trans (show AM.le _ (arun P (n + 1 * (J + 1)) _ cs fin s) by rw [Nat.one_mul, ← Nat.add_assoc, arun_succ]; exact arun_add (by omega) _ _ _ _)
  | label l => exact fun lv n fn r ds kd rnd cs fin E tmps K s hr hk => (hk.fall E tmps s hr (.refl _ _)).trans (show AM.le _ (arun P (n + 1 * (J + 1)) _ cs fin s) by rw [Nat.one_mul, ← Nat.add_assoc, arun_succ]; exact arun_add (by omega) _ _ _ _)
  | region id ops draw => exact xok_region hC id ops draw
  | seq a b iha ihb => exact (xok_seq iha ihb).more cost_seq
  | cond c a b iha ihb => exact (xok_cond c iha ihb).more cost_seq
  | block id x ih => exact (xok_block id ih).more cost_two
  | loop x ih => exact (xok_loop ih).more cost_loop
  | scope x ih => exact (xok_scope ih).more cost_two
  | exit id => exact fun lv n fn r ds kd rnd cs fin E tmps K s hr hk => (hk.brk id E tmps s hr (.refl _ _)).trans (AM.le.trans (exit_step (lv := lv) id) (arun_add (show n + 1 ≤ n + 1 * (J + 1) by omega) _ _ _ _))
  | ret =>
    exact fun lv n fn r ds kd rnd cs fin E tmps K s hr hk => (hk.ret E tmps s (.code .ret :: r) hr (.refl _ _)).trans (show AM.le _ (arun P (n + 1 * (J + 1)) _ cs fin s) by
      rw [Nat.one_mul, ← Nat.add_assoc, arun_succ]; exact leave_more (by omega) _ _ _ _ _)
  | _ => exact fun _ _ _ _ _ _ _ _ _ _ _ _ _ _ _ => .fail _

/-! ### functions -/
theorem results_rep {E tmps : List Value} : ∀ (l : List ResultVar) (q : List Value → Nat → AM) (s : Nat), Rep (rdRes l) E tmps → aresults P E q l s = aresults P tmps q l s
  | [], q, s, h => rfl
  | .tmp t :: l, q, s, h => by
    have h1 : nthD E t = nthD tmps t := h.at_ t (by show (2 ^ t ||| rdRes l).testBit t = true; rw [Nat.testBit_or, bit_two]; simp)
    have h2 : Rep (rdRes l) E tmps := Rep.right (a := 2 ^ t) h
    show aresults P E (fun vs => q (nthD E t :: vs)) l s = aresults P tmps (fun vs => q (nthD tmps t :: vs)) l s
    rw [h1, results_rep l _ s h2]
  | .cell a t :: l, q, s, h => by
    have h1 : nthD E a = nthD tmps a := h.at_ a (by show (2 ^ a ||| rdRes l).testBit a = true; rw [Nat.testBit_or, bit_two]; simp)
    have h2 : Rep (rdRes l) E tmps := Rep.right (a := 2 ^ a) h
    unfold aresults
    have h3 : (nth E a).getD undef = (nth tmps a).getD undef := h1
    rw [h3]
    cases aaddr ((nth tmps a).getD undef) with
    | none => rfl
    | some p =>
      dsimp only
      have : (fun v => aresults P E (fun vs => q (v :: vs)) l) = fun v => aresults P tmps (fun vs => q (v :: vs)) l := by
        funext v s; exact results_rep l _ s h2
      rw [this]

/-- A function's body as one term tells no more than the machine. -/
theorem xfun_ok [Known P] (hC : AllOK P C J) (N : Nat) (f : FuncId) (hkn : Known.kn P f = false) (hk2 : Known.k2 P f = false) : ∃ J', CallOK P (xfun P N C) J' f := by
  unfold CallOK xfun entered AF.enter
  simp only [askK_no hkn hk2]
  cases hf : P.funcs[f]? with
  | none => exact ⟨0, fun _ _ _ _ _ _ _ => .fail _⟩
  | some fn =>
  dsimp only
  cases hb : fn.body with
  | none => exact ⟨0, fun _ _ _ _ _ _ _ => .fail _⟩
  | some c =>
  dsimp only
  have hj := xcode_ok hC N c
  generalize cost N c * (J + 1) = j at hj
  refine ⟨j + 2, fun args K n cs fin s hK => ?_⟩
  unfold xbody
  by_cases hl : args.length = fn.params.size + fn.nfree
  · rw [app_cur _ _ _ _ hl, forceL_eq, ← hl]
    have e : n + (j + 2) = (n + 2) + j := by omega
    rw [e]
    have hret : ∀ E' tmps' s' todo, Rep (rdRes fn.results.toList) E' tmps' → AM.le (aresults P E' (fun vs s => K (resultOf vs) s) fn.results.toList s') (arun P (n + 1) ⟨f, tmps', todo, [], .returning, .normal, none⟩ cs fin s') := by
      intro E' tmps' s' todo h1
      rw [results_rep _ _ _ h1, arun_succ]
      unfold astep aunwind
      dsimp only
      rw [hf]
      dsimp only
      refine le_results _ _ _ _ _ fun vs s => ?_
      refine (hK _ _).trans ?_
      unfold back
      cases cs with
      | nil => exact .refl _
      | cons c rest => exact .refl _
    refine hj (rdRes fn.results.toList) (n + 2) f [] [] .normal none cs fin _ _ _ s (Rep.mono ⟨rfl, fun _ _ => rfl⟩ fun _ h => h) ⟨fun E' tmps' s' h1 h2 => ?_, fun id E' tmps' s' h1 h2 => .fail _, fun E' tmps' s' todo h1 h2 => (hret E' tmps' s' todo h1).trans (show AM.le _ (arun P (n + 2) ⟨f, tmps', todo, [], .returning, .normal, none⟩ cs fin s') from arun_add (by omega) _ _ _ _)⟩
    rw [arun_succ]
    exact hret E' tmps' s' _ h1
  · rw [app_bad _ _ _ _ hl]
    exact .fail _

end
end Go.Ev

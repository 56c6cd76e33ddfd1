/- Functions with loops over functions as terms: the machine over a heap of names tells no less. No condition. -/
import Derived.Test.YtpfnoffadfahmaaGreatXJ
namespace Go.Ev
open Go Go.RowKit
set_option linter.unusedVariables false
set_option linter.unusedSimpArgs false

section
variable {P : Program}
structure KYOK (P : Program) [Known P] (lv w n : Nat) (fn : FuncId) (r : List Item) (kd : CallKind) (rnd : Option Nat) (cs : List AF) (fin : Value → Nat → AM) (E : List Value) (K : KY) : Prop where
  fall : ∀ E' D' tmps' s', Rep lv E' tmps' → Frm w E E' → AM.le (K .fall E' D' s') (arun P n ⟨fn, tmps', r, D'.map coll, .run, kd, rnd⟩ cs fin s')
  brk : ∀ id E' D' tmps' s', Rep lv E' tmps' → Frm w E E' → AM.le (K (.brk id) E' D' s') (exitA P n fn tmps' r (D'.map coll) kd rnd id cs fin s')
  ret : ∀ E' D' tmps' s' todo, Rep lv E' tmps' → Frm w E E' → AM.le (K .ret E' D' s') (aleave (fun a' cs' s' => arun P n a' cs' fin s') fin ⟨fn, tmps', todo, D'.map coll, .run, kd, rnd⟩ cs (some .ret) s')
theorem KYOK.plain [Known P] {lv w n : Nat} {fn : FuncId} {r : List Item} {kd : CallKind} {rnd : Option Nat} {cs : List AF} {fin : Value → Nat → AM} {E : List Value} {K : KY} (h : KYOK P lv w n fn r kd rnd cs fin E K) (D : List Nat) :
    KOK P lv w n fn r (D.map coll) kd rnd cs fin E (fun ex E s => K ex E D s) :=
  ⟨fun E' tmps' s' h1 h2 => h.fall E' D tmps' s' h1 h2, fun id E' tmps' s' h1 h2 => h.brk id E' D tmps' s' h1 h2, fun E' tmps' s' todo h1 h2 => h.ret E' D tmps' s' todo h1 h2⟩

def YOK (P : Program) [Known P] (C : CallT) (N : Nat) (c : Code) (j : Nat) : Prop := ∀ lv n fn r kd rnd cs fin E D tmps K s, Rep (live c lv) E tmps → KYOK P lv (wr c) n fn r kd rnd cs fin E K →
  AM.le (ycode P C N fn rnd c lv E D K s) (arun P (n + j) ⟨fn, tmps, .code c :: r, D.map coll, .run, kd, rnd⟩ cs fin s)

variable {C : CallT} {J N : Nat}
set_option exponentiation.threshold 5000
theorem YOK.more [Known P] {c : Code} {j k : Nat} (h : YOK P C N c j) (hj : j ≤ k) : YOK P C N c k := fun lv n fn r kd rnd cs fin E D tmps K s hr hk => (h lv n fn r kd rnd cs fin E D tmps K s hr hk).trans (arun_add (by omega) _ _ _ _)
theorem XOK.lift [Known P] {c : Code} {j : Nat} (h : XOK P C N c j) {lv n : Nat} {fn : FuncId} {r : List Item} {kd : CallKind} {rnd : Option Nat} {cs : List AF} {fin : Value → Nat → AM} {E tmps : List Value} {D : List Nat} {K : KY} {s : Nat} (hr : Rep (live c lv) E tmps) (hk : KYOK P lv (wr c) n fn r kd rnd cs fin E K) :
    AM.le (xcode P C N c lv E (fun ex E s => K ex E D s) s) (arun P (n + j) ⟨fn, tmps, .code c :: r, D.map coll, .run, kd, rnd⟩ cs fin s) := h lv n fn r _ kd rnd cs fin E tmps _ s hr (hk.plain D)

theorem yok_seq [Known P] {a b : Code} {ja jb : Nat} (ha : YOK P C N a ja) (hb : YOK P C N b jb) {lv n : Nat} {fn : FuncId} {r : List Item} {kd : CallKind} {rnd : Option Nat} {cs : List AF} {fin : Value → Nat → AM} {E tmps : List Value} {D : List Nat} {K : KY} {s : Nat} (hr : Rep (live (.seq a b) lv) E tmps) (hk : KYOK P lv (wr (.seq a b)) n fn r kd rnd cs fin E K) :
    AM.le (yseq b (wr a) (multi a) (ycode P C N fn rnd a) (ycode P C N fn rnd b) lv E D K s) (arun P (n + (ja + jb + 1)) ⟨fn, tmps, .code (.seq a b) :: r, D.map coll, .run, kd, rnd⟩ cs fin s) := by
  have e : n + (ja + jb + 1) = (n + jb + ja) + 1 := by omega
  rw [e, arun_succ]
  have hra : Rep (live a (live b lv ||| lv)) E tmps := hr
  have key : ∀ f : List Value → List Nat → Nat → AM, (∀ E' D' tmps' s', Rep (live b lv) E' tmps' → Frm (wr a) E E' → AM.le (f E' D' s') (arun P (n + jb) ⟨fn, tmps', .code b :: r, D'.map coll, .run, kd, rnd⟩ cs fin s')) →
      AM.le (ycode P C N fn rnd a (live b lv ||| lv) E D (seqY f K) s) (arun P (n + jb + ja) ⟨fn, tmps, .code a :: .code b :: r, D.map coll, .run, kd, rnd⟩ cs fin s) := by
    intro f hf
    refine ha (live b lv ||| lv) (n + jb) fn (.code b :: r) kd rnd cs fin E D tmps _ s hra ⟨fun E' D' tmps' s' h1 h2 => hf E' D' tmps' s' h1.left h2, fun id E' D' tmps' s' h1 h2 => ?_, fun E' D' tmps' s' todo h1 h2 => ?_⟩
    · exact (hk.brk id E' D' tmps' s' h1.right h2.left).trans (exit_more (by omega))
    · exact (hk.ret E' D' tmps' s' todo h1.right h2.left).trans (leave_more (by omega) _ _ _ _ _)
  have hkb : ∀ Eb, Frm (wr a) E Eb → KYOK P lv (wr b) n fn r kd rnd cs fin Eb K := fun Eb hf =>
    ⟨fun E' D' tmps' s' h1 h2 => hk.fall E' D' tmps' s' h1 (hf.left.trans h2.right), fun id E' D' tmps' s' h1 h2 => hk.brk id E' D' tmps' s' h1 (hf.left.trans h2.right), fun E' D' tmps' s' todo h1 h2 => hk.ret E' D' tmps' s' todo h1 (hf.left.trans h2.right)⟩
  unfold yseq
  cases multi a with
  | false =>
    exact key _ fun E' D' tmps' s' h1 h2 => hb lv n fn r kd rnd cs fin E' D' tmps' K s' h1 (hkb E' h2)
  | true =>
    unfold bindJ
    refine key _ fun E' D' tmps' s' h1 h2 => ?_
    rw [app_cur _ _ _ _ (getMany_length _ _), forceL_eq]
    exact hb lv n fn r kd rnd cs fin _ D' tmps' K s' (h1.join h2) (hkb _ h2.join)

theorem yok_loop [Known P] {x : Code} {jx : Nat} (hx : YOK P C N x jx) {lv n : Nat} {fn : FuncId} {r : List Item} {kd : CallKind} {rnd : Option Nat} {cs : List AF} {fin : Value → Nat → AM} {E tmps : List Value} {D : List Nat} {K : KY} {s : Nat} (hr : Rep (live (.loop x) lv) E tmps) (hk : KYOK P lv (wr (.loop x)) n fn r kd rnd cs fin E K) :
    AM.le (yloop N (wr x &&& live x lv) (ycode P C N fn rnd x (live x lv ||| lv)) E D K s) (arun P (n + (N * (jx + 1) + 1)) ⟨fn, tmps, .code (.loop x) :: r, D.map coll, .run, kd, rnd⟩ cs fin s) := by
  have hr' : Rep (live x lv) E tmps := hr
  have hsub : Sub (live x (live x lv ||| lv)) (live x lv) := by
    refine Sub.trans (live_sub x (b := lv ||| live x lv) (Sub.join (.right _ _) (.left _ _))) ((live_add x).trans (Sub.join (.refl _) (.refl _)))
  unfold yloop
  have head : ∀ m E' D' tmps' s', Rep (live x lv) E' tmps' → Frm (wr x) E E' →
      AM.le (app (slots E.length (wr x &&& live x lv)).length (loopJ m (slots E.length (wr x &&& live x lv)).length (fun _ => cur (slots E.length (wr x &&& live x lv)).length fun _ _ => .fail) (fun ih D => cur (slots E.length (wr x &&& live x lv)).length fun vals => forceL (setMany E (slots E.length (wr x &&& live x lv)) vals) fun E0 => ycode P C N fn rnd x (live x lv ||| lv) E0 D (seqY (fun E' D' => app (slots E.length (wr x &&& live x lv)).length (ih D') (getMany E' (slots E.length (wr x &&& live x lv)))) K)) D') (getMany E' (slots E.length (wr x &&& live x lv))) s')
        (arun P (n + m * (jx + 1)) ⟨fn, tmps', .code x :: .inLoop x :: r, D'.map coll, .run, kd, rnd⟩ cs fin s') := by
    intro m
    induction m with
    | zero =>
      intro E' D' tmps' s' h1 h2
      show AM.le (app _ (cur _ fun _ _ => .fail) _ _) _
      rw [app_cur _ _ _ _ (getMany_length _ _)]
      exact .fail _
    | succ m ih =>
      intro E' D' tmps' s' h1 h2
      show AM.le (app _ (cur _ fun vals => _) _ _) _
      rw [app_cur _ _ _ _ (getMany_length _ _), forceL_eq]
      have e : n + (m + 1) * (jx + 1) = (n + m * (jx + 1) + 1) + jx := by rw [Nat.add_mul]; omega
      rw [e]
      refine hx (live x lv ||| lv) (n + m * (jx + 1) + 1) fn (.inLoop x :: r) kd rnd cs fin _ D' tmps' _ s' ((h1.join h2).mono hsub) ⟨fun E2 D2 tmps2 s2 h3 h4 => ?_, fun id E2 D2 tmps2 s2 h3 h4 => ?_, fun E2 D2 tmps2 s2 todo h3 h4 => ?_⟩
      · rw [arun_succ]
        exact ih E2 D2 tmps2 s2 h3.left (h2.join.trans h4)
      · exact (hk.brk id E2 D2 tmps2 s2 h3.right (h2.join.trans h4)).trans (exit_more (by omega))
      · exact (hk.ret E2 D2 tmps2 s2 todo h3.right (h2.join.trans h4)).trans (leave_more (by omega) _ _ _ _ _)
  have e : n + (N * (jx + 1) + 1) = (n + N * (jx + 1)) + 1 := by omega
  rw [e, arun_succ]
  exact head N E D tmps s hr' (.refl _ _)

/-! ### loops over functions -/
theorem all_rep {E tmps : List Value} (h : Rep (2 ^ 4096 - 1) E tmps) (hl : E.length ≤ 4096) : E = tmps := by
  refine List.ext_getElem? fun t => ?_
  rcases Nat.lt_or_ge t E.length with ht | ht
  · have := h.at_ t (by rw [Nat.testBit_two_pow_sub_one]; simp; omega)
    rw [nthD_eq, nthD_eq] at this
    have ht' : t < tmps.length := by rw [← h.len]; exact ht
    simp [ht, ht'] at this ⊢; exact this
  · rw [List.getElem?_eq_none ht, List.getElem?_eq_none (by rw [← h.len]; exact ht)]
theorem end_ok [Known P] {n : Nat} {fn : FuncId} {tmps : List Value} {l : Nat} {r : List Item} {ds : List Deferred} {kd : CallKind} {rnd : Option Nat} {cs : List AF} {fin : Value → Nat → AM} {Kf : Nat → AM} {Kb : Nat → Nat → AM} {Kr : Nat → AM}
    (hf : ∀ s, AM.le (Kf s) (arun P n ⟨fn, tmps, r, ds, .run, kd, rnd⟩ cs fin s)) (hb : ∀ id s, AM.le (Kb id s) (exitA P n fn tmps r ds kd rnd id cs fin s))
    (hr : ∀ s, AM.le (Kr s) (aleave (fun a' cs' s' => arun P n a' cs' fin s') fin ⟨fn, tmps, .code .ret :: r, ds, .run, kd, rnd⟩ cs (some .ret) s)) (s : Nat) :
    AM.le (yend l Kf Kb Kr s) (arun P (n + 2) ⟨fn, tmps, .endRangeFunc l :: r, ds, .run, kd, rnd⟩ cs fin s) := by
  rw [show n + 2 = (n + 1) + 1 from rfl, arun_succ]
  unfold yend astep aend
  dsimp only
  refine .get fun o => ?_
  cases o <;> try exact .fail _
  rename_i q
  dsimp only
  cases q.state <;> first | exact .fail _ | skip
  all_goals
    refine .put ?_
    cases q.pending with
    | none => exact (hf s).trans (arun_add (by omega) _ _ _ _)
    | some c =>
      cases c <;> first | exact .fail _ | skip
      · exact (hb _ s).trans (exit_step (lv := 0) _)
      · refine (hr s).trans ?_
        dsimp only
        rw [arun_succ]
        exact .refl _
/-- What is handed to an iterator is handed on. -/
theorem le_invoke {k k' : Next → Nat → AM} (tg : Fn) (cap as : Array Value) (s : Nat) (hd : as.toList.all isSlc = false) (hd2 : ∀ t v r, as.toList = .iface t v :: r → r.all isSlc = false) (h : ∀ nx s, (∀ g args, nx = .enter g args → args.toList.all isSlc = false) → AM.le (k nx s) (k' nx s)) : AM.le (ainvoke P ⟨.fn tg cap, as⟩ k s) (ainvoke P ⟨.fn tg cap, as⟩ k' s) := by
  have hall : ∀ l : List Value, (as.toList ++ l).all isSlc = false := fun l => by rw [List.all_append, hd]; rfl
  have ho : ∀ v s, AM.le (k (.value v) s) (k' (.value v) s) := fun v s => h _ _ fun g args e => (by cases e)
  unfold ainvoke
  cases tg with
  | func f =>
    dsimp only
    cases okFn P _
    · simp only [cond_false]
      split
      · exact cg_atom _ _ _ _ _ fun v s => ho _ _
      cases List.all _ _
      · exact .fail _
      · simp only [cond_true]
        split
        · cases plainV _; exact .fail _; exact ho _ _
        · exact .fail _
    · refine h _ _ fun g args e => ?_
      cases e; exact hall _
  | yield l =>
    dsimp only
    unfold ayield
    refine .get fun o => ?_
    cases o <;> try exact .fail _
    dsimp only
    cases Nat.beq _ _; exact .fail _; exact h _ _ fun g args e => (by cases e)
  | via t path f ptr =>
    dsimp only
    split
    · rename_i x rest hx
      cases (path.isEmpty && selfRecv P _ _ && okFn P _)
      · exact .fail _
      · refine h _ _ fun g args e => ?_
        cases e
        show (x :: rest).all isSlc = false
        rw [← hx]; exact hd
    · exact .fail _
  | methodOf t name =>
    dsimp only
    split
    · exact .fail _
    · rename_i x rest _ _ hx
      split
      · cases okFn P _
        · exact .fail _
        · refine h _ _ fun g args e => ?_
          cases e
          show (x :: rest).all isSlc = false
          rw [← hx]; exact hd
      · exact .fail _
    · exact .fail _
  | method name =>
    dsimp only
    split
    · rename_i t v rest hx
      split
      · cases okFn P _
        · exact .fail _
        · refine h _ _ fun g args e => ?_
          cases e
          show (v :: rest).all isSlc = false
          rw [List.all_cons, hd2 _ _ _ hx, Bool.and_false]
      · exact .fail _
    · exact .fail _
theorem iter_ok [Known P] (hC : AllOK P C J) {n : Nat} {fn : FuncId} {tmps : List Value} {l : Nat} {r : List Item} {ds : List Deferred} {kd : CallKind} {rnd : Option Nat} {cs : List AF} {fin : Value → Nat → AM} {f : Operand} {k : Nat → AM} (hk : ∀ s, AM.le (k s) (arun P n ⟨fn, tmps, .endRangeFunc l :: r, ds, .run, kd, rnd⟩ cs fin s)) (s : Nat) :
    AM.le (yiter P C (aev tmps f) l k s) (acallIter P (fun a' cs' s' => arun P (n + J) a' cs' fin s') ⟨fn, tmps, .inRangeFunc l :: r, ds, .run, kd, rnd⟩ cs f l s) := by
  unfold yiter acallIter
  dsimp only
  cases aev tmps f <;> first | exact .fail _ | skip
  refine le_invoke _ _ _ _ (by simp [List.all_append, isSlc]) (fun t v r e => ?_) fun nx s hsl => ?_
  · rename_i first _ 
    cases hf : first.toList with
    | nil => rw [hf] at e; cases e
    | cons x l => rw [hf] at e; cases e; simp [List.all_append, isSlc]
  cases nx <;> first | exact .fail _ | skip
  rename_i g args
  replace hsl := hsl g args rfl
  dsimp only
  cases hb : Nat.beq g 1000000 with
  | true => exact .fail _
  | false =>
    have h := hC.call g (fun e => by subst e; rw [beq_yes] at hb; cases hb) args.toList (fun _ s => k s) n (⟨fn, tmps, .inRangeFunc l :: r, ds, .run, kd, rnd⟩ :: cs) fin s fun v s => hk s
    show AM.le (List.rec (motive := fun _ => AM) .fail (fun _ _ _ => C g args.toList (fun _ s => k s) s) args.toList) _
    generalize args.toList = l' at h hsl ⊢
    cases l' with
    | nil => exact .fail _
    | cons x l' =>
      unfold entered at h
      rw [askK_fn (by simp) hsl] at h
      cases hk2 : Known.k2 P g with
      | true => rw [hk2] at h; exact h.trans (.fail _)
      | false => rw [hk2] at h; exact h
theorem yok_range [Known P] (hC : AllOK P C J) (f : Operand) (params : Array Tmp) (as body : Code) : YOK P C N (.rangeFunc f params as body) (4 * (J + 1)) := by
  intro lv n fn r kd rnd cs fin E D tmps K s hr hk
  have e : n + 4 * (J + 1) = (n + 3 * J + 1 + 2 + J) + 1 := by omega
  rw [e, arun_succ]
  show AM.le (yrange P C fn rnd f params as body E D K s) _
  unfold yrange
  cases hg : (okOperand f && Nat.ble E.length 4096) with
  | false => exact .fail _
  | true =>
  rw [Bool.and_eq_true, Nat.ble_eq] at hg
  have he := all_rep hr hg.2
  subst he
  unfold astep arange
  dsimp only
  rw [hg.1]
  simp only [cond_true]
  have hrl : Rep lv E E := ⟨rfl, fun _ _ => rfl⟩
  cases rnd with
  | none =>
    dsimp only
    unfold yloopN
    refine .new (.new ?_)
    refine iter_ok hC (n := n + 3 * J + 1 + 2) (fun s' => end_ok (fun s2 => ?_) (fun id s2 => ?_) (fun s2 => ?_) s') _
    · exact (hk.fall E (s :: D) E s2 hrl (.refl _ _)).trans (arun_add (by omega) _ _ _ _)
    · exact (hk.brk id E (s :: D) E s2 hrl (.refl _ _)).trans (exit_more (by omega))
    · exact (hk.ret E (s :: D) E s2 _ hrl (.refl _ _)).trans (leave_more (by omega) _ _ _ _ _)
  | some l =>
    dsimp only
    unfold yloopR
    refine .get fun o => ?_
    cases o <;> first | exact .fail _ | skip
    refine .new ?_
    refine iter_ok hC (n := n + 3 * J + 1 + 2) (fun s' => end_ok (fun s2 => ?_) (fun id s2 => ?_) (fun s2 => ?_) s') _
    · exact (hk.fall E D E s2 hrl (.refl _ _)).trans (arun_add (by omega) _ _ _ _)
    · exact (hk.brk id E D E s2 hrl (.refl _ _)).trans (exit_more (by omega))
    · exact (hk.ret E D E s2 _ hrl (.refl _ _)).trans (leave_more (by omega) _ _ _ _ _)

theorem ycode_ok [Known P] (hC : AllOK P C J) (N : Nat) (c : Code) : YOK P C N c (cost N c * (J + 1)) := by
  induction c with
  | region id ops draw => exact fun lv n fn r kd rnd cs fin E D tmps K s hr hk => (xok_region (N := N) hC id ops draw).lift hr hk
  | seq a b iha ihb =>
    intro lv n fn r kd rnd cs fin E D tmps K s hr hk
    show AM.le (Bool.rec (motive := fun _ => AM) (yseq b (wr a) (multi a) (ycode P C N fn rnd a) (ycode P C N fn rnd b) lv E D K s) (xcode P C N (.seq a b) lv E (fun ex E s => K ex E D s) s) (noRange a && noRange b)) _
    cases (noRange a && noRange b) with
    | false => exact (yok_seq iha ihb hr hk).trans (arun_add (Nat.add_le_add_left cost_seq _) _ _ _ _)
    | true => exact (xcode_ok hC N (.seq a b)).lift hr hk
  | cond c a b iha ihb =>
    have h : YOK P C N (.cond c a b) (cost N a * (J + 1) + cost N b * (J + 1) + 1) := by
      intro lv n fn r kd rnd cs fin E D tmps K s hr hk
      rw [← Nat.add_assoc, arun_succ]
      show AM.le (Bool.rec (motive := fun _ => AM) .fail (condX (aev E c) (ycode P C N fn rnd a lv E D K s) (ycode P C N fn rnd b lv E D K s)) (okOperand c)) _
      unfold astep
      dsimp only
      cases hok : okOperand c with
      | false => exact .fail _
      | true =>
      show AM.le (condX (aev E c) (ycode P C N fn rnd a lv E D K s) (ycode P C N fn rnd b lv E D K s)) _
      simp only [cond_true]
      have hr : Rep (rdOpd c ||| (live a lv ||| live b lv)) E tmps := hr
      have hv : aev E c = aev tmps c := aev_rep hr fun t ht => by rw [Nat.testBit_or, ht]; rfl
      rw [hv]
      unfold condX
      cases aev tmps c with
      | bool t =>
        cases t with
        | true => exact (iha lv n fn r kd rnd cs fin E D tmps K s hr.right.left ⟨fun E' D' tmps' s' h1 h2 => hk.fall _ _ _ _ h1 h2.left, fun id E' D' tmps' s' h1 h2 => hk.brk id _ _ _ _ h1 h2.left, fun E' D' tmps' s' todo h1 h2 => hk.ret _ _ _ _ _ h1 h2.left⟩).trans (arun_add (by omega) _ _ _ _)
        | false => exact (ihb lv n fn r kd rnd cs fin E D tmps K s hr.right.right ⟨fun E' D' tmps' s' h1 h2 => hk.fall _ _ _ _ h1 h2.right, fun id E' D' tmps' s' h1 h2 => hk.brk id _ _ _ _ h1 h2.right, fun E' D' tmps' s' todo h1 h2 => hk.ret _ _ _ _ _ h1 h2.right⟩).trans (arun_add (by omega) _ _ _ _)
      | _ => exact .fail _
    exact h.more cost_seq
  | block id x ih =>
    have h : YOK P C N (.block id x) (cost N x * (J + 1) + 2) := by
      intro lv n fn r kd rnd cs fin E D tmps K s hr hk
      have e : n + (cost N x * (J + 1) + 2) = (n + 1 + cost N x * (J + 1)) + 1 := by omega
      rw [e, arun_succ]
      refine ih lv (n + 1) fn (.inBlock id :: r) kd rnd cs fin E D tmps (blockY id K) s hr ⟨fun E' D' tmps' s' h1 h2 => ?_, fun i E' D' tmps' s' h1 h2 => ?_, fun E' D' tmps' s' todo h1 h2 => ?_⟩
      · rw [arun_succ]; exact hk.fall _ _ _ _ h1 h2
      · show AM.le (Bool.rec (motive := fun _ => AM) (K (.brk i) E' D' s') (K .fall E' D' s') (Nat.beq i id)) _
        unfold exitA exitTo
        cases hb : Nat.beq i id with
        | true =>
          have := Nat.eq_of_beq_eq_true hb; subst this
          simp only [beq_self_eq_true, if_true]
          exact (hk.fall _ _ _ _ h1 h2).trans (arun_add (by omega) _ _ _ _)
        | false =>
          have hne : ¬ id = i := fun h => by subst h; rw [beq_yes] at hb; cases hb
          simp only [beq_iff_eq, hne, if_false]
          exact (hk.brk i _ _ _ _ h1 h2).trans (exit_more (by omega))
      · exact (hk.ret _ _ _ _ _ h1 h2).trans (leave_more (by omega) _ _ _ _ _)
    exact h.more cost_two
  | scope x ih =>
    have h : YOK P C N (.scope x) (cost N x * (J + 1) + 2) := by
      intro lv n fn r kd rnd cs fin E D tmps K s hr hk
      have e : n + (cost N x * (J + 1) + 2) = (n + 1 + cost N x * (J + 1)) + 1 := by omega
      rw [e, arun_succ]
      refine ih lv (n + 1) fn (.inScope x :: r) kd rnd cs fin E D tmps K s hr ⟨fun E' D' tmps' s' h1 h2 => ?_, fun i E' D' tmps' s' h1 h2 => ?_, fun E' D' tmps' s' todo h1 h2 => ?_⟩
      · rw [arun_succ]; exact hk.fall _ _ _ _ h1 h2
      · exact (hk.brk i _ _ _ _ h1 h2).trans (exit_more (by omega))
      · exact (hk.ret _ _ _ _ _ h1 h2).trans (leave_more (by omega) _ _ _ _ _)
    exact h.more cost_two
  | loop x ih =>
    intro lv n fn r kd rnd cs fin E D tmps K s hr hk
    show AM.le (Bool.rec (motive := fun _ => AM) (yloop N (wr x &&& live x lv) (ycode P C N fn rnd x (live x lv ||| lv)) E D K s) (xcode P C N (.loop x) lv E (fun ex E s => K ex E D s) s) (noRange x)) _
    cases noRange x with
    | false => exact (yok_loop ih hr hk).trans (arun_add (Nat.add_le_add_left cost_loop _) _ _ _ _)
    | true => exact (xcode_ok hC N (.loop x)).lift hr hk
  | rangeFunc f params as body _ _ => exact yok_range hC f params as body
  | skip => exact fun lv n fn r kd rnd cs fin E D tmps K s hr hk => (xcode_ok hC N .skip).lift hr hk
  | label l => exact fun lv n fn r kd rnd cs fin E D tmps K s hr hk => (xcode_ok hC N (.label l)).lift hr hk
  | exit id => exact fun lv n fn r kd rnd cs fin E D tmps K s hr hk => (xcode_ok hC N (.exit id)).lift hr hk
  | ret => exact fun lv n fn r kd rnd cs fin E D tmps K s hr hk => (xcode_ok hC N .ret).lift hr hk
  | _ => exact fun _ _ _ _ _ _ _ _ _ _ _ _ _ _ _ => .fail _

/-! ### functions -/
theorem unw_ok [Known P] {n : Nat} {f : FuncId} {tmps : List Value} {todo : List Item} {cs : List AF} {fin : Value → Nat → AM} {k : Nat → AM} (hk : ∀ s, AM.le (k s) (arun P (n + 1) ⟨f, tmps, todo, [], .returning, .normal, none⟩ cs fin s)) : ∀ (D : List Nat) (s : Nat), AM.le (yunw D k s) (arun P (n + 1 + D.length) ⟨f, tmps, todo, D.map coll, .returning, .normal, none⟩ cs fin s)
  | [], s => hk s
  | b :: D, s => by
    have e : n + 1 + (b :: D).length = (n + 1 + D.length) + 1 := by simp; omega
    rw [e, arun_succ]
    show AM.le (.get b fun | .deferred (some []) => .put b (.deferred none) (yunw D k s) | _ => .fail) _
    unfold astep aunwind
    refine .get fun o => ?_
    split
    · exact .put (unw_ok hk D s)
    · exact .fail _
/-- A function's body as one term tells no more than the machine. -/
theorem yfun_ok [Known P] (hC : AllOK P C J) (N : Nat) (f : FuncId) (hkn : Known.kn P f = false) (hk2 : Known.k2 P f = false) : ∃ J', CallOK P (yfun P N C) J' f := by
  obtain ⟨M, hM⟩ : ∃ M, M = MANY := ⟨_, rfl⟩
  unfold CallOK yfun entered AF.enter
  simp only [askK_no hkn hk2]
  cases hf : P.funcs[f]? with
  | none => exact ⟨0, fun _ _ _ _ _ _ _ => .fail _⟩
  | some fn =>
  dsimp only
  cases hb : fn.body with
  | none => exact ⟨0, fun _ _ _ _ _ _ _ => .fail _⟩
  | some c =>
  dsimp only
  have hj := ycode_ok hC N c
  generalize cost N c * (J + 1) = j at hj
  refine ⟨j + M + 2, fun args K n cs fin s hK => ?_⟩
  unfold ybody
  by_cases hl : args.length = fn.params.size + fn.nfree
  · rw [app_cur _ _ _ _ hl, forceL_eq, ← hl]
    have e : n + (j + M + 2) = (n + M + 2) + j := by omega
    rw [e]
    have hret : ∀ E' D' tmps' s' todo, Rep (rdRes fn.results.toList) E' tmps' → AM.le (yret D' (fun s => aresults P E' (fun vs s => K (resultOf vs) s) fn.results.toList s) s') (arun P (n + M + 1) ⟨f, tmps', todo, D'.map coll, .returning, .normal, none⟩ cs fin s') := by
      intro E' D' tmps' s' todo h1
      unfold yret
      cases hd : Nat.ble D'.length MANY with
      | false => exact .fail _
      | true =>
        rw [Nat.ble_eq] at hd
        have hd : D'.length ≤ M := by rw [hM]; exact hd
        refine (unw_ok (n := n) (fun s => ?_) D' s').trans (arun_add (by omega) _ _ _ _)
        rw [results_rep _ _ _ h1, arun_succ]
        unfold astep aunwind
        dsimp only
        rw [hf]
        dsimp only
        refine le_results _ _ _ _ _ fun vs s => ?_
        refine (hK _ _).trans ?_
        unfold back
        cases cs with
        | nil => exact .refl _
        | cons c rest => exact .refl _
    refine hj (rdRes fn.results.toList) (n + M + 2) f [] .normal none cs fin _ [] _ _ s (Rep.mono ⟨rfl, fun _ _ => rfl⟩ fun _ h => h) ⟨fun E' D' tmps' s' h1 h2 => ?_, fun id E' D' tmps' s' h1 h2 => .fail _, fun E' D' tmps' s' todo h1 h2 => (hret E' D' tmps' s' todo h1).trans (show AM.le _ (arun P (n + M + 2) ⟨f, tmps', todo, D'.map coll, .returning, .normal, none⟩ cs fin s') from arun_add (by omega) _ _ _ _)⟩
    rw [arun_succ]
    unfold astep aleave
    exact hret E' D' tmps' s' _ h1
  · rw [app_bad _ _ _ _ hl]
    exact .fail _

/-! ### rounds -/
theorem leave_ok [Known P] {n : Nat} {l : Nat} {K : Value → Nat → AM} {cs : List AF} {fin : Value → Nat → AM} (hK : ∀ v s', AM.le (K v s') (back P n cs fin v s')) (ex : Ex) (E : List Value) (D : List Nat) (s : Nat) {fn : FuncId} {tmps : List Value} {todo : List Item} {ds : List Deferred} :
    AM.le (yleave l K ex E D s) (aleave (fun a' cs' s' => arun P n a' cs' fin s') fin ⟨fn, tmps, todo, ds, .run, .normal, some l⟩ cs (match ex with | .fall => none | .brk id => some (.exit id) | .ret => some .ret) s) := by
  unfold yleave aleave
  dsimp only
  refine .get fun o => ?_
  cases o <;> try exact .fail _
  rename_i r
  dsimp only
  cases ex <;> refine .put ((hK _ _).trans ?_) <;> unfold back <;> cases cs <;> exact .refl _
theorem yround_ok [Known P] (hC : AllOK P C J) (N : Nat) (l : Nat) (f : FuncId) (E : List Value) (as body : Code) {K : Value → Nat → AM} {n : Nat} {cs : List AF} {fin : Value → Nat → AM} (hK : ∀ v s', AM.le (K v s') (back P n cs fin v s')) {B : Nat} (hB : B = BIG) (s : Nat) :
    AM.le (yround P N C l f E as body K s) (arun P (n + B * (J + 1)) ⟨f, E, [.code as, .beginRound, .code body], [], .run, .normal, some l⟩ cs fin s) := by
  unfold yround
  cases hc : Nat.ble (cost N as + cost N body + 4) (BIG) with
  | false => exact .fail _
  | true =>
  rw [Nat.ble_eq] at hc
  have hc : cost N as + cost N body + 4 ≤ B := by rw [hB]; exact hc
  have hle : n + 2 + cost N body * (J + 1) + 1 + cost N as * (J + 1) ≤ n + B * (J + 1) := by
    have : (cost N as + cost N body + 4) * (J + 1) ≤ B * (J + 1) := Nat.mul_le_mul_right _ hc
    rw [Nat.add_mul, Nat.add_mul] at this
    omega
  refine AM.le.trans ?_ (arun_add hle _ _ _ _)
  have hleave : ∀ ex E' D' tmps' s' todo, AM.le (yleave l K ex E' D' s') (aleave (fun a' cs' s' => arun P (n + 1) a' cs' fin s') fin ⟨f, tmps', todo, D'.map coll, .run, .normal, some l⟩ cs (match ex with | .fall => none | .brk id => some (.exit id) | .ret => some .ret) s') := fun ex E' D' tmps' s' todo =>
    leave_ok (fun v s' => (hK v s').trans (by unfold back; cases cs with | nil => exact .refl _ | cons c rest => exact arun_add (by omega) _ _ _ _)) ex E' D' s'
  refine ycode_ok hC N as (live body 0) (n + 2 + cost N body * (J + 1) + 1) f [.beginRound, .code body] .normal (some l) cs fin E [] E _ s ⟨rfl, fun _ _ => rfl⟩ ⟨fun E' D' tmps' s' h1 h2 => ?_, fun id E' D' tmps' s' h1 h2 => .fail _, fun E' D' tmps' s' todo h1 h2 => .fail _⟩
  rw [arun_succ]
  unfold astep abegin
  dsimp only
  show AM.le (yready l (fun s => ycode P C N f (some l) body 0 E' D' (yleave l K) s) s') _
  unfold yready
  refine .get fun o => ?_
  cases o <;> try exact .fail _
  rename_i q
  dsimp only
  cases q.state <;> first | exact .fail _ | skip
  refine .put ?_
  refine ycode_ok hC N body 0 (n + 2) f [] .normal (some l) cs fin E' D' tmps' _ s' h1 ⟨fun E2 D2 tmps2 s2 h3 h4 => ?_, fun id E2 D2 tmps2 s2 h3 h4 => ?_, fun E2 D2 tmps2 s2 todo h3 h4 => ?_⟩
  · rw [arun_succ]
    exact hleave .fall E2 D2 tmps2 s2 []
  · unfold exitA exitTo
    exact (hleave (.brk id) E2 D2 tmps2 s2 []).trans (leave_more (by omega) _ _ _ _ _)
  · exact (hleave .ret E2 D2 tmps2 s2 todo).trans (leave_more (by omega) _ _ _ _ _)
theorem yY_ok [Known P] (hC : AllOK P C J) (N : Nat) (l : Nat) (args : List Value) (K : Value → Nat → AM) (n : Nat) (cs : List AF) (fin : Value → Nat → AM) {B : Nat} (hB : B = BIG) (s : Nat) (hK : ∀ v s', AM.le (K v s') (back P n cs fin v s')) :
    AM.le (yY P N C (.int .i64 (.ofNat l) :: args) K s) (ayield l args (roundA P (n + B * (J + 1)) cs fin) s) := by
  unfold yY ayield
  dsimp only
  refine .get fun o => ?_
  cases o <;> try exact .fail _
  rename_i r
  dsimp only
  cases Nat.beq args.length r.params.size with
  | false => exact .fail _
  | true => exact yround_ok hC N l r.fn _ r.assign r.body hK hB s
end
end Go.Ev

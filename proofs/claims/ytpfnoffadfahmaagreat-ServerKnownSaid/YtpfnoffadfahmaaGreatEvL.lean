/- An operation of the program, over a heap of names, beside the model's. No condition. -/
import Derived.Test.YtpfnoffadfahmaaGreatEvK
namespace Go.Ev
set_option linter.unusedVariables false
set_option linter.unusedSimpArgs false
open Go Go.RowKit

section
variable {P : Program} {w0 : World} {σ : Emb} {h : T} {w : World}

noncomputable def isEq : BinOp → Bool | .eql => true | _ => false
noncomputable def isNeq : BinOp → Bool | .neq => true | _ => false
noncomputable def oval (ρ : Operand → Value) : Option Operand → Option Value
  | some x => some (ρ x)
  | none => none

/-! ### over a string -/
noncomputable def arangeOf (P : Program) (t : TypeId) (x : Value) : M Value := fun k s =>
  match P.underlying t, x with
  | some .string, .string b => anew (.stringIter b 0) (fun n => k (.pointer (some ⟨n, 0, none⟩))) s
  | _, _ => .fail
theorem Sim.rangeOf (st : St σ w0 h w) {t : TypeId} {x x' : Value} (hx : VR σ x x') : Sim P w0 σ h w (arangeOf P t x) (Instr.range t x') VR := by
  unfold arangeOf
  intro k s r e
  dsimp only at e
  split at e
  · rename_i b hd
    cases hx
    obtain ⟨n, s', h', e', bk, w', σ', run, le, st', hn⟩ := Sim.new (P := P) (w := w) st (o := .stringIter b 0) (O := .stringIter b 0) rfl (fun n hn => ⟨rfl, rfl⟩) (fun n => k (.pointer (some ⟨n, 0, none⟩))) s r e
    refine ⟨_, s', h', e', .pointer (some ⟨bk, 0, none⟩), w', σ', ?_, le, st', .ptr n 0 _ hn⟩
    simp only [Instr.range, Sem.run_bind, run_und hd, Result.andThen_ok, Sem.run_pure, run]
  · cases e

noncomputable def anextOf (it : Value) : M Value := fun k s =>
  match it with
  | .pointer (some a) => bif Nat.beq a.off 0 then .get a.block fun
    | .stringIter b p => bif Nat.blt p b.size then .put a.block (.stringIter b (p + (Utf8.decode b p).2)) (k (.tuple #[.bool true, goInt p, .int .i32 (Utf8.decode b p).1]) s) else k (.tuple #[.bool false]) s
    | _ => .fail
    else .fail
  | _ => .fail
theorem Sim.nextOf (st : St σ w0 h w) {ty : TypeId} {it it' : Value} (hx : VR σ it it') : Sim P w0 σ h w (anextOf it) (Instr.next it' true ty) VR := by
  unfold anextOf
  intro k s r e
  dsimp only at e
  split at e
  · rename_i a
    cases h0 : Nat.beq a.off 0 with
    | false => rw [h0] at e; cases e
    | true =>
      rw [h0] at e
      simp only [cond_true] at e
      rw [AM.run_get] at e
      split at e
      · rename_i ob hob
        split at e
        · rename_i b p
          cases hx with
          | ptr n o en he =>
          dsimp only at hob e h0
          have ho : o = 0 := Nat.eq_of_beq_eq_true h0
          subst ho
          obtain ⟨hbase, hsh, hH⟩ := st.hr.entry hob he
          have hget : (getObj en.blk).run P w = .ok (.stringIter b p) w := by simp [getObj, Sem.run, hH]
          cases hp : Nat.blt p b.size with
          | false =>
            rw [hp] at e
            have : ¬ p < b.size := fun q => by rw [← Nat.blt_eq, hp] at q; cases q
            refine ⟨_, s, h, e, .tuple #[.bool false], w, σ, ?_, .refl _, st, .of_plain rfl⟩
            rw [hsh]
            simp only [Instr.next, Sem.run_bind, hget, Result.andThen_ok, this, if_false, Sem.run_pure]
          | true =>
            rw [hp] at e
            have hlt0 : p < b.size := by rw [← Nat.blt_eq]; exact hp
            simp only [cond_true] at e
            rw [AM.run_put, hob] at e
            have hlt := lt_of_get? hH
            refine ⟨_, s, h.set n (.stringIter b (p + (Utf8.decode b p).2)), e, .tuple #[.bool true, goInt p, .int .i32 (Utf8.decode b p).1], { w with heap := w.heap.setIfInBounds en.blk (.stringIter b (p + (Utf8.decode b p).2)) }, σ, ?_, .refl _, ⟨?_, ?_⟩, .of_plain rfl⟩
            · rw [hsh]
              have hset : (Go.setObj en.blk (.stringIter b (p + (Utf8.decode b p).2))).run P w = .ok () { w with heap := w.heap.setIfInBounds en.blk (.stringIter b (p + (Utf8.decode b p).2)) } := by
                unfold Go.setObj; simp [Sem.run, hH]
              simp only [Instr.next, Sem.run_bind, hget, Result.andThen_ok, hlt0, if_true, hset, Sem.run_pure]
            · refine (st.hr.upd (o' := .stringIter b (p + (Utf8.decode b p).2)) hob he rfl rfl rfl (by simp) (fun k hk => ?_) ?_ ?_ ?_).congr (fun m => T.get_set h n m _)
              · simp [Ne.symm hk]
              · exact ⟨hsh, by simp [hlt]⟩
              · intro c t fr d u fs e1; cases e1
              · intro c t fr e1; cases e1
            · have hb : w0.heap.size ≤ en.blk := hbase rfl
              exact st.below.trans ⟨rfl, rfl, rfl, by simp, fun k hk => by simp [show en.blk ≠ k by omega]⟩
        · cases e
      · cases e
  · cases e

/-! ### the address of a pointer, as the model has it -/
noncomputable def aunsafe (P : Program) (t : TypeId) (p : Option Addr) : M Value := fun k s =>
  match p with
  | none => k (.pointer none) s
  | some ⟨n, o, none⟩ => match P.info? t with
    | some i => bif Nat.beq i.size 0 then .fail else .get n fun
      | .cells c _ _ => bif Nat.blt o c.size then k (.pointer (some ⟨n, o, none⟩)) s else .fail
      | _ => .fail
    | none => .fail
  | _ => .fail
theorem Sim.unsafe (st : St σ w0 h w) {src dst t : TypeId} {p : Option Addr} {x' : Value} (hs : P.underlying src = some (.pointer t)) (hd : P.underlying dst = some .unsafePointer) (hx : VR σ (.pointer p) x') :
    Sim P w0 σ h w (aunsafe P t p) (Go.convert src dst x') VR := by
  unfold aunsafe
  intro k s r e
  cases hx with
  | ptrNil =>
    refine ⟨_, s, h, e, .pointer none, w, σ, ?_, .refl _, st, .ptrNil⟩
    simp only [Go.convert, Sem.run_bind, run_und hs, run_und hd, Result.andThen_ok, Conv.unsafePointer, Sem.run_pure]
  | ptr n o en he =>
    dsimp only at e
    split at e
    · rename_i i hi
      cases hz : Nat.beq i.size 0 with
      | true => rw [hz] at e; cases e
      | false =>
        rw [hz] at e
        simp only [cond_false] at e
        rw [AM.run_get] at e
        split at e
        · rename_i ob hob
          split at e
          · rename_i c t0 f
            cases hl : Nat.blt o c.size with
            | false => rw [hl] at e; cases e
            | true =>
              rw [hl] at e
              simp only [cond_true] at e
              have hlt : o < c.size := by rw [← Nat.blt_eq]; exact hl
              have hz' : i.size ≠ 0 := fun q => by rw [q] at hz; cases hz
              obtain ⟨_, cs, t', fr, b1, b2, _, _, b5, _⟩ := st.row hob he
              have hsh : w.shape? en.blk = some (t', cs.size) := by unfold World.shape?; rw [b1]
              have hge : ¬ (en.shift + o ≥ cs.size) := by omega
              refine ⟨_, s, h, e, .pointer (some ⟨en.blk, en.shift + o, none⟩), w, σ, ?_, .refl _, st, .ptr n o en he⟩
              simp only [Go.convert, Sem.run_bind, run_und hs, run_und hd, Result.andThen_ok, Conv.unsafePointer, Conv.seenAt, viewAt, cellsIn, sizeOf, run_inf hi, run_shape, hsh, Option.isSome_some, if_true, Sem.run_pure, hz', hge, decide_false, Bool.false_and, Bool.or_self, Bool.false_eq_true, if_false]
          · cases e
        · cases e
    · cases e

noncomputable def aop (P : Program) (ρ : Operand → Value) (o : Oper) : M Next := fun k s =>
  match o.op with
  | .move x | .assign x => k (.value (ρ x)) s
  | .pick c a b => match ρ c with
    | .bool t => k (.value (bif t then ρ a else ρ b)) s
    | _ => .fail
  | .alloc t => aalloc P t (fun v => k (.value v)) s
  | .box t x => abox t (ρ x) (fun v => k (.value v)) s
  | .build t ps => M.opt (abuild P t (ps.toList.map fun p => (p.1, ρ p.2))) (fun v => k (.value v)) s
  | .buildSlice t n ps => abuildSlice P t n (ps.toList.map fun p => (p.1, ρ p.2)) (fun v => k (.value v)) s
  | .load t a => aloadAt P t (ρ a) (fun v => k (.value v)) s
  | .store t a x => astoreAt P t (ρ a) (ρ x) (fun _ => k .skip) s
  | .nilCheck x => match ρ x with
    | .pointer (some a) => k (.value (.pointer (some a))) s
    | .iface t v => k (.value (.iface t v)) s
    | .func (.func f) xs ys => k (.value (.func (.func f) xs ys)) s
    | .func (.yield l) xs ys => k (.value (.func (.yield l) xs ys)) s
    | .func (.via a b c d) xs ys => k (.value (.func (.via a b c d) xs ys)) s
    | .func (.methodOf a b) xs ys => k (.value (.func (.methodOf a b) xs ys)) s
    | _ => .fail
  | .binOp op t x y _ => match aeqNil P t (ρ x) (ρ y) with
    | some b => bif isEq op then k (.value (.bool b)) s else bif isNeq op then k (.value (.bool (!b))) s else .fail
    | none => aplain P ρ o k s
  | .convert src dst x => match P.underlying src, P.underlying dst, ρ x with
    | some (.slice e), some .string, .slice a n c => match P.underlying e with
      | some (.int .u8) => abytesStr (.slice a n c) (fun v => k (.value v)) s
      | _ => .fail
    | some (.pointer u), some .unsafePointer, .pointer p => aunsafe P u p (fun v => k (.value v)) s
    | _, _, _ => aplain P ρ o k s
  | .makeInterface t x => match P.underlying t with
    | some (.interface _) => .fail
    | some _ => k (.value (.iface t (ρ x))) s
    | none => .fail
  | .makeFunc f xs ys => match f with
    | .yield _ => .fail
    | _ => k (.value (.func f ⟨xs.toList.map ρ⟩ ⟨ys.toList.map ρ⟩)) s
  | .makeMap _ none => amakeMap (fun v => k (.value v)) s
  | .makeSlice t l c => amakeSlice P t (ρ l) (ρ c) (fun v => k (.value v)) s
  | .slice t x lo hi mx => match P.underlying t with
    | some .string => aplain P ρ o k s
    | _ => aslice P t (ρ x) (oval ρ lo) (oval ρ hi) (oval ρ mx) (fun v => k (.value v)) s
  | .fieldAddr t x f => M.opt (afieldAt P t (ρ x) f) (fun v => k (.value v)) s
  | .field t x f => M.opt (afield P t (ρ x) f) (fun v => k (.value v)) s
  | .indexAddr t x i => M.opt (aindexAt P t (ρ x) (ρ i)) (fun v => k (.value v)) s
  | .index t x i => match P.underlying t with
    | some .string => aplain P ρ o k s
    | _ => M.opt (aindex P t (ρ x) (ρ i)) (fun v => k (.value v)) s
  | .lookup t x i ok => alookup P t (ρ x) (ρ i) ok (fun v => k (.value v)) s
  | .mapUpdate t m ky x | .insert t m ky x => amapUpdate P t (ρ m) (ρ ky) (ρ x) (fun _ => k .skip) s
  | .typeAssert x _ a ok => M.opt (atypeAssert P (ρ x) a ok) (fun v => k (.value v)) s
  | .extract x i => match ρ x with
    | .tuple vs => M.opt (nth vs.toList i) (fun v => k (.value v)) s
    | _ => .fail
  | .call c => match aresolve ρ c o.type with
    | some d => ainvoke P d k s
    | none => .fail
  | .defer c => match aresolve ρ c o.type with
    | some d => k (.defer d) s
    | none => .fail
  | .unOp _ _ _ => aplain P ρ o k s
  | .range t x => arangeOf P t (ρ x) (fun v => k (.value v)) s
  | .next it str => bif str then anextOf (ρ it) (fun v => k (.value v)) s else .fail
  | _ => .fail

theorem PR.map {ρ ρ' : Operand → Value} : ∀ {l : List (Nat × Operand)}, (∀ p ∈ l, VR σ (ρ p.2) (ρ' p.2)) → PR σ (l.map fun p => (p.1, ρ p.2)) (l.map fun p => (p.1, ρ' p.2))
  | [], _ => .nil
  | p :: l, hl => .cons p.1 (hl p (by simp)) (PR.map fun q hq => hl q (by simp [hq]))

theorem OVR.oval {ρ ρ' : Operand → Value} {x : Option Operand} (hx : ∀ y, x = some y → VR σ (ρ y) (ρ' y)) : OVR σ (oval ρ x) (x.map ρ') := by
  cases x with
  | none => trivial
  | some y => exact hx y rfl

set_option maxHeartbeats 4000000 in
theorem Sim.op (st : St σ w0 h w) {ρ ρ' : Operand → Value} {o : Oper} (hρ : ∀ x ∈ o.op.operands, VR σ (ρ x) (ρ' x)) : Sim P w0 σ h w (aop P ρ o) (execOp ρ' o) NR := by
  have hplain : (∀ cs b, o.op ≠ .select cs b) → Sim P w0 σ h w (aplain P ρ o) (execOp ρ' o) NR := fun hs => Sim.plain st hs hρ
  obtain ⟨dst, op, ty, pos, after, guard⟩ := o
  dsimp only at hρ
  unfold aop
  dsimp only
  cases op with
  | move x => exact Sim.pure st (.value (hρ x (by simp [Op.operands])))
  | assign x => exact Sim.pure st (.value (hρ x (by simp [Op.operands])))
  | pick c a b =>
    have hc := hρ c (by simp [Op.operands])
    have ha := hρ a (by simp [Op.operands])
    have hb := hρ b (by simp [Op.operands])
    dsimp only
    cases hv : ρ c with
    | bool t =>
      rw [hv] at hc
      generalize hv' : ρ' c = u at hc
      cases hc
      refine Sim.congr (Sim.pure (b := .value (if t then ρ' a else ρ' b)) st (.value ?_)) ?_
      · cases t <;> simpa
      · simp [execOp, hv', asBool]
    | _ => exact Sim.fail
  | alloc t => exact (Sim.alloc st).val
  | box t x => exact (Sim.box st (hρ x (by simp [Op.operands]))).val
  | build t ps =>
    refine (Sim.build st (ps' := ps.map fun (i, x) => (i, ρ' x)) ?_).val
    have : (ps.map fun (i, x) => (i, ρ' x)).toList = ps.toList.map fun p => (p.1, ρ' p.2) := by simp
    rw [this]
    exact PR.map fun p hp => hρ p.2 (by simp only [Op.operands, List.mem_toArray, List.mem_map]; exact ⟨p, hp, rfl⟩)
  | buildSlice t n ps =>
    refine (Sim.buildSlice st (ps' := ps.map fun (i, x) => (i, ρ' x)) ?_).val
    have : (ps.map fun (i, x) => (i, ρ' x)).toList = ps.toList.map fun p => (p.1, ρ' p.2) := by simp
    rw [this]
    exact PR.map fun p hp => hρ p.2 (by simp only [Op.operands, List.mem_toArray, List.mem_map]; exact ⟨p, hp, rfl⟩)
  | load t a => exact (Sim.loadAt st (hρ a (by simp [Op.operands]))).val
  | store t a x => exact (Sim.storeAt st (hρ a (by simp [Op.operands])) (hρ x (by simp [Op.operands]))).skp
  | nilCheck x =>
    have hx := hρ x (by simp [Op.operands])
    dsimp only
    generalize hv : ρ x = v at hx
    generalize hv' : ρ' x = v' at hx
    cases hx with
    | ptr n o e he => exact Sim.congr (Sim.pure st (.value (.ptr n o e he))) (by simp [execOp, hv'])
    | iface t u u' hu => exact Sim.congr (Sim.pure st (.value (.iface t u u' hu))) (by simp [execOp, hv'])
    | func f f' xs xs' ys ys' hf a b c d =>
      have hq := VR.func f f' xs xs' ys ys' hf a b c d
      cases hf with
      | yield l e he => exact Sim.congr (Sim.pure st (.value hq)) (by simp [execOp, hv'])
      | same _ hny =>
        cases f with
        | func g => exact Sim.congr (Sim.pure st (.value hq)) (by simp [execOp, hv'])
        | via t p g q => exact Sim.congr (Sim.pure st (.value hq)) (by simp [execOp, hv'])
        | methodOf t n => exact Sim.congr (Sim.pure st (.value hq)) (by simp [execOp, hv'])
        | method n => exact Sim.fail
        | yield l => exact absurd rfl (hny l)
    | _ => exact Sim.fail
  | binOp op t x y yt =>
    have hx := hρ x (by simp [Op.operands])
    have hy := hρ y (by simp [Op.operands])
    dsimp only
    cases hb : aeqNil P t (ρ x) (ρ y) with
    | none => exact hplain (fun cs b => by simp)
    | some b =>
      obtain ⟨r1, r2⟩ := aeqNil_spec (P := P) (w := w) 9999 hx hy hb
      have hnotint : ∀ k n, ρ' x ≠ .int k n := by
        intro k n hh
        rw [hh] at hx
        generalize hq : ρ x = q at hx
        cases hx
        rw [hq] at hb
        unfold aeqNil at hb
        split at hb <;> simp_all
      have hbin : ∀ op', (op' = .eql ∨ op' = .neq) → (execOp ρ' ⟨dst, .binOp op' t x y yt, ty, pos, after, guard⟩).run P w = .ok (.value (.bool (if op' = .eql then b else !b))) w := by
        intro op' hop
        have h1 : (Op.equal t (ρ' x) (ρ' y)).run P w = .ok b w := r1
        have hsc : (∀ k n, ρ' x ≠ .int k n) ∧ (∀ k n, ρ' x ≠ .float k n) ∧ (∀ k a b, ρ' x ≠ .complex k a b) ∧ (∀ s, ρ' x ≠ .string s) := by
          refine ⟨hnotint, ?_, ?_, ?_⟩
          · intro k n hh; rw [hh] at hx; generalize ρ x = q at hx; cases hx
          · intro k a b hh; rw [hh] at hx; generalize ρ x = q at hx; cases hx
          · intro s hh
            rw [hh] at hx
            generalize hq : ρ x = q at hx
            cases hx
            rw [hq] at hb
            unfold aeqNil at hb
            split at hb <;> simp_all
        have h2 : (Go.binOp op' t (ρ' x) (ρ' y)).run P w = .ok (.bool (if op' = .eql then b else !b)) w := by
          generalize ρ' x = u at *
          generalize ρ' y = v at *
          rcases hop with rfl | rfl
          · cases u <;> first | exact absurd rfl (hsc.1 _ _) | exact absurd rfl (hsc.2.1 _ _) | exact absurd rfl (hsc.2.2.1 _ _ _) | exact absurd rfl (hsc.2.2.2 _) | skip
            all_goals (cases v <;> simp [Go.binOp, h1])
          · cases u <;> first | exact absurd rfl (hsc.1 _ _) | exact absurd rfl (hsc.2.1 _ _) | exact absurd rfl (hsc.2.2.1 _ _ _) | exact absurd rfl (hsc.2.2.2 _) | skip
            all_goals (cases v <;> simp [Go.binOp, h1])
        simp only [execOp, Sem.run_bind, r2, Result.andThen_ok, h2, Sem.run_pure]
      intro k s r e
      dsimp only at e
      cases op <;> simp only [isEq, isNeq, cond_true, cond_false] at e <;> first
        | (cases e; done)
        | exact ⟨_, s, h, e, _, w, σ, hbin .eql (.inl rfl), .refl _, st, .value (.bool _)⟩
        | exact ⟨_, s, h, e, _, w, σ, hbin .neq (.inr rfl), .refl _, st, .value (.bool _)⟩
  | convert src dst x =>
    have hx := hρ x (by simp [Op.operands])
    have hp := hplain (fun cs b => by simp)
    dsimp only
    split
    · rename_i e a n c hs hd hv
      rw [hv] at hx
      split
      · rename_i he
        refine Sim.congr (Sim.bytesStr st hx).val ?_
        generalize hu : ρ' x = u at hx
        have : (Go.convert src dst u).run P w = (Conv.bytesToString u).run P w := by
          cases hx <;> simp only [Go.convert, Sem.run_bind, run_und hs, run_und hd, run_und he, Result.andThen_ok]
        simp only [execOp, Sem.run_bind, hu, this]
      · exact Sim.fail
    · rename_i u p hs hd hv
      rw [hv] at hx
      refine Sim.congr (Sim.unsafe st hs hd hx).val ?_
      simp only [execOp, Sem.run_bind]
    · exact hp
  | makeInterface t x =>
    dsimp only
    split
    · exact Sim.fail
    · rename_i d hni hd
      refine Sim.congr (Sim.pure st (.value (.iface t _ _ (hρ x (by simp [Op.operands]))))) ?_
      simp only [execOp, Instr.makeInterface, Sem.run_bind, run_und hd, Result.andThen_ok]
      cases d <;> first | exact absurd rfl (hni _) | rfl
    · exact Sim.fail
  | makeFunc f xs ys =>
    have hxs : VRs σ (xs.toList.map ρ) (xs.toList.map ρ') := VRs.map fun y hy => hρ y (by simp only [Op.operands, Array.mem_append]; exact .inl (Array.mem_toList_iff.1 hy))
    have hys : VRs σ (ys.toList.map ρ) (ys.toList.map ρ') := VRs.map fun y hy => hρ y (by simp only [Op.operands, Array.mem_append]; exact .inr (Array.mem_toList_iff.1 hy))
    have go : (∀ l, f ≠ .yield l) → Sim P w0 σ h w (fun k s => k (.value (.func f ⟨xs.toList.map ρ⟩ ⟨ys.toList.map ρ⟩)) s) (execOp ρ' ⟨dst, .makeFunc f xs ys, ty, pos, after, guard⟩) NR := by
      intro hny
      have h1 : VRs σ (⟨xs.toList.map ρ⟩ : Array Value).toList (xs.map ρ').toList := by simpa using hxs
      have h2 : VRs σ (⟨ys.toList.map ρ⟩ : Array Value).toList (ys.map ρ').toList := by simpa using hys
      exact Sim.pure st (.value (.func _ _ _ _ _ _ (.same _ hny) h1.arr.1 h1.arr.2 h2.arr.1 h2.arr.2))
    dsimp only
    cases f with
    | yield l => exact Sim.fail
    | func g => exact go (fun l => by simp)
    | method n => exact go (fun l => by simp)
    | methodOf t n => exact go (fun l => by simp)
    | via a b c d => exact go (fun l => by simp)
  | makeMap t r =>
    cases r with
    | none => exact (Sim.makeMap st).val
    | some r => exact Sim.fail
  | makeSlice t l c => exact (Sim.makeSlice st (hρ l (by simp [Op.operands])) (hρ c (by simp [Op.operands]))).val
  | slice t x lo hi mx =>
    have hp := hplain (fun cs b => by simp)
    dsimp only
    split
    · exact hp
    · exact (Sim.slice st (hρ x (by simp [Op.operands])) (OVR.oval fun y hy => hρ y (by subst hy; simp [Op.operands])) (OVR.oval fun y hy => hρ y (by subst hy; simp [Op.operands])) (OVR.oval fun y hy => hρ y (by subst hy; simp [Op.operands]))).val
  | fieldAddr t x f => exact (Sim.fieldAt st (hρ x (by simp [Op.operands]))).val
  | field t x f =>
    have := (Sim.field (P := P) (t := t) (f := f) st (hρ x (by simp [Op.operands]))).val
    intro k s r e
    refine this k s r ?_
    dsimp only at e ⊢
    cases hv : afield P t (ρ x) f with
    | none => rw [hv] at e; cases e
    | some v => rw [hv] at e; exact e
  | indexAddr t x i => exact (Sim.indexAt st (hρ x (by simp [Op.operands])) (hρ i (by simp [Op.operands]))).val
  | index t x i =>
    have hp := hplain (fun cs b => by simp)
    dsimp only
    split
    · exact hp
    · exact (Sim.index st (hρ x (by simp [Op.operands])) (hρ i (by simp [Op.operands]))).val
  | lookup t x i ok => exact (Sim.lookup st (hρ x (by simp [Op.operands])) (hρ i (by simp [Op.operands]))).val
  | mapUpdate t m ky x => exact (Sim.mapUpdate st (hρ m (by simp [Op.operands])) (hρ ky (by simp [Op.operands])) (hρ x (by simp [Op.operands]))).skp
  | insert t m ky x => exact (Sim.mapUpdate st (hρ m (by simp [Op.operands])) (hρ ky (by simp [Op.operands])) (hρ x (by simp [Op.operands]))).skp
  | typeAssert x xt a ok => exact (Sim.typeAssert st (hρ x (by simp [Op.operands]))).val
  | extract x i =>
    have hx := hρ x (by simp [Op.operands])
    dsimp only
    cases hv : ρ x with
    | tuple vs =>
      rw [hv] at hx
      obtain ⟨vs', hv', hl⟩ := hx.tuple_inv
      refine (Sim.opt (S := Instr.extract (ρ' x) i) (R := VR) st fun a ha => ?_).val
      rw [nth_eq] at ha
      obtain ⟨b, h1, h2⟩ := hl.get _ _ ha
      have h1' : vs'[i]? = some b := by simpa using h1
      exact ⟨b, by rw [hv']; simp [Instr.extract, h1'], h2⟩
    | _ => exact Sim.fail
  | call c =>
    have hc : ∀ x ∈ c.operands, VR σ (ρ x) (ρ' x) := fun x hx => hρ x hx
    dsimp only
    cases hd : aresolve ρ c ty with
    | none => exact Sim.fail
    | some d =>
      obtain ⟨d', r, ht, ha⟩ := aresolve_spec (P := P) hc hd w
      refine Sim.congr (Sim.invoke st ht ha) ?_
      simp only [execOp, Sem.run_bind, r, Result.andThen_ok]
  | defer c =>
    have hc : ∀ x ∈ c.operands, VR σ (ρ x) (ρ' x) := fun x hx => hρ x hx
    dsimp only
    cases hd : aresolve ρ c ty with
    | none => exact Sim.fail
    | some d =>
      obtain ⟨d', r, ht, ha⟩ := aresolve_spec (P := P) hc hd w
      refine Sim.congr (Sim.pure (b := .defer d') st (.defer ht ha)) ?_
      simp only [execOp, Sem.run_bind, r, Result.andThen_ok, Sem.run_pure]
  | unOp op t x => exact hplain (fun cs b => by simp)
  | range t x => exact (Sim.rangeOf st (hρ x (by simp [Op.operands]))).val
  | next it str =>
    cases str with
    | false => exact Sim.fail
    | true => exact (Sim.nextOf st (hρ it (by simp [Op.operands]))).val
  | _ => exact Sim.fail

end
end Go.Ev

/- Maps, assertions; every operation beside the model's. No condition. -/
import Derived.Test.YtpfnoffadfahmaaGreatEvI
namespace Go.Ev
set_option linter.unusedVariables false
set_option linter.unusedSimpArgs false
open Go Go.RowKit

section
variable {P : Program} {w0 : World} {σ : Emb} {h : T} {w : World}

/-! ### maps whose keys are whole numbers or bools -/
noncomputable def keyT : TypeDesc → Bool | .int _ => true | .bool => true | _ => false

theorem sameNow_rel {kd : TypeDesc} {k : Value} {e e' : Value} {b : Bool} (hk : keyT kd = true) (hs : Instr.sameNow kd k e = some b) (he : VR σ e e') : e' = e := by
  unfold Instr.sameNow at hs
  split at hs
  · cases he; rfl
  · cases hk
  · cases he; rfl
  · cases hs

theorem findNow_rel {kd : TypeDesc} {k : Value} (hk : keyT kd = true) : ∀ (es es' : List MapEntry) (i : Nat) (r : Option (Nat × Value)), es'.length = es.length →
    (∀ (j : Nat) (x x' : MapEntry), es[j]? = some x → es'[j]? = some x' → VR σ x.key x'.key ∧ VR σ x.val x'.val ∧ x'.born = x.born) → Instr.findNow kd k es i = some r →
    ∃ r', Instr.findNow kd k es' i = some r' ∧ (r = none ∧ r' = none ∨ ∃ j v v', r = some (j, v) ∧ r' = some (j, v') ∧ VR σ v v' ∧ i ≤ j ∧ ∃ e, es[j - i]? = some e ∧ Instr.sameNow kd k e.key = some true)
  | [], [], _, r, _, _, hr => by cases hr; exact ⟨none, rfl, .inl ⟨rfl, rfl⟩⟩
  | e :: es, e' :: es', i, r, hl, h, hr => by
    obtain ⟨h1, h2, h3⟩ := h 0 e e' rfl rfl
    simp only [Instr.findNow] at hr ⊢
    split at hr
    · rename_i hs
      obtain rfl := Option.some.inj hr
      have := sameNow_rel hk hs h1
      rw [this, hs]
      exact ⟨_, rfl, .inr ⟨i, e.val, e'.val, rfl, rfl, h2, Nat.le_refl _, e, by simp, hs⟩⟩
    · rename_i hs
      have := sameNow_rel hk hs h1
      rw [this, hs]
      obtain ⟨r', a, b⟩ := findNow_rel hk es es' (i + 1) r (by simpa using hl) (fun j x x' p q => h (j + 1) x x' (by simpa using p) (by simpa using q)) hr
      refine ⟨r', a, ?_⟩
      rcases b with b | ⟨j, v, v', b1, b2, b3, b4, e2, b5, b6⟩
      · exact .inl b
      · refine .inr ⟨j, v, v', b1, b2, b3, by omega, e2, ?_, b6⟩
        rw [show j - i = (j - (i + 1)) + 1 by omega]; simpa using b5
    · cases hr
  | [], _ :: _, _, _, hl, _, _ => by simp at hl
  | _ :: _, [], _, _, hl, _, _ => by simp at hl

theorem run_checkKey {kt : TypeId} {kd : TypeDesc} (b : Bool) (n : Nat) (hk : keyT kd = true) (hd : P.underlying kt = some kd) (v : Value) (w : World) : (Instr.checkKey b (n + 1) kt v).run P w = .ok () w := by
  cases kd <;> simp [keyT] at hk <;> simp [Instr.checkKey, run_und hd]

theorem MapR.list {es es' : Array MapEntry} (k : MapR σ es es') : es'.toList.length = es.toList.length ∧ ∀ (j : Nat) (x x' : MapEntry), es.toList[j]? = some x → es'.toList[j]? = some x' → VR σ x.key x'.key ∧ VR σ x.val x'.val ∧ x'.born = x.born :=
  ⟨by simpa using k.1, fun j x x' a b => k.2 j x x' (by simpa using a) (by simpa using b)⟩

noncomputable def afound (P : Program) (el : TypeId) (ok : Bool) : Option (Nat × Value) → Option Value
  | some (_, v) => some (if ok then .tuple #[v, .bool true] else v)
  | none => match zeroT P el with
    | some z => some (if ok then .tuple #[z, .bool false] else z)
    | none => none

noncomputable def alookup (P : Program) (t : TypeId) (x i : Value) (ok : Bool) : M Value := fun k s =>
  match P.underlying t with
  | some (.map kt el) => match P.underlying kt with
    | some kd => bif keyT kd && plain1 i then
        match x with
        | .map none => M.opt (afound P el ok none) k s
        | .map (some r) => .get r fun
          | .map es _ => match Instr.findNow kd i es.toList 0 with
            | some f => M.opt (afound P el ok f) k s
            | none => .fail
          | _ => .fail
        | _ => .fail
      else .fail
    | none => .fail
  | _ => .fail

theorem afound_spec {el : TypeId} {ok : Bool} {f f' : Option (Nat × Value)} {v : Value} (hf : f = none ∧ f' = none ∨ ∃ j u u', f = some (j, u) ∧ f' = some (j, u') ∧ VR σ u u') (hv : afound P el ok f = some v) :
    ∃ v', VR σ v v' ∧ ((f' = none ∧ ∃ z, (zeroValue el).run P w = .ok z w ∧ v' = if ok then .tuple #[z, .bool false] else z) ∨ ∃ j u', f' = some (j, u') ∧ v' = if ok then .tuple #[u', .bool true] else u') := by
  rcases hf with ⟨rfl, rfl⟩ | ⟨j, u, u', rfl, rfl, hu⟩
  · unfold afound at hv
    split at hv
    · rename_i heq; cases heq
    · split at hv
      · rename_i z hz
        obtain rfl := Option.some.inj hv
        obtain ⟨r, p⟩ := zeroT_spec hz w
        refine ⟨if ok then .tuple #[z, .bool false] else z, ?_, .inl ⟨rfl, z, r, rfl⟩⟩
        split
        · exact .of_tuple (.cons (.of_plain p) (.cons (.bool _) .nil))
        · exact .of_plain p
      · cases hv
  · simp only [afound] at hv
    obtain rfl := Option.some.inj hv
    refine ⟨if ok then .tuple #[u', .bool true] else u', ?_, .inr ⟨j, u', rfl, rfl⟩⟩
    split
    · exact .of_tuple (.cons hu (.cons (.bool _) .nil))
    · exact hu

theorem Sim.lookup (st : St σ w0 h w) {t : TypeId} {x x' i i' : Value} {ok : Bool} (hx : VR σ x x') (hi : VR σ i i') : Sim P w0 σ h w (alookup P t x i ok) (Instr.lookup t x' i' ok) VR := by
  unfold alookup
  intro k s r e
  dsimp only at e
  split at e
  · rename_i kt el hd
    split at e
    · rename_i kd hkd
      cases hg : (keyT kd && plain1 i) with
      | false => rw [hg] at e; cases e
      | true =>
        rw [hg] at e
        simp only [cond_true] at e
        simp only [Bool.and_eq_true] at hg
        have hii := hi.plain1 hg.2
        subst hii
        have hck : ∀ b w, (Instr.checkKey b 10000 kt i').run P w = .ok () w := fun b w => run_checkKey b 9999 hg.1 hkd i' w
        split at e
        · cases hx
          cases hv : afound P el ok none with
          | none => rw [hv] at e; cases e
          | some v =>
            rw [hv] at e
            obtain ⟨v', r2, r1⟩ := afound_spec (P := P) (w := w) (σ := σ) (f' := none) (.inl ⟨rfl, rfl⟩) hv
            refine ⟨v, s, h, e, v', w, σ, ?_, .refl _, st, r2⟩
            rcases r1 with ⟨_, z, r1, rfl⟩ | ⟨j, u', r1, _⟩
            · unfold Instr.lookup
              simp only [Sem.run_bind, run_und hd, Result.andThen_ok, Sem.run_pure, hck, Instr.findKey, run_und hkd, Instr.findNow, r1]
            · cases r1
        · rename_i n
          cases hx with
          | map _ en he =>
          rw [AM.run_get] at e
          split at e
          · rename_i ob hob
            split at e
            · rename_i es cl
              obtain ⟨_, es', a, hm⟩ := st.hr.entry hob he
              split at e
              · rename_i f hf
                obtain ⟨f', g1, g2⟩ := findNow_rel (σ := σ) hg.1 es.toList es'.toList 0 f hm.list.1 hm.list.2 hf
                cases hv : afound P el ok f with
                | none => rw [hv] at e; cases e
                | some v =>
                  rw [hv] at e
                  obtain ⟨v', r2, r1⟩ := afound_spec (P := P) (w := w) (σ := σ) (f' := f') (by rcases g2 with g2 | ⟨j, u, u', b1, b2, b3, _⟩; exact .inl g2; exact .inr ⟨j, u, u', b1, b2, b3⟩) hv
                  refine ⟨v, s, h, e, v', w, σ, ?_, .refl _, st, r2⟩
                  have hgo : (getObj en.blk).run P w = .ok (.map es' cl) w := by simp [getObj, Sem.run, a]
                  rcases r1 with ⟨rfl, z, r1, rfl⟩ | ⟨j, u', rfl, rfl⟩
                  · unfold Instr.lookup
                    simp only [Sem.run_bind, run_und hd, Result.andThen_ok, Sem.run_pure, hck, Instr.findKey, run_und hkd, hgo, g1, r1]
                  · unfold Instr.lookup
                    simp only [Sem.run_bind, run_und hd, Result.andThen_ok, Sem.run_pure, hck, Instr.findKey, run_und hkd, hgo, g1]
              · cases e
            · cases e
          · cases e
        · cases e
    · cases e
  · cases e

/-! ### storing into maps -/
noncomputable def modL : List MapEntry → Nat → Value → Value → List MapEntry
  | [], _, _, _ => []
  | e :: es, 0, k, v => { e with key := k, val := v } :: es
  | e :: es, i + 1, k, v => e :: modL es i k v
theorem modL_eq (k v : Value) : ∀ (es : List MapEntry) (i : Nat), modL es i k v = es.modify i (fun e => { e with key := k, val := v })
  | [], i => by simp [modL]
  | e :: es, 0 => by simp [modL]
  | e :: es, i + 1 => by simp [modL, modL_eq k v es i]

noncomputable def amapUpdate (P : Program) (t : TypeId) (m ky x : Value) : M Unit := fun k s =>
  match P.underlying t, m with
  | some (.map kt _), .map (some r) => match P.underlying kt with
    | some kd => bif keyT kd && plain1 ky then .get r fun
        | .map es cl => match Instr.findNow kd ky es.toList 0 with
          | some (some (i, _)) => .put r (.map ⟨modL es.toList i ky x⟩ cl) (k () s)
          | some none => .put r (.map (es.push { key := ky, val := x, born := cl }) (cl + 1)) (k () s)
          | none => .fail
        | _ => .fail
      else .fail
    | none => .fail
  | _, _ => .fail

theorem sameBits_of_sameNow {kd : TypeDesc} {k e : Value} (n : Nat) (h : Instr.sameNow kd k e = some true) (hk : keyT kd = true) : Instr.sameBits n e k = true := by
  unfold Instr.sameNow at h
  split at h
  · split at h
    · rename_i he
      subst he
      have := Option.some.inj h
      simp at this
      subst this
      simp [Instr.sameBits]
    · cases h
  · cases hk
  · have := Option.some.inj h
    simp at this
    subst this
    simp [Instr.sameBits]
  · cases h

theorem Sim.mapUpdate (st : St σ w0 h w) {t : TypeId} {m m' ky ky' x x' : Value} (hm : VR σ m m') (hk : VR σ ky ky') (hx : VR σ x x') : Sim P w0 σ h w (amapUpdate P t m ky x) (Instr.mapUpdate t m' ky' x') (fun _ _ _ => True) := by
  unfold amapUpdate
  intro k s r e
  dsimp only at e
  split at e
  · rename_i kt el n hd
    cases hm with
    | map _ en he =>
    split at e
    · rename_i kd hkd
      cases hg : (keyT kd && plain1 ky) with
      | false => rw [hg] at e; cases e
      | true =>
        rw [hg] at e
        simp only [cond_true] at e
        simp only [Bool.and_eq_true] at hg
        have hkk := hk.plain1 hg.2
        subst hkk
        have hck : ∀ b w, (Instr.checkKey b 10000 kt ky').run P w = .ok () w := fun b w => run_checkKey b 9999 hg.1 hkd ky' w
        rw [AM.run_get] at e
        split at e
        · rename_i ob hob
          split at e
          · rename_i es cl
            obtain ⟨hbase, es', a, hmr⟩ := st.hr.entry hob he
            have hgo : (getObj en.blk).run P w = .ok (.map es' cl) w := by simp [getObj, Sem.run, a]
            split at e
            · rename_i i v0 hf
              obtain ⟨f', g1, g2⟩ := findNow_rel (σ := σ) hg.1 es.toList es'.toList 0 _ hmr.list.1 hmr.list.2 hf
              rcases g2 with ⟨g2, _⟩ | ⟨j, u, u', b1, b2, b3, b4, e2, b5, b6⟩
              · cases g2
              · cases b1
                subst b2
                have hlt : i < es.size := lt_of_get? (H := es) (x := e2) (by simpa using b5)
                have hlt' : i < es'.size := by rw [hmr.1]; exact hlt
                have hq := hmr.2 i e2 es'[i] (by simpa using b5) (by simp [hlt'])
                have hkeq : es'[i].key = e2.key := sameNow_rel hg.1 b6 hq.1
                have hmod : MapR σ ⟨modL es.toList i ky' x⟩ (es'.modify i fun e => { e with key := ky', val := x' }) := by
                  refine ⟨by simp [modL_eq, hmr.1], fun j y y' c d => ?_⟩
                  have c' : (es.toList.modify i (fun e => { e with key := ky', val := x }))[j]? = some y := by rw [← modL_eq]; simpa using c
                  rw [Array.getElem?_modify] at d
                  rw [List.getElem?_modify] at c'
                  by_cases hij : i = j
                  · subst hij
                    simp [hlt, hlt'] at c' d
                    subst c'; subst d
                    exact ⟨hk, hx, (hmr.2 i es[i] es'[i] (by simp [hlt]) (by simp [hlt'])).2.2⟩
                  · simp [hij] at c' d
                    exact hmr.2 j y y' c' d
                obtain ⟨_, s', h', e3, _, w', σ', run, le, st', _⟩ := Sim.setObj (P := P) (o' := .map ⟨modL es.toList i ky' x⟩ cl) (O' := .map (es'.modify i fun e => { e with key := ky', val := x' }) cl) st he hob rfl rfl rfl ⟨_, a, rfl⟩ ⟨_, rfl, hmod⟩ _ _ _ e
                refine ⟨(), s', h', e3, (), w', σ', ?_, le, st', trivial⟩
                unfold Instr.mapUpdate
                have hks : (Instr.keyThatStays (((es'[i]?).map (·.key)).getD ky') ky').run P w = .ok ky' w := by
                  have : (((es'[i]?).map (·.key)).getD ky') = e2.key := by simp [hlt', hkeq]
                  rw [this]
                  unfold Instr.keyThatStays
                  rw [if_pos (sameBits_of_sameNow 10000 b6 hg.1)]; rfl
                simp only [Sem.run_bind, run_und hd, Result.andThen_ok, hgo, hck, Instr.findKey, run_und hkd, g1, Sem.run_pure, hks]
                exact run
            · rename_i hf
              obtain ⟨f', g1, g2⟩ := findNow_rel (σ := σ) hg.1 es.toList es'.toList 0 _ hmr.list.1 hmr.list.2 hf
              rcases g2 with ⟨_, rfl⟩ | ⟨j, u, u', b1, _⟩
              · have hpush : MapR σ (es.push { key := ky', val := x, born := cl }) (es'.push { key := ky', val := x', born := cl }) := by
                  refine ⟨by simp [hmr.1], fun j y y' c d => ?_⟩
                  rw [Array.getElem?_push] at c d
                  rw [hmr.1] at d
                  by_cases hj : j = es.size
                  · rw [if_pos hj] at c d
                    cases c; cases d
                    exact ⟨hk, hx, rfl⟩
                  · rw [if_neg hj] at c d
                    exact hmr.2 j y y' c d
                obtain ⟨_, s', h', e3, _, w', σ', run, le, st', _⟩ := Sim.setObj (P := P) (o' := .map (es.push { key := ky', val := x, born := cl }) (cl + 1)) (O' := .map (es'.push { key := ky', val := x', born := cl }) (cl + 1)) st he hob rfl rfl rfl ⟨_, a, rfl⟩ ⟨_, rfl, hpush⟩ _ _ _ e
                refine ⟨(), s', h', e3, (), w', σ', ?_, le, st', trivial⟩
                unfold Instr.mapUpdate
                simp only [Sem.run_bind, run_und hd, Result.andThen_ok, hgo, hck, Instr.findKey, run_und hkd, g1, Sem.run_pure]
                exact run
              · cases b1
            · cases e
          · cases e
        · cases e
    · cases e
  · cases e

noncomputable def amakeMap : M Value := fun k s => anew (.map #[] 0) (fun n => k (.map (some n))) s
theorem Sim.makeMap (st : St σ w0 h w) {t : TypeId} : Sim P w0 σ h w amakeMap (Instr.makeMap t none) VR := by
  refine Sim.congr (S := do return (.map (some (← newObj (.map #[] 0))))) ((Sim.new (o := .map #[] 0) (O := .map #[] 0) st rfl fun n _ => ⟨#[], rfl, rfl, fun i x x' a _ => by simp at a⟩).bind (F := fun n => (fun k => k (.map (some n)) : M Value)) fun n b σ' h' w' _ st' hn => Sim.pure st' (.map n ⟨b, 0, none⟩ hn)) ?_
  simp [Instr.makeMap]

/-! ### assertions -/
noncomputable def atypeAssert (P : Program) (x : Value) (a : TypeId) (ok : Bool) : Option Value :=
  match P.underlying a with
  | some (.interface _) => none
  | some _ => match x with
    | .iface t v => bif Nat.beq t a then some (if ok then .tuple #[v, .bool true] else v) else if ok then (match zeroT P a with | some z => some (.tuple #[z, .bool false]) | none => none) else none
    | .nilIface => if ok then (match zeroT P a with | some z => some (.tuple #[z, .bool false]) | none => none) else none
    | _ => none
  | none => none

end
end Go.Ev

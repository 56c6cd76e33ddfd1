/- Single operations, over a heap of names, beside the model's: composed values, maps, assertions. No condition. -/
import Derived.Test.YtpfnoffadfahmaaGreatEvH
namespace Go.Ev
set_option linter.unusedVariables false
set_option linter.unusedSimpArgs false
open Go Go.RowKit

section
variable {P : Program} {w0 : World} {σ : Emb} {h : T} {w : World}

/-! ### parts that fill a value -/
noncomputable def fillL (place : Nat → Option (Nat × Nat)) : List Value → List (Nat × Value) → Option (List Value)
  | cells, [] => some cells
  | cells, (i, v) :: rest =>
    match place i with
    | none => none
    | some (off, size) => bif Nat.beq v.cells.size size && Nat.ble (off + size) cells.length then fillL place (overL cells off v.cells.toList) rest else none

inductive PR (σ : Emb) : List (Nat × Value) → List (Nat × Value) → Prop
  | nil : PR σ [] []
  | cons (i : Nat) {v v' : Value} {l l' : List (Nat × Value)} (h : VR σ v v') (t : PR σ l l') : PR σ ((i, v) :: l) ((i, v') :: l')

theorem foldl_over (vs : List Value) : ∀ (cs : Array Value) (off k : Nat), off + k + vs.length ≤ cs.size →
    ((vs.zipIdx k).foldl (fun (cs : Array Value) (p : Value × Nat) => cs.setIfInBounds (off + p.2) p.1) cs).toList = overL cs.toList (off + k) vs := by
  induction vs with
  | nil =>
    intro cs off k hk
    apply List.ext_getElem?
    intro i
    rw [overL_get _ _ _ _ (by simpa using hk), if_neg (by simp)]; rfl
  | cons v vs ih =>
    intro cs off k hk
    simp only [List.length_cons] at hk
    simp only [List.zipIdx_cons, List.foldl_cons]
    rw [ih _ off (k + 1) (by simp; omega)]
    apply List.ext_getElem?
    intro i
    rw [overL_get _ _ _ _ (by simp; omega), overL_get _ _ _ _ (by simp; omega)]
    simp only [Array.toList_setIfInBounds, List.getElem?_set, List.length_cons, Array.length_toList]
    by_cases h1 : off + (k + 1) ≤ i ∧ i < off + (k + 1) + vs.length
    · rw [if_pos h1, if_pos (by omega), show i - (off + k) = (i - (off + (k + 1))) + 1 by omega]; simp
    · rw [if_neg h1]
      by_cases h2 : off + k = i
      · subst h2; rw [if_pos rfl, if_pos (by omega), if_pos (by omega)]; simp
      · rw [if_neg h2, if_neg (by omega)]

theorem overL_rel {xs xs' vs vs' : List Value} (hx : VRs σ xs xs') (hv : VRs σ vs vs') {i : Nat} (hi : i + vs.length ≤ xs.length) : VRs σ (overL xs i vs) (overL xs' i vs') := by
  have l1 := hx.length
  have l2 := hv.length
  refine VRs.of_get (by rw [overL_length, overL_length, l1]) (fun j y y' a b => ?_)
  rw [overL_get _ _ _ _ hi] at a
  rw [overL_get _ _ _ _ (by omega)] at b
  rw [l2] at b
  split at a
  · rename_i hj
    rw [if_pos hj] at b
    obtain ⟨z, c, d⟩ := hv.get _ _ a
    rw [b] at c; cases c; exact d
  · rename_i hj
    rw [if_neg hj] at b
    obtain ⟨z, c, d⟩ := hx.get _ _ a
    rw [b] at c; cases c; exact d

theorem fill_spec (place : Nat → Option (Nat × Nat)) {ps ps' : List (Nat × Value)} (hp : PR σ ps ps') : ∀ {cs : List Value} {cs' : Array Value} {r : List Value}, VRs σ cs cs'.toList → fillL place cs ps = some r →
    ∃ r', Instr.fill place cs' ps' = some r' ∧ VRs σ r r'.toList := by
  induction hp with
  | nil => intro cs cs' r hc hr; cases hr; exact ⟨cs', rfl, hc⟩
  | @cons i v v' l l' hv _ ih =>
    intro cs cs' r hc hr
    simp only [fillL] at hr
    split at hr
    · cases hr
    · rename_i off size hpl
      cases hg : (Nat.beq v.cells.size size && Nat.ble (off + size) cs.length) with
      | false => rw [hg] at hr; cases hr
      | true =>
        rw [hg] at hr
        simp only [Bool.and_eq_true, Nat.ble_eq] at hg
        have hz := Nat.eq_of_beq_eq_true hg.1
        have hvc := hv.cells
        have hz' := hvc.arr.1
        have hcl := hc.length
        simp only [Array.length_toList] at hcl
        have hfold : ((v'.cells.zipIdx.foldl (fun (cs : Array Value) (x : Value × Nat) => match x with | (c, j) => cs.setIfInBounds (off + j) c) cs')).toList = overL cs'.toList off v'.cells.toList := by
          rw [← Array.foldl_toList]
          simp only [Array.toList_zipIdx]
          have := foldl_over v'.cells.toList cs' off 0 (by simp; omega)
          simpa using this
        have hrel : VRs σ (overL cs off v.cells.toList) (v'.cells.zipIdx.foldl (fun (cs : Array Value) (x : Value × Nat) => match x with | (c, j) => cs.setIfInBounds (off + j) c) cs').toList := by
          rw [hfold]; exact overL_rel hc hvc (by simp; omega)
        obtain ⟨r', a, b⟩ := ih hrel hr
        refine ⟨r', ?_, b⟩
        simp only [Instr.fill, hpl]
        rw [if_neg (by simp; omega)]
        exact a

/-- Where the fields of a struct lie. -/
noncomputable def placesL (P : Program) : List Field → Option (List (Nat × Nat))
  | [] => some []
  | f :: l => match P.info? f.type, placesL P l with
    | some i, some r => some ((f.offset, i.size) :: r)
    | _, _ => none
theorem run_places (w : World) : ∀ (l : List Field) (r : List (Nat × Nat)), placesL P l = some r → (l.mapM (m := Sem) fun f => do return (f.offset, ← sizeOf f.type)).run P w = .ok r w
  | [], r, h => by cases h; rfl
  | f :: l, r, h => by
    simp only [placesL] at h
    split at h
    · rename_i i r' h1 h2
      obtain rfl := Option.some.inj h
      have := run_places w l r' h2
      simp only [List.mapM_cons, Sem.run_bind, sizeOf, run_inf h1, Result.andThen_ok, Sem.run_pure]
      simp only [sizeOf] at this
      rw [this]; rfl
    · cases h

noncomputable def abuild (P : Program) (t : TypeId) (ps : List (Nat × Value)) : Option Value :=
  match zeroT P t, P.underlying t with
  | some z, some (.struct fs) => bif z.cells.toList.all plain1 then match placesL P fs.toList with
    | some pl => match fillL (fun i => pl[i]?) z.cells.toList ps with
      | some r => some (.agg ⟨r⟩)
      | none => none
    | none => none else none
  | some z, some (.array _ el) => bif z.cells.toList.all plain1 then match P.info? el with
    | some i => match fillL (fun j => some (j * i.size, i.size)) z.cells.toList ps with
      | some r => some (.agg ⟨r⟩)
      | none => none
    | none => none else none
  | _, _ => none
theorem Sim.build (st : St σ w0 h w) {t : TypeId} {ps : List (Nat × Value)} {ps' : Array (Nat × Value)} (hp : PR σ ps ps'.toList) : Sim P w0 σ h w (M.opt (abuild P t ps)) (Instr.build t ps') VR := by
  refine Sim.opt st fun a ha => ?_
  unfold abuild at ha
  split at ha
  · rename_i z fs hz hd
    cases hg : z.cells.toList.all plain1 with
    | false => rw [hg] at ha; cases ha
    | true =>
      rw [hg] at ha
      simp only [cond_true] at ha
      split at ha
      · rename_i pl hpl
        split at ha
        · rename_i r hr
          obtain rfl := Option.some.inj ha
          obtain ⟨r', x, y⟩ := fill_spec (σ := σ) _ hp (VRs.of_plain hg) hr
          refine ⟨.agg r', ?_, .of_agg y⟩
          have hpr := run_places (P := P) w fs.toList pl hpl
          have hm : (fs.mapM (m := Sem) fun f => do return (f.offset, ← sizeOf f.type)).run P w = .ok pl.toArray w := by
            rw [Array.mapM_eq_mapM_toList, Sem.run_map, hpr]; rfl
          have hfun : (fun (i : Nat) => pl.toArray[i]?) = (fun (i : Nat) => pl[i]?) := by funext i; simp
          unfold Instr.build
          simp only [Sem.run_bind, (zeroT_spec hz w).1, run_und hd, Result.andThen_ok, hm]
          rw [hfun, x]; rfl
        · cases ha
      · cases ha
  · rename_i z n el hz hd
    cases hg : z.cells.toList.all plain1 with
    | false => rw [hg] at ha; cases ha
    | true =>
      rw [hg] at ha
      simp only [cond_true] at ha
      split at ha
      · rename_i i hi
        split at ha
        · rename_i r hr
          obtain rfl := Option.some.inj ha
          obtain ⟨r', x, y⟩ := fill_spec (σ := σ) _ hp (VRs.of_plain hg) hr
          refine ⟨.agg r', ?_, .of_agg y⟩
          unfold Instr.build
          simp only [Sem.run_bind, (zeroT_spec hz w).1, run_und hd, Result.andThen_ok, sizeOf, run_inf hi, Sem.run_pure]
          rw [x]; rfl
        · cases ha
      · cases ha
  · cases ha

noncomputable def abuildSlice (P : Program) (t : TypeId) (len : Nat) (ps : List (Nat × Value)) : M Value := fun k s =>
  match P.underlying t with
  | some (.slice el) => match zeroT P el, P.info? el with
    | some z, some i => bif z.cells.toList.all plain1 && Nat.beq z.cells.size i.size && Nat.ble (len * i.size) 1000000 && !Nat.beq i.size 0 then
        match fillL (fun j => some (j * i.size, i.size)) (replL z.cells.toList len) ps with
        | some r => anew (.cells ⟨r⟩ el (0, 0)) (fun n => k (.slice (some ⟨n, 0, none⟩) len len)) s
        | none => .fail
      else .fail
    | _, _ => .fail
  | _ => .fail
theorem Sim.buildSlice (st : St σ w0 h w) {t : TypeId} {len : Nat} {ps : List (Nat × Value)} {ps' : Array (Nat × Value)} (hp : PR σ ps ps'.toList) : Sim P w0 σ h w (abuildSlice P t len ps) (Instr.buildSlice t len ps') VR := by
  unfold abuildSlice
  intro k s r e
  dsimp only at e
  split at e
  · rename_i el hd
    split at e
    · rename_i z i hz hi
      cases hg : (z.cells.toList.all plain1 && Nat.beq z.cells.size i.size && Nat.ble (len * i.size) 1000000 && !Nat.beq i.size 0) with
      | false => rw [hg] at e; cases e
      | true =>
        rw [hg] at e
        simp only [cond_true] at e
        simp only [Bool.and_eq_true, Nat.ble_eq, Bool.not_eq_true'] at hg
        obtain ⟨⟨⟨g1, g2⟩, g3⟩, g4⟩ := hg
        have hzs := Nat.eq_of_beq_eq_true g2
        have hne : i.size ≠ 0 := fun h0 => by rw [h0] at g4; cases g4
        split at e
        · rename_i rr hr
          have hcells : ((Array.range (len * i.size)).map (z.cells[· % z.cells.size]!)).toList = replL z.cells.toList len := by rw [← hzs]; exact range_map_eq z.cells len
          obtain ⟨r', x, y⟩ := fill_spec (σ := σ) _ hp (cs' := (Array.range (len * i.size)).map (z.cells[· % z.cells.size]!)) (by rw [hcells]; exact VRs.of_plain (replL_plain _ g1 _)) hr
          obtain ⟨n, s', h', e2, bk, w', σ', run, le, st', hn⟩ := Sim.newCells (P := P) (t := el) st (c := ⟨rr⟩) y _ _ _ e
          refine ⟨_, s', h', e2, .slice (some ⟨bk, 0, none⟩) len len, w', σ', ?_, le, st', ?_⟩
          · unfold Instr.buildSlice
            have hbig : ¬ (len * i.size > 2 ^ 24) := by have : (2 ^ 24 : Nat) = 16777216 := by decide
                                                        omega
            simp only [Sem.run_bind, run_und hd, Result.andThen_ok, sizeOf, run_inf hi, Sem.run_pure, if_neg hbig]
            by_cases h0 : len * i.size = 0
            · have hl0 : len = 0 := by rcases Nat.mul_eq_zero.1 h0 with h | h
                                       · exact h
                                       · exact absurd h hne
              subst hl0
              rw [if_pos h0]
              simp only [Sem.run_bind, Sem.run_pure, Result.andThen_ok]
              have x2 : Instr.fill (fun i_1 => some (i_1 * i.size, i.size)) ((Array.range (0 * i.size)).map ((#[] : Array Value)[· % (#[] : Array Value).size]!)) ps'.toList = some r' := by
                rw [← x]; congr 1; simp
              rw [x2]
              simp only [Sem.run_bind, newRow, run, Result.andThen_ok, Sem.run_pure]
            · rw [if_neg h0]
              simp only [Sem.run_bind, (zeroT_spec hz w).1, Sem.run_pure, Result.andThen_ok]
              rw [x]
              simp only [Sem.run_bind, newRow, run, Result.andThen_ok, Sem.run_pure]
          · have := VR.slice (σ := σ') n 0 len len ⟨bk, 0, none⟩ len hn rfl (q := none) (.inl rfl)
            simpa using this
        · cases e
    · cases e
  · cases e

end
end Go.Ev

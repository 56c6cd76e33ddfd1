/- Single operations, over a heap of names, beside the model's: the others. No condition. -/
import Derived.Test.YtpfnoffadfahmaaGreatEvF
namespace Go.Ev
set_option linter.unusedVariables false
set_option linter.unusedSimpArgs false
open Go Go.RowKit

section
variable {P : Program} {w0 : World} {σ : Emb} {h : T} {w : World}

/-! ### copy, len -/
noncomputable def acopy (P : Program) (ts : Array TypeId) (x y : Value) : M Value := fun k s =>
  match ts[0]? with
  | some t => match P.underlying t with
    | some (.slice el) => match P.info? el, x, alenOf y with
      | some i, .slice base len _, some n => (fun m =>
        bif Nat.beq m 0 then k (.int .i64 (m : Nat)) s
        else match base with
          | some ⟨b, o, _⟩ => afirst i.size m y (fun l => aput b o l (fun _ => k (.int .i64 (m : Nat)))) s
          | _ => .fail) (Nat.min n len)
      | _, _, _ => .fail
    | _ => .fail
  | none => .fail

theorem Sim.copy (st : St σ w0 h w) {ts : Array TypeId} {T0 : TypeId} {x x' y y' : Value} (hx : VR σ x x') (hy : VR σ y y') : Sim P w0 σ h w (acopy P ts x y) (Builtin.copy_ ts T0 #[x', y']) VR := by
  unfold acopy
  intro k s r e
  dsimp only at e
  split at e
  · rename_i t h0
    split at e
    · rename_i el hd
      split at e
      · rename_i i base len cap n hi hn
        have hyn := hy.lenOf (P := P) (w := w) hn
        have hrun : ∀ base' cap' (new : Array Value), (Builtin.firstCells i.size (Nat.min n len) y').run P w = .ok new w →
            (Builtin.copy_ ts T0 #[.slice base' len cap', y']).run P w = ((match base' with | some a => storeCells a new.toList | none => Pure.pure ()).run P w).andThen fun _ w2 => .ok (.int .i64 (Nat.min n len : Nat)) w2 := by
          intro base' cap' new hnew
          unfold Builtin.copy_
          simp only [h0, List.getElem?_toArray, List.getElem?_cons_zero, List.getElem?_cons_succ, Sem.run_bind, run_und hd, Result.andThen_ok, sizeOf, run_inf hi, Sem.run_pure, hyn, hnew]
          cases base' with
          | none => rfl
          | some a => simp only [Sem.run_bind, Sem.run_pure]; rfl
        cases hm : Nat.beq (Nat.min n len) 0 with
        | true =>
          rw [hm] at e
          simp only [cond_true] at e
          have hm0 := Nat.eq_of_beq_eq_true hm
          have hfc : (Builtin.firstCells i.size (Nat.min n len) y').run P w = .ok #[] w := by
            rw [hm0]
            cases hy <;> simp [alenOf] at hn <;> simp [Builtin.firstCells, loadCells, loadCellsFrom]
          refine ⟨_, s, h, e, .int .i64 (Nat.min n len : Nat), w, σ, ?_, .refl _, st, .int _ _⟩
          cases hx with
          | sliceNil => rw [hrun none 0 #[] hfc]; rfl
          | slice => rw [hrun _ _ #[] hfc]; simp [storeCells]
          | slice0 => rw [hrun _ _ #[] hfc]; simp [storeCells]
        | false =>
          rw [hm] at e
          simp only [cond_false] at e
          split at e
          · rename_i b o qq
            obtain ⟨l, e2, new, hnew, hl⟩ := SimQ.first (P := P) (w := w) st hy _ _ _ e
            rcases hx.slice_inv with ⟨en, cap', he, hc, hqq, rfl⟩ | ⟨h1, _, _⟩
            · obtain ⟨_, s', h', e3, _, w', σ', run, le, st', _⟩ := Sim.put (P := P) st he hl _ _ _ e2
              refine ⟨_, s', h', e3, _, w', σ', ?_, le, st', .int _ _⟩
              rw [hrun _ cap' new (hnew w rfl)]
              dsimp only
              rw [run]; rfl
            · subst h1; simp at hm
          · cases e
      · cases e
    · cases e
  · cases e

/-- The length of a slice. -/
noncomputable def alen (P : Program) (ts : Array TypeId) (x : Value) : Option Value :=
  match ts[0]? with
  | some t => match P.underlying t, x with
    | some (.slice _), .slice _ n _ => some (.int .i64 (n : Nat))
    | some (.array n _), _ => some (.int .i64 (n : Nat))
    | some (.string), .string s => some (.int .i64 (s.size : Nat))
    | some (.pointer a), _ => match P.underlying a with
      | some (.array n _) => some (.int .i64 (n : Nat))
      | _ => none
    | some (.map _ _), .map none => some (.int .i64 0)
    | _, _ => none
  | none => none
theorem Sim.len (st : St σ w0 h w) {ts : Array TypeId} {T0 : TypeId} {x x' : Value} (hx : VR σ x x') : Sim P w0 σ h w (M.opt (alen P ts x)) (Builtin.len_ ts T0 #[x']) VR := by
  refine Sim.opt st fun a ha => ?_
  unfold alen at ha
  split at ha
  · rename_i t h0
    split at ha
    · rename_i el b n c hd
      obtain rfl := Option.some.inj ha
      refine ⟨.int .i64 (n : Nat), ?_, .int _ _⟩
      cases hx <;> simp [Builtin.len_, h0, run_und hd, goInt]
    · rename_i n el hd
      obtain rfl := Option.some.inj ha
      exact ⟨_, by simp [Builtin.len_, h0, run_und hd, goInt], .int _ _⟩
    · rename_i b hd
      obtain rfl := Option.some.inj ha
      cases hx
      exact ⟨_, by simp [Builtin.len_, h0, run_und hd, goInt], .int _ _⟩
    · rename_i a hd
      split at ha
      · rename_i n el hd2
        obtain rfl := Option.some.inj ha
        exact ⟨_, by simp [Builtin.len_, h0, run_und hd, run_und hd2, goInt], .int _ _⟩
      · cases ha
    · rename_i hd
      obtain rfl := Option.some.inj ha
      cases hx
      exact ⟨_, by simp [Builtin.len_, h0, run_und hd, goInt], .int _ _⟩
    · cases ha
  · cases ha

/-- The length of a map. -/
noncomputable def alenMap (P : Program) (ts : Array TypeId) (x : Value) : M Value := fun k s =>
  match ts[0]? with
  | some t => match P.underlying t, x with
    | some (.map _ _), .map (some r) => .get r fun
      | .map es _ => k (.int .i64 (es.size : Nat)) s
      | _ => .fail
    | _, _ => .fail
  | none => .fail
theorem Sim.lenMap (st : St σ w0 h w) {ts : Array TypeId} {T0 : TypeId} {x x' : Value} (hx : VR σ x x') : Sim P w0 σ h w (alenMap P ts x) (Builtin.len_ ts T0 #[x']) VR := by
  unfold alenMap
  intro k s r e
  dsimp only at e
  split at e
  · rename_i t h0
    split at e
    · rename_i ky el n hd
      cases hx with
      | map _ en he =>
      rw [AM.run_get] at e
      split at e
      · rename_i ob hob
        split at e
        · rename_i es cl
          obtain ⟨_, es', a, b, _⟩ := st.hr.entry hob he
          refine ⟨_, s, h, e, .int .i64 (es'.size : Nat), w, σ, ?_, .refl _, st, by rw [b]; exact .int _ _⟩
          simp [Builtin.len_, h0, run_und hd, goInt, getObj, Sem.run, a]
        · cases e
      · cases e
    · cases e
  · cases e

/-! ### making slices -/
noncomputable def amakeSlice (P : Program) (t : TypeId) (l c : Value) : M Value := fun k s =>
  match P.underlying t with
  | some (.slice el) => match P.info? el, zeroT P el, l, c with
    | some i, some z, .int _ a, .int _ b =>
      bif decide (0 ≤ a) && decide (a ≤ b) && decide (b ≤ 1000000) && Nat.ble i.bytes 100000 && Nat.beq z.cells.size i.size && z.cells.toList.all plain1 then
        anew (.cells ⟨replL z.cells.toList b.toNat⟩ el (0, 0)) (fun n => k (.slice (some ⟨n, 0, none⟩) a.toNat b.toNat)) s
      else .fail
    | _, _, _, _ => .fail
  | _ => .fail

theorem Sim.makeSlice (st : St σ w0 h w) {t : TypeId} {l l' c c' : Value} (hl : VR σ l l') (hc : VR σ c c') : Sim P w0 σ h w (amakeSlice P t l c) (Instr.makeSlice t l' c') VR := by
  unfold amakeSlice
  intro k s r e
  dsimp only at e
  split at e
  · rename_i el hd
    split at e
    · rename_i i z ka a kb b hi hz
      cases hl; cases hc
      cases hg : (decide (0 ≤ a) && decide (a ≤ b) && decide (b ≤ 1000000) && Nat.ble i.bytes 100000 && Nat.beq z.cells.size i.size && z.cells.toList.all plain1) with
      | false => rw [hg] at e; cases e
      | true =>
        rw [hg] at e
        simp only [cond_true] at e
        simp only [Bool.and_eq_true, decide_eq_true_eq, Nat.ble_eq] at hg
        obtain ⟨⟨⟨⟨⟨g1, g2⟩, g3⟩, g4⟩, g5⟩, g6⟩ := hg
        have hzs := Nat.eq_of_beq_eq_true g5
        have hw1 := i64_small g1 (by omega)
        have hw2 := i64_small (n := b) (by omega) g3
        have hbig : ¬ ((i.bytes : Int) * b > 2 ^ 48) := by
          have h1 : (i.bytes : Int) * b ≤ 100000 * 1000000 := Int.mul_le_mul (by omega) g3 (by omega) (by omega)
          have h2 : (2 : Int) ^ 48 = 281474976710656 := by decide
          omega
        have hcells : ((Array.range (b.toNat * i.size)).map (z.cells[· % z.cells.size]!)).toList = replL z.cells.toList b.toNat := by
          rw [← hzs]; exact range_map_eq z.cells b.toNat
        have hvr : VRs σ (⟨replL z.cells.toList b.toNat⟩ : Array Value).toList ((Array.range (b.toNat * i.size)).map (z.cells[· % z.cells.size]!)).toList := by
          rw [hcells]; exact VRs.of_plain (replL_plain _ g6 _)
        obtain ⟨n, s', h', e2, bk, w', σ', run, le, st', hn⟩ := Sim.newCells (P := P) (t := el) st hvr _ _ _ e
        refine ⟨_, s', h', e2, .slice (some ⟨bk, 0, none⟩) a.toNat b.toNat, w', σ', ?_, le, st', ?_⟩
        · have hnot : ¬ ((b < 0 ∨ (i.bytes : Int) * b > 2 ^ 48) ∨ a < 0 ∨ b < a) := by omega
          have hz0 : (if b.toNat * i.size = 0 then (Pure.pure #[] : Sem (Array Value)) else do return (← zeroValue el).cells).run P w = .ok (if b.toNat * i.size = 0 then #[] else z.cells) w := by
            split
            · rfl
            · simp [(zeroT_spec hz w).1]
          unfold Instr.makeSlice
          simp only [Sem.run_bind, run_und hd, Result.andThen_ok, asInt, asIntOf, Sem.run_pure, run_inf hi, hw1, hw2, sizeOf, run_askRoom]
          have hA : (decide (b < 0) || decide ((i.bytes : Int) * b > 2 ^ 48) || decide (a < 0) || decide (a > b)) = false := by
            simp only [Bool.or_eq_false_iff, decide_eq_false_iff_not]; omega
          simp only [hA, Bool.false_eq_true, if_false, Sem.run_bind, run_askRoom, Result.andThen_ok, run_inf hi, Sem.run_pure]
          have hz1 : ∀ (x : Array Value), x = (if b.toNat * i.size = 0 then #[] else z.cells) → (Array.range (b.toNat * i.size)).map (x[· % x.size]!) = (Array.range (b.toNat * i.size)).map (z.cells[· % z.cells.size]!) := by
            intro x hx
            by_cases h0 : b.toNat * i.size = 0
            · rw [h0]; simp
            · rw [hx, if_neg h0]
          by_cases h0 : b.toNat * i.size = 0
          · rw [if_pos h0]
            simp only [Sem.run_pure, Result.andThen_ok, newRow, Sem.run_bind]
            rw [hz1 #[] (by rw [if_pos h0])]
            rw [run]; rfl
          · rw [if_neg h0]
            simp only [Sem.run_bind, (zeroT_spec hz w).1, Sem.run_pure, Result.andThen_ok, newRow]
            rw [run]; rfl
        · have := VR.slice (σ := σ') n 0 a.toNat b.toNat ⟨bk, 0, none⟩ b.toNat hn rfl (q := none) (.inl rfl)
          simpa using this
    · cases e
  · cases e

end
end Go.Ev

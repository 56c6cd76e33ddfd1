/- Single operations, over a heap of names, beside the model's: texts and bytes, comparisons with nil, composed values, maps. No condition. -/
import Derived.Test.YtpfnoffadfahmaaGreatEvG
namespace Go.Ev
set_option linter.unusedVariables false
set_option linter.unusedSimpArgs false
open Go Go.RowKit

section
variable {P : Program} {w0 : World} {σ : Emb} {h : T} {w : World}

/-! ### texts and bytes -/
noncomputable def byteOf? : Value → Option UInt8
  | .int .u8 n => some (UInt8.ofNat n.toNat)
  | _ => none
noncomputable def bytesL : List Value → Option (List UInt8)
  | [] => some []
  | v :: l => match byteOf? v, bytesL l with
    | some b, some bs => some (b :: bs)
    | _, _ => none

theorem run_bytesLoop {f : Value → ByteArray → Sem (ForInStep ByteArray)} (hf : ∀ c r b, byteOf? c = some b → (f c r).run P w = .ok (.yield (r.push b)) w) (l : List Value) : ∀ (acc : ByteArray) (bs : List UInt8), bytesL l = some bs →
    (forIn (m := Sem) l acc f).run P w = .ok ⟨acc.data ++ bs.toArray⟩ w := by
  induction l with
  | nil => intro acc bs hb; cases hb; simp
  | cons v l ih =>
    intro acc bs hb
    simp only [bytesL] at hb
    split at hb
    · rename_i b bs' h1 h2
      obtain rfl := Option.some.inj hb
      have := ih (acc.push b) bs' h2
      simp only [List.forIn_cons, Sem.run_bind, hf _ _ _ h1, Result.andThen_ok]
      rw [this]
      simp [ByteArray.push]
    · cases hb

noncomputable def abytesStr (x : Value) : M Value := fun k s =>
  match x with
  | .slice none _ _ => k (.string .empty) s
  | .slice (some ⟨n, o, _⟩) len _ => bif Nat.beq len 0 then k (.string .empty) s else
      acells n o len (fun l s => match bytesL l with | some bs => k (.string ⟨⟨bs⟩⟩) s | none => .fail) s
  | _ => .fail
theorem Sim.bytesStr (st : St σ w0 h w) {x x' : Value} (hx : VR σ x x') : Sim P w0 σ h w (abytesStr x) (Conv.bytesToString x') VR := by
  unfold abytesStr
  intro k s r e
  cases hx with
  | sliceNil => exact ⟨_, s, h, e, _, w, σ, rfl, .refl _, st, .string _⟩
  | slice n o len cap en cap' he hc hq =>
    dsimp only at e
    cases hz : Nat.beq len 0 with
    | true =>
      rw [hz] at e
      have := Nat.eq_of_beq_eq_true hz
      subst this
      exact ⟨_, s, h, e, _, w, σ, by simp [Conv.bytesToString, loadCells, loadCellsFrom], .refl _, st, .string _⟩
    | false =>
      rw [hz] at e
      simp only [cond_false] at e
      obtain ⟨l, e2, a, run, hl, hll⟩ := SimQ.cells (P := P) st he _ _ _ e
      split at e2
      · rename_i bs hbs
        refine ⟨_, s, h, e2, .string ⟨⟨bs⟩⟩, w, σ, ?_, .refl _, st, .string _⟩
        have hp : ∀ {l l' : List Value} {bs : List UInt8}, VRs σ l l' → bytesL l = some bs → bytesL l' = some bs := by
          intro l l' bs hv
          induction hv generalizing bs with
          | nil => exact id
          | cons hx _ ih =>
            intro hb
            simp only [bytesL] at hb ⊢
            split at hb
            · rename_i b bs' h1 h2
              rw [ih h2]
              unfold byteOf? at h1
              split at h1
              · cases hx; simp only [byteOf?]; obtain rfl := Option.some.inj h1; exact hb
              · cases h1
            · cases hb
        unfold Conv.bytesToString
        simp only [Sem.run_bind, run w rfl, Result.andThen_ok]
        rw [← Array.forIn_toList]
        rw [run_bytesLoop (P := P) (w := w) ?_ a.toList .empty bs (hp hl hbs)]
        · simp [ByteArray.empty, ByteArray.emptyWithCapacity]
          rfl
        · intro c r b hb
          unfold byteOf? at hb
          split at hb
          · obtain rfl := Option.some.inj hb; simp
          · cases hb
      · cases e2
  | slice0 a a' =>
    obtain ⟨n, o, sp⟩ := a
    exact ⟨_, s, h, e, _, w, σ, by simp [Conv.bytesToString, loadCells, loadCellsFrom], .refl _, st, .string _⟩
  | _ => cases e

/-- A text's bytes, in a new row. -/
noncomputable def astrBytes (el : TypeId) (b : ByteArray) : M Value := fun k s => agrown el 1 (b.data.toList.map fun x => .int .u8 x.toNat) (fun n => k (.slice (some ⟨n, 0, none⟩) b.size b.size)) s

/-! ### comparing with nil -/
noncomputable def aeqNil (P : Program) (t : TypeId) (x y : Value) : Option Bool :=
  match P.underlying t, x, y with
  | some (.pointer _), .pointer none, .pointer b => some b.isNone
  | some (.pointer _), .pointer (some _), .pointer none => some false
  | some (.slice _), .slice none _ _, .slice b _ _ => some b.isNone
  | some (.slice _), .slice (some _) _ _, .slice none _ _ => some false
  | some (.map _ _), .map none, .map b => some b.isNone
  | some (.map _ _), .map (some _), .map none => some false
  | some (.func _ _ _), .nilFunc, .nilFunc => some true
  | some (.func _ _ _), .nilFunc, .func _ _ _ => some false
  | some (.func _ _ _), .func _ _ _, .nilFunc => some false
  | some (.interface _), .nilIface, .iface _ _ => some false
  | some (.interface _), .iface _ _, .nilIface => some false
  | _, _, _ => none

theorem aeqNil_spec {t : TypeId} {x x' y y' : Value} {b : Bool} (d : Nat) (hx : VR σ x x') (hy : VR σ y y') (hb : aeqNil P t x y = some b) : (Op.equalIn (d + 1) t x' y').run P w = .ok b w ∧ ∀ op a c, (eqGuard op t a c x' y').run P w = .ok () w := by
  unfold aeqNil at hb
  split at hb <;> first | (cases hb; done) | skip
  all_goals
    rename_i hu
    obtain rfl := Option.some.inj hb
    cases hx <;> cases hy <;>
      exact ⟨by simp [Op.equalIn, run_und hu], fun op a c => by unfold eqGuard; cases op <;> rfl⟩

end
end Go.Ev

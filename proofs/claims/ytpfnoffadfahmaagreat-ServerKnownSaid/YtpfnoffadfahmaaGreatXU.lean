/- Structs side by side. No condition. -/
import Derived.Test.YtpfnoffadfahmaaGreatXV
import Derived.Laws.StructEq
namespace Go.Ev
open Go Go.RowKit
set_option linter.unusedVariables false
set_option linter.unusedSimpArgs false
section
variable {P : Program}
theorem pr_bind {α β : Type} (s : Sem α) (f : α → Sem β) : pureRun P (s >>= f) = (pureRun P s).bind fun a => pureRun P (f a) := by
  show pureRun P (s.bind f) = _
  induction s with
  | pure a => rfl
  | program k ih => exact ih P
  | mark m k ih => exact ih
  | _ => rfl
theorem pr_pure {α : Type} (a : α) : pureRun P (Pure.pure a : Sem α) = some a := rfl
theorem pr_ite {α : Type} {c : Prop} [Decidable c] (a b : Sem α) : pureRun P (if c then a else b) = if c then pureRun P a else pureRun P b := by split <;> rfl
theorem pr_program : pureRun P program = some P := rfl
theorem pr_underlying {t : TypeId} {d : TypeDesc} (h : P.underlying t = some d) : pureRun P (underlying t) = some d := by
  unfold underlying
  rw [pr_bind, pr_program]
  simp only [Option.bind_some, h, pr_pure]
theorem pr_struct (d : Nat) (t : TypeId) (xs ys : Array Value) (ht : P.underlying t = some (.struct (P.fieldsOf t))) (hp : P.stoodInHeld t = false) :
    pureRun P (Op.equalIn (d + 1) t (.agg xs) (.agg ys)) = pureRun P (Op.eqFields d xs ys (P.fieldsOf t).toList) := by
  simp only [Op.equalIn, pr_bind, pr_underlying ht, Option.bind_some, pr_program, hp, Bool.false_eq_true, if_false, pr_pure]
  rw [← Array.forIn_toList]
  generalize (P.fieldsOf t).toList = fs
  clear ht
  induction fs with
  | nil => simp [Op.eqFields, pr_pure]
  | cons f fs ih =>
    simp only [List.forIn_cons, Op.eqFields, pr_bind, pr_ite]
    split
    · cases pureRun P (part f.type xs f.offset) with
      | none => rfl
      | some a =>
        simp only [Option.bind_some]
        cases pureRun P (part f.type ys f.offset) with
        | none => rfl
        | some b =>
          simp only [Option.bind_some]
          cases pureRun P (Op.equalIn d f.type a b) with
          | none => rfl
          | some r =>
            cases r with
            | false => rfl
            | true => simpa [pr_pure] using ih
    · simpa [pr_pure] using ih
theorem pr_field {d : Nat} {xs ys : Array Value} {f : Field} {fs : List Field} {a b : Value} {r s : Bool} (hn : f.name ≠ "_") (ha : pureRun P (part f.type xs f.offset) = some a) (hb : pureRun P (part f.type ys f.offset) = some b) (he : pureRun P (Op.equalIn d f.type a b) = some r) (hr : pureRun P (Op.eqFields d xs ys fs) = some s) :
    pureRun P (Op.eqFields d xs ys (f :: fs)) = some (r && s) := by
  rw [Op.eqFields, if_pos hn]
  simp only [pr_bind, ha, hb, he, Option.bind_some, pr_ite, pr_pure, hr]
  cases r <;> simp
theorem pr_none (d : Nat) (xs ys : Array Value) : pureRun P (Op.eqFields d xs ys []) = some true := rfl
/-- Two structs, the same or not. -/
theorem eqS {t yt : TypeId} {xs ys : List Value} {B : Bool} (hu : P.underlying t = some (.struct (P.fieldsOf t))) (hp : P.stoodInHeld t = false) (hg : P.eqGuardType P.depth t = false) (hb : pureRun P (Op.eqFields 9999 ⟨xs⟩ ⟨ys⟩ (P.fieldsOf t).toList) = some B)
    (hx : xs.all plain1 = true) (hy : ys.all plain1 = true) (k : Value → Nat → AM) (s : Nat) :
    eqX P t yt false false (.agg ⟨xs⟩) (.agg ⟨ys⟩) k s = k (.bool B) s ∧ neX P t yt false false (.agg ⟨xs⟩) (.agg ⟨ys⟩) k s = k (.bool !B) s := by
  have hnil : aeqNil P t (.agg ⟨xs⟩) (.agg ⟨ys⟩) = none := by unfold aeqNil; rw [hu]
  have hall : ∀ op, (Op.operands (.binOp op t (.tmp 0) (.tmp 1) yt)).toList.all (fun x => plainV (aev [.agg ⟨xs⟩, .agg ⟨ys⟩] x)) = true := by
    intro op
    simp [Op.operands, aev, nth_eq, plainV]
    exact ⟨by simpa using hx, by simpa using hy⟩
  have heq : pureRun P (Op.equal t (.agg ⟨xs⟩) (.agg ⟨ys⟩)) = some B := by
    unfold Op.equal Op.maxDepth
    rw [pr_struct 9999 t _ _ hu hp]; exact hb
  have hgd : ∀ op, pureRun P (eqGuard op t (.tmp 0) (.tmp 1) (.agg ⟨xs⟩) (.agg ⟨ys⟩)) = some () := by
    intro op
    unfold eqGuard
    simp only [pr_bind, pr_ite, pr_program, Option.bind_some, hg, pr_pure]
    split <;> rfl
  constructor
  · show binG P .eql t yt false false (.agg ⟨xs⟩) (.agg ⟨ys⟩) k s = _
    unfold binG aop
    dsimp only [opdX]
    rw [show aev [Value.agg ⟨xs⟩, .agg ⟨ys⟩] (.tmp 0) = .agg ⟨xs⟩ from rfl, show aev [Value.agg ⟨xs⟩, .agg ⟨ys⟩] (.tmp 1) = .agg ⟨ys⟩ from rfl, hnil]
    dsimp only
    unfold aplain
    dsimp only
    rw [hall]
    simp only [cond_true]
    have : pureRun P (execOp (aev [.agg ⟨xs⟩, .agg ⟨ys⟩]) ⟨none, .binOp .eql t (.tmp 0) (.tmp 1) yt, 0, "", #[], none⟩) = some (.value (.bool B)) := by
      unfold execOp
      simp only [pr_bind, show aev [Value.agg ⟨xs⟩, .agg ⟨ys⟩] (.tmp 0) = .agg ⟨xs⟩ from rfl, show aev [Value.agg ⟨xs⟩, .agg ⟨ys⟩] (.tmp 1) = .agg ⟨ys⟩ from rfl, hgd, Option.bind_some, binOp, heq, pr_pure]
    rw [this]; rfl
  · show binG P .neq t yt false false (.agg ⟨xs⟩) (.agg ⟨ys⟩) k s = _
    unfold binG aop
    dsimp only [opdX]
    rw [show aev [Value.agg ⟨xs⟩, .agg ⟨ys⟩] (.tmp 0) = .agg ⟨xs⟩ from rfl, show aev [Value.agg ⟨xs⟩, .agg ⟨ys⟩] (.tmp 1) = .agg ⟨ys⟩ from rfl, hnil]
    dsimp only
    unfold aplain
    dsimp only
    rw [hall]
    simp only [cond_true]
    have : pureRun P (execOp (aev [.agg ⟨xs⟩, .agg ⟨ys⟩]) ⟨none, .binOp .neq t (.tmp 0) (.tmp 1) yt, 0, "", #[], none⟩) = some (.value (.bool !B)) := by
      unfold execOp
      simp only [pr_bind, show aev [Value.agg ⟨xs⟩, .agg ⟨ys⟩] (.tmp 0) = .agg ⟨xs⟩ from rfl, show aev [Value.agg ⟨xs⟩, .agg ⟨ys⟩] (.tmp 1) = .agg ⟨ys⟩ from rfl, hgd, Option.bind_some, binOp, heq, pr_pure]
    rw [this]; rfl
end
end Go.Ev

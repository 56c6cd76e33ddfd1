/- What whole numbers come to. No condition. -/
import Derived.Test.YtpfnoffadfahmaaGreatEvQ
namespace Go.Ev
set_option linter.unusedVariables false
set_option linter.unusedSimpArgs false
open Go Go.RowKit

abbrev KN := Next → Nat → AM
abbrev Rho := Operand → Value
noncomputable def intF (op : BinOp) : IntKind → Int → Int → Option Value :=
  match op with
  | .add => fun k a b => some (.int k (k.wrap (a + b)))
  | .sub => fun k a b => some (.int k (k.wrap (a - b)))
  | .mul => fun k a b => some (.int k (k.wrap (a * b)))
  | .eql => fun _ a b => some (.bool (a == b))
  | .neq => fun _ a b => some (.bool (a != b))
  | .lss => fun _ a b => some (.bool (decide (a < b)))
  | .leq => fun _ a b => some (.bool (decide (a ≤ b)))
  | .gtr => fun _ a b => some (.bool (decide (a > b)))
  | .geq => fun _ a b => some (.bool (decide (a ≥ b)))
  | .and => fun k a b => some (.int k (k.wrap (BitVec.ofInt k.bits a &&& BitVec.ofInt k.bits b).toNat))
  | .or => fun k a b => some (.int k (k.wrap (BitVec.ofInt k.bits a ||| BitVec.ofInt k.bits b).toNat))
  | .xor => fun k a b => some (.int k (k.wrap (BitVec.ofInt k.bits a ^^^ BitVec.ofInt k.bits b).toNat))
  | .quo => fun k a b => if b = 0 then none else some (.int k (k.wrap (a.tdiv b)))
  | .rem => fun k a b => if b = 0 then none else some (.int k (a.tmod b))
  | _ => fun _ _ _ => none

theorem intF_spec {P : Program} {ρ : Rho} {o : Oper} {op : BinOp} {t yt : TypeId} {x y : Operand} {k : IntKind} {a b : Int} {v : Value} (ho : o.op = .binOp op t x y yt) (hx : ρ x = .int k a) (hy : ρ y = .int k b) (hv : intF op k a b = some v) (kk : KN) (s : Nat) :
    aop P ρ o kk s = kk (.value v) s := by
  have hnil : aeqNil P t (ρ x) (ρ y) = none := by
    rw [hx, hy]; unfold aeqNil; split <;> simp_all
  have hpl : o.op.operands.toList.all (fun z => plainV (ρ z)) = true := by
    rw [ho]; simp [Op.operands, hx, hy, plainV, plain1]
  have hrun : pureRun P (execOp ρ o) = some (.value v) := by
    unfold execOp
    rw [ho]
    dsimp only
    rw [hx, hy]
    unfold intF at hv
    cases op <;> simp at hv <;> first
      | (subst hv; unfold eqGuard binOp; simp; rfl)
      | (obtain ⟨hb, rfl⟩ := hv; unfold eqGuard binOp Op.intDiv; simp [hb]; rfl)
  have hpv : plainV v = true := by
    unfold intF at hv
    cases op <;> simp at hv <;> first
      | (subst hv; rfl)
      | (obtain ⟨hb, rfl⟩ := hv; rfl)
  unfold aop
  rw [ho]
  dsimp only
  rw [hnil]
  dsimp only
  unfold aplain
  rw [hpl, hrun]
  dsimp only [cond_true]
  rw [hpv]; rfl

/-- Shifts. -/
theorem shift_spec {P : Program} {ρ : Rho} {o : Oper} {op : BinOp} {t yt : TypeId} {x y : Operand} {k yk : IntKind} {a b : Int} {v : Value} (ho : o.op = .binOp op t x y yt) (hx : ρ x = .int k a) (hy : ρ y = .int yk b) (hb : ¬ b < 0)
    (hv : op = .shl ∧ v = .int k (k.wrap (a * 2 ^ (min b.toNat k.bits))) ∨ op = .shr ∧ v = .int k (a.fdiv (2 ^ (min b.toNat k.bits)))) (kk : KN) (s : Nat) :
    aop P ρ o kk s = kk (.value v) s := by
  have hnil : aeqNil P t (ρ x) (ρ y) = none := by
    rw [hx, hy]; unfold aeqNil; split <;> simp_all
  have hpl : o.op.operands.toList.all (fun z => plainV (ρ z)) = true := by
    rw [ho]; simp [Op.operands, hx, hy, plainV, plain1]
  have hrun : pureRun P (execOp ρ o) = some (.value v) := by
    unfold execOp
    rw [ho]
    dsimp only
    rw [hx, hy]
    rcases hv with ⟨rfl, rfl⟩ | ⟨rfl, rfl⟩ <;> (unfold eqGuard binOp Op.shift; simp [hb]; rfl)
  have hpv : plainV v = true := by rcases hv with ⟨rfl, rfl⟩ | ⟨rfl, rfl⟩ <;> rfl
  unfold aop
  rw [ho]
  dsimp only
  rw [hnil]
  dsimp only
  unfold aplain
  rw [hpl, hrun]
  dsimp only [cond_true]
  rw [hpv]; rfl
/-- Numbers turned into numbers. -/
theorem conv_spec {P : Program} {ρ : Rho} {o : Oper} {src dst : TypeId} {x : Operand} {ks kd k : IntKind} {a : Int} (ho : o.op = .convert src dst x) (hs : P.underlying src = some (.int ks)) (hd : P.underlying dst = some (.int kd)) (hx : ρ x = .int k a) (kk : KN) (s : Nat) :
    aop P ρ o kk s = kk (.value (.int kd (kd.wrap a))) s := by
  have hpl : o.op.operands.toList.all (fun z => plainV (ρ z)) = true := by
    rw [ho]; simp [Op.operands, hx, plainV, plain1]
  have hu : ∀ {t : TypeId} {d : TypeDesc} {α : Type} (f : TypeDesc → Sem α), P.underlying t = some d → pureRun P (underlying t >>= f) = pureRun P (f d) := by
    intro t d α f h
    show pureRun P (((match P.underlying t with | some d => Pure.pure d | none => stuck "no such type") : Sem TypeDesc).bind f) = _
    rw [h]; rfl
  have hrun : pureRun P (execOp ρ o) = some (.value (.int kd (kd.wrap a))) := by
    unfold execOp
    rw [ho]
    dsimp only
    rw [hx]
    unfold convert
    have : ∀ f : Value → Sem Next, pureRun P ((underlying src >>= fun s => underlying dst >>= fun d => f (.int kd (kd.wrap a)))) = pureRun P (f (.int kd (kd.wrap a))) := fun f => by rw [hu _ hs, hu _ hd]
    simp only [bind_assoc]
    rw [hu _ hs, hu _ hd]
    rfl
  unfold aop
  rw [ho]
  dsimp only
  rw [hs, hd]
  dsimp only
  unfold aplain
  rw [hpl, hrun]
  rfl
end Go.Ev

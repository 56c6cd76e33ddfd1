/- Steps, each told of the whole term: what stands behind is not looked at till it is come to. No condition. -/
import Derived.Test.YtpfnoffadfahmaaGreatXO
namespace Go.Ev
open Go Go.RowKit
set_option linter.unusedVariables false
set_option linter.unusedSimpArgs false
theorem toNat_of (n : Nat) : (Int.ofNat n).toNat = n := rfl
theorem of_add (a b : Nat) : Int.ofNat a + Int.ofNat b = Int.ofNat (a + b) := rfl
theorem cast_add (i n : Nat) : (i : Int) + Int.ofNat n = ((i + n : Nat) : Int) := rfl
section
variable (pw : Nat → Prop) (Z : Value → T → Prop) (h : T)
theorem w_bindJ {α : Type} (n : Nat) (J : α) (B : α → Nat → AM) (s : Nat) : (bindJ n J B s).wp pw Z h = (B J s).wp pw Z h := Eq.trans rfl rfl
theorem w_logJ {α : Type} (J : α) (B : α → Nat → AM) (s : Nat) : (logJ J B s).wp pw Z h = (B J s).wp pw Z h := Eq.trans rfl rfl
theorem w_ct (x y : AM) : (condX (.bool true) x y).wp pw Z h = x.wp pw Z h := Eq.trans rfl rfl
theorem w_cf (x y : AM) : (condX (.bool false) x y).wp pw Z h = y.wp pw Z h := Eq.trans rfl rfl
theorem w_gtt (x y : AM) : (guardX (gd (.bool true) true) x y).wp pw Z h = x.wp pw Z h := Eq.trans rfl rfl
theorem w_gft (x y : AM) : (guardX (gd (.bool false) true) x y).wp pw Z h = y.wp pw Z h := Eq.trans rfl rfl
theorem w_gtf (x y : AM) : (guardX (gd (.bool true) false) x y).wp pw Z h = y.wp pw Z h := Eq.trans rfl rfl
theorem w_gff (x y : AM) : (guardX (gd (.bool false) false) x y).wp pw Z h = x.wp pw Z h := Eq.trans rfl rfl
theorem w_pt (x y : Value) (k : Value → Nat → AM) (s : Nat) : (pickX (.bool true) x y k s).wp pw Z h = (k x s).wp pw Z h := Eq.trans rfl rfl
theorem w_pf (x y : Value) (k : Value → Nat → AM) (s : Nat) : (pickX (.bool false) x y k s).wp pw Z h = (k y s).wp pw Z h := Eq.trans rfl rfl
theorem w_lret (v : Value) (j : LogT) (s : Nat) : (AM.log (.ret (pk v s)) (logU j)).wp pw Z h = (j v [] [] s).wp pw Z h := wp_log_ret v j s
theorem w_e0 (x : Value) (l : List Value) (k : Value → Nat → AM) (s : Nat) : (extX (.tuple ⟨x :: l⟩) 0 k s).wp pw Z h = (k x s).wp pw Z h := Eq.trans rfl rfl
theorem w_e1 (x y : Value) (l : List Value) (k : Value → Nat → AM) (s : Nat) : (extX (.tuple ⟨x :: y :: l⟩) 1 k s).wp pw Z h = (k y s).wp pw Z h := Eq.trans rfl rfl
theorem w_e2 (x y z : Value) (l : List Value) (k : Value → Nat → AM) (s : Nat) : (extX (.tuple ⟨x :: y :: z :: l⟩) 2 k s).wp pw Z h = (k z s).wp pw Z h := Eq.trans rfl rfl
theorem w_nil (a : Addr) (k : Value → Nat → AM) (s : Nat) : (nilX (.pointer (some a)) k s).wp pw Z h = (k (.pointer (some a)) s).wp pw Z h := Eq.trans rfl rfl
theorem w_fun (f : FuncId) (xs ys : List Value) (k : Value → Nat → AM) (s : Nat) : (funX (.func f) xs ys k s).wp pw Z h = (k (.func (.func f) ⟨xs⟩ ⟨ys⟩) s).wp pw Z h := Eq.trans rfl rfl
variable {P : Program}
theorem w_nt (t : TypeId) (k : Value → Nat → AM) (s : Nat) : (notX P t (.bool true) k s).wp pw Z h = (k (.bool false) s).wp pw Z h := Eq.trans rfl rfl
theorem w_nf (t : TypeId) (k : Value → Nat → AM) (s : Nat) : (notX P t (.bool false) k s).wp pw Z h = (k (.bool true) s).wp pw Z h := Eq.trans rfl rfl
variable (t yt : TypeId) (cx cy : Bool) (a b : Int) (k : Value → Nat → AM) (s : Nat)
theorem w_add (h1 : -9223372036854775808 ≤ a + b ∧ a + b ≤ 9223372036854775807) : (addX P t yt cx cy (.int .i64 a) (.int .i64 b) k s).wp pw Z h = (k (.int .i64 (a + b)) s).wp pw Z h := by rw [add_eq, wrap_id h1.1 h1.2]
theorem w_sub (h1 : -9223372036854775808 ≤ a - b ∧ a - b ≤ 9223372036854775807) : (subX P t yt cx cy (.int .i64 a) (.int .i64 b) k s).wp pw Z h = (k (.int .i64 (a - b)) s).wp pw Z h := by rw [sub_eq, wrap_id h1.1 h1.2]
theorem w_eqt (h1 : a = b) : (eqX P t yt cx cy (.int .i64 a) (.int .i64 b) k s).wp pw Z h = (k (.bool true) s).wp pw Z h := by rw [eq_eq, decide_eq_true h1]
theorem w_eqf (h1 : ¬ a = b) : (eqX P t yt cx cy (.int .i64 a) (.int .i64 b) k s).wp pw Z h = (k (.bool false) s).wp pw Z h := by rw [eq_eq, decide_eq_false h1]
theorem w_net (h1 : ¬ a = b) : (neX P t yt cx cy (.int .i64 a) (.int .i64 b) k s).wp pw Z h = (k (.bool true) s).wp pw Z h := by rw [ne_eq, decide_eq_false h1]; rfl
theorem w_nef (h1 : a = b) : (neX P t yt cx cy (.int .i64 a) (.int .i64 b) k s).wp pw Z h = (k (.bool false) s).wp pw Z h := by rw [ne_eq, decide_eq_true h1]; rfl
theorem w_ltt (h1 : a < b) : (ltX P t yt cx cy (.int .i64 a) (.int .i64 b) k s).wp pw Z h = (k (.bool true) s).wp pw Z h := by rw [lt_eq, decide_eq_true h1]
theorem w_ltf (h1 : ¬ a < b) : (ltX P t yt cx cy (.int .i64 a) (.int .i64 b) k s).wp pw Z h = (k (.bool false) s).wp pw Z h := by rw [lt_eq, decide_eq_false h1]
theorem w_let (h1 : a ≤ b) : (leX P t yt cx cy (.int .i64 a) (.int .i64 b) k s).wp pw Z h = (k (.bool true) s).wp pw Z h := by rw [le_eq, decide_eq_true h1]
theorem w_lef (h1 : ¬ a ≤ b) : (leX P t yt cx cy (.int .i64 a) (.int .i64 b) k s).wp pw Z h = (k (.bool false) s).wp pw Z h := by rw [le_eq, decide_eq_false h1]
theorem w_gtt' (h1 : b < a) : (gtX P t yt cx cy (.int .i64 a) (.int .i64 b) k s).wp pw Z h = (k (.bool true) s).wp pw Z h := by rw [gt_eq, decide_eq_true h1]
theorem w_gtf' (h1 : ¬ b < a) : (gtX P t yt cx cy (.int .i64 a) (.int .i64 b) k s).wp pw Z h = (k (.bool false) s).wp pw Z h := by rw [gt_eq, decide_eq_false h1]
theorem w_get (h1 : b ≤ a) : (geX P t yt cx cy (.int .i64 a) (.int .i64 b) k s).wp pw Z h = (k (.bool true) s).wp pw Z h := by rw [ge_eq, decide_eq_true h1]
theorem w_gef (h1 : ¬ b ≤ a) : (geX P t yt cx cy (.int .i64 a) (.int .i64 b) k s).wp pw Z h = (k (.bool false) s).wp pw Z h := by rw [ge_eq, decide_eq_false h1]
theorem w_rem (h1 : b ≠ 0) : (remX P t yt cx cy (.int .i64 a) (.int .i64 b) k s).wp pw Z h = (k (.int .i64 (a.tmod b)) s).wp pw Z h := by rw [rem_eq t yt cx cy a h1]
theorem w_quo (h1 : b ≠ 0) (h2 : -9223372036854775808 ≤ a.tdiv b ∧ a.tdiv b ≤ 9223372036854775807) : (quoX P t yt cx cy (.int .i64 a) (.int .i64 b) k s).wp pw Z h = (k (.int .i64 (a.tdiv b)) s).wp pw Z h := by rw [quo_eq t yt cx cy a h1, wrap_id h2.1 h2.2]
/-- What they are where it does not matter. -/
theorem w_eq : (eqX P t yt cx cy (.int .i64 a) (.int .i64 b) k s).wp pw Z h = (k (.bool (decide (a = b))) s).wp pw Z h := by rw [eq_eq]
theorem w_lt : (ltX P t yt cx cy (.int .i64 a) (.int .i64 b) k s).wp pw Z h = (k (.bool (decide (a < b))) s).wp pw Z h := by rw [lt_eq]
theorem w_le : (leX P t yt cx cy (.int .i64 a) (.int .i64 b) k s).wp pw Z h = (k (.bool (decide (a ≤ b))) s).wp pw Z h := by rw [le_eq]
theorem w_ge : (geX P t yt cx cy (.int .i64 a) (.int .i64 b) k s).wp pw Z h = (k (.bool (decide (b ≤ a))) s).wp pw Z h := by rw [ge_eq]
theorem w_gt : (gtX P t yt cx cy (.int .i64 a) (.int .i64 b) k s).wp pw Z h = (k (.bool (decide (b < a))) s).wp pw Z h := by rw [gt_eq]
theorem w_not (b : Bool) : (notX P t (.bool b) k s).wp pw Z h = (k (.bool (!b)) s).wp pw Z h := by cases b <;> rfl
end
end Go.Ev

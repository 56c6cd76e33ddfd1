/- The law TalkAgain, part 1: what the functions answer, by their terms. No condition. -/
import Derived.Test.YtnffkmnjpnlleaaTalkAgainP0
set_option linter.unusedVariables false
set_option linter.unusedSimpArgs false
set_option maxRecDepth 100000
namespace Go.Ev.R
open Go Go.RowKit
theorem conT_se_s (d : Nat) (K : KV) (s : Nat) : D 100000 (d + 8) 93 [str [115, 101], str [115]] K s = K (.bool true) s := by kernel_rfl
theorem conT_se_q (d : Nat) (K : KV) (s : Nat) : D 100000 (d + 8) 93 [str [115, 101], str [113]] K s = K (.bool false) s := by kernel_rfl
theorem conT_se_e (d : Nat) (K : KV) (s : Nat) : D 100000 (d + 8) 93 [str [115, 101], str [101]] K s = K (.bool true) s := by kernel_rfl
theorem conT_se_n (d : Nat) (K : KV) (s : Nat) : D 100000 (d + 8) 93 [str [115, 101], str [110]] K s = K (.bool false) s := by kernel_rfl
theorem conT_se_x (d : Nat) (K : KV) (s : Nat) : D 100000 (d + 8) 93 [str [115, 101], str [120]] K s = K (.bool false) s := by kernel_rfl
theorem conT_se_b (d : Nat) (K : KV) (s : Nat) : D 100000 (d + 8) 93 [str [115, 101], str [98]] K s = K (.bool false) s := by kernel_rfl
theorem conT_sqen_s (d : Nat) (K : KV) (s : Nat) : D 100000 (d + 8) 93 [str [115, 113, 101, 110], str [115]] K s = K (.bool true) s := by kernel_rfl
theorem conT_sqen_q (d : Nat) (K : KV) (s : Nat) : D 100000 (d + 8) 93 [str [115, 113, 101, 110], str [113]] K s = K (.bool true) s := by kernel_rfl
theorem conT_sqen_e (d : Nat) (K : KV) (s : Nat) : D 100000 (d + 8) 93 [str [115, 113, 101, 110], str [101]] K s = K (.bool true) s := by kernel_rfl
theorem conT_sqen_n (d : Nat) (K : KV) (s : Nat) : D 100000 (d + 8) 93 [str [115, 113, 101, 110], str [110]] K s = K (.bool true) s := by kernel_rfl
theorem conT_sqen_x (d : Nat) (K : KV) (s : Nat) : D 100000 (d + 8) 93 [str [115, 113, 101, 110], str [120]] K s = K (.bool false) s := by kernel_rfl
theorem conT_sqen_b (d : Nat) (K : KV) (s : Nat) : D 100000 (d + 8) 93 [str [115, 113, 101, 110], str [98]] K s = K (.bool false) s := by kernel_rfl
theorem conT_qexb_s (d : Nat) (K : KV) (s : Nat) : D 100000 (d + 8) 93 [str [113, 101, 120, 98], str [115]] K s = K (.bool false) s := by kernel_rfl
theorem conT_qexb_q (d : Nat) (K : KV) (s : Nat) : D 100000 (d + 8) 93 [str [113, 101, 120, 98], str [113]] K s = K (.bool true) s := by kernel_rfl
theorem conT_qexb_e (d : Nat) (K : KV) (s : Nat) : D 100000 (d + 8) 93 [str [113, 101, 120, 98], str [101]] K s = K (.bool true) s := by kernel_rfl
theorem conT_qexb_n (d : Nat) (K : KV) (s : Nat) : D 100000 (d + 8) 93 [str [113, 101, 120, 98], str [110]] K s = K (.bool false) s := by kernel_rfl
theorem conT_qexb_x (d : Nat) (K : KV) (s : Nat) : D 100000 (d + 8) 93 [str [113, 101, 120, 98], str [120]] K s = K (.bool true) s := by kernel_rfl
theorem conT_qexb_b (d : Nat) (K : KV) (s : Nat) : D 100000 (d + 8) 93 [str [113, 101, 120, 98], str [98]] K s = K (.bool true) s := by kernel_rfl
theorem conT_qen_s (d : Nat) (K : KV) (s : Nat) : D 100000 (d + 8) 93 [str [113, 101, 110], str [115]] K s = K (.bool false) s := by kernel_rfl
theorem conT_qen_q (d : Nat) (K : KV) (s : Nat) : D 100000 (d + 8) 93 [str [113, 101, 110], str [113]] K s = K (.bool true) s := by kernel_rfl
theorem conT_qen_e (d : Nat) (K : KV) (s : Nat) : D 100000 (d + 8) 93 [str [113, 101, 110], str [101]] K s = K (.bool true) s := by kernel_rfl
theorem conT_qen_n (d : Nat) (K : KV) (s : Nat) : D 100000 (d + 8) 93 [str [113, 101, 110], str [110]] K s = K (.bool true) s := by kernel_rfl
theorem conT_qen_x (d : Nat) (K : KV) (s : Nat) : D 100000 (d + 8) 93 [str [113, 101, 110], str [120]] K s = K (.bool false) s := by kernel_rfl
theorem conT_qen_b (d : Nat) (K : KV) (s : Nat) : D 100000 (d + 8) 93 [str [113, 101, 110], str [98]] K s = K (.bool false) s := by kernel_rfl
/-- What a kind of telling has. -/
def telT (k : Int) : List UInt8 := if k = 1 then [115, 101] else if k = 2 then [115, 113, 101, 110] else if k = 3 then [115, 113, 101, 110] else if k = 4 then [115, 113, 101, 110] else if k = 5 then [113, 101, 120, 98] else if k = 6 then [113, 101, 110] else []
abbrev telM : Obj := .map ⟨[⟨vi 1, txt [115, 101], 0⟩, ⟨vi 2, txt [115, 113, 101, 110], 1⟩, ⟨vi 3, txt [115, 113, 101, 110], 2⟩, ⟨vi 4, txt [115, 113, 101, 110], 3⟩, ⟨vi 5, txt [113, 101, 120, 98], 4⟩, ⟨vi 6, txt [113, 101, 110], 5⟩]⟩ 6
theorem find_tel (k : Int) (ok : Bool) : (match Instr.findNow (.int .i64) (vi k) [⟨vi 1, txt [115, 101], 0⟩, ⟨vi 2, txt [115, 113, 101, 110], 1⟩, ⟨vi 3, txt [115, 113, 101, 110], 2⟩, ⟨vi 4, txt [115, 113, 101, 110], 3⟩, ⟨vi 5, txt [113, 101, 120, 98], 4⟩, ⟨vi 6, txt [113, 101, 110], 5⟩] 0 with
    | some f => afound P 114 ok f
    | none => none) = some (if ok then .tuple ⟨[txt (telT k), .bool (decide (1 ≤ k ∧ k ≤ 6))]⟩ else txt (telT k)) := by
  have hz : zeroT P 114 = some (txt []) := by kernel_rfl
  simp only [find_cons, find_nil, telT]
  by_cases h1 : k = 1
  · subst h1; rfl
  by_cases h2 : k = 2
  · subst h2; rfl
  by_cases h3 : k = 3
  · subst h3; rfl
  by_cases h4 : k = 4
  · subst h4; rfl
  by_cases h5 : k = 5
  · subst h5; rfl
  by_cases h6 : k = 6
  · subst h6; rfl
  simp only [if_neg h1, if_neg h2, if_neg h3, if_neg h4, if_neg h5, if_neg h6]
  show (match zeroT P 114 with | some z => some (if ok then Value.tuple #[z, .bool false] else z) | none => none) = _
  rw [hz, decide_eq_false (by omega)]
section
variable {h : T} {pw : Nat → Prop} {Z : Value → T → Prop} {s0 s : Nat} {h0 : T}
theorem wp_tel {m : Nat} {k : Int} {ok : Bool} {kk : Value → Nat → AM} {s' : Nat} (hb : h.get m = some telM) : (alookup P 115 (.map (some m)) (vi k) ok kk s').wp pw Z h = (kk (if ok then .tuple ⟨[txt (telT k), .bool (decide (1 ≤ k ∧ k ≤ 6))]⟩ else txt (telT k)) s').wp pw Z h := by
  have hfs := find_tel k ok
  unfold alookup
  rw [u115]
  dsimp only
  rw [u3]
  dsimp only
  rw [show (keyT (.int .i64) && plain1 (vi k)) = true from rfl]
  simp only [cond_true]
  rw [wp_get, hb]
  dsimp only
  cases hfd : Instr.findNow (.int .i64) (vi k) [⟨vi 1, txt [115, 101], 0⟩, ⟨vi 2, txt [115, 113, 101, 110], 1⟩, ⟨vi 3, txt [115, 113, 101, 110], 2⟩, ⟨vi 4, txt [115, 113, 101, 110], 3⟩, ⟨vi 5, txt [113, 101, 120, 98], 4⟩, ⟨vi 6, txt [113, 101, 110], 5⟩] 0 with
  | none => rw [hfd] at hfs; cases hfs
  | some f =>
    rw [hfd] at hfs
    dsimp only at hfs ⊢
    rw [hfs]
    rfl
end
section
variable {N d : Nat} {h : T} {s : Nat} (hf : ∀ n, s ≤ n → h.get n = none)
include hf
theorem s108 : PureS (D N (d + 1)) 108 [] h s (fun v h' s' => ∃ m, v = .map (some m) ∧ s ≤ m ∧ h'.get m = some telM) := by
  refine PureS.of hf fun K pw Z g hp hk => ?_
  rw [D_108]; unfold F108; rw [app0_eq]
  unfold X108_1
  unfold amakeMap
  refine wp_newF g hp fun h1 g1 c1 b1 => ?_
  dsimp only
  simp only [bd_114_0]
  refine wp_mu g1 hp b1 (Nat.le_refl _) (by rfl) fun h2 g2 b2 => ?_
  refine wp_mu g2 hp b2 (Nat.le_refl _) (by rfl) fun h3 g3 b3 => ?_
  refine wp_mu g3 hp b3 (Nat.le_refl _) (by rfl) fun h4 g4 b4 => ?_
  refine wp_mu g4 hp b4 (Nat.le_refl _) (by rfl) fun h5 g5 b5 => ?_
  refine wp_mu g5 hp b5 (Nat.le_refl _) (by rfl) fun h6 g6 b6 => ?_
  refine wp_mu g6 hp b6 (Nat.le_refl _) (by rfl) fun h7 g7 b7 => ?_
  exact hk _ _ _ g7 ⟨s, rfl, Nat.le_refl _, b7⟩
end
theorem kinds6 {k : Int} (h : 1 ≤ k ∧ k ≤ 6) : k = 1 ∨ k = 2 ∨ k = 3 ∨ k = 4 ∨ k = 5 ∨ k = 6 := by omega
section
variable {N : Nat} (hN : N = 100000) (d : Nat) (K : KV) (s : Nat) {k : Int} (hk : 1 ≤ k ∧ k ≤ 6)
include hN hk
theorem conT_s : D N (d + 8) 93 [str (telT k), str [115]] K s = K (.bool (!(decide (k = 5 ∨ k = 6)))) s := by
  subst hN
  rcases kinds6 hk with rfl | rfl | rfl | rfl | rfl | rfl
  · exact conT_se_s d K s
  · exact conT_sqen_s d K s
  · exact conT_sqen_s d K s
  · exact conT_sqen_s d K s
  · exact conT_qexb_s d K s
  · exact conT_qen_s d K s
theorem conT_q : D N (d + 8) 93 [str (telT k), str [113]] K s = K (.bool (!(decide (k = 1)))) s := by
  subst hN
  rcases kinds6 hk with rfl | rfl | rfl | rfl | rfl | rfl
  · exact conT_se_q d K s
  · exact conT_sqen_q d K s
  · exact conT_sqen_q d K s
  · exact conT_sqen_q d K s
  · exact conT_qexb_q d K s
  · exact conT_qen_q d K s
theorem conT_e : D N (d + 8) 93 [str (telT k), str [101]] K s = K (.bool (true)) s := by
  subst hN
  rcases kinds6 hk with rfl | rfl | rfl | rfl | rfl | rfl
  · exact conT_se_e d K s
  · exact conT_sqen_e d K s
  · exact conT_sqen_e d K s
  · exact conT_sqen_e d K s
  · exact conT_qexb_e d K s
  · exact conT_qen_e d K s
theorem conT_n : D N (d + 8) 93 [str (telT k), str [110]] K s = K (.bool (!(decide (k = 1 ∨ k = 5)))) s := by
  subst hN
  rcases kinds6 hk with rfl | rfl | rfl | rfl | rfl | rfl
  · exact conT_se_n d K s
  · exact conT_sqen_n d K s
  · exact conT_sqen_n d K s
  · exact conT_sqen_n d K s
  · exact conT_qexb_n d K s
  · exact conT_qen_n d K s
theorem conT_x : D N (d + 8) 93 [str (telT k), str [120]] K s = K (.bool (decide (k = 5))) s := by
  subst hN
  rcases kinds6 hk with rfl | rfl | rfl | rfl | rfl | rfl
  · exact conT_se_x d K s
  · exact conT_sqen_x d K s
  · exact conT_sqen_x d K s
  · exact conT_sqen_x d K s
  · exact conT_qexb_x d K s
  · exact conT_qen_x d K s
theorem conT_b : D N (d + 8) 93 [str (telT k), str [98]] K s = K (.bool (decide (k = 5))) s := by
  subst hN
  rcases kinds6 hk with rfl | rfl | rfl | rfl | rfl | rfl
  · exact conT_se_b d K s
  · exact conT_sqen_b d K s
  · exact conT_sqen_b d K s
  · exact conT_sqen_b d K s
  · exact conT_qexb_b d K s
  · exact conT_qen_b d K s
end
theorem tel_mem {k : Int} {c : UInt8} (h : c ∈ telT k) : c = 115 ∨ c = 113 ∨ c = 101 ∨ c = 110 ∨ c = 120 ∨ c = 98 := by
  by_cases hk : 1 ≤ k ∧ k ≤ 6
  · rcases kinds6 hk with rfl | rfl | rfl | rfl | rfl | rfl <;> (simp [telT] at h; first | (rcases h with h | h | h | h <;> simp [h]) | (rcases h with h | h | h <;> simp [h]) | (rcases h with h | h <;> simp [h]))
  · unfold telT at h
    rw [if_neg (by omega), if_neg (by omega), if_neg (by omega), if_neg (by omega), if_neg (by omega), if_neg (by omega)] at h
    cases h
theorem tel_le (k : Int) : (telT k).length ≤ 4 := by
  by_cases hk : 1 ≤ k ∧ k ≤ 6
  · rcases kinds6 hk with rfl | rfl | rfl | rfl | rfl | rfl <;> simp [telT]
  · unfold telT
    rw [if_neg (by omega), if_neg (by omega), if_neg (by omega), if_neg (by omega), if_neg (by omega), if_neg (by omega)]
    simp
end Go.Ev.R
namespace Go.Ev.R
open Go Go.RowKit
/-- A belief as it comes in. -/
structure BV where
  time : Int
  xp : Option Addr
  xn : Nat
  xc : Nat
  pp : Option Addr
  pn : Nat
  pc : Nat
  flag : Bool
  pass : Int
  fail : Int
def bvv (b : BV) : List Value := [vi b.time, .slice b.xp b.xn b.xc, .slice b.pp b.pn b.pc, .bool b.flag, vi b.pass, vi b.fail]
def Sym (n : Nat) (pl : List Int) : Prop := ∀ i, i < n → ∀ k, k < n → pl[i * n + k]? = pl[k * n + i]?
open Classical in
noncomputable def heldB (n m : Nat) (pl : List Int) : Bool := decide (n ≤ 6 ∧ m = n * n ∧ Sym n pl)
theorem held_no {n m : Nat} {pl : List Int} (h : ¬ (n ≤ 6 ∧ m = n * n ∧ Sym n pl)) : heldB n m pl = false := by
  unfold heldB
  rw [decide_eq_false_iff_not]
  exact h
theorem held_yes {n m : Nat} {pl : List Int} (h : n ≤ 6 ∧ m = n * n ∧ Sym n pl) : heldB n m pl = true := by
  unfold heldB
  simp only [decide_eq_true_eq]
  exact h
theorem held_iff {n m : Nat} {pl : List Int} : heldB n m pl = true ↔ n ≤ 6 ∧ m = n * n ∧ Sym n pl := by
  constructor
  · intro h
    exact Classical.byContradiction fun hn => by rw [held_no hn] at h; cases h
  · exact held_yes
def empB (b : BV) : Bool := decide (b.time = 0 ∧ b.xn = 0 ∧ b.pn = 0 ∧ b.flag = false ∧ b.pass = 0 ∧ b.fail = 0)
theorem sym_flat {n : Nat} {pl : List Int} : Sym n pl ↔ ∀ i, i < n * n → pl[i]? = pl[i % n * n + i / n]? := by
  constructor
  · intro h i hi
    have hn : 0 < n := by rcases Nat.eq_zero_or_pos n with h0 | h0; (subst h0; omega); exact h0
    have h1 := h (i / n) ((Nat.div_lt_iff_lt_mul hn).2 hi) (i % n) (Nat.mod_lt _ hn)
    rw [show i / n * n + i % n = i by rw [Nat.mul_comm]; exact Nat.div_add_mod i n] at h1
    exact h1
  · intro h i hi k hk
    have hn : 0 < n := by omega
    have hlt : i * n + k < n * n := by
      calc i * n + k < i * n + n := by omega
      _ = (i + 1) * n := by rw [Nat.succ_mul]
      _ ≤ n * n := Nat.mul_le_mul hi (Nat.le_refl _)
    have h1 := h (i * n + k) hlt
    rw [show (i * n + k) % n = k by rw [Nat.add_comm, Nat.add_mul_mod_self_right, Nat.mod_eq_of_lt hk], show (i * n + k) / n = i by rw [Nat.add_comm, Nat.add_mul_div_right _ _ hn, Nat.div_eq_of_lt hk, Nat.zero_add]] at h1
    exact h1
theorem remN (a b : Bool) {i n : Nat} (hn : n ≠ 0) (k : KV) (s : Nat) : remX P 3 3 a b (vi i) (vi n) k s = k (vi ((i % n : Nat) : Int)) s := by
  rw [rem_eq 3 3 a b i (show (n : Int) ≠ 0 by omega)]
  rfl
theorem quoN (a b : Bool) {i n : Nat} (hn : n ≠ 0) (hi : i ≤ 1000000) (k : KV) (s : Nat) : quoX P 3 3 a b (vi i) (vi n) k s = k (vi ((i / n : Nat) : Int)) s := by
  have e : (i : Int).tdiv n = ((i / n : Nat) : Int) := rfl
  have hle : i / n ≤ i := Nat.div_le_self i n
  rw [quo_eq 3 3 a b i (show (n : Int) ≠ 0 by omega), e]
  generalize i / n = q at *
  rw [wrap_id (by omega) (by omega)]
theorem addN (t yt : TypeId) (a b : Bool) {x y : Nat} (h : x + y ≤ 1000000) (k : KV) (s : Nat) : addX P t yt a b (vi x) (vi y) k s = k (vi ((x + y : Nat) : Int)) s := by
  have e : (x : Int) + (y : Int) = ((x + y : Nat) : Int) := by simp
  rw [add_eq, e, wrap_id (by omega) (by omega)]
section
variable {N d : Nat} (hN : N = 100000) {h : T} {s : Nat} (hf : ∀ n, s ≤ n → h.get n = none)
include hN hf
theorem s110 (b : BV) {pl : List Int} (r : Row EI h b.pp b.pn pl) (hpn : b.pn ≤ 1000) : ValS (D N (d + 1)) 110 [.agg ⟨bvv b⟩] h s (.bool (heldB b.xn b.pn pl)) := by
  refine ValS.of hf fun K pw Z g hp hk => ?_
  rw [D_110]; unfold F110; rw [app1_eq]
  unfold X110_3
  refine wp_boxA g hp fun h1 g1 c1 b1 => ?_
  simp only [bvv] at b1
  have hk := hk _ _ g1
  have r1 := g1.row hf r
  have hlen := r.1
  by_cases h6 : (6 : Int) < (b.xn : Int)
  · try simp (disch := first | assumption | omega | (simp only [Int.ofNat_eq_natCast, neg_one]; done) | (simp only [Int.ofNat_eq_natCast, neg_one]; omega)) only [tysW, wB, mB, Nat.reduceAdd, Nat.reduceMul, List.length_cons, List.length_nil, ldB b1, clB b1, ldBL b1, clBL b1]
    rw [show heldB b.xn b.pn pl = false from held_no (by omega)] at hk
    exact hk
  have hsq : b.xn * b.xn ≤ 36 := by
    calc b.xn * b.xn ≤ 6 * 6 := Nat.mul_le_mul (by omega) (by omega)
    _ = 36 := rfl
  by_cases hm : (b.pn : Int) = ((b.xn * b.xn : Nat) : Int)
  · try simp (disch := first | assumption | omega | (simp only [Int.ofNat_eq_natCast, neg_one]; done) | (simp only [Int.ofNat_eq_natCast, neg_one]; omega)) only [tysW, wB, mB, Nat.reduceAdd, Nat.reduceMul, List.length_cons, List.length_nil, ldB b1, clB b1, ldBL b1, clBL b1, mulN _ _ _ _ (show b.xn * b.xn ≤ 1000000 by omega)]
    have hm' : b.pn = b.xn * b.xn := by omega
    have loop : ∀ (B : (Value → Value → Nat → AM) → Value → Value → Nat → AM) (hB : ∀ H u v s', B H u v s' = X110_2 N (D N d) K (vi b.pn) (ptr s) (vi b.xn) (fun s => K (.bool true) s) H u v s') (m i : Nat) (u : Value), b.pn - i < m → i ≤ b.pn → (∀ j, j < i → pl[j]? = pl[j % b.xn * b.xn + j / b.xn]?) →
        (loopJ m 2 (fun _ _ _ => AM.fail) B u (vi i) (s + 1)).wp pw Z h1 := by
      intro B hB m
      induction m with
      | zero => intro i u hm; omega
      | succ m ih =>
        intro i u hmi hi he
        rw [loopJ_succ, hB]
        unfold X110_2
        by_cases hlt : i < b.pn
        · have hn0 : b.xn ≠ 0 := by intro h0; rw [h0] at hm'; omega
          have hn1 : 0 < b.xn := by omega
          have h7 : i % b.xn < b.xn := Nat.mod_lt _ hn1
          have h8 : i / b.xn < b.xn := (Nat.div_lt_iff_lt_mul hn1).2 (by omega)
          have hidx : i % b.xn * b.xn + i / b.xn < b.pn := by
            rw [hm']
            calc i % b.xn * b.xn + i / b.xn < i % b.xn * b.xn + b.xn := by omega
            _ = (i % b.xn + 1) * b.xn := by rw [Nat.succ_mul]
            _ ≤ b.xn * b.xn := Nat.mul_le_mul h7 (Nat.le_refl _)
          obtain ⟨y, hy⟩ := get_some (l := pl) (i := i) (by omega)
          obtain ⟨z, hz⟩ := get_some (l := pl) (i := i % b.xn * b.xn + i / b.xn) (by omega)
          try simp (disch := first | assumption | omega | (simp only [Int.ofNat_eq_natCast, neg_one]; done) | (simp only [Int.ofNat_eq_natCast, neg_one]; omega)) only [tysW, wB, mB, Nat.reduceAdd, Nat.reduceMul, List.length_cons, List.length_nil, ldB b1, clB b1, ldBL b1, clBL b1, xaI r1 (j := (i : Int)) (by omega) (by omega), intL r1 hy]
          unfold X110_1
          have hst : y = z → pl[i]? = pl[i % b.xn * b.xn + i / b.xn]? := fun hh => by rw [hy, hz, hh]
          have hsf : Sym b.xn pl → y = z := fun hh => by
            have := sym_flat.1 hh i (by omega)
            rw [hy, hz] at this; exact Option.some.inj this
          have m1 : i % b.xn * b.xn + i / b.xn ≤ 1000000 := by omega
          have m2 : i % b.xn * b.xn ≤ 1000000 := Nat.le_trans (Nat.le_add_right _ _) m1
          try simp (disch := first | assumption | omega | (simp only [Int.ofNat_eq_natCast, neg_one]; done) | (simp only [Int.ofNat_eq_natCast, neg_one]; omega)) only [tysW, wB, mB, Nat.reduceAdd, Nat.reduceMul, List.length_cons, List.length_nil, ldB b1, clB b1, ldBL b1, clBL b1, remN _ _ hn0, mulN _ _ _ _ m2, quoN _ _ hn0 (show i ≤ 1000000 by omega), addN _ _ _ _ m1]
          obtain ⟨q, hq⟩ : ∃ q, q = i % b.xn * b.xn + i / b.xn := ⟨_, rfl⟩
          rw [← hq] at hz hidx ⊢
          try simp (disch := first | assumption | omega | (simp only [Int.ofNat_eq_natCast, neg_one]; done) | (simp only [Int.ofNat_eq_natCast, neg_one]; omega)) only [tysW, wB, mB, Nat.reduceAdd, Nat.reduceMul, List.length_cons, List.length_nil, xaI r1 (j := (q : Int)) (by omega) (by omega), intL r1 hz]
          by_cases hyz : y = z
          · try simp (disch := first | assumption | omega | (simp only [Int.ofNat_eq_natCast, neg_one]; done) | (simp only [Int.ofNat_eq_natCast, neg_one]; omega)) only [tysW, wB, mB, Nat.reduceAdd, Nat.reduceMul, List.length_cons, List.length_nil]
            refine ih (i + 1) _ (by omega) (by omega) fun j hj => ?_
            rcases Nat.lt_or_ge j i with h9 | h9
            · exact he j h9
            · obtain rfl : j = i := by omega
              exact hst hyz
          · try simp (disch := first | assumption | omega | (simp only [Int.ofNat_eq_natCast, neg_one]; done) | (simp only [Int.ofNat_eq_natCast, neg_one]; omega)) only [tysW, wB, mB, Nat.reduceAdd, Nat.reduceMul, List.length_cons, List.length_nil]
            rw [show heldB b.xn b.pn pl = false from held_no fun hh => hyz (by
              exact hsf hh.2.2)] at hk
            exact hk
        · obtain rfl : i = b.pn := by omega
          try simp (disch := first | assumption | omega | (simp only [Int.ofNat_eq_natCast, neg_one]; done) | (simp only [Int.ofNat_eq_natCast, neg_one]; omega)) only [tysW, wB, mB, Nat.reduceAdd, Nat.reduceMul, List.length_cons, List.length_nil]
          rw [show heldB b.xn b.pn pl = true from held_yes ⟨by omega, hm', sym_flat.2 fun j hj => he j (by omega)⟩] at hk
          exact hk
    exact loop _ (fun _ _ _ _ => rfl) N 0 _ (by omega) (by omega) fun j hj => by omega
  · try simp (disch := first | assumption | omega | (simp only [Int.ofNat_eq_natCast, neg_one]; done) | (simp only [Int.ofNat_eq_natCast, neg_one]; omega)) only [tysW, wB, mB, Nat.reduceAdd, Nat.reduceMul, List.length_cons, List.length_nil, ldB b1, clB b1, ldBL b1, clBL b1, mulN _ _ _ _ (show b.xn * b.xn ≤ 1000000 by omega)]
    rw [show heldB b.xn b.pn pl = false from held_no (by omega)] at hk
    exact hk
end
end Go.Ev.R
namespace Go.Ev.R
open Go Go.RowKit
/-- A telling as it comes in. -/
structure TV where
  kind : Int
  sen : Int
  seq : Int
  err : Int
  np : Option Addr
  nn : Nat
  nc : Nat
  ex : Bool
  b : BV
def tvv (x : TV) : List Value := [vi x.kind, vi x.sen, vi x.seq, vi x.err, .slice x.np x.nn x.nc, .bool x.ex, vi x.b.time, .slice x.b.xp x.b.xn x.b.xc, .slice x.b.pp x.b.pn x.b.pc, .bool x.b.flag, vi x.b.pass, vi x.b.fail]
/-- Whether it may be told, but for what a kind has not. -/
def FineT (x : TV) (pl : List Int) : Prop := (1 ≤ x.kind ∧ x.kind ≤ 6) ∧ (0 ≤ x.sen ∧ x.sen ≤ 255) ∧ (0 ≤ x.err ∧ x.err ≤ 255) ∧ (0 ≤ x.seq ∧ x.seq ≤ 2147483647) ∧ x.nn ≤ 24 ∧ heldB x.b.xn x.b.pn pl = true
def LackT (x : TV) : Prop := (¬ x.sen = 0 ∧ (x.kind = 5 ∨ x.kind = 6)) ∨ (¬ x.seq = 0 ∧ x.kind = 1) ∨ (¬ x.nn = 0 ∧ (x.kind = 1 ∨ x.kind = 5)) ∨ (x.ex = true ∧ ¬ x.kind = 5) ∨ (empB x.b = false ∧ ¬ x.kind = 5)
open Classical in
noncomputable def badT (x : TV) (pl : List Int) : Bool := decide (¬ (FineT x pl ∧ ¬ LackT x))
theorem badT_yes {x : TV} {pl : List Int} (h : ¬ (FineT x pl ∧ ¬ LackT x)) : badT x pl = true := by
  unfold badT
  simp only [decide_eq_true_eq]
  exact h
theorem badT_no {x : TV} {pl : List Int} (h : FineT x pl ∧ ¬ LackT x) : badT x pl = false := by
  unfold badT
  rw [decide_eq_false_iff_not]
  exact not_not_intro h
theorem badT_fine {x : TV} {pl : List Int} (h : badT x pl = false) : FineT x pl ∧ ¬ LackT x := Classical.byContradiction fun hn => by rw [badT_yes hn] at h; cases h
section
variable {N d : Nat} {h : T} {s : Nat} (hf : ∀ n, s ≤ n → h.get n = none)
include hf
theorem s111 (b : BV) (h1 : b.xn ≤ 100000) (h2 : b.pn ≤ 100000) : ValS (D N (d + 1)) 111 [.agg ⟨bvv b⟩] h s (.bool (empB b)) := by
  refine ValS.of hf fun K pw Z g hp hk => ?_
  rw [D_111]; unfold F111; rw [app1_eq]
  refine wp_boxA g hp fun h1 g1 c1 b1 => ?_
  simp only [bvv] at b1
  have hk := hk _ _ g1
  unfold empB at hk
  by_cases e1 : b.time = 0
  · cases e2 : b.flag with
    | true =>
      rw [decide_eq_false (by simp [e2])] at hk
      rw [e2] at b1
      try simp (disch := first | assumption | omega | (simp only [Int.ofNat_eq_natCast, neg_one]; done) | (simp only [Int.ofNat_eq_natCast, neg_one]; omega)) only [tysW, wB, mB, Nat.reduceAdd, Nat.reduceMul, List.length_cons, List.length_nil, ldB b1, clB b1, ldBL b1, clBL b1]
      unfold X111_2 X111_1
      try simp (disch := first | assumption | omega | (simp only [Int.ofNat_eq_natCast, neg_one]; done) | (simp only [Int.ofNat_eq_natCast, neg_one]; omega)) only [tysW, wB, mB, Nat.reduceAdd, Nat.reduceMul, List.length_cons, List.length_nil]
      exact hk
    | false =>
      rw [e2] at b1
      by_cases e3 : b.pass = 0
      · by_cases e4 : b.fail = 0
        · try simp (disch := first | assumption | omega | (simp only [Int.ofNat_eq_natCast, neg_one]; done) | (simp only [Int.ofNat_eq_natCast, neg_one]; omega)) only [tysW, wB, mB, Nat.reduceAdd, Nat.reduceMul, List.length_cons, List.length_nil, ldB b1, clB b1, ldBL b1, clBL b1]
          unfold X111_2
          try simp (disch := first | assumption | omega | (simp only [Int.ofNat_eq_natCast, neg_one]; done) | (simp only [Int.ofNat_eq_natCast, neg_one]; omega)) only [tysW, wB, mB, Nat.reduceAdd, Nat.reduceMul, List.length_cons, List.length_nil, ldB b1, clB b1, ldBL b1, clBL b1]
          unfold X111_1
          try simp (disch := first | assumption | omega | (simp only [Int.ofNat_eq_natCast, neg_one]; done) | (simp only [Int.ofNat_eq_natCast, neg_one]; omega)) only [tysW, wB, mB, Nat.reduceAdd, Nat.reduceMul, List.length_cons, List.length_nil, ldB b1, clB b1, ldBL b1, clBL b1, addN _ _ _ _ (show b.xn + b.pn ≤ 1000000 by omega)]
          by_cases e5 : b.xn + b.pn = 0
          · have e5' : ((b.xn + b.pn : Nat) : Int) = 0 := by omega
            try simp (disch := first | assumption | omega | (simp only [Int.ofNat_eq_natCast, neg_one]; done) | (simp only [Int.ofNat_eq_natCast, neg_one]; omega)) only [tysW, wB, mB, Nat.reduceAdd, Nat.reduceMul, List.length_cons, List.length_nil]
            rw [decide_eq_true ⟨e1, by omega, by omega, e2, e3, e4⟩] at hk
            exact hk
          · have e5' : ¬ ((b.xn + b.pn : Nat) : Int) = 0 := by omega
            try simp (disch := first | assumption | omega | (simp only [Int.ofNat_eq_natCast, neg_one]; done) | (simp only [Int.ofNat_eq_natCast, neg_one]; omega)) only [tysW, wB, mB, Nat.reduceAdd, Nat.reduceMul, List.length_cons, List.length_nil]
            rw [decide_eq_false (by omega)] at hk
            exact hk
        · try simp (disch := first | assumption | omega | (simp only [Int.ofNat_eq_natCast, neg_one]; done) | (simp only [Int.ofNat_eq_natCast, neg_one]; omega)) only [tysW, wB, mB, Nat.reduceAdd, Nat.reduceMul, List.length_cons, List.length_nil, ldB b1, clB b1, ldBL b1, clBL b1]
          unfold X111_2
          try simp (disch := first | assumption | omega | (simp only [Int.ofNat_eq_natCast, neg_one]; done) | (simp only [Int.ofNat_eq_natCast, neg_one]; omega)) only [tysW, wB, mB, Nat.reduceAdd, Nat.reduceMul, List.length_cons, List.length_nil, ldB b1, clB b1, ldBL b1, clBL b1]
          unfold X111_1
          try simp (disch := first | assumption | omega | (simp only [Int.ofNat_eq_natCast, neg_one]; done) | (simp only [Int.ofNat_eq_natCast, neg_one]; omega)) only [tysW, wB, mB, Nat.reduceAdd, Nat.reduceMul, List.length_cons, List.length_nil]
          rw [decide_eq_false (by simp [e4])] at hk
          exact hk
      · try simp (disch := first | assumption | omega | (simp only [Int.ofNat_eq_natCast, neg_one]; done) | (simp only [Int.ofNat_eq_natCast, neg_one]; omega)) only [tysW, wB, mB, Nat.reduceAdd, Nat.reduceMul, List.length_cons, List.length_nil, ldB b1, clB b1, ldBL b1, clBL b1]
        unfold X111_2
        try simp (disch := first | assumption | omega | (simp only [Int.ofNat_eq_natCast, neg_one]; done) | (simp only [Int.ofNat_eq_natCast, neg_one]; omega)) only [tysW, wB, mB, Nat.reduceAdd, Nat.reduceMul, List.length_cons, List.length_nil, ldB b1, clB b1, ldBL b1, clBL b1]
        unfold X111_1
        try simp (disch := first | assumption | omega | (simp only [Int.ofNat_eq_natCast, neg_one]; done) | (simp only [Int.ofNat_eq_natCast, neg_one]; omega)) only [tysW, wB, mB, Nat.reduceAdd, Nat.reduceMul, List.length_cons, List.length_nil]
        rw [decide_eq_false (by simp [e3])] at hk
        exact hk
  · try simp (disch := first | assumption | omega | (simp only [Int.ofNat_eq_natCast, neg_one]; done) | (simp only [Int.ofNat_eq_natCast, neg_one]; omega)) only [tysW, wB, mB, Nat.reduceAdd, Nat.reduceMul, List.length_cons, List.length_nil, ldB b1, clB b1, ldBL b1, clBL b1]
    unfold X111_2 X111_1
    try simp (disch := first | assumption | omega | (simp only [Int.ofNat_eq_natCast, neg_one]; done) | (simp only [Int.ofNat_eq_natCast, neg_one]; omega)) only [tysW, wB, mB, Nat.reduceAdd, Nat.reduceMul, List.length_cons, List.length_nil]
    rw [decide_eq_false (by simp [e1])] at hk
    exact hk
theorem s109 {fb : Nat} {l : List UInt8} (hb : h.get fb = some (.cells ⟨[str l]⟩ 114 (0, 0))) (c : UInt8) (em b : Bool) (hcon : ∀ (K : KV) (s : Nat), D N (d + 8) 93 [str l, str [c]] K s = K (.bool b) s) : ValS (D N (d + 9)) 109 [str [c], .bool em, ptr fb] h s (.bool (!em && !b)) := by
  refine ValS.of hf fun K pw Z g hp hk => ?_
  rw [D_109]; unfold F109; rw [app3_eq]
  have hk := hk _ _ g
  cases em with
  | true =>
    try simp (disch := first | assumption | omega | (simp only [Int.ofNat_eq_natCast, neg_one]; done) | (simp only [Int.ofNat_eq_natCast, neg_one]; omega)) only [tysW, wB, mB, Nat.reduceAdd, Nat.reduceMul, List.length_cons, List.length_nil]
    exact hk
  | false =>
    try simp (disch := first | assumption | omega | (simp only [Int.ofNat_eq_natCast, neg_one]; done) | (simp only [Int.ofNat_eq_natCast, neg_one]; omega)) only [tysW, wB, mB, Nat.reduceAdd, Nat.reduceMul, List.length_cons, List.length_nil, ldB hb, clB hb, ldBL hb, clBL hb]
    rw [hcon]
    try simp (disch := first | assumption | omega | (simp only [Int.ofNat_eq_natCast, neg_one]; done) | (simp only [Int.ofNat_eq_natCast, neg_one]; omega)) only [tysW, wB, mB, Nat.reduceAdd, Nat.reduceMul, List.length_cons, List.length_nil, w_not]
    exact hk
end
end Go.Ev.R
namespace Go.Ev.R
open Go Go.RowKit
section
variable (N : Nat) (C : CallT) (K : KV) (v2 v19 : Value) (s : Nat)
theorem bad36_5 : X36_5 N C K (.bool true) v2 v19 undef s = K (vi 2) s := rfl
theorem bad36_5' : X36_5 N C K (.bool false) v2 v19 (.bool true) s = K (vi 2) s := rfl
theorem bad36_4 : X36_4 N C K (.bool true) v2 v19 undef s = K (vi 2) s := rfl
theorem bad36_4' : X36_4 N C K (.bool false) v2 v19 (.bool true) s = K (vi 2) s := rfl
theorem bad36_3 : X36_3 N C K (.bool true) v2 v19 undef s = K (vi 2) s := rfl
theorem bad36_3' : X36_3 N C K (.bool false) v2 v19 (.bool true) s = K (vi 2) s := rfl
theorem bad36_2 : X36_2 N C K (.bool true) v2 v19 undef s = K (vi 2) s := rfl
theorem bad36_2' : X36_2 N C K (.bool false) v2 v19 (.bool true) s = K (vi 2) s := rfl
theorem bad36_1' : X36_1 N C K (.bool false) v2 v19 (.bool true) s = K (vi 2) s := rfl
end
theorem lk {a b : Bool} (h : (!a && !b) = false) : a = true ∨ b = true := by cases a <;> cases b <;> simp at h ⊢
section
variable {N d : Nat} (hN : N = 100000) {h : T} {s : Nat} (hf : ∀ n, s ≤ n → h.get n = none)
include hN hf
theorem s36 (x : TV) {pl : List Int} (r : Row EI h x.b.pp x.b.pn pl) (hpn : x.b.pn ≤ 1000) (hxn : x.b.xn ≤ 1000) : ValS (D N (d + 11)) 36 [.agg ⟨tvv x⟩] h s (vi (if badT x pl = true then 2 else 0)) := by
  refine ValS.of hf fun K pw Z g hp hk => ?_
  rw [D_36]; unfold F36; rw [app1_eq]
  refine wp_boxA g hp fun h1 g1 c1 b1 => ?_
  simp only [tvv] at b1
  refine PureS.goL g1 hp (s108 (d := d + 9) g1.fresh) fun v h2 s2 ts2 ws2 g2 c2 hv hw2 ht2 => ?_
  obtain ⟨m, rfl, hm, bm⟩ := hv
  have l2 := c2.le
  replace b1 := c2.box b1 (by omega)
  unfold X36_7
  try simp (disch := first | assumption | omega | (simp only [Int.ofNat_eq_natCast, neg_one]; done) | (simp only [Int.ofNat_eq_natCast, neg_one]; omega)) only [tysW, wB, mB, Nat.reduceAdd, Nat.reduceMul, List.length_cons, List.length_nil, ldB b1, clB b1, ldBL b1, clBL b1]
  refine log_wp (W := fun _ => False) (Q := fun v h' s' => v = .tuple ⟨[txt (telT x.kind), .bool (decide (1 ≤ x.kind ∧ x.kind ≤ 6))]⟩ ∧ h' = h2 ∧ s' = s2) ?_ (fun n hn => hn.elim) ?_
  · rw [wp_tel bm]
    exact ⟨_, _, rfl, rfl, rfl, rfl⟩
  rintro v h3 s3 ts3 ws3 ⟨rfl, rfl, rfl⟩ hw3 ht3
  replace hw3 : ∀ n ∈ ws3, s3 ≤ n ∧ n < s3 := fun n hn => (hw3 n hn).1.elim
  replace ht3 : ∀ n ∈ ts3, n < s3 := fun n hn => lt_of_some g2.fresh (ht3 n hn)
  try simp (disch := first | assumption | omega | (simp only [Int.ofNat_eq_natCast, neg_one]; done) | (simp only [Int.ofNat_eq_natCast, neg_one]; omega)) only [tysW, wB, mB, Nat.reduceAdd, Nat.reduceMul, List.length_cons, List.length_nil]
  refine wp_boxL g2 hp fun h4 g4 c4 b4 => ?_
  replace b1 := c4.box b1 (by omega)
  try simp (disch := first | assumption | omega | (simp only [Int.ofNat_eq_natCast, neg_one]; done) | (simp only [Int.ofNat_eq_natCast, neg_one]; omega)) only [tysW, wB, mB, Nat.reduceAdd, Nat.reduceMul, List.length_cons, List.length_nil]
  refine wp_putL g4 hp b4 (by omega) (by simp) rfl fun h5 g5 b5 e5 => ?_
  simp only [overL] at b5
  replace b1 := (e5 s (by omega)).trans b1
  unfold X36_6
  rw [wp_guard, if_pos (by repeat' (first | exact dynOk_nil _ _ | refine dyn_skip' ?_ | refine dyn_cons ?_ ?_ | exact allF_nil _ _ | refine allF_cons ?_ ?_ | exact disj_below hw2 (by omega) | exact disjA hw2 (by omega) | exact disjB hw2 (by omega) | exact disjC hw2 (by assumption) | exact disjD (fun m hm => by have := hw2 m hm; omega) | exact disj_below ht2 (by omega) | exact disjA ht2 (by omega) | exact disjB ht2 (by omega) | exact disjC ht2 (by assumption) | exact disjD (fun m hm => by have := ht2 m hm; omega) | exact disj_below hw3 (by omega) | exact disjA hw3 (by omega) | exact disjB hw3 (by omega) | exact disjC hw3 (by assumption) | exact disjD (fun m hm => by have := hw3 m hm; omega) | exact disj_below ht3 (by omega) | exact disjA ht3 (by omega) | exact disjB ht3 (by omega) | exact disjC ht3 (by assumption) | exact disjD (fun m hm => by have := ht3 m hm; omega) | exact disjN _ | exact disj1 (by omega) | exact disj2 (by omega) | exact disj3 (by assumption) | exact disjC hw2 (fun m hm => by have := ht2 m hm; omega) | exact disjC hw2 (fun m hm => by have := hw3 m hm; omega) | exact disjC hw2 (fun m hm => by have := ht3 m hm; omega) | exact disjC ht2 (fun m hm => by have := hw2 m hm; omega) | exact disjC ht2 (fun m hm => by have := hw3 m hm; omega) | exact disjC ht2 (fun m hm => by have := ht3 m hm; omega) | exact disjC hw3 (fun m hm => by have := hw2 m hm; omega) | exact disjC hw3 (fun m hm => by have := ht2 m hm; omega) | exact disjC hw3 (fun m hm => by have := ht3 m hm; omega) | exact disjC ht3 (fun m hm => by have := hw2 m hm; omega) | exact disjC ht3 (fun m hm => by have := ht2 m hm; omega) | exact disjC ht3 (fun m hm => by have := hw3 m hm; omega)))]
  have bad : ∀ {h' s'}, From s h h' s' → ¬ (FineT x pl ∧ ¬ LackT x) → (K (vi 2) s').wp pw Z h' := fun g hb => by
    have := hk _ _ g
    rw [if_pos (badT_yes hb)] at this; exact this
  have l3 : s + 1 ≤ s3 := l2
  by_cases f1 : 1 ≤ x.kind ∧ x.kind ≤ 6
  rotate_left
  · rw [decide_eq_false f1]
    try simp (disch := first | assumption | omega | (simp only [Int.ofNat_eq_natCast, neg_one]; done) | (simp only [Int.ofNat_eq_natCast, neg_one]; omega)) only [tysW, wB, mB, Nat.reduceAdd, Nat.reduceMul, List.length_cons, List.length_nil]
    rw [bad36_5]
    exact bad g5 fun hh => f1 hh.1.1
  rw [decide_eq_true f1]
  try simp (disch := first | assumption | omega | (simp only [Int.ofNat_eq_natCast, neg_one]; done) | (simp only [Int.ofNat_eq_natCast, neg_one]; omega)) only [tysW, wB, mB, Nat.reduceAdd, Nat.reduceMul, List.length_cons, List.length_nil, ldB b1, clB b1, ldBL b1, clBL b1]
  refine ValS.go g5 hp (s94 (d := d + 9) g5.fresh x.sen 255) fun h6 s6 g6 c6 => ?_
  have l6 := c6.le
  replace b1 := c6.box b1 (by omega)
  replace b5 := c6.box b5 (by omega)
  by_cases f2 : 0 ≤ x.sen ∧ x.sen ≤ 255
  rotate_left
  · rw [decide_eq_false f2]
    try simp (disch := first | assumption | omega | (simp only [Int.ofNat_eq_natCast, neg_one]; done) | (simp only [Int.ofNat_eq_natCast, neg_one]; omega)) only [tysW, wB, mB, Nat.reduceAdd, Nat.reduceMul, List.length_cons, List.length_nil]
    rw [bad36_5']
    exact bad g6 fun hh => f2 hh.1.2.1
  rw [decide_eq_true f2]
  try simp (disch := first | assumption | omega | (simp only [Int.ofNat_eq_natCast, neg_one]; done) | (simp only [Int.ofNat_eq_natCast, neg_one]; omega)) only [tysW, wB, mB, Nat.reduceAdd, Nat.reduceMul, List.length_cons, List.length_nil]
  unfold X36_5
  try simp (disch := first | assumption | omega | (simp only [Int.ofNat_eq_natCast, neg_one]; done) | (simp only [Int.ofNat_eq_natCast, neg_one]; omega)) only [tysW, wB, mB, Nat.reduceAdd, Nat.reduceMul, List.length_cons, List.length_nil, ldB b1, clB b1, ldBL b1, clBL b1]
  refine ValS.go g6 hp (s94 (d := d + 9) g6.fresh x.err 255) fun h7 s7 g7 c7 => ?_
  have l7 := c7.le
  replace b1 := c7.box b1 (by omega)
  replace b5 := c7.box b5 (by omega)
  by_cases f3 : 0 ≤ x.err ∧ x.err ≤ 255
  rotate_left
  · rw [decide_eq_false f3]
    try simp (disch := first | assumption | omega | (simp only [Int.ofNat_eq_natCast, neg_one]; done) | (simp only [Int.ofNat_eq_natCast, neg_one]; omega)) only [tysW, wB, mB, Nat.reduceAdd, Nat.reduceMul, List.length_cons, List.length_nil]
    rw [bad36_4]
    exact bad g7 fun hh => f3 hh.1.2.2.1
  rw [decide_eq_true f3]
  try simp (disch := first | assumption | omega | (simp only [Int.ofNat_eq_natCast, neg_one]; done) | (simp only [Int.ofNat_eq_natCast, neg_one]; omega)) only [tysW, wB, mB, Nat.reduceAdd, Nat.reduceMul, List.length_cons, List.length_nil, ldB b1, clB b1, ldBL b1, clBL b1]
  refine ValS.go g7 hp (s94 (d := d + 9) g7.fresh x.seq 2147483647) fun h8 s8 g8 c8 => ?_
  have l8 := c8.le
  replace b1 := c8.box b1 (by omega)
  replace b5 := c8.box b5 (by omega)
  by_cases f4 : 0 ≤ x.seq ∧ x.seq ≤ 2147483647
  rotate_left
  · rw [decide_eq_false f4]
    try simp (disch := first | assumption | omega | (simp only [Int.ofNat_eq_natCast, neg_one]; done) | (simp only [Int.ofNat_eq_natCast, neg_one]; omega)) only [tysW, wB, mB, Nat.reduceAdd, Nat.reduceMul, List.length_cons, List.length_nil]
    rw [bad36_4']
    exact bad g8 fun hh => f4 hh.1.2.2.2.1
  rw [decide_eq_true f4]
  try simp (disch := first | assumption | omega | (simp only [Int.ofNat_eq_natCast, neg_one]; done) | (simp only [Int.ofNat_eq_natCast, neg_one]; omega)) only [tysW, wB, mB, Nat.reduceAdd, Nat.reduceMul, List.length_cons, List.length_nil]
  unfold X36_4
  by_cases f5 : (24 : Int) < (x.nn : Int)
  · try simp (disch := first | assumption | omega | (simp only [Int.ofNat_eq_natCast, neg_one]; done) | (simp only [Int.ofNat_eq_natCast, neg_one]; omega)) only [tysW, wB, mB, Nat.reduceAdd, Nat.reduceMul, List.length_cons, List.length_nil, ldB b1, clB b1, ldBL b1, clBL b1]
    rw [bad36_3]
    exact bad g8 fun hh => by have := hh.1.2.2.2.2.1; omega
  try simp (disch := first | assumption | omega | (simp only [Int.ofNat_eq_natCast, neg_one]; done) | (simp only [Int.ofNat_eq_natCast, neg_one]; omega)) only [tysW, wB, mB, Nat.reduceAdd, Nat.reduceMul, List.length_cons, List.length_nil, ldB b1, clB b1, ldBL b1, clBL b1]
  refine ValS.go g8 hp (s110 (d := d + 9) hN g8.fresh x.b (g8.row hf r) hpn) fun h9 s9 g9 c9 => ?_
  have l9 := c9.le
  replace b1 := c9.box b1 (by omega)
  replace b5 := c9.box b5 (by omega)
  cases f6 : heldB x.b.xn x.b.pn pl with
  | false =>
    try simp (disch := first | assumption | omega | (simp only [Int.ofNat_eq_natCast, neg_one]; done) | (simp only [Int.ofNat_eq_natCast, neg_one]; omega)) only [tysW, wB, mB, Nat.reduceAdd, Nat.reduceMul, List.length_cons, List.length_nil]
    rw [bad36_3']
    exact bad g9 fun hh => by have := hh.1.2.2.2.2.2; rw [f6] at this; cases this
  | true =>
    have fine : FineT x pl := ⟨f1, f2, f3, f4, by omega, f6⟩
    have bad : ∀ {h' s'}, From s h h' s' → LackT x → (K (vi 2) s').wp pw Z h' := fun g hb => bad g fun hh => hh.2 hb
    try simp (disch := first | assumption | omega | (simp only [Int.ofNat_eq_natCast, neg_one]; done) | (simp only [Int.ofNat_eq_natCast, neg_one]; omega)) only [tysW, wB, mB, Nat.reduceAdd, Nat.reduceMul, List.length_cons, List.length_nil]
    unfold X36_3
    try simp (disch := first | assumption | omega | (simp only [Int.ofNat_eq_natCast, neg_one]; done) | (simp only [Int.ofNat_eq_natCast, neg_one]; omega)) only [tysW, wB, mB, Nat.reduceAdd, Nat.reduceMul, List.length_cons, List.length_nil, ldB b1, clB b1, ldBL b1, clBL b1, w_eq, iv_109]
    refine ValS.go g9 hp (s109 (d := d + 1) g9.fresh b5 115 (decide (x.sen = 0)) (!(decide (x.kind = 5 ∨ x.kind = 6))) fun K s => conT_s hN (d + 1) K s f1) fun h10 s10 g10 c10 => ?_
    have l10 := c10.le
    replace b1 := c10.box b1 (by omega)
    replace b5 := c10.box b5 (by omega)
    cases q1 : (!decide (x.sen = 0) && !(!(decide (x.kind = 5 ∨ x.kind = 6)))) with
    | true =>
      try simp (disch := first | assumption | omega | (simp only [Int.ofNat_eq_natCast, neg_one]; done) | (simp only [Int.ofNat_eq_natCast, neg_one]; omega)) only [tysW, wB, mB, Nat.reduceAdd, Nat.reduceMul, List.length_cons, List.length_nil]
      rw [bad36_2]
      refine bad g10 (.inl ?_)
      simp at q1; exact q1
    | false =>
      try simp (disch := first | assumption | omega | (simp only [Int.ofNat_eq_natCast, neg_one]; done) | (simp only [Int.ofNat_eq_natCast, neg_one]; omega)) only [tysW, wB, mB, Nat.reduceAdd, Nat.reduceMul, List.length_cons, List.length_nil, ldB b1, clB b1, ldBL b1, clBL b1, w_eq, iv_109]
      refine ValS.go g10 hp (s109 (d := d + 1) g10.fresh b5 113 (decide (x.seq = 0)) (!(decide (x.kind = 1))) fun K s => conT_q hN (d + 1) K s f1) fun h11 s11 g11 c11 => ?_
      have l11 := c11.le
      replace b1 := c11.box b1 (by omega)
      replace b5 := c11.box b5 (by omega)
      cases q2 : (!decide (x.seq = 0) && !(!(decide (x.kind = 1)))) with
      | true =>
        try simp (disch := first | assumption | omega | (simp only [Int.ofNat_eq_natCast, neg_one]; done) | (simp only [Int.ofNat_eq_natCast, neg_one]; omega)) only [tysW, wB, mB, Nat.reduceAdd, Nat.reduceMul, List.length_cons, List.length_nil]
        rw [bad36_2']
        refine bad g11 (.inr (.inl ?_))
        simp at q2; exact q2
      | false =>
        try simp (disch := first | assumption | omega | (simp only [Int.ofNat_eq_natCast, neg_one]; done) | (simp only [Int.ofNat_eq_natCast, neg_one]; omega)) only [tysW, wB, mB, Nat.reduceAdd, Nat.reduceMul, List.length_cons, List.length_nil]
        unfold X36_2
        try simp (disch := first | assumption | omega | (simp only [Int.ofNat_eq_natCast, neg_one]; done) | (simp only [Int.ofNat_eq_natCast, neg_one]; omega)) only [tysW, wB, mB, Nat.reduceAdd, Nat.reduceMul, List.length_cons, List.length_nil, ldB b1, clB b1, ldBL b1, clBL b1, w_eq, iv_109]
        refine ValS.go g11 hp (s109 (d := d + 1) g11.fresh b5 101 (decide (x.err = 0)) true fun K s => conT_e hN (d + 1) K s f1) fun h12 s12 g12 c12 => ?_
        have l12 := c12.le
        replace b1 := c12.box b1 (by omega)
        replace b5 := c12.box b5 (by omega)
        rw [show (!decide (x.err = 0) && !true) = false by simp]
        try simp (disch := first | assumption | omega | (simp only [Int.ofNat_eq_natCast, neg_one]; done) | (simp only [Int.ofNat_eq_natCast, neg_one]; omega)) only [tysW, wB, mB, Nat.reduceAdd, Nat.reduceMul, List.length_cons, List.length_nil, ldB b1, clB b1, ldBL b1, clBL b1, w_eq, iv_109]
        refine ValS.go g12 hp (s109 (d := d + 1) g12.fresh b5 110 (decide ((x.nn : Int) = 0)) (!(decide (x.kind = 1 ∨ x.kind = 5))) fun K s => conT_n hN (d + 1) K s f1) fun h13 s13 g13 c13 => ?_
        have l13 := c13.le
        replace b1 := c13.box b1 (by omega)
        replace b5 := c13.box b5 (by omega)
        cases q3 : (!decide ((x.nn : Int) = 0) && !(!(decide (x.kind = 1 ∨ x.kind = 5)))) with
        | true =>
          try simp (disch := first | assumption | omega | (simp only [Int.ofNat_eq_natCast, neg_one]; done) | (simp only [Int.ofNat_eq_natCast, neg_one]; omega)) only [tysW, wB, mB, Nat.reduceAdd, Nat.reduceMul, List.length_cons, List.length_nil]
          rw [bad36_1']
          refine bad g13 (.inr (.inr (.inl ?_)))
          simp at q3; exact q3
        | false =>
          try simp (disch := first | assumption | omega | (simp only [Int.ofNat_eq_natCast, neg_one]; done) | (simp only [Int.ofNat_eq_natCast, neg_one]; omega)) only [tysW, wB, mB, Nat.reduceAdd, Nat.reduceMul, List.length_cons, List.length_nil]
          unfold X36_1
          try simp (disch := first | assumption | omega | (simp only [Int.ofNat_eq_natCast, neg_one]; done) | (simp only [Int.ofNat_eq_natCast, neg_one]; omega)) only [tysW, wB, mB, Nat.reduceAdd, Nat.reduceMul, List.length_cons, List.length_nil, ldB b1, clB b1, ldBL b1, clBL b1, w_not, iv_109]
          refine ValS.go g13 hp (s109 (d := d + 1) g13.fresh b5 120 (!x.ex) (decide (x.kind = 5)) fun K s => conT_x hN (d + 1) K s f1) fun h14 s14 g14 c14 => ?_
          have l14 := c14.le
          replace b1 := c14.box b1 (by omega)
          replace b5 := c14.box b5 (by omega)
          cases q4 : (!(!x.ex) && !(decide (x.kind = 5))) with
          | true =>
            try simp (disch := first | assumption | omega | (simp only [Int.ofNat_eq_natCast, neg_one]; done) | (simp only [Int.ofNat_eq_natCast, neg_one]; omega)) only [tysW, wB, mB, Nat.reduceAdd, Nat.reduceMul, List.length_cons, List.length_nil]
            refine bad g14 (.inr (.inr (.inr (.inl ?_))))
            simp at q4; exact q4
          | false =>
            try simp (disch := first | assumption | omega | (simp only [Int.ofNat_eq_natCast, neg_one]; done) | (simp only [Int.ofNat_eq_natCast, neg_one]; omega)) only [tysW, wB, mB, Nat.reduceAdd, Nat.reduceMul, List.length_cons, List.length_nil, ldB b1, clB b1, ldBL b1, clBL b1, iv_109]
            refine ValS.go g14 hp (s111 (d := d + 9) g14.fresh x.b (by omega) (by omega)) fun h15 s15 g15 c15 => ?_
            have l15 := c15.le
            replace b5 := c15.box b5 (by omega)
            try simp (disch := first | assumption | omega | (simp only [Int.ofNat_eq_natCast, neg_one]; done) | (simp only [Int.ofNat_eq_natCast, neg_one]; omega)) only [tysW, wB, mB, Nat.reduceAdd, Nat.reduceMul, List.length_cons, List.length_nil, iv_109]
            refine ValS.go g15 hp (s109 (d := d + 1) g15.fresh b5 98 (empB x.b) (decide (x.kind = 5)) fun K s => conT_b hN (d + 1) K s f1) fun h16 s16 g16 c16 => ?_
            cases q5 : (!(empB x.b) && !(decide (x.kind = 5))) with
            | true =>
              try simp (disch := first | assumption | omega | (simp only [Int.ofNat_eq_natCast, neg_one]; done) | (simp only [Int.ofNat_eq_natCast, neg_one]; omega)) only [tysW, wB, mB, Nat.reduceAdd, Nat.reduceMul, List.length_cons, List.length_nil]
              refine bad g16 (.inr (.inr (.inr (.inr ?_))))
              simp at q5; exact q5
            | false =>
              try simp (disch := first | assumption | omega | (simp only [Int.ofNat_eq_natCast, neg_one]; done) | (simp only [Int.ofNat_eq_natCast, neg_one]; omega)) only [tysW, wB, mB, Nat.reduceAdd, Nat.reduceMul, List.length_cons, List.length_nil]
              have := hk _ _ g16
              rw [badT_no ⟨fine, ?_⟩] at this
              · exact this
              · have e1 := lk q1
                have e2 := lk q2
                have e3 := lk q3
                have e4 := lk q4
                have e5 := lk q5
                simp at e1 e2 e3 e4 e5
                rintro (⟨a, b⟩ | ⟨a, b⟩ | ⟨a, b⟩ | ⟨a, b⟩ | ⟨a, b⟩)
                · rcases e1 with e | e
                  · exact a e
                  · omega
                · rcases e2 with e | e
                  · exact a e
                  · exact e b
                · rcases e3 with e | e
                  · exact a e
                  · omega
                · rcases e4 with e | e
                  · rw [e] at a; cases a
                  · exact b e
                · rcases e5 with e | e
                  · rw [e] at a; cases a
                  · exact b e
end
end Go.Ev.R
namespace Go.Ev.R
open Go Go.RowKit
section
variable (N : Nat) (C : CallT) (K : KV) (v2 v5 x y : Value) (s : Nat)
end
section
variable {N d : Nat} (hN : N = 100000) {h : T} {s : Nat} (hf : ∀ n, s ≤ n → h.get n = none)
include hN hf
end
end Go.Ev.R
namespace Go.Ev.R
open Go Go.RowKit
def bit (b : Bool) : Int := if b = true then 1 else 0
/-- The numbers of a square from the diagonal on, of its first rows. -/
def upM (n : Nat) (pl : List Int) : Nat → List Int
  | 0 => []
  | i + 1 => upM n pl i ++ (pl.drop (i * n + i)).take (n - i)
def up (n : Nat) (pl : List Int) : List Int := upM n pl n
def belB (b : BV) (xl pl : List Int) : List Int := be 8 b.time ++ (be 1 (bit b.flag) ++ (be 8 b.pass ++ (be 8 b.fail ++ (lis xl ++ lis (up b.xn pl)))))
theorem upM_len {n : Nat} (hn : n ≤ 6) (pl : List Int) : ∀ i, i ≤ n → (upM n pl i).length ≤ 6 * i
  | 0, _ => by simp [upM]
  | i + 1, h => by
    have := upM_len hn pl i (by omega)
    show (upM n pl i ++ _).length ≤ _
    rw [List.length_append, List.length_take]; omega
/-- How many they are. -/
def tri (n : Nat) : Nat := if n = 0 then 0 else if n = 1 then 1 else if n = 2 then 3 else if n = 3 then 6 else if n = 4 then 10 else if n = 5 then 15 else 21
theorem upM_eq {n : Nat} (pl : List Int) (hp : pl.length = n * n) : ∀ i, i ≤ n → 2 * (upM n pl i).length + i * i = 2 * (n * i) + i
  | 0, _ => by simp [upM]
  | i + 1, h => by
    have ih := upM_eq pl hp i (by omega)
    have h1 : i * n + n ≤ n * n := by rw [← Nat.succ_mul]; exact Nat.mul_le_mul h (Nat.le_refl _)
    have e : (upM n pl (i + 1)).length = (upM n pl i).length + (n - i) := by
      show (upM n pl i ++ _).length = _
      rw [List.length_append, List.length_take, List.length_drop, hp, Nat.min_eq_left (by omega)]
    rw [e, Nat.mul_succ n i, Nat.succ_mul i (i + 1), Nat.mul_succ i i]
    omega
theorem up_tri {n : Nat} (hn : n ≤ 6) {pl : List Int} (hp : pl.length = n * n) : (up n pl).length = tri n := by
  have h := upM_eq pl hp n (Nat.le_refl _)
  unfold up tri
  have hc : n = 0 ∨ n = 1 ∨ n = 2 ∨ n = 3 ∨ n = 4 ∨ n = 5 ∨ n = 6 := by omega
  generalize (upM n pl n).length = L at h ⊢
  clear hp hn
  rcases hc with rfl | rfl | rfl | rfl | rfl | rfl | rfl
  · rw [if_pos rfl]; omega
  · rw [if_neg (by decide), if_pos rfl]; omega
  · rw [if_neg (by decide), if_neg (by decide), if_pos rfl]; omega
  · rw [if_neg (by decide), if_neg (by decide), if_neg (by decide), if_pos rfl]; omega
  · rw [if_neg (by decide), if_neg (by decide), if_neg (by decide), if_neg (by decide), if_pos rfl]; omega
  · rw [if_neg (by decide), if_neg (by decide), if_neg (by decide), if_neg (by decide), if_neg (by decide), if_pos rfl]; omega
  · rw [if_neg (by decide), if_neg (by decide), if_neg (by decide), if_neg (by decide), if_neg (by decide), if_neg (by decide)]; omega
theorem tri_le (n : Nat) : tri n ≤ 21 := by
  unfold tri
  split
  · omega
  split
  · omega
  split
  · omega
  split
  · omega
  split
  · omega
  split <;> omega
section
variable {N d : Nat} (hN : 100000 ≤ N) {h0 h : T} {s0 s t : Nat} {K : KV} {pw : Nat → Prop} {Z : Value → T → Prop} (g : From s0 h0 h s) (hp : ∀ n, s0 ≤ n → pw n) {wb : Nat} (hwb : s0 ≤ wb) {p : Option Addr} {len : Nat} {b : List Int} (hw : h.get wb = some (.cells ⟨[.slice p len len, .bool false]⟩ 111 (0, 0))) (r : Sl EB h p len len b)
include hN g hp hwb hw r
theorem s86l {w : Nat} (hW : isW w) {q : Option Addr} {n c : Nat} {l : List Int} (r2 : Row EI h q n l) (hn : l.all (fitsW w) = true) (hn1 : n ≤ 1000) (hl : len ≤ 40000) (hk : ∀ p' h' s', From s0 h0 h' s' → s ≤ s' → h'.get wb = some (.cells ⟨[.slice p' (len + n * w) (len + n * w), .bool false]⟩ 111 (0, 0)) → OwnG EB 5 h' s p' (len + n * w) (b ++ bys w l) → (∀ i, i < s → i ≠ wb → h'.get i = h.get i) → (K (.tuple ⟨[]⟩) s').wp pw Z h') :
    (D N (d + 3) 86 [ptr wb, vi w, .slice q n c] K s).wp pw Z h := by
  have hws := lt_of_some g.fresh ⟨_, hw⟩
  rw [D_86]; unfold F86; rw [app3_eq]
  unfold X86_1
  try simp (disch := first | assumption | omega | (simp only [Int.ofNat_eq_natCast, neg_one]; done) | (simp only [Int.ofNat_eq_natCast, neg_one]; omega)) only [tysW, wB, mB, Nat.reduceAdd, Nat.reduceMul, List.length_cons, List.length_nil, ldB hw, clB hw, ldBL hw, clBL hw]
  refine PureS.go g hp (s141 (d := d) hN g.fresh hW r r2 (by omega) hn1) fun v h1 s1 g1 c1 hv => ?_
  have l1 := c1.le
  rw [if_pos hn] at hv
  obtain ⟨p', rfl, o⟩ := hv
  have hw1 := c1.box hw hws
  try simp (disch := first | assumption | omega | (simp only [Int.ofNat_eq_natCast, neg_one]; done) | (simp only [Int.ofNat_eq_natCast, neg_one]; omega)) only [tysW, wB, mB, Nat.reduceAdd, Nat.reduceMul, List.length_cons, List.length_nil, ldB hw1, clB hw1, ldBL hw1, clBL hw1, ne35, decide_true]
  refine wp_putF g1 hp hw1 hwb (by simp) rfl fun h2 g2 b2 e2 => ?_
  simp only [overL] at b2
  try simp (disch := first | assumption | omega | (simp only [Int.ofNat_eq_natCast, neg_one]; done) | (simp only [Int.ofNat_eq_natCast, neg_one]; omega)) only [tysW, wB, mB, Nat.reduceAdd, Nat.reduceMul, List.length_cons, List.length_nil, ldB b2, clB b2, ldBL b2, clBL b2]
  refine wp_putF g2 hp b2 hwb (by simp) rfl fun h3 g3 b3 e3 => ?_
  simp only [overL] at b3
  refine hk p' h3 s1 g3 l1 b3 ?_ ?_
  · exact o.but fun hc => by have := o.lt g1.fresh hc; rw [e3 _ (by omega), e2 _ (by omega)]
  · intro i h4 h5
    rw [e3 i h5, e2 i h5, c1.keep i h4]
end
section
variable {N d : Nat} {h : T} {s : Nat} (hf : ∀ n, s ≤ n → h.get n = none)
include hf
theorem s124 (b : Bool) : ValS (D N (d + 1)) 124 [.bool b] h s (vi (bit b)) := by
  refine ValS.of hf fun K pw Z g hp hk => ?_
  have hk := hk _ _ g
  rw [D_124]; unfold F124; rw [app1_eq]
  cases b with
  | true => try simp (disch := first | assumption | omega | (simp only [Int.ofNat_eq_natCast, neg_one]; done) | (simp only [Int.ofNat_eq_natCast, neg_one]; omega)) only [tysW, wB, mB, Nat.reduceAdd, Nat.reduceMul, List.length_cons, List.length_nil]; exact hk
  | false => try simp (disch := first | assumption | omega | (simp only [Int.ofNat_eq_natCast, neg_one]; done) | (simp only [Int.ofNat_eq_natCast, neg_one]; omega)) only [tysW, wB, mB, Nat.reduceAdd, Nat.reduceMul, List.length_cons, List.length_nil]; exact hk
end
theorem bit_fits (b : Bool) : fitsW 1 (bit b) = true := by cases b <;> rfl
section
variable {N d : Nat} (hN : N = 100000) {h : T} {s : Nat} (hf : ∀ n, s ≤ n → h.get n = none)
include hN hf
end
end Go.Ev.R
namespace Go.Ev.R
open Go Go.RowKit
section
variable {N d : Nat} (hN : N = 100000) {h0 h : T} {s0 s : Nat} {K : KV} {pw : Nat → Prop} {Z : Value → T → Prop} (g : From s0 h0 h s) (hp : ∀ n, s0 ≤ n → pw n) {wb : Nat} (hwb : s0 ≤ wb) {p : Option Addr} {len : Nat} {bs : List Int} (hw : h.get wb = some (.cells ⟨[.slice p len len, .bool false]⟩ 111 (0, 0))) (r : Sl EB h p len len bs)
include hN g hp hwb hw r
theorem s125 (hf0 : ∀ n, s0 ≤ n → h0.get n = none) (b : BV) {xl pl : List Int} (rx : Row EI h0 b.xp b.xn xl) (rp : Sl EI h0 b.pp b.pn b.pc pl) (h6 : b.xn ≤ 6) (hpn : b.pn = b.xn * b.xn) (hl : len ≤ 10000)
    (hk : ∀ p' len' h' s', From s0 h0 h' s' → s ≤ s' → h'.get wb = some (.cells ⟨[.slice p' len' len', .bool false]⟩ 111 (0, 0)) → OwnG EB 5 h' s p' len' (bs ++ belB b xl pl) → len' ≤ len + 500 → (∀ i, i < s → i ≠ wb → h'.get i = h.get i) → (K (.tuple ⟨[]⟩) s').wp pw Z h') :
    (D N (d + 5) 125 [ptr wb, .agg ⟨bvv b⟩] K s).wp pw Z h := by
  have hws := lt_of_some g.fresh ⟨_, hw⟩
  have hN' : 100000 ≤ N := by omega
  rw [D_125]; unfold F125; rw [app2_eq]
  unfold X125_2
  refine wp_boxA g hp fun h1 g1 c1 b1 => ?_
  simp only [bvv] at b1
  have w1 := c1.box hw hws
  try simp (disch := first | assumption | omega | (simp only [Int.ofNat_eq_natCast, neg_one]; done) | (simp only [Int.ofNat_eq_natCast, neg_one]; omega)) only [tysW, wB, mB, Nat.reduceAdd, Nat.reduceMul, List.length_cons, List.length_nil, ldB b1, clB b1, ldBL b1, clBL b1]
  refine wp_newF g1 hp fun h2 g2 c2' b2 => ?_
  replace b1 := c2'.box b1 (by omega)
  have w2 := c2'.box w1 (by omega)
  try simp (disch := first | assumption | omega | (simp only [Int.ofNat_eq_natCast, neg_one]; done) | (simp only [Int.ofNat_eq_natCast, neg_one]; omega)) only [tysW, wB, mB, Nat.reduceAdd, Nat.reduceMul, List.length_cons, List.length_nil]
  refine s86 (w := 8) (d := d + 1) hN' g2 hp hwb w2 (r.from g.fresh (c1.trans c2')) (.inr (.inr (.inr rfl))) (Row.of_cells (E := EI) (l := [b.time]) b2 rfl) (by simp [fitsW]) (by omega) fun p3 h3 s3 g3 l3 w3 o3 e3 => ?_
  replace b1 := (e3 s (by omega) (by omega)).trans b1
  try simp (disch := first | assumption | omega | (simp only [Int.ofNat_eq_natCast, neg_one]; done) | (simp only [Int.ofNat_eq_natCast, neg_one]; omega)) only [tysW, wB, mB, Nat.reduceAdd, Nat.reduceMul, List.length_cons, List.length_nil, ldB b1, clB b1, ldBL b1, clBL b1]
  refine ValS.go g3 hp (s124 (d := d + 3) g3.fresh b.flag) fun h4 s4 g4 c4 => ?_
  have l4 := c4.le
  replace b1 := c4.box b1 (by omega)
  replace w3 := c4.box w3 (by omega)
  replace o3 := o3.from g3.fresh c4
  try simp (disch := first | assumption | omega | (simp only [Int.ofNat_eq_natCast, neg_one]; done) | (simp only [Int.ofNat_eq_natCast, neg_one]; omega)) only [tysW, wB, mB, Nat.reduceAdd, Nat.reduceMul, List.length_cons, List.length_nil]
  refine wp_newF g4 hp fun h5 g5 c5 b5 => ?_
  replace b1 := c5.box b1 (by omega)
  replace w3 := c5.box w3 (by omega)
  replace o3 := o3.from g4.fresh c5
  try simp (disch := first | assumption | omega | (simp only [Int.ofNat_eq_natCast, neg_one]; done) | (simp only [Int.ofNat_eq_natCast, neg_one]; omega)) only [tysW, wB, mB, Nat.reduceAdd, Nat.reduceMul, List.length_cons, List.length_nil]
  refine s86 (w := 1) (d := d + 1) hN' g5 hp hwb w3 o3.sl (.inl rfl) (Row.of_cells (E := EI) (l := [bit b.flag]) b5 rfl) (bit_fits _) (by omega) fun p6 h6' s6 g6 l6 w6 o6 e6 => ?_
  replace b1 := (e6 s (by omega) (by omega)).trans b1
  try simp (disch := first | assumption | omega | (simp only [Int.ofNat_eq_natCast, neg_one]; done) | (simp only [Int.ofNat_eq_natCast, neg_one]; omega)) only [tysW, wB, mB, Nat.reduceAdd, Nat.reduceMul, List.length_cons, List.length_nil, ldB b1, clB b1, ldBL b1, clBL b1]
  refine wp_newF g6 hp fun h7 g7 c7 b7 => ?_
  replace b1 := c7.box b1 (by omega)
  have w7 := c7.box w6 (by omega)
  have o7 := o6.from g6.fresh c7
  try simp (disch := first | assumption | omega | (simp only [Int.ofNat_eq_natCast, neg_one]; done) | (simp only [Int.ofNat_eq_natCast, neg_one]; omega)) only [tysW, wB, mB, Nat.reduceAdd, Nat.reduceMul, List.length_cons, List.length_nil]
  refine s86l (w := 8) (d := d + 1) hN' g7 hp hwb w7 o7.sl (.inr (.inr (.inr rfl))) (Row.of_cells (E := EI) (l := [b.pass, b.fail]) b7 rfl) (by simp [fitsW]) (by omega) (by omega) fun p8 h8 s8 g8 l8 w8 o8 e8 => ?_
  replace b1 := (e8 s (by omega) (by omega)).trans b1
  try simp (disch := first | assumption | omega | (simp only [Int.ofNat_eq_natCast, neg_one]; done) | (simp only [Int.ofNat_eq_natCast, neg_one]; omega)) only [tysW, wB, mB, Nat.reduceAdd, Nat.reduceMul, List.length_cons, List.length_nil, ldB b1, clB b1, ldBL b1, clBL b1]
  refine s88 (d := d) hN' g8 hp hwb w8 o8.sl (g8.row hf0 rx) (by omega) (by omega) fun p9 h9 s9 g9 l9 w9 o9 e9 => ?_
  replace b1 := (e9 s (by omega) (by omega)).trans b1
  try simp (disch := first | assumption | omega | (simp only [Int.ofNat_eq_natCast, neg_one]; done) | (simp only [Int.ofNat_eq_natCast, neg_one]; omega)) only [tysW, wB, mB, Nat.reduceAdd, Nat.reduceMul, List.length_cons, List.length_nil, ldB b1, clB b1, ldBL b1, clBL b1]
  have hsq : b.xn * b.xn ≤ 36 := by
    calc b.xn * b.xn ≤ 6 * 6 := Nat.mul_le_mul h6 h6
    _ = 36 := rfl
  have hlen := rp.row.1
  have hle := rp.le
  have hul := up_tri h6 (show pl.length = b.xn * b.xn by omega)
  have htr := tri_le b.xn
  have l19 : s + 1 ≤ s9 := by omega
  obtain ⟨L, hL⟩ : ∃ L, L = len + 8 + 1 + 2 * 8 + (1 + b.xn * 8) := ⟨_, rfl⟩
  rw [← hL] at w9 o9
  have loop : ∀ (J : Value → Nat → AM) (hJ : ∀ v s', J v s' = D N (d + 4) 88 [ptr wb, v] (fun _ s => K (.tuple ⟨[]⟩) s) s') (B : (Value → Value → Nat → AM) → Value → Value → Nat → AM) (hB : ∀ H u v s', B H u v s' = X125_1 N (D N (d + 4)) K (vi b.xn) (ptr s) J H u v s') (m i : Nat) (p1 : Option Addr) (h2 : T) (s2 : Nat), b.xn - i < m → i ≤ b.xn → From s0 h0 h2 s2 → From s9 h9 h2 s2 → OwnG EI 3 h2 s9 p1 (upM b.xn pl i).length (upM b.xn pl i) →
      (loopJ m 2 (fun _ _ _ => AM.fail) B (.slice p1 (upM b.xn pl i).length (upM b.xn pl i).length) (vi i) s2).wp pw Z h2 := by
    intro J hJ B hB m
    induction m with
    | zero => intro i p1 h2 s2 hm; omega
    | succ m ih =>
      intro i p1 h2 s2 hm hi g2 c2 o2
      have l2 := c2.le
      have r2 := rp.from hf0 g2
      have bx := c2.box b1 (by omega)
      rw [loopJ_succ, hB]
      unfold X125_1
      by_cases hlt : i < b.xn
      · have hi36 : i * b.xn + b.xn ≤ b.xn * b.xn := by rw [← Nat.succ_mul]; exact Nat.mul_le_mul hlt (Nat.le_refl _)
        have hul := upM_len h6 pl i hi
        try simp (disch := first | assumption | omega | (simp only [Int.ofNat_eq_natCast, neg_one]; done) | (simp only [Int.ofNat_eq_natCast, neg_one]; omega)) only [tysW, wB, mB, Nat.reduceAdd, Nat.reduceMul, List.length_cons, List.length_nil, ldB bx, clB bx, ldBL bx, clBL bx, mulN _ _ _ _ (show i * b.xn ≤ 1000000 by omega), addN _ _ _ _ (show i * b.xn + i ≤ 1000000 by omega), addN _ _ _ _ (show i * b.xn + b.xn ≤ 1000000 by omega)]
        refine r2.cut (ab_mid (by omega) (by omega) .i64 .i64) (by omega) (by omega) (by omega) (Nat.le_refl _) fun p3 r3 k3 => ?_
        rw [show i * b.xn + b.xn - (i * b.xn + i) = b.xn - i by omega] at r3 ⊢
        try simp (disch := first | assumption | omega | (simp only [Int.ofNat_eq_natCast, neg_one]; done) | (simp only [Int.ofNat_eq_natCast, neg_one]; omega)) only [tysW, wB, mB, Nat.reduceAdd, Nat.reduceMul, List.length_cons, List.length_nil]
        refine apG (E := EI) (h0 := h9) (s0 := s9) (t := s9) c2 (fun n hn => hp n (by omega)) o2 (Nat.le_refl _) l2 r3.row (fun _ => rfl) (by omega) fun p4 h4 s4 c4 l4 o4 e4 => ?_
        try simp (disch := first | assumption | omega | (simp only [Int.ofNat_eq_natCast, neg_one]; done) | (simp only [Int.ofNat_eq_natCast, neg_one]; omega)) only [tysW, wB, mB, Nat.reduceAdd, Nat.reduceMul, List.length_cons, List.length_nil]
        have e : upM b.xn pl (i + 1) = upM b.xn pl i ++ (pl.drop (i * b.xn + i)).take (b.xn - i) := rfl
        have el : (upM b.xn pl (i + 1)).length = (upM b.xn pl i).length + (b.xn - i) := by rw [e, List.length_append, r3.row.1]
        rw [← e, ← el] at o4
        rw [← el]
        exact ih (i + 1) p4 h4 s4 (by omega) (by omega) (g9.trans c4) c4 o4
      · obtain rfl : i = b.xn := by omega
        try simp (disch := first | assumption | omega | (simp only [Int.ofNat_eq_natCast, neg_one]; done) | (simp only [Int.ofNat_eq_natCast, neg_one]; omega)) only [tysW, wB, mB, Nat.reduceAdd, Nat.reduceMul, List.length_cons, List.length_nil]
        rw [hJ]
        have w2 := c2.box w9 (by omega)
        refine s88 (d := d) hN' g2 hp hwb w2 (o9.from g9.fresh c2).sl o2.sl.row (by show (up b.xn pl).length ≤ 24; omega) (by omega) fun p5 h5 s5 g5 l5 w5 o5 e5 => ?_
        refine hk p5 _ h5 s5 g5 (by omega) w5 ?_ (by show L + (1 + (up b.xn pl).length * 8) ≤ _; omega) fun i h7 h8 => ?_
        · have o5' := o5.less (show s ≤ s2 by omega)
          unfold belB
          have eb : bys 8 [b.pass, b.fail] = be 8 b.pass ++ be 8 b.fail := by simp [bys]
          rw [eb] at o5'
          simp only [List.append_assoc] at o5'
          exact o5'
        · rw [e5 i (by omega) h8, c2.keep i (by omega), e9 i (by omega) h8, e8 i (by omega) h8, c7.keep i (by omega), e6 i (by omega) h8, c5.keep i (by omega), c4.keep i (by omega), e3 i (by omega) h8, c2'.keep i (by omega), c1.keep i h7]
  exact loop _ (fun _ _ => rfl) _ (fun _ _ _ _ => rfl) N 0 none h9 s9 (by omega) (by omega) g9 (From.refl g9.fresh) .nil
end
end Go.Ev.R
namespace Go.Ev.R
open Go Go.RowKit
def letP (x : TV) (nl xl pl : List Int) (c : UInt8) : List Int := if c = 115 then be 1 x.sen else if c = 113 then be 4 x.seq else if c = 101 then be 1 x.err else if c = 110 then lis nl else if c = 120 then be 1 (bit x.ex) else belB x.b xl pl
def encT (x : TV) (nl xl pl : List Int) : List Int := be 1 x.kind ++ (telT x.kind).flatMap (letP x nl xl pl)
noncomputable def bytesT (x : TV) (nl xl pl : List Int) : List Int := if badT x pl = true then [] else encT x nl xl pl
noncomputable def errT (x : TV) (pl : List Int) : Int := if badT x pl = true then 2 else 0
/-- The telling's lists, in a heap. -/
structure ListsT (h : T) (x : TV) (nl xl pl : List Int) : Prop where
  n : Row EI h x.np x.nn nl
  y : Row EI h x.b.xp x.b.xn xl
  p : Sl EI h x.b.pp x.b.pn x.b.pc pl
theorem ListsT.from {h h' : T} {s0 s : Nat} {x : TV} {nl xl pl : List Int} (r : ListsT h x nl xl pl) (hf : ∀ n, s0 ≤ n → h.get n = none) (g : From s0 h h' s) : ListsT h' x nl xl pl := ⟨g.row hf r.n, g.row hf r.y, r.p.from hf g⟩
section
variable {N d : Nat} (hN : N = 100000) {h : T} {s : Nat} (hf : ∀ n, s ≤ n → h.get n = none)
include hN hf
theorem s65 (x : TV) {nl xl pl : List Int} (r : ListsT h x nl xl pl) (hpn : x.b.pn ≤ 1000) (hxn : x.b.xn ≤ 1000) : PureS (D N (d + 12)) 65 [.agg ⟨tvv x⟩] h s (fun v h' s' => ∃ p' len, v = .tuple ⟨[.slice p' len len, vi (errT x pl)]⟩ ∧ OwnG EB 5 h' s p' len (bytesT x nl xl pl) ∧ len ≤ 5000) := by
  refine PureS.of hf fun K pw Z g hp hk => ?_
  rw [D_65]; unfold F65; rw [app1_eq]
  unfold X65_3
  refine wp_boxA g hp fun h1 g1 c1 b1 => ?_
  simp only [tvv] at b1
  try simp (disch := first | assumption | omega | (simp only [Int.ofNat_eq_natCast, neg_one]; done) | (simp only [Int.ofNat_eq_natCast, neg_one]; omega)) only [tysW, wB, mB, Nat.reduceAdd, Nat.reduceMul, List.length_cons, List.length_nil, ldB b1, clB b1, ldBL b1, clBL b1]
  refine ValS.go g1 hp (s36 (d := d) hN g1.fresh x (r.p.from hf g1).row hpn hxn) fun h2 s2 g2 c2 => ?_
  have l2 := c2.le
  replace b1 := c2.box b1 (by omega)
  cases hbad : badT x pl with
  | true =>
    try simp (disch := first | assumption | omega | (simp only [Int.ofNat_eq_natCast, neg_one]; done) | (simp only [Int.ofNat_eq_natCast, neg_one]; omega)) only [tysW, wB, mB, Nat.reduceAdd, Nat.reduceMul, List.length_cons, List.length_nil, if_true]
    refine hk _ _ _ g2 ?_
    unfold errT bytesT
    rw [hbad]
    exact ⟨none, 0, rfl, .nil, by omega⟩
  | false =>
    have hk : ∀ p' len h' s', From s h h' s' → OwnG EB 5 h' s p' len (encT x nl xl pl) → len ≤ 5000 → (K (.tuple ⟨[.slice p' len len, i64 0]⟩) s').wp pw Z h' := fun p' len h' s' g' o hl => hk _ _ _ g' (by unfold errT bytesT; rw [hbad]; exact ⟨p', len, rfl, o, hl⟩)
    obtain ⟨⟨q1, q2, q3, q4, q5, q6⟩, -⟩ := badT_fine hbad
    obtain ⟨q7, q8, -⟩ := held_iff.1 q6
    try simp (disch := first | assumption | omega | (simp only [Int.ofNat_eq_natCast, neg_one]; done) | (simp only [Int.ofNat_eq_natCast, neg_one]; omega)) only [tysW, wB, mB, Nat.reduceAdd, Nat.reduceMul, List.length_cons, List.length_nil, Bool.false_eq_true, if_false]
    refine wp_boxA g2 hp fun h3 g3 c3 b3 => ?_
    replace b1 := c3.box b1 (by omega)
    try simp (disch := first | assumption | omega | (simp only [Int.ofNat_eq_natCast, neg_one]; done) | (simp only [Int.ofNat_eq_natCast, neg_one]; omega)) only [tysW, wB, mB, Nat.reduceAdd, Nat.reduceMul, List.length_cons, List.length_nil, ldB b1, clB b1, ldBL b1, clBL b1]
    refine wp_newF g3 hp fun h4 g4 c4 b4 => ?_
    replace b1 := c4.box b1 (by omega)
    replace b3 := c4.box b3 (by omega)
    try simp (disch := first | assumption | omega | (simp only [Int.ofNat_eq_natCast, neg_one]; done) | (simp only [Int.ofNat_eq_natCast, neg_one]; omega)) only [tysW, wB, mB, Nat.reduceAdd, Nat.reduceMul, List.length_cons, List.length_nil]
    refine s86 (w := 1) (d := d + 8) (by omega) g4 hp (wb := s2) (by omega) b3 (.nil _) (.inl rfl) (Row.of_cells (E := EI) (l := [x.kind]) b4 rfl) (by simp [fitsW]; omega) (by omega) fun p5 h5 s5 g5 l5 b5 o5 e5 => ?_
    replace b1 := (e5 s (by omega) (by omega)).trans b1
    try simp (disch := first | assumption | omega | (simp only [Int.ofNat_eq_natCast, neg_one]; done) | (simp only [Int.ofNat_eq_natCast, neg_one]; omega)) only [tysW, wB, mB, Nat.reduceAdd, Nat.reduceMul, List.length_cons, List.length_nil]
    refine PureS.goL g5 hp (s108 (d := d + 10) g5.fresh) fun v h6 s6 ts6 ws6 g6 c6 hv hw6 ht6 => ?_
    obtain ⟨m, rfl, hm, bm⟩ := hv
    have l6 := c6.le
    replace b1 := c6.box b1 (by omega)
    replace b5 := c6.box b5 (by omega)
    replace o5 := o5.from g5.fresh c6
    try simp (disch := first | assumption | omega | (simp only [Int.ofNat_eq_natCast, neg_one]; done) | (simp only [Int.ofNat_eq_natCast, neg_one]; omega)) only [tysW, wB, mB, Nat.reduceAdd, Nat.reduceMul, List.length_cons, List.length_nil, ldB b1, clB b1, ldBL b1, clBL b1]
    unfold X65_2
    refine log_wp (W := fun _ => False) (Q := fun v h' s' => v = txt (telT x.kind) ∧ h' = h6 ∧ s' = s6) ?_ (fun n hn => hn.elim) ?_
    · rw [wp_tel bm]
      exact ⟨_, _, rfl, rfl, rfl, rfl⟩
    rintro v h7 s7 ts7 ws7 ⟨rfl, rfl, rfl⟩ hw7 ht7
    replace hw7 : ∀ n ∈ ws7, s7 ≤ n ∧ n < s7 := fun n hn => (hw7 n hn).1.elim
    replace ht7 : ∀ n ∈ ts7, n < s7 := fun n hn => lt_of_some g6.fresh (ht7 n hn)
    try simp (disch := first | assumption | omega | (simp only [Int.ofNat_eq_natCast, neg_one]; done) | (simp only [Int.ofNat_eq_natCast, neg_one]; omega)) only [tysW, wB, mB, Nat.reduceAdd, Nat.reduceMul, List.length_cons, List.length_nil, rng9]
    refine wp_newL (q := fun b => ptr b) g6 hp fun h8 g8 c8 b8 => ?_
    replace b1 := c8.box b1 (by omega)
    replace b5 := c8.box b5 (by omega)
    replace o5 := (o5.from g6.fresh c8).less (show s2 + 1 ≤ s2 + 1 + 1 by omega)
    rw [List.nil_append] at o5
    simp only [Nat.zero_add] at b5 o5
    rw [wp_guard, if_pos (by repeat' (first | exact dynOk_nil _ _ | refine dyn_skip' ?_ | refine dyn_cons ?_ ?_ | exact allF_nil _ _ | refine allF_cons ?_ ?_ | exact disj_below hw6 (by omega) | exact disjA hw6 (by omega) | exact disjB hw6 (by omega) | exact disjC hw6 (by assumption) | exact disjD (fun m hm => by have := hw6 m hm; omega) | exact disj_below ht6 (by omega) | exact disjA ht6 (by omega) | exact disjB ht6 (by omega) | exact disjC ht6 (by assumption) | exact disjD (fun m hm => by have := ht6 m hm; omega) | exact disj_below hw7 (by omega) | exact disjA hw7 (by omega) | exact disjB hw7 (by omega) | exact disjC hw7 (by assumption) | exact disjD (fun m hm => by have := hw7 m hm; omega) | exact disj_below ht7 (by omega) | exact disjA ht7 (by omega) | exact disjB ht7 (by omega) | exact disjC ht7 (by assumption) | exact disjD (fun m hm => by have := ht7 m hm; omega) | exact disjN _ | exact disj1 (by omega) | exact disj2 (by omega) | exact disj3 (by assumption) | exact disjC hw6 (fun m hm => by have := ht6 m hm; omega) | exact disjC hw6 (fun m hm => by have := hw7 m hm; omega) | exact disjC hw6 (fun m hm => by have := ht7 m hm; omega) | exact disjC ht6 (fun m hm => by have := hw6 m hm; omega) | exact disjC ht6 (fun m hm => by have := hw7 m hm; omega) | exact disjC ht6 (fun m hm => by have := ht7 m hm; omega) | exact disjC hw7 (fun m hm => by have := hw6 m hm; omega) | exact disjC hw7 (fun m hm => by have := ht6 m hm; omega) | exact disjC hw7 (fun m hm => by have := ht7 m hm; omega) | exact disjC ht7 (fun m hm => by have := hw6 m hm; omega) | exact disjC ht7 (fun m hm => by have := ht6 m hm; omega) | exact disjC ht7 (fun m hm => by have := hw7 m hm; omega)))]
    have loop : ∀ (J : Nat → AM) (hJ : ∀ s', J s' = fa 111 (ptr s2) 0 (fun v11 s => fa 109 v11 0 (fun v12 s => ld 25 v12 (fun v13 s => K (.tuple ⟨[v13, i64 0]⟩) s) s) s) s') (B : (Nat → AM) → Nat → AM) (hB : ∀ H s', B H s' = X65_1 N (D N (d + 11)) K (ptr s7) (ptr s) (ptr s2) J H s') (n i : Nat) (p1 : Option Addr) (len1 : Nat) (h1 : T) (s1 : Nat), (telT x.kind).length - i < n → i ≤ (telT x.kind).length → From s h h1 s1 → s7 + 1 ≤ s1 → h1.get s = some (.cells ⟨tvv x⟩ 60 (0, 0)) → h1.get s2 = some (.cells ⟨[.slice p1 len1 len1, .bool false]⟩ 111 (0, 0)) → OwnG EB 5 h1 (s2 + 1) p1 len1 (be 1 x.kind ++ ((telT x.kind).take i).flatMap (letP x nl xl pl)) → h1.get s7 = some (.stringIter ⟨⟨telT x.kind⟩⟩ i) → len1 ≤ 1 + 500 * i →
        (loopJ n 0 (fun _ => AM.fail) B s1).wp pw Z h1 := by
      intro J hJ B hB n
      induction n with
      | zero => intro i p1 len1 h1 s1 hn; omega
      | succ n ih =>
        intro i p1 len1 h1 s1 hn hi g1 hs1 b1 bw o1 bi hl1
        have hle := tel_le x.kind
        rw [loopJ_succ, hB]
        unfold X65_1
        by_cases hlt : i < (telT x.kind).length
        · obtain ⟨c, hc⟩ := get_some (l := telT x.kind) (i := i) hlt
          have hcm := tel_mem (List.mem_of_getElem? hc)
          refine wp_next g1 hp bi (by omega) hc (by rcases hcm with rfl | rfl | rfl | rfl | rfl | rfl <;> decide) fun h2 g2 bi2 e2 => ?_
          replace b1 := (e2 s (by omega)).trans b1
          replace bw := (e2 s2 (by omega)).trans bw
          replace o1 := o1.but fun hp => e2 _ (o1.ne bi hp)
          have bx := b1
          simp only [tvv] at bx
          have step : ∀ (w : Nat) (n1 : Int) (h3 : T) (s3 : Nat) (q : Option Addr), isW w → letP x nl xl pl c = be w n1 → fitsW w n1 = true → From s h h3 s3 → From s1 h2 h3 s3 → Row EI h3 q 1 [n1] → (D N (d + 11) 86 [ptr s2, vi w, .slice q 1 1] (fun _ s => loopJ n 0 (fun _ => AM.fail) B s) s3).wp pw Z h3 := by
            intro w n1 h3 s3 q hw he hfit g3 c3 r3
            have l3 := c3.le
            have hw8 : w ≤ 8 := by rcases hw with rfl | rfl | rfl | rfl <;> omega
            refine s86 (d := d + 8) (by omega) g3 hp (wb := s2) (by omega) (c3.box bw (by omega)) (o1.from g2.fresh c3).sl hw r3 hfit (by omega) fun p4 h4 s4 g4 l4 b4 o4 e4 => ?_
            refine ih (i + 1) p4 (len1 + w) h4 s4 (by omega) (by omega) g4 (by omega) ((e4 s (by omega) (by omega)).trans (c3.box b1 (by omega))) b4 ?_ ((e4 s7 (by omega) (by omega)).trans (c3.box bi2 (by omega))) (by omega)
            rw [take_next hc, ← List.append_assoc, he]
            exact o4.less (by omega)
          rcases hcm with rfl | rfl | rfl | rfl | rfl | rfl
          · try simp (disch := first | assumption | omega | (simp only [Int.ofNat_eq_natCast, neg_one]; done) | (simp only [Int.ofNat_eq_natCast, neg_one]; omega)) only [tysW, wB, mB, Nat.reduceAdd, Nat.reduceMul, List.length_cons, List.length_nil, ldB bx, clB bx, ldBL bx, clBL bx, eqc32, UInt8.reduceToNat, Nat.reduceBEq]
            refine wp_newF g2 hp fun h3 g3 c3 b3 => ?_
            try simp (disch := first | assumption | omega | (simp only [Int.ofNat_eq_natCast, neg_one]; done) | (simp only [Int.ofNat_eq_natCast, neg_one]; omega)) only [tysW, wB, mB, Nat.reduceAdd, Nat.reduceMul, List.length_cons, List.length_nil]
            exact step 1 x.sen h3 _ _ (.inl rfl) rfl (by simp [fitsW]; omega) g3 c3 (Row.of_cells (E := EI) (l := [x.sen]) b3 rfl)
          · try simp (disch := first | assumption | omega | (simp only [Int.ofNat_eq_natCast, neg_one]; done) | (simp only [Int.ofNat_eq_natCast, neg_one]; omega)) only [tysW, wB, mB, Nat.reduceAdd, Nat.reduceMul, List.length_cons, List.length_nil, ldB bx, clB bx, ldBL bx, clBL bx, eqc32, UInt8.reduceToNat, Nat.reduceBEq]
            refine wp_newF g2 hp fun h3 g3 c3 b3 => ?_
            try simp (disch := first | assumption | omega | (simp only [Int.ofNat_eq_natCast, neg_one]; done) | (simp only [Int.ofNat_eq_natCast, neg_one]; omega)) only [tysW, wB, mB, Nat.reduceAdd, Nat.reduceMul, List.length_cons, List.length_nil]
            exact step 4 x.seq h3 _ _ (.inr (.inr (.inl rfl))) rfl (by simp [fitsW]; omega) g3 c3 (Row.of_cells (E := EI) (l := [x.seq]) b3 rfl)
          · try simp (disch := first | assumption | omega | (simp only [Int.ofNat_eq_natCast, neg_one]; done) | (simp only [Int.ofNat_eq_natCast, neg_one]; omega)) only [tysW, wB, mB, Nat.reduceAdd, Nat.reduceMul, List.length_cons, List.length_nil, ldB bx, clB bx, ldBL bx, clBL bx, eqc32, UInt8.reduceToNat, Nat.reduceBEq]
            refine wp_newF g2 hp fun h3 g3 c3 b3 => ?_
            try simp (disch := first | assumption | omega | (simp only [Int.ofNat_eq_natCast, neg_one]; done) | (simp only [Int.ofNat_eq_natCast, neg_one]; omega)) only [tysW, wB, mB, Nat.reduceAdd, Nat.reduceMul, List.length_cons, List.length_nil]
            exact step 1 x.err h3 _ _ (.inl rfl) rfl (by simp [fitsW]; omega) g3 c3 (Row.of_cells (E := EI) (l := [x.err]) b3 rfl)
          · try simp (disch := first | assumption | omega | (simp only [Int.ofNat_eq_natCast, neg_one]; done) | (simp only [Int.ofNat_eq_natCast, neg_one]; omega)) only [tysW, wB, mB, Nat.reduceAdd, Nat.reduceMul, List.length_cons, List.length_nil, ldB bx, clB bx, ldBL bx, clBL bx, eqc32, UInt8.reduceToNat, Nat.reduceBEq]
            refine s88 (d := d + 7) (by omega) g2 hp (wb := s2) (by omega) bw o1.sl (g2.row hf r.n) q5 (by omega) fun p4 h4 s4 g4 l4 b4 o4 e4 => ?_
            refine ih (i + 1) p4 _ h4 s4 (by omega) (by omega) g4 (by omega) ((e4 s (by omega) (by omega)).trans b1) b4 ?_ ((e4 s7 (by omega) (by omega)).trans bi2) (by omega)
            rw [take_next hc, ← List.append_assoc]
            exact o4.less (by omega)
          · try simp (disch := first | assumption | omega | (simp only [Int.ofNat_eq_natCast, neg_one]; done) | (simp only [Int.ofNat_eq_natCast, neg_one]; omega)) only [tysW, wB, mB, Nat.reduceAdd, Nat.reduceMul, List.length_cons, List.length_nil, ldB bx, clB bx, ldBL bx, clBL bx, eqc32, UInt8.reduceToNat, Nat.reduceBEq]
            refine ValS.go g2 hp (s124 (d := d + 10) g2.fresh x.ex) fun h3 s3 g3 c3 => ?_
            try simp (disch := first | assumption | omega | (simp only [Int.ofNat_eq_natCast, neg_one]; done) | (simp only [Int.ofNat_eq_natCast, neg_one]; omega)) only [tysW, wB, mB, Nat.reduceAdd, Nat.reduceMul, List.length_cons, List.length_nil]
            refine wp_newF g3 hp fun h4 g4 c4 b4 => ?_
            try simp (disch := first | assumption | omega | (simp only [Int.ofNat_eq_natCast, neg_one]; done) | (simp only [Int.ofNat_eq_natCast, neg_one]; omega)) only [tysW, wB, mB, Nat.reduceAdd, Nat.reduceMul, List.length_cons, List.length_nil]
            exact step 1 (bit x.ex) h4 _ _ (.inl rfl) rfl (bit_fits _) g4 (c3.trans c4) (Row.of_cells (E := EI) (l := [bit x.ex]) b4 rfl)
          · try simp (disch := first | assumption | omega | (simp only [Int.ofNat_eq_natCast, neg_one]; done) | (simp only [Int.ofNat_eq_natCast, neg_one]; omega)) only [tysW, wB, mB, Nat.reduceAdd, Nat.reduceMul, List.length_cons, List.length_nil, ldB bx, clB bx, ldBL bx, clBL bx, eqc32, UInt8.reduceToNat, Nat.reduceBEq]
            refine s125 (d := d + 6) hN g2 hp (wb := s2) (by omega) bw o1.sl hf x.b r.y r.p q7 q8 (by omega) fun p4 len4 h4 s4 g4 l4 b4 o4 hl4 e4 => ?_
            refine ih (i + 1) p4 _ h4 s4 (by omega) (by omega) g4 (by omega) ((e4 s (by omega) (by omega)).trans b1) b4 ?_ ((e4 s7 (by omega) (by omega)).trans bi2) (by omega)
            rw [take_next hc, ← List.append_assoc]
            exact o4.less (by omega)
        · obtain rfl : i = (telT x.kind).length := by omega
          rw [wp_last bi]
          try simp (disch := first | assumption | omega | (simp only [Int.ofNat_eq_natCast, neg_one]; done) | (simp only [Int.ofNat_eq_natCast, neg_one]; omega)) only [tysW, wB, mB, Nat.reduceAdd, Nat.reduceMul, List.length_cons, List.length_nil]
          rw [hJ]
          try simp (disch := first | assumption | omega | (simp only [Int.ofNat_eq_natCast, neg_one]; done) | (simp only [Int.ofNat_eq_natCast, neg_one]; omega)) only [tysW, wB, mB, Nat.reduceAdd, Nat.reduceMul, List.length_cons, List.length_nil, ldB bw, clB bw, ldBL bw, clBL bw]
          refine hk p1 len1 _ _ g1 ?_ (by omega)
          rw [List.take_of_length_le (Nat.le_refl _)] at o1
          exact o1.less (by omega)
    have hle := tel_le x.kind
    exact loop _ (fun _ => rfl) _ (fun _ _ => rfl) N 0 p5 1 h8 (s7 + 1) (by omega) (by omega) g8 (Nat.le_refl _) b1 b5 (by simpa using o5) b8 (by omega)
end
end Go.Ev.R
namespace Go.Ev.R
open Go Go.RowKit
def sameB (a b : BV) (xl pl xl' pl' : List Int) : Bool := decide (a.time = b.time ∧ xl = xl' ∧ pl = pl' ∧ a.flag = b.flag ∧ a.pass = b.pass ∧ a.fail = b.fail)
def sameT (x y : TV) (nl xl pl nl' xl' pl' : List Int) : Bool := decide (x.kind = y.kind ∧ x.sen = y.sen ∧ x.seq = y.seq ∧ x.err = y.err ∧ nl = nl' ∧ x.ex = y.ex ∧ sameB x.b y.b xl pl xl' pl' = true)
section
variable {N d : Nat} {h : T} {s : Nat} (hf : ∀ n, s ≤ n → h.get n = none)
include hf
end
section
variable {N d : Nat} (hN : 100000 ≤ N) {h : T} {s : Nat} (hf : ∀ n, s ≤ n → h.get n = none)
include hN hf
end
end Go.Ev.R
namespace Go.Ev.R
open Go Go.RowKit
theorem D_21 (N d : Nat) (K : KV) (s : Nat) : D N (d + 1) 21 [] K s = K (.bool true) s := by kernel_rfl
end Go.Ev.R
namespace Go.Ev.R
open Go Go.RowKit
def truthR (x : RS) : Bool × RS := (decide ((oneR 1 x).1 = 1), ((oneR 1 x).2.1, (oneR 1 x).2.2 || decide (1 < (oneR 1 x).1)))
theorem truthR_bytes {x : RS} (hb : allBytes x.1) : allBytes (truthR x).2.1 ∧ (truthR x).2.1.length ≤ x.1.length := oneR_bytes hb
section
variable {N d : Nat} (hN : N = 100000) {h0 h : T} {s0 s : Nat} {K : KV} {pw : Nat → Prop} {Z : Value → T → Prop} (g : From s0 h0 h s) (hp : ∀ n, s0 ≤ n → pw n) {rb : Nat} (hrb : s0 ≤ rb) {x : RS} (hb : allBytes x.1) (hl : x.1.length ≤ 50000)
include hN g hp hrb hb hl
theorem s134 {A : Nat → Prop} (hA : ∀ n, A n → n < s) (R : RdAt h rb 135 x A) (hk : ∀ h' s', From s0 h0 h' s' → s ≤ s' → RdAt h' rb 135 (truthR x).2 A → (∀ i, i < s → i ≠ rb → h'.get i = h.get i) → (K (.bool (truthR x).1) s').wp pw Z h') :
    (D N (d + 5) 134 [ptr rb] K s).wp pw Z h := by
  rw [D_134]; unfold F134; rw [app1_eq]
  refine s113A (d := d) (w := 1) hN g hp hrb hb hl (.inl rfl) hA R fun h1 s1 g1 l1 R1 e1 => ?_
  obtain ⟨p, len, cap, bx, sl, hne⟩ := R1
  unfold truthR at hk
  obtain ⟨v, hv⟩ : ∃ v, v = (oneR 1 x).1 := ⟨_, rfl⟩
  obtain ⟨st, hst⟩ : ∃ st, st = (oneR 1 x).2 := ⟨_, rfl⟩
  rw [← hst] at bx sl
  rw [← hst, ← hv] at hk
  rw [← hv]
  have fin : ∀ (nb : Bool), (st.2 || decide (1 < v)) = nb → (aput rb 1 [.bool nb] (fun _ s => eqX P 3 3 false true (vi v) (i64 1) (fun v12 s => K v12 s) s) s1).wp pw Z h1 := by
    intro nb hnb
    refine wp_putF g1 hp bx hrb (by simp) rfl fun h2 g2 b2 e2 => ?_
    simp only [overL] at b2
    rw [hnb] at hk
    have hk := hk h2 s1 g2 l1 ⟨p, len, cap, b2, sl.but fun hc => e2 _ (hne hc).1, hne⟩ fun i h3 h4 => by rw [e2 i h4, e1 i h3 h4]
    try simp (disch := first | assumption | omega | (simp only [Int.ofNat_eq_natCast, neg_one]; done) | (simp only [Int.ofNat_eq_natCast, neg_one]; omega)) only [tysW, wB, mB, Nat.reduceAdd, Nat.reduceMul, List.length_cons, List.length_nil, w_eq]
    exact hk
  cases h2 : st.2 with
  | true =>
    rw [h2] at bx fin
    try simp (disch := first | assumption | omega | (simp only [Int.ofNat_eq_natCast, neg_one]; done) | (simp only [Int.ofNat_eq_natCast, neg_one]; omega)) only [tysW, wB, mB, Nat.reduceAdd, Nat.reduceMul, List.length_cons, List.length_nil, ldB bx, clB bx, ldBL bx, clBL bx]
    exact fin true rfl
  | false =>
    rw [h2] at bx fin
    by_cases h1 : (1 : Int) < v
    · try simp (disch := first | assumption | omega | (simp only [Int.ofNat_eq_natCast, neg_one]; done) | (simp only [Int.ofNat_eq_natCast, neg_one]; omega)) only [tysW, wB, mB, Nat.reduceAdd, Nat.reduceMul, List.length_cons, List.length_nil, ldB bx, clB bx, ldBL bx, clBL bx]
      exact fin true (by rw [decide_eq_true h1]; rfl)
    · try simp (disch := first | assumption | omega | (simp only [Int.ofNat_eq_natCast, neg_one]; done) | (simp only [Int.ofNat_eq_natCast, neg_one]; omega)) only [tysW, wB, mB, Nat.reduceAdd, Nat.reduceMul, List.length_cons, List.length_nil, ldB bx, clB bx, ldBL bx, clBL bx]
      exact fin false (by rw [decide_eq_false h1]; rfl)
end
/-! ### a square filled -/
def fillK (n i : Nat) : Nat → Nat → List Int → List Int → List Int × List Int
  | 0, _, P, u => (P, u)
  | m + 1, k, P, u => fillK n i m (k + 1) ((P.set (i * n + k) (u.headD 0)).set (k * n + i) (u.headD 0)) u.tail
def fillI (n : Nat) : Nat → Nat → List Int → List Int → List Int × List Int
  | 0, _, P, u => (P, u)
  | m + 1, i, P, u => fillI n m (i + 1) (fillK n i (m + 1) i P u).1 (fillK n i (m + 1) i P u).2
def fill (n : Nat) (u : List Int) : List Int := (fillI n n 0 (List.replicate (n * n) 0) u).1
def triR : Nat → Nat
  | 0 => 0
  | m + 1 => triR m + (m + 1)
theorem flatI : ∀ l : List Int, l.flatMap EI.f = l.map vi
  | [] => rfl
  | x :: l => by rw [List.flatMap_cons, flatI l]; rfl
theorem set_int (l : List Int) {i : Nat} (hi : i < l.length) (x : Int) : overL (l.flatMap EI.f) i [vi x] = (l.set i x).flatMap EI.f := by
  rw [set_place _ _ _ (by rw [flatI, List.length_map]; exact hi), flatI, flatI, List.map_set]
theorem fillK_len (n i : Nat) : ∀ (m k : Nat) (P u : List Int), (fillK n i m k P u).1.length = P.length ∧ (fillK n i m k P u).2.length = u.length - m
  | 0, k, P, u => ⟨rfl, rfl⟩
  | m + 1, k, P, u => by
    have ih := fillK_len n i m (k + 1) ((P.set (i * n + k) (u.headD 0)).set (k * n + i) (u.headD 0)) u.tail
    unfold fillK
    refine ⟨by rw [ih.1]; simp, by rw [ih.2]; simp; omega⟩
theorem mk0 (K : KV) (s : Nat) : amakeSlice P 31 (vi 0) (vi 0) K s = anew (.cells ⟨(List.replicate 0 (0 : Int)).flatMap EI.f⟩ 3 (0, 0)) (fun b => K (.slice (some ⟨b, 0, none⟩) 0 0)) s := by kernel_rfl
theorem mk1 (K : KV) (s : Nat) : amakeSlice P 31 (vi 1) (vi 1) K s = anew (.cells ⟨(List.replicate 1 (0 : Int)).flatMap EI.f⟩ 3 (0, 0)) (fun b => K (.slice (some ⟨b, 0, none⟩) 1 1)) s := by kernel_rfl
theorem mk4 (K : KV) (s : Nat) : amakeSlice P 31 (vi 4) (vi 4) K s = anew (.cells ⟨(List.replicate 4 (0 : Int)).flatMap EI.f⟩ 3 (0, 0)) (fun b => K (.slice (some ⟨b, 0, none⟩) 4 4)) s := by kernel_rfl
theorem mk9 (K : KV) (s : Nat) : amakeSlice P 31 (vi 9) (vi 9) K s = anew (.cells ⟨(List.replicate 9 (0 : Int)).flatMap EI.f⟩ 3 (0, 0)) (fun b => K (.slice (some ⟨b, 0, none⟩) 9 9)) s := by kernel_rfl
theorem mk16 (K : KV) (s : Nat) : amakeSlice P 31 (vi 16) (vi 16) K s = anew (.cells ⟨(List.replicate 16 (0 : Int)).flatMap EI.f⟩ 3 (0, 0)) (fun b => K (.slice (some ⟨b, 0, none⟩) 16 16)) s := by kernel_rfl
theorem mk25 (K : KV) (s : Nat) : amakeSlice P 31 (vi 25) (vi 25) K s = anew (.cells ⟨(List.replicate 25 (0 : Int)).flatMap EI.f⟩ 3 (0, 0)) (fun b => K (.slice (some ⟨b, 0, none⟩) 25 25)) s := by kernel_rfl
theorem mk36 (K : KV) (s : Nat) : amakeSlice P 31 (vi 36) (vi 36) K s = anew (.cells ⟨(List.replicate 36 (0 : Int)).flatMap EI.f⟩ 3 (0, 0)) (fun b => K (.slice (some ⟨b, 0, none⟩) 36 36)) s := by kernel_rfl
theorem mkN {n : Nat} (h : n ≤ 6) (K : KV) (s : Nat) : amakeSlice P 31 (vi ((n * n : Nat) : Int)) (vi ((n * n : Nat) : Int)) K s = anew (.cells ⟨(List.replicate (n * n) (0 : Int)).flatMap EI.f⟩ 3 (0, 0)) (fun b => K (.slice (some ⟨b, 0, none⟩) (n * n) (n * n))) s := by
  have : n = 0 ∨ n = 1 ∨ n = 2 ∨ n = 3 ∨ n = 4 ∨ n = 5 ∨ n = 6 := by omega
  rcases this with rfl | rfl | rfl | rfl | rfl | rfl | rfl
  · exact mk0 K s
  · exact mk1 K s
  · exact mk4 K s
  · exact mk9 K s
  · exact mk16 K s
  · exact mk25 K s
  · exact mk36 K s
theorem triR_eq {n : Nat} (h : n ≤ 6) : n * (n + 1) / 2 = triR n := by
  have : n = 0 ∨ n = 1 ∨ n = 2 ∨ n = 3 ∨ n = 4 ∨ n = 5 ∨ n = 6 := by omega
  rcases this with rfl | rfl | rfl | rfl | rfl | rfl | rfl <;> rfl
theorem tri_triR {n : Nat} (h : n ≤ 6) : tri n = triR n := by
  have : n = 0 ∨ n = 1 ∨ n = 2 ∨ n = 3 ∨ n = 4 ∨ n = 5 ∨ n = 6 := by omega
  rcases this with rfl | rfl | rfl | rfl | rfl | rfl | rfl <;> rfl
end Go.Ev.R
namespace Go.Ev.R
open Go Go.RowKit
theorem idx_lt {i k n : Nat} (hi : i < n) (hk : k < n) : i * n + k < n * n := by
  calc i * n + k < i * n + n := by omega
  _ = (i + 1) * n := by rw [Nat.succ_mul]
  _ ≤ n * n := Nat.mul_le_mul hi (Nat.le_refl _)
theorem xaP {pb L j : Nat} (hj : j < L) (K : KV) (s : Nat) : xa 31 (.slice (some ⟨pb, 0, none⟩) L L) (vi (j : Int)) K s = K (.pointer (some ⟨pb, j, none⟩)) s := by
  have := xa_31 (j := (j : Int)) (len := L) (by omega) (by omega) pb 0 L none .i64 K s
  rw [Int.toNat_natCast, Nat.zero_add] at this
  exact this
section
variable {N : Nat} (hN : N = 100000) {C : CallT} {h0 h : T} {s0 s1 bb pb : Nat} {K : KV} {pw : Nat → Prop} {Z : Value → T → Prop} (g : From s0 h0 h s1) (hp : ∀ n, s0 ≤ n → pw n) {a p q : Int} {f : Bool} {sx : Value} {n : Nat} (h6 : n ≤ 6) (hbx : h.get bb = some (.cells ⟨[vi a, sx, .slice (some ⟨pb, 0, none⟩) (n * n) (n * n), .bool f, vi p, vi q]⟩ 58 (0, 0))) (hpb : s0 ≤ pb) {P0 : List Int} (hP : h.get pb = some (.cells ⟨P0.flatMap EI.f⟩ 3 (0, 0))) (hPl : P0.length = n * n) {pu : Option Addr} {cu : Nat} {u0 : List Int} (su : Sl EI h pu u0.length cu u0) (hpu : cu ≠ 0 → blk pu ≠ pb) (hu : u0.length = triR n)
include hN g hp h6 hbx hpb hP hPl su hpu hu
theorem fill135 {J : Nat → AM} (hk : ∀ h', From s0 h0 h' s1 → h'.get pb = some (.cells ⟨(fillI n n 0 P0 u0).1.flatMap EI.f⟩ 3 (0, 0)) → (∀ i, i ≠ pb → h'.get i = h.get i) → (J s1).wp pw Z h') :
    ((loopJ N 2 (fun _ _ _ => AM.fail) (X135_4 N C K (vi n) (ptr bb) J) : Value → Value → Nat → AM) (.slice pu u0.length cu) (vi 0) s1).wp pw Z h := by
  have hbp : bb ≠ pb := fun e => by rw [e, hP] at hbx; simp at hbx
  have hsq : n * n ≤ 36 := by
    calc n * n ≤ 6 * 6 := Nat.mul_le_mul h6 h6
    _ = 36 := rfl
  have outer : ∀ (B : (Value → Value → Nat → AM) → Value → Value → Nat → AM) (hB : ∀ H u v s', B H u v s' = X135_4 N C K (vi n) (ptr bb) J H u v s') (m i : Nat) (pu : Option Addr) (cu : Nat) (PP u : List Int) (h2 : T), n - i < m → i ≤ n → From s0 h0 h2 s1 → h2.get pb = some (.cells ⟨PP.flatMap EI.f⟩ 3 (0, 0)) → PP.length = n * n → Sl EI h2 pu u.length cu u → (cu ≠ 0 → blk pu ≠ pb) → u.length = triR (n - i) → fillI n (n - i) i PP u = fillI n n 0 P0 u0 → (∀ i, i ≠ pb → h2.get i = h.get i) →
      (loopJ m 2 (fun _ _ _ => AM.fail) B (.slice pu u.length cu) (vi i) s1).wp pw Z h2 := by
    intro B hB m
    induction m with
    | zero => intro i pu cu PP u h2 hm; omega
    | succ m ih =>
      intro i pu cu PP u h2 hm hi g2 hP hPl su hpu hu hT e2
      rw [loopJ_succ, hB]
      unfold X135_4
      by_cases hlt : i < n
      · try simp (disch := first | assumption | omega | (simp only [Int.ofNat_eq_natCast, neg_one]; done) | (simp only [Int.ofNat_eq_natCast, neg_one]; omega)) only [tysW, wB, mB, Nat.reduceAdd, Nat.reduceMul, List.length_cons, List.length_nil]
        obtain ⟨r, hr⟩ : ∃ r, n - i = r + 1 := ⟨n - i - 1, by omega⟩
        have inner : ∀ (J2 : Value → Nat → AM) (hJ2 : ∀ u s', J2 u s' = addX P 3 3 false true (vi i) (i64 1) (fun v45 s => loopJ m 2 (fun _ _ _ => AM.fail) B u v45 s) s') (B2 : (Value → Value → Nat → AM) → Value → Value → Nat → AM) (hB2 : ∀ H u v s', B2 H u v s' = X135_3 N C K (vi n) (ptr bb) (vi i) J2 H u v s') (m2 k : Nat) (pu : Option Addr) (cu : Nat) (P1 u1 : List Int) (h3 : T), n - k < m2 → k ≤ n → From s0 h0 h3 s1 → h3.get pb = some (.cells ⟨P1.flatMap EI.f⟩ 3 (0, 0)) → P1.length = n * n → Sl EI h3 pu u1.length cu u1 → (cu ≠ 0 → blk pu ≠ pb) → u1.length = (n - k) + triR r → fillK n i (n - k) k P1 u1 = fillK n i (n - i) i PP u → (∀ i, i ≠ pb → h3.get i = h.get i) →
            (loopJ m2 2 (fun _ _ _ => AM.fail) B2 (.slice pu u1.length cu) (vi k) s1).wp pw Z h3 := by
          intro J2 hJ2 B2 hB2 m2
          induction m2 with
          | zero => intro k pu cu P1 u1 h3 hm2; omega
          | succ m2 ih2 =>
            intro k pu cu P1 u1 h3 hm2 hk g3 hP3 hPl3 su3 hpu3 hu3 hT3 e3
            rw [loopJ_succ, hB2]
            unfold X135_3
            by_cases hlk : k < n
            · cases u1 with
              | nil => simp at hu3; omega
              | cons y u2 =>
                have bx3 := (e3 bb hbp).trans hbx
                have i1 := idx_lt hlt hlk
                have i2 := idx_lt hlk hlt
                have r3 := su3.row
                have hle3 := su3.le
                have ld0 : ∀ (j : LogT) (s : Nat), (AM.log (aload (blk pu) (off pu) (fun v s => .ret (pk v s)) s) (logU j)).wp pw Z h3 = (j (vi y) [blk pu] [] s).wp pw Z h3 := fun j s => intL r3 (i := 0) rfl j s
                have x0 : ∀ (kk : KV) (s : Nat), xa 31 (.slice pu (y :: u2).length cu) (i64 0) kk s = kk (.pointer (some ⟨blk pu, off pu, none⟩)) s := fun kk s => xaI r3 (j := (0 : Int)) (by omega) (by simp) cu .i64 kk s
                obtain ⟨L, hL⟩ : ∃ L, L = (y :: u2).length := ⟨_, rfl⟩
                rw [← hL] at x0 su3 hu3 hle3 ⊢
                try simp (disch := first | assumption | omega | (simp only [Int.ofNat_eq_natCast, neg_one]; done) | (simp only [Int.ofNat_eq_natCast, neg_one]; omega)) only [tysW, wB, mB, Nat.reduceAdd, Nat.reduceMul, List.length_cons, List.length_nil, ldB bx3, clB bx3, ldBL bx3, clBL bx3, mulN _ _ _ _ (show i * n ≤ 1000000 by omega), addN _ _ _ _ (show i * n + k ≤ 1000000 by omega)]
                unfold X135_2
                try simp (disch := first | assumption | omega | (simp only [Int.ofNat_eq_natCast, neg_one]; done) | (simp only [Int.ofNat_eq_natCast, neg_one]; omega)) only [tysW, wB, mB, Nat.reduceAdd, Nat.reduceMul, List.length_cons, List.length_nil, mulN _ _ _ _ (show k * n ≤ 1000000 by omega), addN _ _ _ _ (show k * n + i ≤ 1000000 by omega), x0, ld0, xaP i1]
                refine wp_putL g3 hp hP3 hpb (by rw [flatI, List.length_map, hPl3]; simp; omega) rfl fun h4 g4 b4 e4 => ?_
                rw [set_int _ (by omega)] at b4
                unfold X135_1
                try simp (disch := first | assumption | omega | (simp only [Int.ofNat_eq_natCast, neg_one]; done) | (simp only [Int.ofNat_eq_natCast, neg_one]; omega)) only [tysW, wB, mB, Nat.reduceAdd, Nat.reduceMul, List.length_cons, List.length_nil, xaP i2]
                refine wp_putL g4 hp b4 hpb (by rw [flatI, List.length_map, List.length_set, hPl3]; simp; omega) rfl fun h5 g5 b5 e5 => ?_
                rw [set_int _ (by rw [List.length_set]; omega)] at b5
                have e35 : ∀ i, i ≠ pb → h5.get i = h3.get i := fun i hi => by rw [e5 i hi, e4 i hi]
                have su5 : Sl EI h5 pu L cu (y :: u2) := su3.but fun hc => e35 _ (hpu3 hc)
                rw [wp_guard, if_pos (by repeat' (first | exact dynOk_nil _ _ | refine dyn_skip' ?_ | refine dyn_cons ?_ ?_ | exact allF_nil _ _ | refine allF_cons ?_ ?_ | exact disj_below hbp (by omega) | exact disjA hbp (by omega) | exact disjB hbp (by omega) | exact disjC hbp (by assumption) | exact disjD (fun m hm => by have := hbp m hm; omega) | exact disjN _ | exact disj1 (by omega) | exact disj2 (by omega) | exact disj3 (by assumption)))]
                try simp (disch := first | assumption | omega | (simp only [Int.ofNat_eq_natCast, neg_one]; done) | (simp only [Int.ofNat_eq_natCast, neg_one]; omega)) only [tysW, wB, mB, Nat.reduceAdd, Nat.reduceMul, List.length_cons, List.length_nil]
                refine su5.cut (ab_from (i := 1) (by rw [hL]; simp) hle3 .i64) (by rw [hL]; simp) (Nat.le_refl _) hle3 (Nat.le_refl _) fun p6 r6 k6 => ?_
                simp only [List.drop_succ_cons, List.drop_zero] at r6
                have hl2 : L - 1 = u2.length := by rw [hL]; simp
                rw [hl2, List.take_of_length_le (Nat.le_refl _)] at r6
                rw [hl2]
                try simp (disch := first | assumption | omega | (simp only [Int.ofNat_eq_natCast, neg_one]; done) | (simp only [Int.ofNat_eq_natCast, neg_one]; omega)) only [tysW, wB, mB, Nat.reduceAdd, Nat.reduceMul, List.length_cons, List.length_nil]
                refine ih2 (k + 1) p6 (cu - 1) _ u2 h5 (by omega) (by omega) g5 b5 (by simp [hPl3]) r6 (fun hc => ?_) (by rw [hL] at hu3; simp at hu3; omega) ?_ fun i hi => (e35 i hi).trans (e3 i hi)
                · have := k6 (by omega)
                  rw [this.1]; exact hpu3 (by omega)
                · rw [← hT3, show n - k = (n - (k + 1)) + 1 by omega]
                  rfl
            · obtain rfl : k = n := by omega
              try simp (disch := first | assumption | omega | (simp only [Int.ofNat_eq_natCast, neg_one]; done) | (simp only [Int.ofNat_eq_natCast, neg_one]; omega)) only [tysW, wB, mB, Nat.reduceAdd, Nat.reduceMul, List.length_cons, List.length_nil]
              rw [hJ2]
              try simp (disch := first | assumption | omega | (simp only [Int.ofNat_eq_natCast, neg_one]; done) | (simp only [Int.ofNat_eq_natCast, neg_one]; omega)) only [tysW, wB, mB, Nat.reduceAdd, Nat.reduceMul, List.length_cons, List.length_nil]
              rw [Nat.sub_self] at hT3 hu3
              have hT3 : (P1, u1) = _ := hT3
              have hP1 : P1 = (fillK k i (k - i) i PP u).1 := by rw [← hT3]
              have hu1 : u1 = (fillK k i (k - i) i PP u).2 := by rw [← hT3]
              refine ih (i + 1) pu cu P1 u1 h3 (by omega) (by omega) g3 hP3 hPl3 su3 hpu3 (by rw [show k - (i + 1) = r by omega]; omega) ?_ e3
              rw [← hT, show k - (i + 1) = r by omega, hr]
              show fillI k r (i + 1) P1 u1 = fillI k r (i + 1) (fillK k i (r + 1) i PP u).1 (fillK k i (r + 1) i PP u).2
              rw [hP1, hu1, hr]
        refine inner _ (fun _ _ => rfl) _ (fun _ _ _ _ => rfl) N i pu cu PP u h2 (by omega) (by omega) g2 hP hPl su hpu ?_ rfl e2
        rw [hu, hr]
        show triR r + (r + 1) = _
        omega
      · obtain rfl : i = n := by omega
        try simp (disch := first | assumption | omega | (simp only [Int.ofNat_eq_natCast, neg_one]; done) | (simp only [Int.ofNat_eq_natCast, neg_one]; omega)) only [tysW, wB, mB, Nat.reduceAdd, Nat.reduceMul, List.length_cons, List.length_nil]
        rw [Nat.sub_self] at hT
        have hT : (PP, u) = _ := hT
        refine hk h2 g2 ?_ e2
        rw [← hT]; exact hP
  exact outer _ (fun _ _ _ _ => rfl) N 0 pu cu P0 u0 h (by omega) (by omega) g hP hPl su hpu hu rfl fun _ _ => rfl
end
end Go.Ev.R
namespace Go.Ev.R
open Go Go.RowKit
theorem fillI_len (n : Nat) : ∀ (m i : Nat) (P u : List Int), (fillI n m i P u).1.length = P.length
  | 0, i, P, u => rfl
  | m + 1, i, P, u => by
    unfold fillI
    rw [fillI_len n m (i + 1) _ _, (fillK_len n i (m + 1) i P u).1]
theorem fill_len (n : Nat) (u : List Int) : (fill n u).length = n * n := by
  unfold fill
  rw [fillI_len]; simp
structure BD where
  time : Int
  xl : List Int
  pl : List Int
  flag : Bool
  pass : Int
  fail : Int
def bd0 : BD := ⟨0, [], [], false, 0, 0⟩
def bvD (y : BD) (p2 p3 : Option Addr) : BV := ⟨y.time, p2, y.xl.length, y.xl.length, p3, y.pl.length, y.pl.length, y.flag, y.pass, y.fail⟩
def m1 (x : RS) : Int × RS := oneR 8 x
def m2 (x : RS) : Bool × RS := truthR (m1 x).2
def m3 (x : RS) : Int × RS := oneR 8 (m2 x).2
def m4 (x : RS) : Int × RS := oneR 8 (m3 x).2
def m5 (x : RS) : List Int × RS := listR (m4 x).2
def m6 (x : RS) : List Int × RS := listR (m5 x).2
def wrongR (n l : Nat) : Bool := decide (6 < n) || !decide (l = n * (n + 1) / 2)
def belD (x : RS) : BD := ⟨(m1 x).1, (m5 x).1, fill (m5 x).1.length (m6 x).1, (m2 x).1, (m3 x).1, (m4 x).1⟩
def belP (x : RS) : BD × RS := if ((m6 x).2.2 || wrongR (m5 x).1.length (m6 x).1.length) = true then (bd0, ((m6 x).2.1, true)) else (belD x, (m6 x).2)
theorem bytes1 {x : RS} (hb : allBytes x.1) : allBytes (m1 x).2.1 ∧ (m1 x).2.1.length ≤ x.1.length := oneR_bytes hb
theorem bytes2 {x : RS} (hb : allBytes x.1) : allBytes (m2 x).2.1 ∧ (m2 x).2.1.length ≤ x.1.length := by
  have h1 := bytes1 hb
  have h2 := truthR_bytes (x := (m1 x).2) h1.1
  exact ⟨h2.1, Nat.le_trans h2.2 h1.2⟩
theorem bytes3 {x : RS} (hb : allBytes x.1) : allBytes (m3 x).2.1 ∧ (m3 x).2.1.length ≤ x.1.length := by
  have h1 := bytes2 hb
  have h2 := oneR_bytes (w := 8) (x := (m2 x).2) h1.1
  exact ⟨h2.1, Nat.le_trans h2.2 h1.2⟩
theorem bytes4 {x : RS} (hb : allBytes x.1) : allBytes (m4 x).2.1 ∧ (m4 x).2.1.length ≤ x.1.length := by
  have h1 := bytes3 hb
  have h2 := oneR_bytes (w := 8) (x := (m3 x).2) h1.1
  exact ⟨h2.1, Nat.le_trans h2.2 h1.2⟩
theorem bytes5 {x : RS} (hb : allBytes x.1) : allBytes (m5 x).2.1 ∧ (m5 x).2.1.length ≤ x.1.length ∧ (m5 x).1.length ≤ 24 := by
  have h1 := bytes4 hb
  have h2 := listR_bytes (x := (m4 x).2) h1.1
  exact ⟨h2.1, Nat.le_trans h2.2.1 h1.2, h2.2.2⟩
theorem bytes6 {x : RS} (hb : allBytes x.1) : allBytes (m6 x).2.1 ∧ (m6 x).2.1.length ≤ x.1.length ∧ (m6 x).1.length ≤ 24 := by
  have h1 := bytes5 hb
  have h2 := listR_bytes (x := (m5 x).2) h1.1
  exact ⟨h2.1, Nat.le_trans h2.2.1 h1.2.1, h2.2.2⟩
section
variable {N d : Nat} (hN : N = 100000) {h0 h : T} {s0 s : Nat} {K : KV} {pw : Nat → Prop} {Z : Value → T → Prop} (g : From s0 h0 h s) (hp : ∀ n, s0 ≤ n → pw n) {rb : Nat} (hrb : s0 ≤ rb) {x : RS} (hb : allBytes x.1) (hl : x.1.length ≤ 50000)
include hN g hp hrb hb hl
theorem s135 {A : Nat → Prop} (hA : ∀ n, A n → n < s) (R : RdAt h rb 135 x A) (hk : ∀ p2 p3 h' s', From s0 h0 h' s' → s ≤ s' → RdAt h' rb 135 (belP x).2 A → OwnG EI 3 h' s p2 (belP x).1.xl.length (belP x).1.xl → OwnG EI 3 h' s p3 (belP x).1.pl.length (belP x).1.pl → (∀ i, i < s → i ≠ rb → h'.get i = h.get i) → (K (.agg ⟨bvv (bvD (belP x).1 p2 p3)⟩) s').wp pw Z h') :
    (D N (d + 6) 135 [ptr rb] K s).wp pw Z h := by
  have hrs : rb < s := by obtain ⟨p, len, cap, bx, -⟩ := R; exact lt_of_some g.fresh ⟨_, bx⟩
  have gl := g.le
  rw [D_135]; unfold F135; rw [app1_eq]
  unfold X135_6
  try simp (disch := first | assumption | omega | (simp only [Int.ofNat_eq_natCast, neg_one]; done) | (simp only [Int.ofNat_eq_natCast, neg_one]; omega)) only [tysW, wB, mB, Nat.reduceAdd, Nat.reduceMul, List.length_cons, List.length_nil]
  refine wp_boxA g hp fun h1 g1 c1 b1 => ?_
  have hB : ∀ n, (A n ∨ n = s) → n < s + 1 := fun n hn => hn.elim (fun h => by have := hA n h; omega) fun h => by omega
  have R1 : RdAt h1 rb 135 x (fun n => A n ∨ n = s) := ((R.more g.fresh).from g.fresh c1).less fun n hn => hn.imp_right fun h => by omega
  refine s113A (d := d + 1) (w := 8) hN g1 hp hrb hb hl (.inr (.inr (.inr rfl))) hB R1 fun h2 s2 g2 l2 R2 e2 => ?_
  have hb1 := bytes1 hb
  replace b1 := (e2 s (by omega) (by omega)).trans b1
  try simp (disch := first | assumption | omega | (simp only [Int.ofNat_eq_natCast, neg_one]; done) | (simp only [Int.ofNat_eq_natCast, neg_one]; omega)) only [tysW, wB, mB, Nat.reduceAdd, Nat.reduceMul, List.length_cons, List.length_nil]
  refine wp_putF g2 hp b1 (by omega) (by simp) rfl fun h3 g3 b3 e3 => ?_
  simp only [overL] at b3
  have R3 : RdAt h3 rb 135 (m1 x).2 (fun n => A n ∨ n = s) := R2.butA (.inr rfl) (by omega) e3
  refine s134 (d := d) hN g3 hp hrb hb1.1 (by omega) (fun n hn => by have := hB n hn; omega) R3 fun h4 s4 g4 l4 R4 e4 => ?_
  have hb2 := bytes2 hb
  replace b3 := (e4 s (by omega) (by omega)).trans b3
  try simp (disch := first | assumption | omega | (simp only [Int.ofNat_eq_natCast, neg_one]; done) | (simp only [Int.ofNat_eq_natCast, neg_one]; omega)) only [tysW, wB, mB, Nat.reduceAdd, Nat.reduceMul, List.length_cons, List.length_nil]
  refine wp_putF g4 hp b3 (by omega) (by simp) rfl fun h5 g5 b5 e5 => ?_
  simp only [overL] at b5
  have R5 : RdAt h5 rb 135 (m2 x).2 (fun n => A n ∨ n = s) := R4.butA (.inr rfl) (by omega) e5
  refine s113A (d := d + 1) (w := 8) hN g5 hp hrb hb2.1 (by omega) (.inr (.inr (.inr rfl))) (fun n hn => by have := hB n hn; omega) R5 fun h6 s6 g6 l6 R6 e6 => ?_
  have hb3 := bytes3 hb
  replace b5 := (e6 s (by omega) (by omega)).trans b5
  refine s113A (d := d + 1) (w := 8) hN g6 hp hrb hb3.1 (by omega) (.inr (.inr (.inr rfl))) (fun n hn => by have := hB n hn; omega) R6 fun h7 s7 g7 l7 R7 e7 => ?_
  have hb4 := bytes4 hb
  replace b5 := (e7 s (by omega) (by omega)).trans b5
  try simp (disch := first | assumption | omega | (simp only [Int.ofNat_eq_natCast, neg_one]; done) | (simp only [Int.ofNat_eq_natCast, neg_one]; omega)) only [tysW, wB, mB, Nat.reduceAdd, Nat.reduceMul, List.length_cons, List.length_nil]
  refine wp_putF g7 hp b5 (by omega) (by simp) rfl fun h8 g8 b8 e8 => ?_
  simp only [overL] at b8
  try simp (disch := first | assumption | omega | (simp only [Int.ofNat_eq_natCast, neg_one]; done) | (simp only [Int.ofNat_eq_natCast, neg_one]; omega)) only [tysW, wB, mB, Nat.reduceAdd, Nat.reduceMul, List.length_cons, List.length_nil]
  refine wp_putF g8 hp b8 (by omega) (by simp) rfl fun h9 g9 b9 e9 => ?_
  simp only [overL] at b9
  have R9 : RdAt h9 rb 135 (m4 x).2 (fun n => A n ∨ n = s) := (R7.butA (.inr rfl) (by omega) e8).butA (.inr rfl) (by omega) e9
  refine s114A (d := d) hN g9 hp hrb hb4.1 (by omega) (fun n hn => by have := hB n hn; omega) R9 fun p2 h10 s10 g10 l10 R10 o2 e10 => ?_
  have hb5 := bytes5 hb
  replace b9 := (e10 s (by omega) (by omega)).trans b9
  have o2l := o2.lt g10.fresh
  try simp (disch := first | assumption | omega | (simp only [Int.ofNat_eq_natCast, neg_one]; done) | (simp only [Int.ofNat_eq_natCast, neg_one]; omega)) only [tysW, wB, mB, Nat.reduceAdd, Nat.reduceMul, List.length_cons, List.length_nil]
  refine wp_putF g10 hp b9 (by omega) (by simp) rfl fun h11 g11 b11 e11 => ?_
  simp only [overL] at b11
  replace o2 := o2.but fun hp => e11 _ (by have := o2l hp; omega)
  have R11 : RdAt h11 rb 135 (m5 x).2 (fun n => A n ∨ n = s) := R10.butA (.inr rfl) (by omega) e11
  refine s114A (d := d) hN g11 hp hrb hb5.1 (by omega) (fun n hn => by have := hB n hn; omega) R11 fun p3 h12 s12 g12 l12 R12 o3 e12 => ?_
  have hb6 := bytes6 hb
  replace b11 := (e12 s (by omega) (by omega)).trans b11
  have o3l := o3.lt g12.fresh
  replace o2 := o2.but fun hp => e12 _ (by have := o2l hp; omega) (by have := o2l hp; omega)
  obtain ⟨pr, lr, cr, br, slr, hnr⟩ := R12
  obtain ⟨sb, hsb⟩ : ∃ sb, sb = s := ⟨_, rfl⟩
  obtain ⟨n, hn⟩ : ∃ n, n = (m5 x).1.length := ⟨_, rfl⟩
  obtain ⟨L, hL⟩ : ∃ L, L = (m6 x).1.length := ⟨_, rfl⟩
  obtain ⟨bd, hbd⟩ : ∃ bd, bd = (m6 x).2.2 := ⟨_, rfl⟩
  have keep : ∀ i, i < s → i ≠ rb → h12.get i = h.get i := fun i h1 h2 => by rw [e12 i (by omega) h2, e11 i (by omega), e10 i (by omega) h2, e9 i (by omega), e8 i (by omega), e7 i (by omega) h2, e6 i (by omega) h2, e5 i (by omega), e4 i (by omega) h2, e3 i (by omega), e2 i (by omega) h2, c1.keep i h1]
  have n24 : n ≤ 24 := by rw [hn]; exact hb5.2.2
  have L24 : L ≤ 24 := by rw [hL]; exact hb6.2.2
  replace b11 : h12.get s = some (.cells ⟨[vi (m1 x).1, .slice p2 n n, .slice none 0 0, .bool (m2 x).1, vi (m3 x).1, vi (m4 x).1]⟩ 58 (0, 0)) := by subst hn; exact b11
  replace br : h12.get rb = some (.cells ⟨[.slice pr lr cr, .bool bd]⟩ 135 (0, 0)) := by subst hbd; exact br
  replace slr : Sl EB h12 pr lr cr (m6 x).2.1 := slr
  replace o2 : OwnG EI 3 h12 s7 p2 n (m5 x).1 := by subst hn; exact o2
  replace o3 : OwnG EI 3 h12 s10 p3 L (m6 x).1 := by subst hL; exact o3
  rw [show (listR (m5 x).2).1.length = L from hL.symm]
  have srb : s ≠ rb := by omega
  have badK : (bd || wrongR n L) = true → ∀ {h13 : T}, From s0 h0 h13 s12 → h13.get rb = some (.cells ⟨[.slice pr lr cr, .bool true]⟩ 135 (0, 0)) → (∀ i, i ≠ rb → h13.get i = h12.get i) → (aput s 0 [i64 0, .slice none 0 0, .slice none 0 0, .bool false, i64 0, i64 0] (fun _ s => aloadAt P 58 (ptr sb) (fun v33 s => K v33 s) s) s12).wp pw Z h13 := by
    intro hw h13 g13 b13 e13
    have eb : belP x = (bd0, ((m6 x).2.1, true)) := by
      unfold belP
      rw [← hn, ← hL, ← hbd, if_pos hw]
    rw [eb] at hk
    refine wp_putF g13 hp ((e13 s srb).trans b11) (by omega) (by simp) rfl fun h14 g14 b14 e14 => ?_
    simp only [overL] at b14
    subst hsb
    try simp (disch := first | assumption | omega | (simp only [Int.ofNat_eq_natCast, neg_one]; done) | (simp only [Int.ofNat_eq_natCast, neg_one]; omega)) only [tysW, wB, mB, Nat.reduceAdd, Nat.reduceMul, List.length_cons, List.length_nil, ldB b14, clB b14, ldBL b14, clBL b14]
    exact hk none none h14 s12 g14 (by omega) ⟨pr, lr, cr, (e14 rb (by omega)).trans b13, (slr.but fun hc => e13 _ (hnr hc).1).but fun hc => e14 _ fun he => (hnr hc).2 (.inr he), fun hc => ⟨(hnr hc).1, fun ha => (hnr hc).2 (.inl ha)⟩⟩ .nil .nil fun i h1 h2 => by rw [e14 i (by omega), e13 i h2, keep i h1 h2]
  cases hbd2 : bd with
  | true =>
    rw [hbd2] at br badK
    try simp (disch := first | assumption | omega | (simp only [Int.ofNat_eq_natCast, neg_one]; done) | (simp only [Int.ofNat_eq_natCast, neg_one]; omega)) only [tysW, wB, mB, Nat.reduceAdd, Nat.reduceMul, List.length_cons, List.length_nil, ldB b11, clB b11, ldBL b11, clBL b11, ldB br, clB br, ldBL br, clBL br]
    unfold X135_5
    try simp (disch := first | assumption | omega | (simp only [Int.ofNat_eq_natCast, neg_one]; done) | (simp only [Int.ofNat_eq_natCast, neg_one]; omega)) only [tysW, wB, mB, Nat.reduceAdd, Nat.reduceMul, List.length_cons, List.length_nil]
    refine wp_putF g12 hp br hrb (by simp) rfl fun h13 g13 b13 e13 => ?_
    simp only [overL] at b13
    try simp (disch := first | assumption | omega | (simp only [Int.ofNat_eq_natCast, neg_one]; done) | (simp only [Int.ofNat_eq_natCast, neg_one]; omega)) only [tysW, wB, mB, Nat.reduceAdd, Nat.reduceMul, List.length_cons, List.length_nil, ldB b13, clB b13, ldBL b13, clBL b13]
    subst hsb
    exact badK rfl g13 b13 e13
  | false =>
    rw [hbd2] at br badK
    by_cases h6 : (6 : Int) < (n : Int)
    · try simp (disch := first | assumption | omega | (simp only [Int.ofNat_eq_natCast, neg_one]; done) | (simp only [Int.ofNat_eq_natCast, neg_one]; omega)) only [tysW, wB, mB, Nat.reduceAdd, Nat.reduceMul, List.length_cons, List.length_nil, ldB b11, clB b11, ldBL b11, clBL b11, ldB br, clB br, ldBL br, clBL br]
      unfold X135_5
      try simp (disch := first | assumption | omega | (simp only [Int.ofNat_eq_natCast, neg_one]; done) | (simp only [Int.ofNat_eq_natCast, neg_one]; omega)) only [tysW, wB, mB, Nat.reduceAdd, Nat.reduceMul, List.length_cons, List.length_nil]
      refine wp_putF g12 hp br hrb (by simp) rfl fun h13 g13 b13 e13 => ?_
      simp only [overL] at b13
      try simp (disch := first | assumption | omega | (simp only [Int.ofNat_eq_natCast, neg_one]; done) | (simp only [Int.ofNat_eq_natCast, neg_one]; omega)) only [tysW, wB, mB, Nat.reduceAdd, Nat.reduceMul, List.length_cons, List.length_nil, ldB b13, clB b13, ldBL b13, clBL b13]
      subst hsb
      exact badK (by unfold wrongR; rw [decide_eq_true (by omega)]; rfl) g13 b13 e13
    have hq : n * (n + 1) ≤ 1000000 := by
      calc n * (n + 1) ≤ 24 * 25 := Nat.mul_le_mul n24 (by omega)
      _ ≤ 1000000 := by decide
    have quo2 : ∀ (kk : KV) (s : Nat), quoX P 3 3 false true (vi ((n * (n + 1) : Nat) : Int)) (i64 2) kk s = kk (vi ((n * (n + 1) / 2 : Nat) : Int)) s := fun kk s => quoN false true (n := 2) (by decide) hq kk s
    by_cases hLn : (L : Int) = ((n * (n + 1) / 2 : Nat) : Int)
    · have hw : (false || wrongR n L) = false := by
        unfold wrongR
        rw [decide_eq_false (by omega), decide_eq_true (show L = n * (n + 1) / 2 by omega)]; rfl
      have eb : belP x = (belD x, (m6 x).2) := by
        unfold belP
        rw [← hn, ← hL, ← hbd, hbd2, if_neg (by rw [hw]; simp)]
      rw [eb] at hk
      have h6' : n ≤ 6 := by omega
      have hLt : L = triR n := by rw [← triR_eq h6']; omega
      have hsq : n * n ≤ 1000000 := by
        calc n * n ≤ 6 * 6 := Nat.mul_le_mul h6' h6'
        _ ≤ 1000000 := by decide
      subst hsb
      try simp (disch := first | assumption | omega | (simp only [Int.ofNat_eq_natCast, neg_one]; done) | (simp only [Int.ofNat_eq_natCast, neg_one]; omega)) only [tysW, wB, mB, Nat.reduceAdd, Nat.reduceMul, List.length_cons, List.length_nil, ldB b11, clB b11, ldBL b11, clBL b11, ldB br, clB br, ldBL br, clBL br, mulN _ _ _ _ hq, quo2]
      unfold X135_5
      try simp (disch := first | assumption | omega | (simp only [Int.ofNat_eq_natCast, neg_one]; done) | (simp only [Int.ofNat_eq_natCast, neg_one]; omega)) only [tysW, wB, mB, Nat.reduceAdd, Nat.reduceMul, List.length_cons, List.length_nil]
      refine wp_putF g12 hp br hrb (by simp) rfl fun h13 g13 b13 e13 => ?_
      simp only [overL] at b13
      try simp (disch := first | assumption | omega | (simp only [Int.ofNat_eq_natCast, neg_one]; done) | (simp only [Int.ofNat_eq_natCast, neg_one]; omega)) only [tysW, wB, mB, Nat.reduceAdd, Nat.reduceMul, List.length_cons, List.length_nil, ldB b13, clB b13, ldBL b13, clBL b13, mulN _ _ _ _ hsq]
      rw [mkN h6']
      refine wp_newF g13 hp fun h14 g14 c14 b14 => ?_
      have b11' := c14.box ((e13 sb srb).trans b11) (by omega)
      have b13' := c14.box b13 (by omega)
      try simp (disch := first | assumption | omega | (simp only [Int.ofNat_eq_natCast, neg_one]; done) | (simp only [Int.ofNat_eq_natCast, neg_one]; omega)) only [tysW, wB, mB, Nat.reduceAdd, Nat.reduceMul, List.length_cons, List.length_nil]
      refine wp_putF g14 hp b11' (by omega) (by simp) rfl fun h15 g15 b15 e15 => ?_
      simp only [overL] at b15
      have b14' := (e15 s12 (by omega)).trans b14
      have k15 : ∀ i, i < s12 → i ≠ rb → i ≠ sb → h15.get i = h12.get i := fun i h1 h2 h3 => by rw [e15 i h3, c14.keep i h1, e13 i h2]
      have o3' := o3.but fun hp => k15 _ (by have := o3l hp; omega) (by have := o3l hp; omega) (by have := o3l hp; omega)
      have o2' := o2.but fun hp => k15 _ (by have := o2l hp; omega) (by have := o2l hp; omega) (by have := o2l hp; omega)
      have e3 : (m6 x).1.length = L := hL.symm
      try simp (disch := first | assumption | omega | (simp only [Int.ofNat_eq_natCast, neg_one]; done) | (simp only [Int.ofNat_eq_natCast, neg_one]; omega)) only [tysW, wB, mB, Nat.reduceAdd, Nat.reduceMul, List.length_cons, List.length_nil]
      rw [← e3]
      have su := o3'.sl
      rw [← e3] at su
      refine fill135 hN (bb := sb) (pb := s12) g15 hp h6' b15 (by omega) b14' (by simp) su (fun hc => by
        have hp3 : p3 ≠ none := fun hn => hc (by have := o3.sl.non hn; omega)
        have := o3l hp3; omega) (by omega) fun h16 g16 b16 e16 => ?_
      have b15' := (e16 sb (by omega)).trans b15
      try simp (disch := first | assumption | omega | (simp only [Int.ofNat_eq_natCast, neg_one]; done) | (simp only [Int.ofNat_eq_natCast, neg_one]; omega)) only [tysW, wB, mB, Nat.reduceAdd, Nat.reduceMul, List.length_cons, List.length_nil, ldB b15', clB b15', ldBL b15', clBL b15']
      refine wp_putF g16 hp b15' (by omega) (by simp) rfl fun h17 g17 b17 e17 => ?_
      simp only [overL] at b17
      try simp (disch := first | assumption | omega | (simp only [Int.ofNat_eq_natCast, neg_one]; done) | (simp only [Int.ofNat_eq_natCast, neg_one]; omega)) only [tysW, wB, mB, Nat.reduceAdd, Nat.reduceMul, List.length_cons, List.length_nil, ldB b17, clB b17, ldBL b17, clBL b17]
      have hfl : (fill n (m6 x).1).length = n * n := fill_len n _
      have b16' := (e17 s12 (by omega)).trans b16
      have k17 : ∀ i, i < s12 → i ≠ rb → i ≠ sb → h17.get i = h12.get i := fun i h1 h2 h3 => by rw [e17 i h3, e16 i (by omega), k15 i h1 h2 h3]
      have hk := hk p2 (some ⟨s12, 0, none⟩) h17 (s12 + 1) g17 (by omega) ⟨pr, lr, cr, ?_, slr.but fun hc => ?_, fun hc => ⟨(hnr hc).1, fun ha => (hnr hc).2 (.inl ha)⟩⟩ ?_ ?_ fun i h1 h2 => ?_
      · have ev : bvv (bvD (belD x) p2 (some ⟨s12, 0, none⟩)) = [vi (m1 x).1, .slice p2 n n, .slice (some ⟨s12, 0, none⟩) (n * n) (n * n), .bool (m2 x).1, vi (m3 x).1, vi (m4 x).1] := by
          unfold bvv bvD belD
          dsimp only
          rw [← hn, hfl]
        rw [ev] at hk
        exact hk
      · rw [e17 rb (by omega), e16 rb (by omega), e15 rb (by omega), b13', ← hbd, hbd2]
      · have h1 := (hnr hc).1
        have h2 : blk pr ≠ sb := fun he => (hnr hc).2 (.inr he)
        exact k17 _ (slr.lt g12.fresh hc) h1 h2
      · show OwnG EI 3 h17 sb p2 (m5 x).1.length (m5 x).1
        rw [← hn]
        exact (o2'.but fun hp => by have := o2l hp; rw [e17 _ (by omega), e16 _ (by omega)]).less (by omega)
      · show OwnG EI 3 h17 sb _ (fill (m5 x).1.length (m6 x).1).length (fill (m5 x).1.length (m6 x).1)
        rw [← hn, hfl]
        exact ⟨hfl, .inr ⟨s12, 0, rfl, by omega, b16', .inl rfl⟩⟩
      · rw [k17 i (by omega) h2 (by omega), keep i h1 h2]
    · try simp (disch := first | assumption | omega | (simp only [Int.ofNat_eq_natCast, neg_one]; done) | (simp only [Int.ofNat_eq_natCast, neg_one]; omega)) only [tysW, wB, mB, Nat.reduceAdd, Nat.reduceMul, List.length_cons, List.length_nil, ldB b11, clB b11, ldBL b11, clBL b11, ldB br, clB br, ldBL br, clBL br, mulN _ _ _ _ hq, quo2]
      unfold X135_5
      try simp (disch := first | assumption | omega | (simp only [Int.ofNat_eq_natCast, neg_one]; done) | (simp only [Int.ofNat_eq_natCast, neg_one]; omega)) only [tysW, wB, mB, Nat.reduceAdd, Nat.reduceMul, List.length_cons, List.length_nil]
      refine wp_putF g12 hp br hrb (by simp) rfl fun h13 g13 b13 e13 => ?_
      simp only [overL] at b13
      try simp (disch := first | assumption | omega | (simp only [Int.ofNat_eq_natCast, neg_one]; done) | (simp only [Int.ofNat_eq_natCast, neg_one]; omega)) only [tysW, wB, mB, Nat.reduceAdd, Nat.reduceMul, List.length_cons, List.length_nil, ldB b13, clB b13, ldBL b13, clBL b13]
      subst hsb
      exact badK (by unfold wrongR; rw [decide_eq_false (show ¬ L = n * (n + 1) / 2 by omega)]; simp) g13 b13 e13
end
end Go.Ev.R

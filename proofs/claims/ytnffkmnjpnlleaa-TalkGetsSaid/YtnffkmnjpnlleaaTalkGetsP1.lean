/- The law TalkGets, part 1: what the functions answer, by their terms. No condition. -/
import Derived.Test.YtnffkmnjpnlleaaTalkGetsP0
set_option linter.unusedVariables false
set_option linter.unusedSimpArgs false
set_option maxRecDepth 100000
namespace Go.Ev.R
open Go Go.RowKit
theorem hasT_se_s (d : Nat) (K : KV) (s : Nat) : D 100000 (d + 1) 97 [str [115, 101], .int .u8 (.ofNat 115)] K s = K (.bool true) s := by kernel_rfl
theorem hasT_se_q (d : Nat) (K : KV) (s : Nat) : D 100000 (d + 1) 97 [str [115, 101], .int .u8 (.ofNat 113)] K s = K (.bool false) s := by kernel_rfl
theorem hasT_se_n (d : Nat) (K : KV) (s : Nat) : D 100000 (d + 1) 97 [str [115, 101], .int .u8 (.ofNat 110)] K s = K (.bool false) s := by kernel_rfl
theorem hasT_se_x (d : Nat) (K : KV) (s : Nat) : D 100000 (d + 1) 97 [str [115, 101], .int .u8 (.ofNat 120)] K s = K (.bool false) s := by kernel_rfl
theorem hasT_sqen_s (d : Nat) (K : KV) (s : Nat) : D 100000 (d + 1) 97 [str [115, 113, 101, 110], .int .u8 (.ofNat 115)] K s = K (.bool true) s := by kernel_rfl
theorem hasT_sqen_q (d : Nat) (K : KV) (s : Nat) : D 100000 (d + 1) 97 [str [115, 113, 101, 110], .int .u8 (.ofNat 113)] K s = K (.bool true) s := by kernel_rfl
theorem hasT_sqen_n (d : Nat) (K : KV) (s : Nat) : D 100000 (d + 1) 97 [str [115, 113, 101, 110], .int .u8 (.ofNat 110)] K s = K (.bool true) s := by kernel_rfl
theorem hasT_sqen_x (d : Nat) (K : KV) (s : Nat) : D 100000 (d + 1) 97 [str [115, 113, 101, 110], .int .u8 (.ofNat 120)] K s = K (.bool false) s := by kernel_rfl
theorem hasT_qex_s (d : Nat) (K : KV) (s : Nat) : D 100000 (d + 1) 97 [str [113, 101, 120], .int .u8 (.ofNat 115)] K s = K (.bool false) s := by kernel_rfl
theorem hasT_qex_q (d : Nat) (K : KV) (s : Nat) : D 100000 (d + 1) 97 [str [113, 101, 120], .int .u8 (.ofNat 113)] K s = K (.bool true) s := by kernel_rfl
theorem hasT_qex_n (d : Nat) (K : KV) (s : Nat) : D 100000 (d + 1) 97 [str [113, 101, 120], .int .u8 (.ofNat 110)] K s = K (.bool false) s := by kernel_rfl
theorem hasT_qex_x (d : Nat) (K : KV) (s : Nat) : D 100000 (d + 1) 97 [str [113, 101, 120], .int .u8 (.ofNat 120)] K s = K (.bool true) s := by kernel_rfl
theorem hasT_qen_s (d : Nat) (K : KV) (s : Nat) : D 100000 (d + 1) 97 [str [113, 101, 110], .int .u8 (.ofNat 115)] K s = K (.bool false) s := by kernel_rfl
theorem hasT_qen_q (d : Nat) (K : KV) (s : Nat) : D 100000 (d + 1) 97 [str [113, 101, 110], .int .u8 (.ofNat 113)] K s = K (.bool true) s := by kernel_rfl
theorem hasT_qen_n (d : Nat) (K : KV) (s : Nat) : D 100000 (d + 1) 97 [str [113, 101, 110], .int .u8 (.ofNat 110)] K s = K (.bool true) s := by kernel_rfl
theorem hasT_qen_x (d : Nat) (K : KV) (s : Nat) : D 100000 (d + 1) 97 [str [113, 101, 110], .int .u8 (.ofNat 120)] K s = K (.bool false) s := by kernel_rfl
theorem conT_se_s (d : Nat) (K : KV) (s : Nat) : D 100000 (d + 8) 93 [str [115, 101], str [115]] K s = K (.bool true) s := by kernel_rfl
theorem conT_se_q (d : Nat) (K : KV) (s : Nat) : D 100000 (d + 8) 93 [str [115, 101], str [113]] K s = K (.bool false) s := by kernel_rfl
theorem conT_se_e (d : Nat) (K : KV) (s : Nat) : D 100000 (d + 8) 93 [str [115, 101], str [101]] K s = K (.bool true) s := by kernel_rfl
theorem conT_se_n (d : Nat) (K : KV) (s : Nat) : D 100000 (d + 8) 93 [str [115, 101], str [110]] K s = K (.bool false) s := by kernel_rfl
theorem conT_se_x (d : Nat) (K : KV) (s : Nat) : D 100000 (d + 8) 93 [str [115, 101], str [120]] K s = K (.bool false) s := by kernel_rfl
theorem conT_se_b (d : Nat) (K : KV) (s : Nat) : D 100000 (d + 8) 93 [str [115, 101], str [98]] K s = K (.bool false) s := by kernel_rfl
theorem conT_sqen_s (d : Nat) (K : KV) (s : Nat) : D 100000 (d + 8) 93 [str [115, 113, 101, 110], str [115]] K s = K (.bool true) s := by kernel_rfl
theorem conT_sqen_q (d : Nat) (K : KV) (s : Nat) : D 100000 (d + 8) 93 [str [115, 113, 101, 110], str [113]] K s = K (.bool true) s := by kernel_rfl
theorem conT_sqen_e (d : Nat) (K : KV) (s : Nat) : D 100000 (d + 8) 93 [str [115, 113, 101, 110], str [101]] K s = K (.bool true) s := by kernel_rfl
theorem conT_sqen_n (d : Nat) (K : KV) (s : Nat) : D 100000 (d + 8) 93 [str [115, 113, 101, 110], str [110]] K s = K (.bool true) s := by kernel_rfl
theorem conT_sqen_x (d : Nat) (K : KV) (s : Nat) : D 100000 (d + 8) 93 [str [115, 113, 101, 110], str [120]] K s = K (.bool false) s := by kernel_rfl
theorem conT_sqen_b (d : Nat) (K : KV) (s : Nat) : D 100000 (d + 8) 93 [str [115, 113, 101, 110], str [98]] K s = K (.bool false) s := by kernel_rfl
theorem conT_qexb_s (d : Nat) (K : KV) (s : Nat) : D 100000 (d + 8) 93 [str [113, 101, 120, 98], str [115]] K s = K (.bool false) s := by kernel_rfl
theorem conT_qexb_q (d : Nat) (K : KV) (s : Nat) : D 100000 (d + 8) 93 [str [113, 101, 120, 98], str [113]] K s = K (.bool true) s := by kernel_rfl
theorem conT_qexb_e (d : Nat) (K : KV) (s : Nat) : D 100000 (d + 8) 93 [str [113, 101, 120, 98], str [101]] K s = K (.bool true) s := by kernel_rfl
theorem conT_qexb_n (d : Nat) (K : KV) (s : Nat) : D 100000 (d + 8) 93 [str [113, 101, 120, 98], str [110]] K s = K (.bool false) s := by kernel_rfl
theorem conT_qexb_x (d : Nat) (K : KV) (s : Nat) : D 100000 (d + 8) 93 [str [113, 101, 120, 98], str [120]] K s = K (.bool true) s := by kernel_rfl
theorem conT_qexb_b (d : Nat) (K : KV) (s : Nat) : D 100000 (d + 8) 93 [str [113, 101, 120, 98], str [98]] K s = K (.bool true) s := by kernel_rfl
theorem conT_qen_s (d : Nat) (K : KV) (s : Nat) : D 100000 (d + 8) 93 [str [113, 101, 110], str [115]] K s = K (.bool false) s := by kernel_rfl
theorem conT_qen_q (d : Nat) (K : KV) (s : Nat) : D 100000 (d + 8) 93 [str [113, 101, 110], str [113]] K s = K (.bool true) s := by kernel_rfl
theorem conT_qen_e (d : Nat) (K : KV) (s : Nat) : D 100000 (d + 8) 93 [str [113, 101, 110], str [101]] K s = K (.bool true) s := by kernel_rfl
theorem conT_qen_n (d : Nat) (K : KV) (s : Nat) : D 100000 (d + 8) 93 [str [113, 101, 110], str [110]] K s = K (.bool true) s := by kernel_rfl
theorem conT_qen_x (d : Nat) (K : KV) (s : Nat) : D 100000 (d + 8) 93 [str [113, 101, 110], str [120]] K s = K (.bool false) s := by kernel_rfl
theorem conT_qen_b (d : Nat) (K : KV) (s : Nat) : D 100000 (d + 8) 93 [str [113, 101, 110], str [98]] K s = K (.bool false) s := by kernel_rfl
/-- What a kind of telling has. -/
def telT (k : Int) : List UInt8 := if k = 1 then [115, 101] else if k = 2 then [115, 113, 101, 110] else if k = 3 then [115, 113, 101, 110] else if k = 4 then [115, 113, 101, 110] else if k = 5 then [113, 101, 120, 98] else if k = 6 then [113, 101, 110] else []
def mrkT (k : Int) : List UInt8 := if k = 1 then [115, 101] else if k = 2 then [115, 113, 101, 110] else if k = 3 then [115, 113, 101, 110] else if k = 4 then [115, 113, 101, 110] else if k = 5 then [113, 101, 120] else if k = 6 then [113, 101, 110] else []
abbrev telM : Obj := .map ⟨[⟨vi 1, txt [115, 101], 0⟩, ⟨vi 2, txt [115, 113, 101, 110], 1⟩, ⟨vi 3, txt [115, 113, 101, 110], 2⟩, ⟨vi 4, txt [115, 113, 101, 110], 3⟩, ⟨vi 5, txt [113, 101, 120, 98], 4⟩, ⟨vi 6, txt [113, 101, 110], 5⟩]⟩ 6
theorem find_tel (k : Int) (ok : Bool) : (match Instr.findNow (.int .i64) (vi k) [⟨vi 1, txt [115, 101], 0⟩, ⟨vi 2, txt [115, 113, 101, 110], 1⟩, ⟨vi 3, txt [115, 113, 101, 110], 2⟩, ⟨vi 4, txt [115, 113, 101, 110], 3⟩, ⟨vi 5, txt [113, 101, 120, 98], 4⟩, ⟨vi 6, txt [113, 101, 110], 5⟩] 0 with
    | some f => afound P 114 ok f
    | none => none) = some (if ok then .tuple ⟨[txt (telT k), .bool (decide (1 ≤ k ∧ k ≤ 6))]⟩ else txt (telT k)) := by
  have hz : zeroT P 114 = some (txt []) := by kernel_rfl
  simp only [find_cons, find_nil, telT]
  by_cases h1 : k = 1
  · subst h1; rfl
  by_cases h2 : k = 2
  · subst h2; rfl
  by_cases h3 : k = 3
  · subst h3; rfl
  by_cases h4 : k = 4
  · subst h4; rfl
  by_cases h5 : k = 5
  · subst h5; rfl
  by_cases h6 : k = 6
  · subst h6; rfl
  simp only [if_neg h1, if_neg h2, if_neg h3, if_neg h4, if_neg h5, if_neg h6]
  show (match zeroT P 114 with | some z => some (if ok then Value.tuple #[z, .bool false] else z) | none => none) = _
  rw [hz, decide_eq_false (by omega)]
section
variable {h : T} {pw : Nat → Prop} {Z : Value → T → Prop} {s0 s : Nat} {h0 : T}
theorem wp_tel {m : Nat} {k : Int} {ok : Bool} {kk : Value → Nat → AM} {s' : Nat} (hb : h.get m = some telM) : (alookup P 115 (.map (some m)) (vi k) ok kk s').wp pw Z h = (kk (if ok then .tuple ⟨[txt (telT k), .bool (decide (1 ≤ k ∧ k ≤ 6))]⟩ else txt (telT k)) s').wp pw Z h := by
  have hfs := find_tel k ok
  unfold alookup
  rw [u115]
  dsimp only
  rw [u3]
  dsimp only
  rw [show (keyT (.int .i64) && plain1 (vi k)) = true from rfl]
  simp only [cond_true]
  rw [wp_get, hb]
  dsimp only
  cases hfd : Instr.findNow (.int .i64) (vi k) [⟨vi 1, txt [115, 101], 0⟩, ⟨vi 2, txt [115, 113, 101, 110], 1⟩, ⟨vi 3, txt [115, 113, 101, 110], 2⟩, ⟨vi 4, txt [115, 113, 101, 110], 3⟩, ⟨vi 5, txt [113, 101, 120, 98], 4⟩, ⟨vi 6, txt [113, 101, 110], 5⟩] 0 with
  | none => rw [hfd] at hfs; cases hfs
  | some f =>
    rw [hfd] at hfs
    dsimp only at hfs ⊢
    rw [hfs]
    rfl
end
section
variable {N d : Nat} {h : T} {s : Nat} (hf : ∀ n, s ≤ n → h.get n = none)
include hf
theorem s108 : PureS (D N (d + 1)) 108 [] h s (fun v h' s' => ∃ m, v = .map (some m) ∧ s ≤ m ∧ h'.get m = some telM) := by
  refine PureS.of hf fun K pw Z g hp hk => ?_
  rw [D_108]; unfold F108; rw [app0_eq]
  unfold X108_1
  unfold amakeMap
  refine wp_newF g hp fun h1 g1 c1 b1 => ?_
  dsimp only
  simp only [bd_114_0]
  refine wp_mu g1 hp b1 (Nat.le_refl _) (by rfl) fun h2 g2 b2 => ?_
  refine wp_mu g2 hp b2 (Nat.le_refl _) (by rfl) fun h3 g3 b3 => ?_
  refine wp_mu g3 hp b3 (Nat.le_refl _) (by rfl) fun h4 g4 b4 => ?_
  refine wp_mu g4 hp b4 (Nat.le_refl _) (by rfl) fun h5 g5 b5 => ?_
  refine wp_mu g5 hp b5 (Nat.le_refl _) (by rfl) fun h6 g6 b6 => ?_
  refine wp_mu g6 hp b6 (Nat.le_refl _) (by rfl) fun h7 g7 b7 => ?_
  exact hk _ _ _ g7 ⟨s, rfl, Nat.le_refl _, b7⟩
theorem s126 (n : Int) : ValS (D N (d + 1)) 126 [vi n] h s (str (mrkT n)) := by
  refine ValS.of hf fun K pw Z g hp hk => ?_
  rw [D_126]; unfold F126; rw [app1_eq]
  try simp (disch := first | assumption | omega | (simp only [Int.ofNat_eq_natCast, neg_one]; done) | (simp only [Int.ofNat_eq_natCast, neg_one]; omega)) only [tysW, wB, mB, Nat.reduceAdd, Nat.reduceMul, List.length_cons, List.length_nil]
  refine wp_newF g hp fun h1 g1 c1 b1 => ?_
  have hk := hk _ _ g1
  by_cases h0 : n < 1
  · try simp (disch := first | assumption | omega | (simp only [Int.ofNat_eq_natCast, neg_one]; done) | (simp only [Int.ofNat_eq_natCast, neg_one]; omega)) only [tysW, wB, mB, Nat.reduceAdd, Nat.reduceMul, List.length_cons, List.length_nil]
    unfold mrkT at hk
    rw [if_neg (by omega), if_neg (by omega), if_neg (by omega), if_neg (by omega), if_neg (by omega), if_neg (by omega)] at hk
    exact hk
  by_cases h8 : 6 < n
  · try simp (disch := first | assumption | omega | (simp only [Int.ofNat_eq_natCast, neg_one]; done) | (simp only [Int.ofNat_eq_natCast, neg_one]; omega)) only [tysW, wB, mB, Nat.reduceAdd, Nat.reduceMul, List.length_cons, List.length_nil]
    unfold mrkT at hk
    rw [if_neg (by omega), if_neg (by omega), if_neg (by omega), if_neg (by omega), if_neg (by omega), if_neg (by omega)] at hk
    exact hk
  try simp (disch := first | assumption | omega | (simp only [Int.ofNat_eq_natCast, neg_one]; done) | (simp only [Int.ofNat_eq_natCast, neg_one]; omega)) only [tysW, wB, mB, Nat.reduceAdd, Nat.reduceMul, List.length_cons, List.length_nil, ldB b1, clB b1, ldBL b1, clBL b1]
  have h7 : n = 1 ∨ n = 2 ∨ n = 3 ∨ n = 4 ∨ n = 5 ∨ n = 6 := by omega
  rcases h7 with rfl | rfl | rfl | rfl | rfl | rfl <;> exact hk
end
theorem kinds6 {k : Int} (h : 1 ≤ k ∧ k ≤ 6) : k = 1 ∨ k = 2 ∨ k = 3 ∨ k = 4 ∨ k = 5 ∨ k = 6 := by omega
theorem mrkT_no {k : Int} (h : ¬ (1 ≤ k ∧ k ≤ 6)) : mrkT k = [] := by
  unfold mrkT
  rw [if_neg (by omega), if_neg (by omega), if_neg (by omega), if_neg (by omega), if_neg (by omega), if_neg (by omega)]
theorem neT_qen (k : Value → Nat → AM) (s : Nat) : neX P 9 9 false true (str [113, 101, 110]) (.string ⟨⟨[]⟩⟩) k s = k (.bool true) s := by kernel_rfl
theorem neT_qex (k : Value → Nat → AM) (s : Nat) : neX P 9 9 false true (str [113, 101, 120]) (.string ⟨⟨[]⟩⟩) k s = k (.bool true) s := by kernel_rfl
theorem neT_se (k : Value → Nat → AM) (s : Nat) : neX P 9 9 false true (str [115, 101]) (.string ⟨⟨[]⟩⟩) k s = k (.bool true) s := by kernel_rfl
theorem neT_sqen (k : Value → Nat → AM) (s : Nat) : neX P 9 9 false true (str [115, 113, 101, 110]) (.string ⟨⟨[]⟩⟩) k s = k (.bool true) s := by kernel_rfl
theorem neT_none (k : Value → Nat → AM) (s : Nat) : neX P 9 9 false true (str []) (.string ⟨⟨[]⟩⟩) k s = k (.bool false) s := by kernel_rfl
theorem ne_mrk (n : Int) (k : Value → Nat → AM) (s : Nat) : neX P 9 9 false true (str (mrkT n)) (.string ⟨⟨[]⟩⟩) k s = k (.bool (decide (1 ≤ n ∧ n ≤ 6))) s := by
  by_cases h : 1 ≤ n ∧ n ≤ 6
  · rw [decide_eq_true h]
    rcases kinds6 h with rfl | rfl | rfl | rfl | rfl | rfl
    · exact neT_se k s
    · exact neT_sqen k s
    · exact neT_sqen k s
    · exact neT_sqen k s
    · exact neT_qex k s
    · exact neT_qen k s
  · rw [decide_eq_false h, mrkT_no h]
    exact neT_none k s
section
variable {N : Nat} (hN : N = 100000) (d : Nat) (K : KV) (s : Nat) {k : Int} (hk : 1 ≤ k ∧ k ≤ 6)
include hN hk
theorem hasT_s : D N (d + 1) 97 [str (mrkT k), .int .u8 (.ofNat 115)] K s = K (.bool (!(decide (k = 5 ∨ k = 6)))) s := by
  subst hN
  rcases kinds6 hk with rfl | rfl | rfl | rfl | rfl | rfl
  · exact hasT_se_s d K s
  · exact hasT_sqen_s d K s
  · exact hasT_sqen_s d K s
  · exact hasT_sqen_s d K s
  · exact hasT_qex_s d K s
  · exact hasT_qen_s d K s
theorem hasT_q : D N (d + 1) 97 [str (mrkT k), .int .u8 (.ofNat 113)] K s = K (.bool (!(decide (k = 1)))) s := by
  subst hN
  rcases kinds6 hk with rfl | rfl | rfl | rfl | rfl | rfl
  · exact hasT_se_q d K s
  · exact hasT_sqen_q d K s
  · exact hasT_sqen_q d K s
  · exact hasT_sqen_q d K s
  · exact hasT_qex_q d K s
  · exact hasT_qen_q d K s
theorem hasT_n : D N (d + 1) 97 [str (mrkT k), .int .u8 (.ofNat 110)] K s = K (.bool (!(decide (k = 1 ∨ k = 5)))) s := by
  subst hN
  rcases kinds6 hk with rfl | rfl | rfl | rfl | rfl | rfl
  · exact hasT_se_n d K s
  · exact hasT_sqen_n d K s
  · exact hasT_sqen_n d K s
  · exact hasT_sqen_n d K s
  · exact hasT_qex_n d K s
  · exact hasT_qen_n d K s
theorem hasT_x : D N (d + 1) 97 [str (mrkT k), .int .u8 (.ofNat 120)] K s = K (.bool (decide (k = 5))) s := by
  subst hN
  rcases kinds6 hk with rfl | rfl | rfl | rfl | rfl | rfl
  · exact hasT_se_x d K s
  · exact hasT_sqen_x d K s
  · exact hasT_sqen_x d K s
  · exact hasT_sqen_x d K s
  · exact hasT_qex_x d K s
  · exact hasT_qen_x d K s
theorem conT_s : D N (d + 8) 93 [str (telT k), str [115]] K s = K (.bool (!(decide (k = 5 ∨ k = 6)))) s := by
  subst hN
  rcases kinds6 hk with rfl | rfl | rfl | rfl | rfl | rfl
  · exact conT_se_s d K s
  · exact conT_sqen_s d K s
  · exact conT_sqen_s d K s
  · exact conT_sqen_s d K s
  · exact conT_qexb_s d K s
  · exact conT_qen_s d K s
theorem conT_q : D N (d + 8) 93 [str (telT k), str [113]] K s = K (.bool (!(decide (k = 1)))) s := by
  subst hN
  rcases kinds6 hk with rfl | rfl | rfl | rfl | rfl | rfl
  · exact conT_se_q d K s
  · exact conT_sqen_q d K s
  · exact conT_sqen_q d K s
  · exact conT_sqen_q d K s
  · exact conT_qexb_q d K s
  · exact conT_qen_q d K s
theorem conT_e : D N (d + 8) 93 [str (telT k), str [101]] K s = K (.bool (true)) s := by
  subst hN
  rcases kinds6 hk with rfl | rfl | rfl | rfl | rfl | rfl
  · exact conT_se_e d K s
  · exact conT_sqen_e d K s
  · exact conT_sqen_e d K s
  · exact conT_sqen_e d K s
  · exact conT_qexb_e d K s
  · exact conT_qen_e d K s
theorem conT_n : D N (d + 8) 93 [str (telT k), str [110]] K s = K (.bool (!(decide (k = 1 ∨ k = 5)))) s := by
  subst hN
  rcases kinds6 hk with rfl | rfl | rfl | rfl | rfl | rfl
  · exact conT_se_n d K s
  · exact conT_sqen_n d K s
  · exact conT_sqen_n d K s
  · exact conT_sqen_n d K s
  · exact conT_qexb_n d K s
  · exact conT_qen_n d K s
theorem conT_x : D N (d + 8) 93 [str (telT k), str [120]] K s = K (.bool (decide (k = 5))) s := by
  subst hN
  rcases kinds6 hk with rfl | rfl | rfl | rfl | rfl | rfl
  · exact conT_se_x d K s
  · exact conT_sqen_x d K s
  · exact conT_sqen_x d K s
  · exact conT_sqen_x d K s
  · exact conT_qexb_x d K s
  · exact conT_qen_x d K s
theorem conT_b : D N (d + 8) 93 [str (telT k), str [98]] K s = K (.bool (decide (k = 5))) s := by
  subst hN
  rcases kinds6 hk with rfl | rfl | rfl | rfl | rfl | rfl
  · exact conT_se_b d K s
  · exact conT_sqen_b d K s
  · exact conT_sqen_b d K s
  · exact conT_sqen_b d K s
  · exact conT_qexb_b d K s
  · exact conT_qen_b d K s
end
theorem ixT_qen_0 (k : KV) (s : Nat) : indexX P 9 (str [113, 101, 110]) (vi 0) k s = k (u8 113) s := by kernel_rfl
theorem ixT_qen_1 (k : KV) (s : Nat) : indexX P 9 (str [113, 101, 110]) (vi 1) k s = k (u8 101) s := by kernel_rfl
theorem ixT_qen_2 (k : KV) (s : Nat) : indexX P 9 (str [113, 101, 110]) (vi 2) k s = k (u8 110) s := by kernel_rfl
theorem ixT_qex_0 (k : KV) (s : Nat) : indexX P 9 (str [113, 101, 120]) (vi 0) k s = k (u8 113) s := by kernel_rfl
theorem ixT_qex_1 (k : KV) (s : Nat) : indexX P 9 (str [113, 101, 120]) (vi 1) k s = k (u8 101) s := by kernel_rfl
theorem ixT_qex_2 (k : KV) (s : Nat) : indexX P 9 (str [113, 101, 120]) (vi 2) k s = k (u8 120) s := by kernel_rfl
theorem ixT_se_0 (k : KV) (s : Nat) : indexX P 9 (str [115, 101]) (vi 0) k s = k (u8 115) s := by kernel_rfl
theorem ixT_se_1 (k : KV) (s : Nat) : indexX P 9 (str [115, 101]) (vi 1) k s = k (u8 101) s := by kernel_rfl
theorem ixT_sqen_0 (k : KV) (s : Nat) : indexX P 9 (str [115, 113, 101, 110]) (vi 0) k s = k (u8 115) s := by kernel_rfl
theorem ixT_sqen_1 (k : KV) (s : Nat) : indexX P 9 (str [115, 113, 101, 110]) (vi 1) k s = k (u8 113) s := by kernel_rfl
theorem ixT_sqen_2 (k : KV) (s : Nat) : indexX P 9 (str [115, 113, 101, 110]) (vi 2) k s = k (u8 101) s := by kernel_rfl
theorem ixT_sqen_3 (k : KV) (s : Nat) : indexX P 9 (str [115, 113, 101, 110]) (vi 3) k s = k (u8 110) s := by kernel_rfl
theorem len_mrk (n : Int) (k : KV) (s : Nat) : lenX P ⟨[9]⟩ (str (mrkT n)) k s = k (vi (mrkT n).length) s := ln_9 _ k s
theorem ix_mrk {n : Int} (hn : 1 ≤ n ∧ n ≤ 6) {i : Nat} {c : UInt8} (hc : (mrkT n)[i]? = some c) (k : KV) (s : Nat) : indexX P 9 (str (mrkT n)) (vi i) k s = k (u8 c.toNat) s := by
  have hl := (List.getElem?_eq_some_iff.1 hc).1
  rcases kinds6 hn with rfl | rfl | rfl | rfl | rfl | rfl
  · have hl : i < 2 := hl
    have : i = 0 ∨ i = 1 := by omega
    rcases this with rfl | rfl
    · obtain rfl : 115 = c := Option.some.inj hc
      exact ixT_se_0 k s
    · obtain rfl : 101 = c := Option.some.inj hc
      exact ixT_se_1 k s
  · have hl : i < 4 := hl
    have : i = 0 ∨ i = 1 ∨ i = 2 ∨ i = 3 := by omega
    rcases this with rfl | rfl | rfl | rfl
    · obtain rfl : 115 = c := Option.some.inj hc
      exact ixT_sqen_0 k s
    · obtain rfl : 113 = c := Option.some.inj hc
      exact ixT_sqen_1 k s
    · obtain rfl : 101 = c := Option.some.inj hc
      exact ixT_sqen_2 k s
    · obtain rfl : 110 = c := Option.some.inj hc
      exact ixT_sqen_3 k s
  · have hl : i < 4 := hl
    have : i = 0 ∨ i = 1 ∨ i = 2 ∨ i = 3 := by omega
    rcases this with rfl | rfl | rfl | rfl
    · obtain rfl : 115 = c := Option.some.inj hc
      exact ixT_sqen_0 k s
    · obtain rfl : 113 = c := Option.some.inj hc
      exact ixT_sqen_1 k s
    · obtain rfl : 101 = c := Option.some.inj hc
      exact ixT_sqen_2 k s
    · obtain rfl : 110 = c := Option.some.inj hc
      exact ixT_sqen_3 k s
  · have hl : i < 4 := hl
    have : i = 0 ∨ i = 1 ∨ i = 2 ∨ i = 3 := by omega
    rcases this with rfl | rfl | rfl | rfl
    · obtain rfl : 115 = c := Option.some.inj hc
      exact ixT_sqen_0 k s
    · obtain rfl : 113 = c := Option.some.inj hc
      exact ixT_sqen_1 k s
    · obtain rfl : 101 = c := Option.some.inj hc
      exact ixT_sqen_2 k s
    · obtain rfl : 110 = c := Option.some.inj hc
      exact ixT_sqen_3 k s
  · have hl : i < 3 := hl
    have : i = 0 ∨ i = 1 ∨ i = 2 := by omega
    rcases this with rfl | rfl | rfl
    · obtain rfl : 113 = c := Option.some.inj hc
      exact ixT_qex_0 k s
    · obtain rfl : 101 = c := Option.some.inj hc
      exact ixT_qex_1 k s
    · obtain rfl : 120 = c := Option.some.inj hc
      exact ixT_qex_2 k s
  · have hl : i < 3 := hl
    have : i = 0 ∨ i = 1 ∨ i = 2 := by omega
    rcases this with rfl | rfl | rfl
    · obtain rfl : 113 = c := Option.some.inj hc
      exact ixT_qen_0 k s
    · obtain rfl : 101 = c := Option.some.inj hc
      exact ixT_qen_1 k s
    · obtain rfl : 110 = c := Option.some.inj hc
      exact ixT_qen_2 k s
theorem tel_mem {k : Int} {c : UInt8} (h : c ∈ telT k) : c = 115 ∨ c = 113 ∨ c = 101 ∨ c = 110 ∨ c = 120 ∨ c = 98 := by
  by_cases hk : 1 ≤ k ∧ k ≤ 6
  · rcases kinds6 hk with rfl | rfl | rfl | rfl | rfl | rfl <;> (simp [telT] at h; first | (rcases h with h | h | h | h <;> simp [h]) | (rcases h with h | h | h <;> simp [h]) | (rcases h with h | h <;> simp [h]))
  · unfold telT at h
    rw [if_neg (by omega), if_neg (by omega), if_neg (by omega), if_neg (by omega), if_neg (by omega), if_neg (by omega)] at h
    cases h
theorem mrk_mem {k : Int} {c : UInt8} (h : c ∈ mrkT k) : c = 115 ∨ c = 113 ∨ c = 101 ∨ c = 110 ∨ c = 120 := by
  by_cases hk : 1 ≤ k ∧ k ≤ 6
  · rcases kinds6 hk with rfl | rfl | rfl | rfl | rfl | rfl <;> (simp [mrkT] at h; first | (rcases h with h | h | h | h <;> simp [h]) | (rcases h with h | h | h <;> simp [h]) | (rcases h with h | h <;> simp [h]))
  · rw [mrkT_no hk] at h
    cases h
theorem tel_le (k : Int) : (telT k).length ≤ 4 := by
  by_cases hk : 1 ≤ k ∧ k ≤ 6
  · rcases kinds6 hk with rfl | rfl | rfl | rfl | rfl | rfl <;> simp [telT]
  · unfold telT
    rw [if_neg (by omega), if_neg (by omega), if_neg (by omega), if_neg (by omega), if_neg (by omega), if_neg (by omega)]
    simp
theorem mrk_le (k : Int) : (mrkT k).length ≤ 4 := by
  by_cases hk : 1 ≤ k ∧ k ≤ 6
  · rcases kinds6 hk with rfl | rfl | rfl | rfl | rfl | rfl <;> simp [mrkT]
  · rw [mrkT_no hk]; simp
end Go.Ev.R
namespace Go.Ev.R
open Go Go.RowKit
/-- A belief as it comes in. -/
structure BV where
  time : Int
  xp : Option Addr
  xn : Nat
  xc : Nat
  pp : Option Addr
  pn : Nat
  pc : Nat
  flag : Bool
  pass : Int
  fail : Int
def bvv (b : BV) : List Value := [vi b.time, .slice b.xp b.xn b.xc, .slice b.pp b.pn b.pc, .bool b.flag, vi b.pass, vi b.fail]
def Sym (n : Nat) (pl : List Int) : Prop := ∀ i, i < n → ∀ k, k < n → pl[i * n + k]? = pl[k * n + i]?
open Classical in
noncomputable def heldB (n m : Nat) (pl : List Int) : Bool := decide (n ≤ 6 ∧ m = n * n ∧ Sym n pl)
theorem held_no {n m : Nat} {pl : List Int} (h : ¬ (n ≤ 6 ∧ m = n * n ∧ Sym n pl)) : heldB n m pl = false := by
  unfold heldB
  rw [decide_eq_false_iff_not]
  exact h
theorem held_yes {n m : Nat} {pl : List Int} (h : n ≤ 6 ∧ m = n * n ∧ Sym n pl) : heldB n m pl = true := by
  unfold heldB
  simp only [decide_eq_true_eq]
  exact h
def empB (b : BV) : Bool := decide (b.time = 0 ∧ b.xn = 0 ∧ b.pn = 0 ∧ b.flag = false ∧ b.pass = 0 ∧ b.fail = 0)
theorem sym_flat {n : Nat} {pl : List Int} : Sym n pl ↔ ∀ i, i < n * n → pl[i]? = pl[i % n * n + i / n]? := by
  constructor
  · intro h i hi
    have hn : 0 < n := by rcases Nat.eq_zero_or_pos n with h0 | h0; (subst h0; omega); exact h0
    have h1 := h (i / n) ((Nat.div_lt_iff_lt_mul hn).2 hi) (i % n) (Nat.mod_lt _ hn)
    rw [show i / n * n + i % n = i by rw [Nat.mul_comm]; exact Nat.div_add_mod i n] at h1
    exact h1
  · intro h i hi k hk
    have hn : 0 < n := by omega
    have hlt : i * n + k < n * n := by
      calc i * n + k < i * n + n := by omega
      _ = (i + 1) * n := by rw [Nat.succ_mul]
      _ ≤ n * n := Nat.mul_le_mul hi (Nat.le_refl _)
    have h1 := h (i * n + k) hlt
    rw [show (i * n + k) % n = k by rw [Nat.add_comm, Nat.add_mul_mod_self_right, Nat.mod_eq_of_lt hk], show (i * n + k) / n = i by rw [Nat.add_comm, Nat.add_mul_div_right _ _ hn, Nat.div_eq_of_lt hk, Nat.zero_add]] at h1
    exact h1
theorem sym_half {n : Nat} {pl : List Int} : Sym n pl ↔ ∀ i, i < n → ∀ k, k < i → pl[i * n + k]? = pl[k * n + i]? := by
  constructor
  · exact fun h i hi k hk => h i hi k (by omega)
  · intro h i hi k hk
    rcases Nat.lt_trichotomy k i with h1 | h1 | h1
    · exact h i hi k h1
    · rw [h1]
    · exact (h k hk i h1).symm
theorem remN (a b : Bool) {i n : Nat} (hn : n ≠ 0) (k : KV) (s : Nat) : remX P 3 3 a b (vi i) (vi n) k s = k (vi ((i % n : Nat) : Int)) s := by
  rw [rem_eq 3 3 a b i (show (n : Int) ≠ 0 by omega)]
  rfl
theorem quoN (a b : Bool) {i n : Nat} (hn : n ≠ 0) (hi : i ≤ 1000000) (k : KV) (s : Nat) : quoX P 3 3 a b (vi i) (vi n) k s = k (vi ((i / n : Nat) : Int)) s := by
  have e : (i : Int).tdiv n = ((i / n : Nat) : Int) := rfl
  have hle : i / n ≤ i := Nat.div_le_self i n
  rw [quo_eq 3 3 a b i (show (n : Int) ≠ 0 by omega), e]
  generalize i / n = q at *
  rw [wrap_id (by omega) (by omega)]
theorem addN (t yt : TypeId) (a b : Bool) {x y : Nat} (h : x + y ≤ 1000000) (k : KV) (s : Nat) : addX P t yt a b (vi x) (vi y) k s = k (vi ((x + y : Nat) : Int)) s := by
  have e : (x : Int) + (y : Int) = ((x + y : Nat) : Int) := by simp
  rw [add_eq, e, wrap_id (by omega) (by omega)]
section
variable {N d : Nat} (hN : N = 100000) {h : T} {s : Nat} (hf : ∀ n, s ≤ n → h.get n = none)
include hN hf
theorem s110 (b : BV) {pl : List Int} (r : Row EI h b.pp b.pn pl) (hpn : b.pn ≤ 1000) : ValS (D N (d + 1)) 110 [.agg ⟨bvv b⟩] h s (.bool (heldB b.xn b.pn pl)) := by
  refine ValS.of hf fun K pw Z g hp hk => ?_
  rw [D_110]; unfold F110; rw [app1_eq]
  unfold X110_3
  refine wp_boxA g hp fun h1 g1 c1 b1 => ?_
  simp only [bvv] at b1
  have hk := hk _ _ g1
  have r1 := g1.row hf r
  have hlen := r.1
  by_cases h6 : (6 : Int) < (b.xn : Int)
  · try simp (disch := first | assumption | omega | (simp only [Int.ofNat_eq_natCast, neg_one]; done) | (simp only [Int.ofNat_eq_natCast, neg_one]; omega)) only [tysW, wB, mB, Nat.reduceAdd, Nat.reduceMul, List.length_cons, List.length_nil, ldB b1, clB b1, ldBL b1, clBL b1]
    rw [show heldB b.xn b.pn pl = false from held_no (by omega)] at hk
    exact hk
  have hsq : b.xn * b.xn ≤ 36 := by
    calc b.xn * b.xn ≤ 6 * 6 := Nat.mul_le_mul (by omega) (by omega)
    _ = 36 := rfl
  by_cases hm : (b.pn : Int) = ((b.xn * b.xn : Nat) : Int)
  · try simp (disch := first | assumption | omega | (simp only [Int.ofNat_eq_natCast, neg_one]; done) | (simp only [Int.ofNat_eq_natCast, neg_one]; omega)) only [tysW, wB, mB, Nat.reduceAdd, Nat.reduceMul, List.length_cons, List.length_nil, ldB b1, clB b1, ldBL b1, clBL b1, mulN _ _ _ _ (show b.xn * b.xn ≤ 1000000 by omega)]
    have hm' : b.pn = b.xn * b.xn := by omega
    have loop : ∀ (B : (Value → Value → Nat → AM) → Value → Value → Nat → AM) (hB : ∀ H u v s', B H u v s' = X110_2 N (D N d) K (vi b.pn) (ptr s) (vi b.xn) (fun s => K (.bool true) s) H u v s') (m i : Nat) (u : Value), b.pn - i < m → i ≤ b.pn → (∀ j, j < i → pl[j]? = pl[j % b.xn * b.xn + j / b.xn]?) →
        (loopJ m 2 (fun _ _ _ => AM.fail) B u (vi i) (s + 1)).wp pw Z h1 := by
      intro B hB m
      induction m with
      | zero => intro i u hm; omega
      | succ m ih =>
        intro i u hmi hi he
        rw [loopJ_succ, hB]
        unfold X110_2
        by_cases hlt : i < b.pn
        · have hn0 : b.xn ≠ 0 := by intro h0; rw [h0] at hm'; omega
          have hn1 : 0 < b.xn := by omega
          have h7 : i % b.xn < b.xn := Nat.mod_lt _ hn1
          have h8 : i / b.xn < b.xn := (Nat.div_lt_iff_lt_mul hn1).2 (by omega)
          have hidx : i % b.xn * b.xn + i / b.xn < b.pn := by
            rw [hm']
            calc i % b.xn * b.xn + i / b.xn < i % b.xn * b.xn + b.xn := by omega
            _ = (i % b.xn + 1) * b.xn := by rw [Nat.succ_mul]
            _ ≤ b.xn * b.xn := Nat.mul_le_mul h7 (Nat.le_refl _)
          obtain ⟨y, hy⟩ := get_some (l := pl) (i := i) (by omega)
          obtain ⟨z, hz⟩ := get_some (l := pl) (i := i % b.xn * b.xn + i / b.xn) (by omega)
          try simp (disch := first | assumption | omega | (simp only [Int.ofNat_eq_natCast, neg_one]; done) | (simp only [Int.ofNat_eq_natCast, neg_one]; omega)) only [tysW, wB, mB, Nat.reduceAdd, Nat.reduceMul, List.length_cons, List.length_nil, ldB b1, clB b1, ldBL b1, clBL b1, xaI r1 (j := (i : Int)) (by omega) (by omega), intL r1 hy]
          unfold X110_1
          have hst : y = z → pl[i]? = pl[i % b.xn * b.xn + i / b.xn]? := fun hh => by rw [hy, hz, hh]
          have hsf : Sym b.xn pl → y = z := fun hh => by
            have := sym_flat.1 hh i (by omega)
            rw [hy, hz] at this; exact Option.some.inj this
          have m1 : i % b.xn * b.xn + i / b.xn ≤ 1000000 := by omega
          have m2 : i % b.xn * b.xn ≤ 1000000 := Nat.le_trans (Nat.le_add_right _ _) m1
          try simp (disch := first | assumption | omega | (simp only [Int.ofNat_eq_natCast, neg_one]; done) | (simp only [Int.ofNat_eq_natCast, neg_one]; omega)) only [tysW, wB, mB, Nat.reduceAdd, Nat.reduceMul, List.length_cons, List.length_nil, ldB b1, clB b1, ldBL b1, clBL b1, remN _ _ hn0, mulN _ _ _ _ m2, quoN _ _ hn0 (show i ≤ 1000000 by omega), addN _ _ _ _ m1]
          obtain ⟨q, hq⟩ : ∃ q, q = i % b.xn * b.xn + i / b.xn := ⟨_, rfl⟩
          rw [← hq] at hz hidx ⊢
          try simp (disch := first | assumption | omega | (simp only [Int.ofNat_eq_natCast, neg_one]; done) | (simp only [Int.ofNat_eq_natCast, neg_one]; omega)) only [tysW, wB, mB, Nat.reduceAdd, Nat.reduceMul, List.length_cons, List.length_nil, xaI r1 (j := (q : Int)) (by omega) (by omega), intL r1 hz]
          by_cases hyz : y = z
          · try simp (disch := first | assumption | omega | (simp only [Int.ofNat_eq_natCast, neg_one]; done) | (simp only [Int.ofNat_eq_natCast, neg_one]; omega)) only [tysW, wB, mB, Nat.reduceAdd, Nat.reduceMul, List.length_cons, List.length_nil]
            refine ih (i + 1) _ (by omega) (by omega) fun j hj => ?_
            rcases Nat.lt_or_ge j i with h9 | h9
            · exact he j h9
            · obtain rfl : j = i := by omega
              exact hst hyz
          · try simp (disch := first | assumption | omega | (simp only [Int.ofNat_eq_natCast, neg_one]; done) | (simp only [Int.ofNat_eq_natCast, neg_one]; omega)) only [tysW, wB, mB, Nat.reduceAdd, Nat.reduceMul, List.length_cons, List.length_nil]
            rw [show heldB b.xn b.pn pl = false from held_no fun hh => hyz (by
              exact hsf hh.2.2)] at hk
            exact hk
        · obtain rfl : i = b.pn := by omega
          try simp (disch := first | assumption | omega | (simp only [Int.ofNat_eq_natCast, neg_one]; done) | (simp only [Int.ofNat_eq_natCast, neg_one]; omega)) only [tysW, wB, mB, Nat.reduceAdd, Nat.reduceMul, List.length_cons, List.length_nil]
          rw [show heldB b.xn b.pn pl = true from held_yes ⟨by omega, hm', sym_flat.2 fun j hj => he j (by omega)⟩] at hk
          exact hk
    exact loop _ (fun _ _ _ _ => rfl) N 0 _ (by omega) (by omega) fun j hj => by omega
  · try simp (disch := first | assumption | omega | (simp only [Int.ofNat_eq_natCast, neg_one]; done) | (simp only [Int.ofNat_eq_natCast, neg_one]; omega)) only [tysW, wB, mB, Nat.reduceAdd, Nat.reduceMul, List.length_cons, List.length_nil, ldB b1, clB b1, ldBL b1, clBL b1, mulN _ _ _ _ (show b.xn * b.xn ≤ 1000000 by omega)]
    rw [show heldB b.xn b.pn pl = false from held_no (by omega)] at hk
    exact hk
theorem s129 (b : BV) {pl : List Int} (r : Row EI h b.pp b.pn pl) (hpn : b.pn ≤ 1000) : ValS (D N (d + 1)) 129 [.agg ⟨bvv b⟩] h s (.bool (heldB b.xn b.pn pl)) := by
  refine ValS.of hf fun K pw Z g hp hk => ?_
  rw [D_129]; unfold F129; rw [app1_eq]
  refine wp_boxA g hp fun h1 g1 c1 b1 => ?_
  simp only [bvv] at b1
  have hk := hk _ _ g1
  have r1 := g1.row hf r
  have hlen := r.1
  by_cases h6 : (6 : Int) < (b.xn : Int)
  · try simp (disch := first | assumption | omega | (simp only [Int.ofNat_eq_natCast, neg_one]; done) | (simp only [Int.ofNat_eq_natCast, neg_one]; omega)) only [tysW, wB, mB, Nat.reduceAdd, Nat.reduceMul, List.length_cons, List.length_nil, ldB b1, clB b1, ldBL b1, clBL b1]
    rw [show heldB b.xn b.pn pl = false from held_no (by omega)] at hk
    exact hk
  have hsq : b.xn * b.xn ≤ 36 := by
    calc b.xn * b.xn ≤ 6 * 6 := Nat.mul_le_mul (by omega) (by omega)
    _ = 36 := rfl
  by_cases hm : (b.pn : Int) = ((b.xn * b.xn : Nat) : Int)
  · try simp (disch := first | assumption | omega | (simp only [Int.ofNat_eq_natCast, neg_one]; done) | (simp only [Int.ofNat_eq_natCast, neg_one]; omega)) only [tysW, wB, mB, Nat.reduceAdd, Nat.reduceMul, List.length_cons, List.length_nil, ldB b1, clB b1, ldBL b1, clBL b1, mulN _ _ _ _ (show b.xn * b.xn ≤ 1000000 by omega)]
    have hm' : b.pn = b.xn * b.xn := by omega
    have loop : ∀ (B : (Value → Value → Nat → AM) → Value → Value → Nat → AM) (hB : ∀ H u v s', B H u v s' = X129_3 N (D N d) K (vi b.xn) (ptr s) (fun s => K (.bool true) s) H u v s') (m i : Nat) (u : Value), b.xn - i < m → i ≤ b.xn → (∀ j, j < i → ∀ k, k < j → pl[j * b.xn + k]? = pl[k * b.xn + j]?) →
        (loopJ m 2 (fun _ _ _ => AM.fail) B u (vi i) (s + 1)).wp pw Z h1 := by
      intro B hB m
      induction m with
      | zero => intro i u hm; omega
      | succ m ih =>
        intro i u hmi hi he
        rw [loopJ_succ, hB]
        unfold X129_3
        by_cases hlt : i < b.xn
        · try simp (disch := first | assumption | omega | (simp only [Int.ofNat_eq_natCast, neg_one]; done) | (simp only [Int.ofNat_eq_natCast, neg_one]; omega)) only [tysW, wB, mB, Nat.reduceAdd, Nat.reduceMul, List.length_cons, List.length_nil]
          have hi36 : i * b.xn + b.xn ≤ b.xn * b.xn := by rw [← Nat.succ_mul]; exact Nat.mul_le_mul hlt (Nat.le_refl _)
          have loop2 : ∀ (J : Value → Nat → AM) (hJ : ∀ u s', J u s' = addX P 3 3 false true (vi i) (i64 1) (fun v15 s => loopJ m 2 (fun _ _ _ => AM.fail) B u v15 s) s') (B2 : (Value → Value → Nat → AM) → Value → Value → Nat → AM) (hB2 : ∀ H u v s', B2 H u v s' = X129_2 N (D N d) K (vi i) (ptr s) (vi b.xn) J H u v s') (m2 k : Nat) (u : Value), i - k < m2 → k ≤ i → (∀ k', k' < k → pl[i * b.xn + k']? = pl[k' * b.xn + i]?) →
              (loopJ m2 2 (fun _ _ _ => AM.fail) B2 u (vi k) (s + 1)).wp pw Z h1 := by
            intro J hJ B2 hB2 m2
            induction m2 with
            | zero => intro k u hm2; omega
            | succ m2 ih2 =>
              intro k u hm2 hki he2
              rw [loopJ_succ, hB2]
              unfold X129_2
              by_cases hk2 : k < i
              · have hk36 : k * b.xn + b.xn ≤ b.xn * b.xn := by rw [← Nat.succ_mul]; exact Nat.mul_le_mul (by omega) (Nat.le_refl _)
                obtain ⟨y, hy⟩ := get_some (l := pl) (i := i * b.xn + k) (by omega)
                obtain ⟨z, hz⟩ := get_some (l := pl) (i := k * b.xn + i) (by omega)
                try simp (disch := first | assumption | omega | (simp only [Int.ofNat_eq_natCast, neg_one]; done) | (simp only [Int.ofNat_eq_natCast, neg_one]; omega)) only [tysW, wB, mB, Nat.reduceAdd, Nat.reduceMul, List.length_cons, List.length_nil, ldB b1, clB b1, ldBL b1, clBL b1, mulN _ _ _ _ (show i * b.xn ≤ 1000000 by omega), addN _ _ _ _ (show i * b.xn + k ≤ 1000000 by omega), xaI r1 (j := ((i * b.xn + k : Nat) : Int)) (by omega) (by omega), intL r1 hy]
                unfold X129_1
                try simp (disch := first | assumption | omega | (simp only [Int.ofNat_eq_natCast, neg_one]; done) | (simp only [Int.ofNat_eq_natCast, neg_one]; omega)) only [tysW, wB, mB, Nat.reduceAdd, Nat.reduceMul, List.length_cons, List.length_nil, ldB b1, clB b1, ldBL b1, clBL b1, mulN _ _ _ _ (show k * b.xn ≤ 1000000 by omega), addN _ _ _ _ (show k * b.xn + i ≤ 1000000 by omega), xaI r1 (j := ((k * b.xn + i : Nat) : Int)) (by omega) (by omega), intL r1 hz]
                by_cases hyz : y = z
                · try simp (disch := first | assumption | omega | (simp only [Int.ofNat_eq_natCast, neg_one]; done) | (simp only [Int.ofNat_eq_natCast, neg_one]; omega)) only [tysW, wB, mB, Nat.reduceAdd, Nat.reduceMul, List.length_cons, List.length_nil]
                  refine ih2 (k + 1) _ (by omega) (by omega) fun k' hk' => ?_
                  rcases Nat.lt_or_ge k' k with h9 | h9
                  · exact he2 k' h9
                  · rw [show k' = k by omega, hy, hz, hyz]
                · try simp (disch := first | assumption | omega | (simp only [Int.ofNat_eq_natCast, neg_one]; done) | (simp only [Int.ofNat_eq_natCast, neg_one]; omega)) only [tysW, wB, mB, Nat.reduceAdd, Nat.reduceMul, List.length_cons, List.length_nil]
                  rw [show heldB b.xn b.pn pl = false from held_no fun hh => hyz (by
                    have := sym_half.1 hh.2.2 i hlt k hk2
                    rw [hy, hz] at this; exact Option.some.inj this)] at hk
                  exact hk
              · obtain rfl : k = i := by omega
                try simp (disch := first | assumption | omega | (simp only [Int.ofNat_eq_natCast, neg_one]; done) | (simp only [Int.ofNat_eq_natCast, neg_one]; omega)) only [tysW, wB, mB, Nat.reduceAdd, Nat.reduceMul, List.length_cons, List.length_nil]
                rw [hJ]
                try simp (disch := first | assumption | omega | (simp only [Int.ofNat_eq_natCast, neg_one]; done) | (simp only [Int.ofNat_eq_natCast, neg_one]; omega)) only [tysW, wB, mB, Nat.reduceAdd, Nat.reduceMul, List.length_cons, List.length_nil]
                refine ih (k + 1) _ (by omega) (by omega) fun j hj => ?_
                rcases Nat.lt_or_ge j k with h9 | h9
                · exact he j h9
                · obtain rfl : j = k := by omega
                  exact he2
          exact loop2 _ (fun _ _ => rfl) _ (fun _ _ _ _ => rfl) N 0 _ (by omega) (by omega) fun k hk => by omega
        · obtain rfl : i = b.xn := by omega
          try simp (disch := first | assumption | omega | (simp only [Int.ofNat_eq_natCast, neg_one]; done) | (simp only [Int.ofNat_eq_natCast, neg_one]; omega)) only [tysW, wB, mB, Nat.reduceAdd, Nat.reduceMul, List.length_cons, List.length_nil]
          rw [show heldB b.xn b.pn pl = true from held_yes ⟨by omega, hm', sym_half.2 he⟩] at hk
          exact hk
    exact loop _ (fun _ _ _ _ => rfl) N 0 _ (by omega) (by omega) fun j hj => by omega
  · try simp (disch := first | assumption | omega | (simp only [Int.ofNat_eq_natCast, neg_one]; done) | (simp only [Int.ofNat_eq_natCast, neg_one]; omega)) only [tysW, wB, mB, Nat.reduceAdd, Nat.reduceMul, List.length_cons, List.length_nil, ldB b1, clB b1, ldBL b1, clBL b1, mulN _ _ _ _ (show b.xn * b.xn ≤ 1000000 by omega)]
    rw [show heldB b.xn b.pn pl = false from held_no (by omega)] at hk
    exact hk
end
end Go.Ev.R
namespace Go.Ev.R
open Go Go.RowKit
/-- A telling as it comes in. -/
structure TV where
  kind : Int
  sen : Int
  seq : Int
  err : Int
  np : Option Addr
  nn : Nat
  nc : Nat
  ex : Bool
  b : BV
def tvv (x : TV) : List Value := [vi x.kind, vi x.sen, vi x.seq, vi x.err, .slice x.np x.nn x.nc, .bool x.ex, vi x.b.time, .slice x.b.xp x.b.xn x.b.xc, .slice x.b.pp x.b.pn x.b.pc, .bool x.b.flag, vi x.b.pass, vi x.b.fail]
/-- Whether it may be told, but for what a kind has not. -/
def FineT (x : TV) (pl : List Int) : Prop := (1 ≤ x.kind ∧ x.kind ≤ 6) ∧ (0 ≤ x.sen ∧ x.sen ≤ 255) ∧ (0 ≤ x.err ∧ x.err ≤ 255) ∧ (0 ≤ x.seq ∧ x.seq ≤ 2147483647) ∧ x.nn ≤ 24 ∧ heldB x.b.xn x.b.pn pl = true
def LackT (x : TV) : Prop := (¬ x.sen = 0 ∧ (x.kind = 5 ∨ x.kind = 6)) ∨ (¬ x.seq = 0 ∧ x.kind = 1) ∨ (¬ x.nn = 0 ∧ (x.kind = 1 ∨ x.kind = 5)) ∨ (x.ex = true ∧ ¬ x.kind = 5) ∨ (empB x.b = false ∧ ¬ x.kind = 5)
open Classical in
noncomputable def badT (x : TV) (pl : List Int) : Bool := decide (¬ (FineT x pl ∧ ¬ LackT x))
theorem badT_yes {x : TV} {pl : List Int} (h : ¬ (FineT x pl ∧ ¬ LackT x)) : badT x pl = true := by
  unfold badT
  simp only [decide_eq_true_eq]
  exact h
theorem badT_no {x : TV} {pl : List Int} (h : FineT x pl ∧ ¬ LackT x) : badT x pl = false := by
  unfold badT
  rw [decide_eq_false_iff_not]
  exact not_not_intro h
section
variable {N d : Nat} {h : T} {s : Nat} (hf : ∀ n, s ≤ n → h.get n = none)
include hf
theorem s111 (b : BV) (h1 : b.xn ≤ 100000) (h2 : b.pn ≤ 100000) : ValS (D N (d + 1)) 111 [.agg ⟨bvv b⟩] h s (.bool (empB b)) := by
  refine ValS.of hf fun K pw Z g hp hk => ?_
  rw [D_111]; unfold F111; rw [app1_eq]
  refine wp_boxA g hp fun h1 g1 c1 b1 => ?_
  simp only [bvv] at b1
  have hk := hk _ _ g1
  unfold empB at hk
  by_cases e1 : b.time = 0
  · cases e2 : b.flag with
    | true =>
      rw [decide_eq_false (by simp [e2])] at hk
      rw [e2] at b1
      try simp (disch := first | assumption | omega | (simp only [Int.ofNat_eq_natCast, neg_one]; done) | (simp only [Int.ofNat_eq_natCast, neg_one]; omega)) only [tysW, wB, mB, Nat.reduceAdd, Nat.reduceMul, List.length_cons, List.length_nil, ldB b1, clB b1, ldBL b1, clBL b1]
      unfold X111_2 X111_1
      try simp (disch := first | assumption | omega | (simp only [Int.ofNat_eq_natCast, neg_one]; done) | (simp only [Int.ofNat_eq_natCast, neg_one]; omega)) only [tysW, wB, mB, Nat.reduceAdd, Nat.reduceMul, List.length_cons, List.length_nil]
      exact hk
    | false =>
      rw [e2] at b1
      by_cases e3 : b.pass = 0
      · by_cases e4 : b.fail = 0
        · try simp (disch := first | assumption | omega | (simp only [Int.ofNat_eq_natCast, neg_one]; done) | (simp only [Int.ofNat_eq_natCast, neg_one]; omega)) only [tysW, wB, mB, Nat.reduceAdd, Nat.reduceMul, List.length_cons, List.length_nil, ldB b1, clB b1, ldBL b1, clBL b1]
          unfold X111_2
          try simp (disch := first | assumption | omega | (simp only [Int.ofNat_eq_natCast, neg_one]; done) | (simp only [Int.ofNat_eq_natCast, neg_one]; omega)) only [tysW, wB, mB, Nat.reduceAdd, Nat.reduceMul, List.length_cons, List.length_nil, ldB b1, clB b1, ldBL b1, clBL b1]
          unfold X111_1
          try simp (disch := first | assumption | omega | (simp only [Int.ofNat_eq_natCast, neg_one]; done) | (simp only [Int.ofNat_eq_natCast, neg_one]; omega)) only [tysW, wB, mB, Nat.reduceAdd, Nat.reduceMul, List.length_cons, List.length_nil, ldB b1, clB b1, ldBL b1, clBL b1, addN _ _ _ _ (show b.xn + b.pn ≤ 1000000 by omega)]
          by_cases e5 : b.xn + b.pn = 0
          · have e5' : ((b.xn + b.pn : Nat) : Int) = 0 := by omega
            try simp (disch := first | assumption | omega | (simp only [Int.ofNat_eq_natCast, neg_one]; done) | (simp only [Int.ofNat_eq_natCast, neg_one]; omega)) only [tysW, wB, mB, Nat.reduceAdd, Nat.reduceMul, List.length_cons, List.length_nil]
            rw [decide_eq_true ⟨e1, by omega, by omega, e2, e3, e4⟩] at hk
            exact hk
          · have e5' : ¬ ((b.xn + b.pn : Nat) : Int) = 0 := by omega
            try simp (disch := first | assumption | omega | (simp only [Int.ofNat_eq_natCast, neg_one]; done) | (simp only [Int.ofNat_eq_natCast, neg_one]; omega)) only [tysW, wB, mB, Nat.reduceAdd, Nat.reduceMul, List.length_cons, List.length_nil]
            rw [decide_eq_false (by omega)] at hk
            exact hk
        · try simp (disch := first | assumption | omega | (simp only [Int.ofNat_eq_natCast, neg_one]; done) | (simp only [Int.ofNat_eq_natCast, neg_one]; omega)) only [tysW, wB, mB, Nat.reduceAdd, Nat.reduceMul, List.length_cons, List.length_nil, ldB b1, clB b1, ldBL b1, clBL b1]
          unfold X111_2
          try simp (disch := first | assumption | omega | (simp only [Int.ofNat_eq_natCast, neg_one]; done) | (simp only [Int.ofNat_eq_natCast, neg_one]; omega)) only [tysW, wB, mB, Nat.reduceAdd, Nat.reduceMul, List.length_cons, List.length_nil, ldB b1, clB b1, ldBL b1, clBL b1]
          unfold X111_1
          try simp (disch := first | assumption | omega | (simp only [Int.ofNat_eq_natCast, neg_one]; done) | (simp only [Int.ofNat_eq_natCast, neg_one]; omega)) only [tysW, wB, mB, Nat.reduceAdd, Nat.reduceMul, List.length_cons, List.length_nil]
          rw [decide_eq_false (by simp [e4])] at hk
          exact hk
      · try simp (disch := first | assumption | omega | (simp only [Int.ofNat_eq_natCast, neg_one]; done) | (simp only [Int.ofNat_eq_natCast, neg_one]; omega)) only [tysW, wB, mB, Nat.reduceAdd, Nat.reduceMul, List.length_cons, List.length_nil, ldB b1, clB b1, ldBL b1, clBL b1]
        unfold X111_2
        try simp (disch := first | assumption | omega | (simp only [Int.ofNat_eq_natCast, neg_one]; done) | (simp only [Int.ofNat_eq_natCast, neg_one]; omega)) only [tysW, wB, mB, Nat.reduceAdd, Nat.reduceMul, List.length_cons, List.length_nil, ldB b1, clB b1, ldBL b1, clBL b1]
        unfold X111_1
        try simp (disch := first | assumption | omega | (simp only [Int.ofNat_eq_natCast, neg_one]; done) | (simp only [Int.ofNat_eq_natCast, neg_one]; omega)) only [tysW, wB, mB, Nat.reduceAdd, Nat.reduceMul, List.length_cons, List.length_nil]
        rw [decide_eq_false (by simp [e3])] at hk
        exact hk
  · try simp (disch := first | assumption | omega | (simp only [Int.ofNat_eq_natCast, neg_one]; done) | (simp only [Int.ofNat_eq_natCast, neg_one]; omega)) only [tysW, wB, mB, Nat.reduceAdd, Nat.reduceMul, List.length_cons, List.length_nil, ldB b1, clB b1, ldBL b1, clBL b1]
    unfold X111_2 X111_1
    try simp (disch := first | assumption | omega | (simp only [Int.ofNat_eq_natCast, neg_one]; done) | (simp only [Int.ofNat_eq_natCast, neg_one]; omega)) only [tysW, wB, mB, Nat.reduceAdd, Nat.reduceMul, List.length_cons, List.length_nil]
    rw [decide_eq_false (by simp [e1])] at hk
    exact hk
theorem s130 (b : BV) : ValS (D N (d + 1)) 130 [.agg ⟨bvv b⟩] h s (.bool (empB b)) := by
  refine ValS.of hf fun K pw Z g hp hk => ?_
  rw [D_130]; unfold F130; rw [app1_eq]
  refine wp_boxA g hp fun h1 g1 c1 b1 => ?_
  simp only [bvv] at b1
  have hk := hk _ _ g1
  unfold empB at hk
  by_cases e1 : b.time = 0
  · by_cases e5 : (b.xn : Int) = 0
    · by_cases e6 : (b.pn : Int) = 0
      · cases e2 : b.flag with
        | true =>
          rw [decide_eq_false (by simp [e2])] at hk
          rw [e2] at b1
          try simp (disch := first | assumption | omega | (simp only [Int.ofNat_eq_natCast, neg_one]; done) | (simp only [Int.ofNat_eq_natCast, neg_one]; omega)) only [tysW, wB, mB, Nat.reduceAdd, Nat.reduceMul, List.length_cons, List.length_nil, ldB b1, clB b1, ldBL b1, clBL b1]
          unfold X130_2 
          try simp (disch := first | assumption | omega | (simp only [Int.ofNat_eq_natCast, neg_one]; done) | (simp only [Int.ofNat_eq_natCast, neg_one]; omega)) only [tysW, wB, mB, Nat.reduceAdd, Nat.reduceMul, List.length_cons, List.length_nil, ldB b1, clB b1, ldBL b1, clBL b1]
          unfold X130_1
          try simp (disch := first | assumption | omega | (simp only [Int.ofNat_eq_natCast, neg_one]; done) | (simp only [Int.ofNat_eq_natCast, neg_one]; omega)) only [tysW, wB, mB, Nat.reduceAdd, Nat.reduceMul, List.length_cons, List.length_nil, ldB b1, clB b1, ldBL b1, clBL b1]
          exact hk
        | false =>
          rw [e2] at b1
          by_cases e3 : b.pass = 0
          · by_cases e4 : b.fail = 0
            · try simp (disch := first | assumption | omega | (simp only [Int.ofNat_eq_natCast, neg_one]; done) | (simp only [Int.ofNat_eq_natCast, neg_one]; omega)) only [tysW, wB, mB, Nat.reduceAdd, Nat.reduceMul, List.length_cons, List.length_nil, ldB b1, clB b1, ldBL b1, clBL b1]
              unfold X130_2
              try simp (disch := first | assumption | omega | (simp only [Int.ofNat_eq_natCast, neg_one]; done) | (simp only [Int.ofNat_eq_natCast, neg_one]; omega)) only [tysW, wB, mB, Nat.reduceAdd, Nat.reduceMul, List.length_cons, List.length_nil, ldB b1, clB b1, ldBL b1, clBL b1]
              unfold X130_1
              try simp (disch := first | assumption | omega | (simp only [Int.ofNat_eq_natCast, neg_one]; done) | (simp only [Int.ofNat_eq_natCast, neg_one]; omega)) only [tysW, wB, mB, Nat.reduceAdd, Nat.reduceMul, List.length_cons, List.length_nil, ldB b1, clB b1, ldBL b1, clBL b1]
              rw [decide_eq_true ⟨e1, by omega, by omega, e2, e3, e4⟩] at hk
              exact hk
            · try simp (disch := first | assumption | omega | (simp only [Int.ofNat_eq_natCast, neg_one]; done) | (simp only [Int.ofNat_eq_natCast, neg_one]; omega)) only [tysW, wB, mB, Nat.reduceAdd, Nat.reduceMul, List.length_cons, List.length_nil, ldB b1, clB b1, ldBL b1, clBL b1]
              unfold X130_2
              try simp (disch := first | assumption | omega | (simp only [Int.ofNat_eq_natCast, neg_one]; done) | (simp only [Int.ofNat_eq_natCast, neg_one]; omega)) only [tysW, wB, mB, Nat.reduceAdd, Nat.reduceMul, List.length_cons, List.length_nil, ldB b1, clB b1, ldBL b1, clBL b1]
              unfold X130_1
              try simp (disch := first | assumption | omega | (simp only [Int.ofNat_eq_natCast, neg_one]; done) | (simp only [Int.ofNat_eq_natCast, neg_one]; omega)) only [tysW, wB, mB, Nat.reduceAdd, Nat.reduceMul, List.length_cons, List.length_nil, ldB b1, clB b1, ldBL b1, clBL b1]
              rw [decide_eq_false (by simp [e4])] at hk
              exact hk
          · try simp (disch := first | assumption | omega | (simp only [Int.ofNat_eq_natCast, neg_one]; done) | (simp only [Int.ofNat_eq_natCast, neg_one]; omega)) only [tysW, wB, mB, Nat.reduceAdd, Nat.reduceMul, List.length_cons, List.length_nil, ldB b1, clB b1, ldBL b1, clBL b1]
            unfold X130_2
            try simp (disch := first | assumption | omega | (simp only [Int.ofNat_eq_natCast, neg_one]; done) | (simp only [Int.ofNat_eq_natCast, neg_one]; omega)) only [tysW, wB, mB, Nat.reduceAdd, Nat.reduceMul, List.length_cons, List.length_nil, ldB b1, clB b1, ldBL b1, clBL b1]
            unfold X130_1
            try simp (disch := first | assumption | omega | (simp only [Int.ofNat_eq_natCast, neg_one]; done) | (simp only [Int.ofNat_eq_natCast, neg_one]; omega)) only [tysW, wB, mB, Nat.reduceAdd, Nat.reduceMul, List.length_cons, List.length_nil, ldB b1, clB b1, ldBL b1, clBL b1]
            rw [decide_eq_false (by simp [e3])] at hk
            exact hk
      · try simp (disch := first | assumption | omega | (simp only [Int.ofNat_eq_natCast, neg_one]; done) | (simp only [Int.ofNat_eq_natCast, neg_one]; omega)) only [tysW, wB, mB, Nat.reduceAdd, Nat.reduceMul, List.length_cons, List.length_nil, ldB b1, clB b1, ldBL b1, clBL b1]
        unfold X130_2
        try simp (disch := first | assumption | omega | (simp only [Int.ofNat_eq_natCast, neg_one]; done) | (simp only [Int.ofNat_eq_natCast, neg_one]; omega)) only [tysW, wB, mB, Nat.reduceAdd, Nat.reduceMul, List.length_cons, List.length_nil, ldB b1, clB b1, ldBL b1, clBL b1]
        unfold X130_1
        try simp (disch := first | assumption | omega | (simp only [Int.ofNat_eq_natCast, neg_one]; done) | (simp only [Int.ofNat_eq_natCast, neg_one]; omega)) only [tysW, wB, mB, Nat.reduceAdd, Nat.reduceMul, List.length_cons, List.length_nil]
        rw [decide_eq_false (by omega)] at hk
        exact hk
    · try simp (disch := first | assumption | omega | (simp only [Int.ofNat_eq_natCast, neg_one]; done) | (simp only [Int.ofNat_eq_natCast, neg_one]; omega)) only [tysW, wB, mB, Nat.reduceAdd, Nat.reduceMul, List.length_cons, List.length_nil, ldB b1, clB b1, ldBL b1, clBL b1]
      unfold X130_2
      try simp (disch := first | assumption | omega | (simp only [Int.ofNat_eq_natCast, neg_one]; done) | (simp only [Int.ofNat_eq_natCast, neg_one]; omega)) only [tysW, wB, mB, Nat.reduceAdd, Nat.reduceMul, List.length_cons, List.length_nil]
      unfold X130_1
      try simp (disch := first | assumption | omega | (simp only [Int.ofNat_eq_natCast, neg_one]; done) | (simp only [Int.ofNat_eq_natCast, neg_one]; omega)) only [tysW, wB, mB, Nat.reduceAdd, Nat.reduceMul, List.length_cons, List.length_nil]
      rw [decide_eq_false (by omega)] at hk
      exact hk
  · try simp (disch := first | assumption | omega | (simp only [Int.ofNat_eq_natCast, neg_one]; done) | (simp only [Int.ofNat_eq_natCast, neg_one]; omega)) only [tysW, wB, mB, Nat.reduceAdd, Nat.reduceMul, List.length_cons, List.length_nil, ldB b1, clB b1, ldBL b1, clBL b1]
    unfold X130_2 X130_1
    try simp (disch := first | assumption | omega | (simp only [Int.ofNat_eq_natCast, neg_one]; done) | (simp only [Int.ofNat_eq_natCast, neg_one]; omega)) only [tysW, wB, mB, Nat.reduceAdd, Nat.reduceMul, List.length_cons, List.length_nil]
    rw [decide_eq_false (by simp [e1])] at hk
    exact hk
theorem s109 {fb : Nat} {l : List UInt8} (hb : h.get fb = some (.cells ⟨[str l]⟩ 114 (0, 0))) (c : UInt8) (em b : Bool) (hcon : ∀ (K : KV) (s : Nat), D N (d + 8) 93 [str l, str [c]] K s = K (.bool b) s) : ValS (D N (d + 9)) 109 [str [c], .bool em, ptr fb] h s (.bool (!em && !b)) := by
  refine ValS.of hf fun K pw Z g hp hk => ?_
  rw [D_109]; unfold F109; rw [app3_eq]
  have hk := hk _ _ g
  cases em with
  | true =>
    try simp (disch := first | assumption | omega | (simp only [Int.ofNat_eq_natCast, neg_one]; done) | (simp only [Int.ofNat_eq_natCast, neg_one]; omega)) only [tysW, wB, mB, Nat.reduceAdd, Nat.reduceMul, List.length_cons, List.length_nil]
    exact hk
  | false =>
    try simp (disch := first | assumption | omega | (simp only [Int.ofNat_eq_natCast, neg_one]; done) | (simp only [Int.ofNat_eq_natCast, neg_one]; omega)) only [tysW, wB, mB, Nat.reduceAdd, Nat.reduceMul, List.length_cons, List.length_nil, ldB hb, clB hb, ldBL hb, clBL hb]
    rw [hcon]
    try simp (disch := first | assumption | omega | (simp only [Int.ofNat_eq_natCast, neg_one]; done) | (simp only [Int.ofNat_eq_natCast, neg_one]; omega)) only [tysW, wB, mB, Nat.reduceAdd, Nat.reduceMul, List.length_cons, List.length_nil, w_not]
    exact hk
end
end Go.Ev.R
namespace Go.Ev.R
open Go Go.RowKit
section
variable (N : Nat) (C : CallT) (K : KV) (v2 v19 : Value) (s : Nat)
theorem bad36_5 : X36_5 N C K (.bool true) v2 v19 undef s = K (vi 2) s := rfl
theorem bad36_5' : X36_5 N C K (.bool false) v2 v19 (.bool true) s = K (vi 2) s := rfl
theorem bad36_4 : X36_4 N C K (.bool true) v2 v19 undef s = K (vi 2) s := rfl
theorem bad36_4' : X36_4 N C K (.bool false) v2 v19 (.bool true) s = K (vi 2) s := rfl
theorem bad36_3 : X36_3 N C K (.bool true) v2 v19 undef s = K (vi 2) s := rfl
theorem bad36_3' : X36_3 N C K (.bool false) v2 v19 (.bool true) s = K (vi 2) s := rfl
theorem bad36_2 : X36_2 N C K (.bool true) v2 v19 undef s = K (vi 2) s := rfl
theorem bad36_2' : X36_2 N C K (.bool false) v2 v19 (.bool true) s = K (vi 2) s := rfl
theorem bad36_1' : X36_1 N C K (.bool false) v2 v19 (.bool true) s = K (vi 2) s := rfl
end
theorem lk {a b : Bool} (h : (!a && !b) = false) : a = true ∨ b = true := by cases a <;> cases b <;> simp at h ⊢
section
variable {N d : Nat} (hN : N = 100000) {h : T} {s : Nat} (hf : ∀ n, s ≤ n → h.get n = none)
include hN hf
theorem s36 (x : TV) {pl : List Int} (r : Row EI h x.b.pp x.b.pn pl) (hpn : x.b.pn ≤ 1000) (hxn : x.b.xn ≤ 1000) : ValS (D N (d + 11)) 36 [.agg ⟨tvv x⟩] h s (vi (if badT x pl = true then 2 else 0)) := by
  refine ValS.of hf fun K pw Z g hp hk => ?_
  rw [D_36]; unfold F36; rw [app1_eq]
  refine wp_boxA g hp fun h1 g1 c1 b1 => ?_
  simp only [tvv] at b1
  refine PureS.goL g1 hp (s108 (d := d + 9) g1.fresh) fun v h2 s2 ts2 ws2 g2 c2 hv hw2 ht2 => ?_
  obtain ⟨m, rfl, hm, bm⟩ := hv
  have l2 := c2.le
  replace b1 := c2.box b1 (by omega)
  unfold X36_7
  try simp (disch := first | assumption | omega | (simp only [Int.ofNat_eq_natCast, neg_one]; done) | (simp only [Int.ofNat_eq_natCast, neg_one]; omega)) only [tysW, wB, mB, Nat.reduceAdd, Nat.reduceMul, List.length_cons, List.length_nil, ldB b1, clB b1, ldBL b1, clBL b1]
  refine log_wp (W := fun _ => False) (Q := fun v h' s' => v = .tuple ⟨[txt (telT x.kind), .bool (decide (1 ≤ x.kind ∧ x.kind ≤ 6))]⟩ ∧ h' = h2 ∧ s' = s2) ?_ (fun n hn => hn.elim) ?_
  · rw [wp_tel bm]
    exact ⟨_, _, rfl, rfl, rfl, rfl⟩
  rintro v h3 s3 ts3 ws3 ⟨rfl, rfl, rfl⟩ hw3 ht3
  replace hw3 : ∀ n ∈ ws3, s3 ≤ n ∧ n < s3 := fun n hn => (hw3 n hn).1.elim
  replace ht3 : ∀ n ∈ ts3, n < s3 := fun n hn => lt_of_some g2.fresh (ht3 n hn)
  try simp (disch := first | assumption | omega | (simp only [Int.ofNat_eq_natCast, neg_one]; done) | (simp only [Int.ofNat_eq_natCast, neg_one]; omega)) only [tysW, wB, mB, Nat.reduceAdd, Nat.reduceMul, List.length_cons, List.length_nil]
  refine wp_boxL g2 hp fun h4 g4 c4 b4 => ?_
  replace b1 := c4.box b1 (by omega)
  try simp (disch := first | assumption | omega | (simp only [Int.ofNat_eq_natCast, neg_one]; done) | (simp only [Int.ofNat_eq_natCast, neg_one]; omega)) only [tysW, wB, mB, Nat.reduceAdd, Nat.reduceMul, List.length_cons, List.length_nil]
  refine wp_putL g4 hp b4 (by omega) (by simp) rfl fun h5 g5 b5 e5 => ?_
  simp only [overL] at b5
  replace b1 := (e5 s (by omega)).trans b1
  unfold X36_6
  rw [wp_guard, if_pos (by repeat' (first | exact dynOk_nil _ _ | refine dyn_skip' ?_ | refine dyn_cons ?_ ?_ | exact allF_nil _ _ | refine allF_cons ?_ ?_ | exact disj_below hw2 (by omega) | exact disjA hw2 (by omega) | exact disjB hw2 (by omega) | exact disjC hw2 (by assumption) | exact disjD (fun m hm => by have := hw2 m hm; omega) | exact disj_below ht2 (by omega) | exact disjA ht2 (by omega) | exact disjB ht2 (by omega) | exact disjC ht2 (by assumption) | exact disjD (fun m hm => by have := ht2 m hm; omega) | exact disj_below hw3 (by omega) | exact disjA hw3 (by omega) | exact disjB hw3 (by omega) | exact disjC hw3 (by assumption) | exact disjD (fun m hm => by have := hw3 m hm; omega) | exact disj_below ht3 (by omega) | exact disjA ht3 (by omega) | exact disjB ht3 (by omega) | exact disjC ht3 (by assumption) | exact disjD (fun m hm => by have := ht3 m hm; omega) | exact disjN _ | exact disj1 (by omega) | exact disj2 (by omega) | exact disj3 (by assumption) | exact disjC hw2 (fun m hm => by have := ht2 m hm; omega) | exact disjC hw2 (fun m hm => by have := hw3 m hm; omega) | exact disjC hw2 (fun m hm => by have := ht3 m hm; omega) | exact disjC ht2 (fun m hm => by have := hw2 m hm; omega) | exact disjC ht2 (fun m hm => by have := hw3 m hm; omega) | exact disjC ht2 (fun m hm => by have := ht3 m hm; omega) | exact disjC hw3 (fun m hm => by have := hw2 m hm; omega) | exact disjC hw3 (fun m hm => by have := ht2 m hm; omega) | exact disjC hw3 (fun m hm => by have := ht3 m hm; omega) | exact disjC ht3 (fun m hm => by have := hw2 m hm; omega) | exact disjC ht3 (fun m hm => by have := ht2 m hm; omega) | exact disjC ht3 (fun m hm => by have := hw3 m hm; omega)))]
  have bad : ∀ {h' s'}, From s h h' s' → ¬ (FineT x pl ∧ ¬ LackT x) → (K (vi 2) s').wp pw Z h' := fun g hb => by
    have := hk _ _ g
    rw [if_pos (badT_yes hb)] at this; exact this
  have l3 : s + 1 ≤ s3 := l2
  by_cases f1 : 1 ≤ x.kind ∧ x.kind ≤ 6
  rotate_left
  · rw [decide_eq_false f1]
    try simp (disch := first | assumption | omega | (simp only [Int.ofNat_eq_natCast, neg_one]; done) | (simp only [Int.ofNat_eq_natCast, neg_one]; omega)) only [tysW, wB, mB, Nat.reduceAdd, Nat.reduceMul, List.length_cons, List.length_nil]
    rw [bad36_5]
    exact bad g5 fun hh => f1 hh.1.1
  rw [decide_eq_true f1]
  try simp (disch := first | assumption | omega | (simp only [Int.ofNat_eq_natCast, neg_one]; done) | (simp only [Int.ofNat_eq_natCast, neg_one]; omega)) only [tysW, wB, mB, Nat.reduceAdd, Nat.reduceMul, List.length_cons, List.length_nil, ldB b1, clB b1, ldBL b1, clBL b1]
  refine ValS.go g5 hp (s94 (d := d + 9) g5.fresh x.sen 255) fun h6 s6 g6 c6 => ?_
  have l6 := c6.le
  replace b1 := c6.box b1 (by omega)
  replace b5 := c6.box b5 (by omega)
  by_cases f2 : 0 ≤ x.sen ∧ x.sen ≤ 255
  rotate_left
  · rw [decide_eq_false f2]
    try simp (disch := first | assumption | omega | (simp only [Int.ofNat_eq_natCast, neg_one]; done) | (simp only [Int.ofNat_eq_natCast, neg_one]; omega)) only [tysW, wB, mB, Nat.reduceAdd, Nat.reduceMul, List.length_cons, List.length_nil]
    rw [bad36_5']
    exact bad g6 fun hh => f2 hh.1.2.1
  rw [decide_eq_true f2]
  try simp (disch := first | assumption | omega | (simp only [Int.ofNat_eq_natCast, neg_one]; done) | (simp only [Int.ofNat_eq_natCast, neg_one]; omega)) only [tysW, wB, mB, Nat.reduceAdd, Nat.reduceMul, List.length_cons, List.length_nil]
  unfold X36_5
  try simp (disch := first | assumption | omega | (simp only [Int.ofNat_eq_natCast, neg_one]; done) | (simp only [Int.ofNat_eq_natCast, neg_one]; omega)) only [tysW, wB, mB, Nat.reduceAdd, Nat.reduceMul, List.length_cons, List.length_nil, ldB b1, clB b1, ldBL b1, clBL b1]
  refine ValS.go g6 hp (s94 (d := d + 9) g6.fresh x.err 255) fun h7 s7 g7 c7 => ?_
  have l7 := c7.le
  replace b1 := c7.box b1 (by omega)
  replace b5 := c7.box b5 (by omega)
  by_cases f3 : 0 ≤ x.err ∧ x.err ≤ 255
  rotate_left
  · rw [decide_eq_false f3]
    try simp (disch := first | assumption | omega | (simp only [Int.ofNat_eq_natCast, neg_one]; done) | (simp only [Int.ofNat_eq_natCast, neg_one]; omega)) only [tysW, wB, mB, Nat.reduceAdd, Nat.reduceMul, List.length_cons, List.length_nil]
    rw [bad36_4]
    exact bad g7 fun hh => f3 hh.1.2.2.1
  rw [decide_eq_true f3]
  try simp (disch := first | assumption | omega | (simp only [Int.ofNat_eq_natCast, neg_one]; done) | (simp only [Int.ofNat_eq_natCast, neg_one]; omega)) only [tysW, wB, mB, Nat.reduceAdd, Nat.reduceMul, List.length_cons, List.length_nil, ldB b1, clB b1, ldBL b1, clBL b1]
  refine ValS.go g7 hp (s94 (d := d + 9) g7.fresh x.seq 2147483647) fun h8 s8 g8 c8 => ?_
  have l8 := c8.le
  replace b1 := c8.box b1 (by omega)
  replace b5 := c8.box b5 (by omega)
  by_cases f4 : 0 ≤ x.seq ∧ x.seq ≤ 2147483647
  rotate_left
  · rw [decide_eq_false f4]
    try simp (disch := first | assumption | omega | (simp only [Int.ofNat_eq_natCast, neg_one]; done) | (simp only [Int.ofNat_eq_natCast, neg_one]; omega)) only [tysW, wB, mB, Nat.reduceAdd, Nat.reduceMul, List.length_cons, List.length_nil]
    rw [bad36_4']
    exact bad g8 fun hh => f4 hh.1.2.2.2.1
  rw [decide_eq_true f4]
  try simp (disch := first | assumption | omega | (simp only [Int.ofNat_eq_natCast, neg_one]; done) | (simp only [Int.ofNat_eq_natCast, neg_one]; omega)) only [tysW, wB, mB, Nat.reduceAdd, Nat.reduceMul, List.length_cons, List.length_nil]
  unfold X36_4
  by_cases f5 : (24 : Int) < (x.nn : Int)
  · try simp (disch := first | assumption | omega | (simp only [Int.ofNat_eq_natCast, neg_one]; done) | (simp only [Int.ofNat_eq_natCast, neg_one]; omega)) only [tysW, wB, mB, Nat.reduceAdd, Nat.reduceMul, List.length_cons, List.length_nil, ldB b1, clB b1, ldBL b1, clBL b1]
    rw [bad36_3]
    exact bad g8 fun hh => by have := hh.1.2.2.2.2.1; omega
  try simp (disch := first | assumption | omega | (simp only [Int.ofNat_eq_natCast, neg_one]; done) | (simp only [Int.ofNat_eq_natCast, neg_one]; omega)) only [tysW, wB, mB, Nat.reduceAdd, Nat.reduceMul, List.length_cons, List.length_nil, ldB b1, clB b1, ldBL b1, clBL b1]
  refine ValS.go g8 hp (s110 (d := d + 9) hN g8.fresh x.b (g8.row hf r) hpn) fun h9 s9 g9 c9 => ?_
  have l9 := c9.le
  replace b1 := c9.box b1 (by omega)
  replace b5 := c9.box b5 (by omega)
  cases f6 : heldB x.b.xn x.b.pn pl with
  | false =>
    try simp (disch := first | assumption | omega | (simp only [Int.ofNat_eq_natCast, neg_one]; done) | (simp only [Int.ofNat_eq_natCast, neg_one]; omega)) only [tysW, wB, mB, Nat.reduceAdd, Nat.reduceMul, List.length_cons, List.length_nil]
    rw [bad36_3']
    exact bad g9 fun hh => by have := hh.1.2.2.2.2.2; rw [f6] at this; cases this
  | true =>
    have fine : FineT x pl := ⟨f1, f2, f3, f4, by omega, f6⟩
    have bad : ∀ {h' s'}, From s h h' s' → LackT x → (K (vi 2) s').wp pw Z h' := fun g hb => bad g fun hh => hh.2 hb
    try simp (disch := first | assumption | omega | (simp only [Int.ofNat_eq_natCast, neg_one]; done) | (simp only [Int.ofNat_eq_natCast, neg_one]; omega)) only [tysW, wB, mB, Nat.reduceAdd, Nat.reduceMul, List.length_cons, List.length_nil]
    unfold X36_3
    try simp (disch := first | assumption | omega | (simp only [Int.ofNat_eq_natCast, neg_one]; done) | (simp only [Int.ofNat_eq_natCast, neg_one]; omega)) only [tysW, wB, mB, Nat.reduceAdd, Nat.reduceMul, List.length_cons, List.length_nil, ldB b1, clB b1, ldBL b1, clBL b1, w_eq, iv_109]
    refine ValS.go g9 hp (s109 (d := d + 1) g9.fresh b5 115 (decide (x.sen = 0)) (!(decide (x.kind = 5 ∨ x.kind = 6))) fun K s => conT_s hN (d + 1) K s f1) fun h10 s10 g10 c10 => ?_
    have l10 := c10.le
    replace b1 := c10.box b1 (by omega)
    replace b5 := c10.box b5 (by omega)
    cases q1 : (!decide (x.sen = 0) && !(!(decide (x.kind = 5 ∨ x.kind = 6)))) with
    | true =>
      try simp (disch := first | assumption | omega | (simp only [Int.ofNat_eq_natCast, neg_one]; done) | (simp only [Int.ofNat_eq_natCast, neg_one]; omega)) only [tysW, wB, mB, Nat.reduceAdd, Nat.reduceMul, List.length_cons, List.length_nil]
      rw [bad36_2]
      refine bad g10 (.inl ?_)
      simp at q1; exact q1
    | false =>
      try simp (disch := first | assumption | omega | (simp only [Int.ofNat_eq_natCast, neg_one]; done) | (simp only [Int.ofNat_eq_natCast, neg_one]; omega)) only [tysW, wB, mB, Nat.reduceAdd, Nat.reduceMul, List.length_cons, List.length_nil, ldB b1, clB b1, ldBL b1, clBL b1, w_eq, iv_109]
      refine ValS.go g10 hp (s109 (d := d + 1) g10.fresh b5 113 (decide (x.seq = 0)) (!(decide (x.kind = 1))) fun K s => conT_q hN (d + 1) K s f1) fun h11 s11 g11 c11 => ?_
      have l11 := c11.le
      replace b1 := c11.box b1 (by omega)
      replace b5 := c11.box b5 (by omega)
      cases q2 : (!decide (x.seq = 0) && !(!(decide (x.kind = 1)))) with
      | true =>
        try simp (disch := first | assumption | omega | (simp only [Int.ofNat_eq_natCast, neg_one]; done) | (simp only [Int.ofNat_eq_natCast, neg_one]; omega)) only [tysW, wB, mB, Nat.reduceAdd, Nat.reduceMul, List.length_cons, List.length_nil]
        rw [bad36_2']
        refine bad g11 (.inr (.inl ?_))
        simp at q2; exact q2
      | false =>
        try simp (disch := first | assumption | omega | (simp only [Int.ofNat_eq_natCast, neg_one]; done) | (simp only [Int.ofNat_eq_natCast, neg_one]; omega)) only [tysW, wB, mB, Nat.reduceAdd, Nat.reduceMul, List.length_cons, List.length_nil]
        unfold X36_2
        try simp (disch := first | assumption | omega | (simp only [Int.ofNat_eq_natCast, neg_one]; done) | (simp only [Int.ofNat_eq_natCast, neg_one]; omega)) only [tysW, wB, mB, Nat.reduceAdd, Nat.reduceMul, List.length_cons, List.length_nil, ldB b1, clB b1, ldBL b1, clBL b1, w_eq, iv_109]
        refine ValS.go g11 hp (s109 (d := d + 1) g11.fresh b5 101 (decide (x.err = 0)) true fun K s => conT_e hN (d + 1) K s f1) fun h12 s12 g12 c12 => ?_
        have l12 := c12.le
        replace b1 := c12.box b1 (by omega)
        replace b5 := c12.box b5 (by omega)
        rw [show (!decide (x.err = 0) && !true) = false by simp]
        try simp (disch := first | assumption | omega | (simp only [Int.ofNat_eq_natCast, neg_one]; done) | (simp only [Int.ofNat_eq_natCast, neg_one]; omega)) only [tysW, wB, mB, Nat.reduceAdd, Nat.reduceMul, List.length_cons, List.length_nil, ldB b1, clB b1, ldBL b1, clBL b1, w_eq, iv_109]
        refine ValS.go g12 hp (s109 (d := d + 1) g12.fresh b5 110 (decide ((x.nn : Int) = 0)) (!(decide (x.kind = 1 ∨ x.kind = 5))) fun K s => conT_n hN (d + 1) K s f1) fun h13 s13 g13 c13 => ?_
        have l13 := c13.le
        replace b1 := c13.box b1 (by omega)
        replace b5 := c13.box b5 (by omega)
        cases q3 : (!decide ((x.nn : Int) = 0) && !(!(decide (x.kind = 1 ∨ x.kind = 5)))) with
        | true =>
          try simp (disch := first | assumption | omega | (simp only [Int.ofNat_eq_natCast, neg_one]; done) | (simp only [Int.ofNat_eq_natCast, neg_one]; omega)) only [tysW, wB, mB, Nat.reduceAdd, Nat.reduceMul, List.length_cons, List.length_nil]
          rw [bad36_1']
          refine bad g13 (.inr (.inr (.inl ?_)))
          simp at q3; exact q3
        | false =>
          try simp (disch := first | assumption | omega | (simp only [Int.ofNat_eq_natCast, neg_one]; done) | (simp only [Int.ofNat_eq_natCast, neg_one]; omega)) only [tysW, wB, mB, Nat.reduceAdd, Nat.reduceMul, List.length_cons, List.length_nil]
          unfold X36_1
          try simp (disch := first | assumption | omega | (simp only [Int.ofNat_eq_natCast, neg_one]; done) | (simp only [Int.ofNat_eq_natCast, neg_one]; omega)) only [tysW, wB, mB, Nat.reduceAdd, Nat.reduceMul, List.length_cons, List.length_nil, ldB b1, clB b1, ldBL b1, clBL b1, w_not, iv_109]
          refine ValS.go g13 hp (s109 (d := d + 1) g13.fresh b5 120 (!x.ex) (decide (x.kind = 5)) fun K s => conT_x hN (d + 1) K s f1) fun h14 s14 g14 c14 => ?_
          have l14 := c14.le
          replace b1 := c14.box b1 (by omega)
          replace b5 := c14.box b5 (by omega)
          cases q4 : (!(!x.ex) && !(decide (x.kind = 5))) with
          | true =>
            try simp (disch := first | assumption | omega | (simp only [Int.ofNat_eq_natCast, neg_one]; done) | (simp only [Int.ofNat_eq_natCast, neg_one]; omega)) only [tysW, wB, mB, Nat.reduceAdd, Nat.reduceMul, List.length_cons, List.length_nil]
            refine bad g14 (.inr (.inr (.inr (.inl ?_))))
            simp at q4; exact q4
          | false =>
            try simp (disch := first | assumption | omega | (simp only [Int.ofNat_eq_natCast, neg_one]; done) | (simp only [Int.ofNat_eq_natCast, neg_one]; omega)) only [tysW, wB, mB, Nat.reduceAdd, Nat.reduceMul, List.length_cons, List.length_nil, ldB b1, clB b1, ldBL b1, clBL b1, iv_109]
            refine ValS.go g14 hp (s111 (d := d + 9) g14.fresh x.b (by omega) (by omega)) fun h15 s15 g15 c15 => ?_
            have l15 := c15.le
            replace b5 := c15.box b5 (by omega)
            try simp (disch := first | assumption | omega | (simp only [Int.ofNat_eq_natCast, neg_one]; done) | (simp only [Int.ofNat_eq_natCast, neg_one]; omega)) only [tysW, wB, mB, Nat.reduceAdd, Nat.reduceMul, List.length_cons, List.length_nil, iv_109]
            refine ValS.go g15 hp (s109 (d := d + 1) g15.fresh b5 98 (empB x.b) (decide (x.kind = 5)) fun K s => conT_b hN (d + 1) K s f1) fun h16 s16 g16 c16 => ?_
            cases q5 : (!(empB x.b) && !(decide (x.kind = 5))) with
            | true =>
              try simp (disch := first | assumption | omega | (simp only [Int.ofNat_eq_natCast, neg_one]; done) | (simp only [Int.ofNat_eq_natCast, neg_one]; omega)) only [tysW, wB, mB, Nat.reduceAdd, Nat.reduceMul, List.length_cons, List.length_nil]
              refine bad g16 (.inr (.inr (.inr (.inr ?_))))
              simp at q5; exact q5
            | false =>
              try simp (disch := first | assumption | omega | (simp only [Int.ofNat_eq_natCast, neg_one]; done) | (simp only [Int.ofNat_eq_natCast, neg_one]; omega)) only [tysW, wB, mB, Nat.reduceAdd, Nat.reduceMul, List.length_cons, List.length_nil]
              have := hk _ _ g16
              rw [badT_no ⟨fine, ?_⟩] at this
              · exact this
              · have e1 := lk q1
                have e2 := lk q2
                have e3 := lk q3
                have e4 := lk q4
                have e5 := lk q5
                simp at e1 e2 e3 e4 e5
                rintro (⟨a, b⟩ | ⟨a, b⟩ | ⟨a, b⟩ | ⟨a, b⟩ | ⟨a, b⟩)
                · rcases e1 with e | e
                  · exact a e
                  · omega
                · rcases e2 with e | e
                  · exact a e
                  · exact e b
                · rcases e3 with e | e
                  · exact a e
                  · omega
                · rcases e4 with e | e
                  · rw [e] at a; cases a
                  · exact b e
                · rcases e5 with e | e
                  · rw [e] at a; cases a
                  · exact b e
end
end Go.Ev.R
namespace Go.Ev.R
open Go Go.RowKit
section
variable (N : Nat) (C : CallT) (K : KV) (v2 v5 x y : Value) (s : Nat)
theorem no67_7 : X67_7 N C K (.bool false) v2 v5 undef s = K (vi 2) s := rfl
theorem no67_7' : X67_7 N C K (.bool true) v2 v5 (.bool false) s = K (vi 2) s := rfl
theorem no67_6 : X67_6 N C K (.bool false) v2 v5 undef s = K (vi 2) s := rfl
theorem no67_6' : X67_6 N C K (.bool true) v2 v5 (.bool false) s = K (vi 2) s := rfl
theorem no67_5 : X67_5 N C K (.bool false) v2 v5 undef s = K (vi 2) s := rfl
theorem no67_5' : X67_5 N C K (.bool true) v2 v5 (.bool false) s = K (vi 2) s := rfl
theorem bad67_4 : X67_4 N C K (.bool false) v2 v5 (.bool true) s = K (vi 2) s := rfl
theorem bad67_3 : X67_3 N C K (.bool false) v2 v5 (.bool true) s = K (vi 2) s := rfl
theorem bad67_2 : X67_2 N C K (.bool false) v2 v5 (.bool true) (.bool true) s = K (vi 2) s := rfl
end
section
variable {N d : Nat} (hN : N = 100000) {h : T} {s : Nat} (hf : ∀ n, s ≤ n → h.get n = none)
include hN hf
theorem s67 (x : TV) {pl : List Int} (r : Row EI h x.b.pp x.b.pn pl) (hpn : x.b.pn ≤ 1000) (hxn : x.b.xn ≤ 1000) : ValS (D N (d + 11)) 67 [.agg ⟨tvv x⟩] h s (vi (if badT x pl = true then 2 else 0)) := by
  refine ValS.of hf fun K pw Z g hp hk => ?_
  rw [D_67]; unfold F67; rw [app1_eq]
  refine wp_boxA g hp fun h1 g1 c1 b1 => ?_
  simp only [tvv] at b1
  try simp (disch := first | assumption | omega | (simp only [Int.ofNat_eq_natCast, neg_one]; done) | (simp only [Int.ofNat_eq_natCast, neg_one]; omega)) only [tysW, wB, mB, Nat.reduceAdd, Nat.reduceMul, List.length_cons, List.length_nil, ldB b1, clB b1, ldBL b1, clBL b1]
  refine ValS.go g1 hp (s126 (d := d + 9) g1.fresh x.kind) fun h2 s2 g2 c2 => ?_
  replace b1 := c2.box b1 (by omega)
  have l2 := c2.le
  rw [ne_mrk]
  have bad : ∀ {h' s'}, From s h h' s' → ¬ (FineT x pl ∧ ¬ LackT x) → (K (vi 2) s').wp pw Z h' := fun g hb => by
    have := hk _ _ g
    rw [if_pos (badT_yes hb)] at this; exact this
  by_cases f1 : 1 ≤ x.kind ∧ x.kind ≤ 6
  rotate_left
  · rw [decide_eq_false f1]
    try simp (disch := first | assumption | omega | (simp only [Int.ofNat_eq_natCast, neg_one]; done) | (simp only [Int.ofNat_eq_natCast, neg_one]; omega)) only [tysW, wB, mB, Nat.reduceAdd, Nat.reduceMul, List.length_cons, List.length_nil]
    rw [no67_7]
    exact bad g2 fun hh => f1 hh.1.1
  rw [decide_eq_true f1]
  try simp (disch := first | assumption | omega | (simp only [Int.ofNat_eq_natCast, neg_one]; done) | (simp only [Int.ofNat_eq_natCast, neg_one]; omega)) only [tysW, wB, mB, Nat.reduceAdd, Nat.reduceMul, List.length_cons, List.length_nil, ldB b1, clB b1, ldBL b1, clBL b1]
  refine ValS.go g2 hp (s95 (d := d + 9) g2.fresh x.sen) fun h3 s3 g3 c3 => ?_
  have l3 := c3.le
  replace b1 := c3.box b1 (by omega)
  by_cases f2 : 0 ≤ x.sen ∧ x.sen ≤ 255
  rotate_left
  · rw [decide_eq_false f2, no67_7']
    exact bad g3 fun hh => f2 hh.1.2.1
  rw [decide_eq_true f2]
  unfold X67_7
  try simp (disch := first | assumption | omega | (simp only [Int.ofNat_eq_natCast, neg_one]; done) | (simp only [Int.ofNat_eq_natCast, neg_one]; omega)) only [tysW, wB, mB, Nat.reduceAdd, Nat.reduceMul, List.length_cons, List.length_nil, ldB b1, clB b1, ldBL b1, clBL b1]
  refine ValS.go g3 hp (s96 (d := d + 9) g3.fresh x.seq) fun h4 s4 g4 c4 => ?_
  have l4 := c4.le
  replace b1 := c4.box b1 (by omega)
  by_cases f4 : 0 ≤ x.seq ∧ x.seq ≤ 2147483647
  rotate_left
  · rw [decide_eq_false f4]
    try simp (disch := first | assumption | omega | (simp only [Int.ofNat_eq_natCast, neg_one]; done) | (simp only [Int.ofNat_eq_natCast, neg_one]; omega)) only [tysW, wB, mB, Nat.reduceAdd, Nat.reduceMul, List.length_cons, List.length_nil]
    rw [no67_6]
    exact bad g4 fun hh => f4 hh.1.2.2.2.1
  rw [decide_eq_true f4]
  try simp (disch := first | assumption | omega | (simp only [Int.ofNat_eq_natCast, neg_one]; done) | (simp only [Int.ofNat_eq_natCast, neg_one]; omega)) only [tysW, wB, mB, Nat.reduceAdd, Nat.reduceMul, List.length_cons, List.length_nil, ldB b1, clB b1, ldBL b1, clBL b1]
  refine ValS.go g4 hp (s95 (d := d + 9) g4.fresh x.err) fun h5 s5 g5 c5 => ?_
  have l5 := c5.le
  replace b1 := c5.box b1 (by omega)
  by_cases f3 : 0 ≤ x.err ∧ x.err ≤ 255
  rotate_left
  · rw [decide_eq_false f3, no67_6']
    exact bad g5 fun hh => f3 hh.1.2.2.1
  rw [decide_eq_true f3]
  unfold X67_6
  by_cases f5 : (x.nn : Int) ≤ 24
  rotate_left
  · try simp (disch := first | assumption | omega | (simp only [Int.ofNat_eq_natCast, neg_one]; done) | (simp only [Int.ofNat_eq_natCast, neg_one]; omega)) only [tysW, wB, mB, Nat.reduceAdd, Nat.reduceMul, List.length_cons, List.length_nil, ldB b1, clB b1, ldBL b1, clBL b1]
    rw [no67_5]
    exact bad g5 fun hh => by have := hh.1.2.2.2.2.1; omega
  try simp (disch := first | assumption | omega | (simp only [Int.ofNat_eq_natCast, neg_one]; done) | (simp only [Int.ofNat_eq_natCast, neg_one]; omega)) only [tysW, wB, mB, Nat.reduceAdd, Nat.reduceMul, List.length_cons, List.length_nil, ldB b1, clB b1, ldBL b1, clBL b1]
  refine ValS.go g5 hp (s129 (d := d + 9) hN g5.fresh x.b (g5.row hf r) hpn) fun h6 s6 g6 c6 => ?_
  have l6 := c6.le
  replace b1 := c6.box b1 (by omega)
  cases f6 : heldB x.b.xn x.b.pn pl with
  | false =>
    rw [no67_5']
    exact bad g6 fun hh => by have := hh.1.2.2.2.2.2; rw [f6] at this; cases this
  | true =>
    have fine : FineT x pl := ⟨f1, f2, f3, f4, by omega, f6⟩
    have bad : ∀ {h' s'}, From s h h' s' → LackT x → (K (vi 2) s').wp pw Z h' := fun g hb => bad g fun hh => hh.2 hb
    have ok : ∀ {h' s'}, From s h h' s' → ¬ LackT x → (K (vi 0) s').wp pw Z h' := fun g hl => by
      have := hk _ _ g
      rw [badT_no ⟨fine, hl⟩] at this; exact this
    have t2 : (x.kind = 5 ∨ x.kind = 6 → x.sen = 0) → (x.kind = 1 → x.seq = 0) → (x.kind = 1 ∨ x.kind = 5 → x.nn = 0) → ∀ (a : Bool) (b : Value), (a = true → b = .bool false) → (X67_2 N (D N (d + 10)) K (.bool false) (ptr s) (str (mrkT x.kind)) (.bool a) b s6).wp pw Z h6 := by
      intro z1 z2 z3 a b hab
      unfold X67_2
      have e : ∀ (k : KV) (s : Nat), pickX (.bool a) b (.bool false) k s = k (.bool false) s := by
        intro k s
        cases a with
        | true => rw [hab rfl]; rfl
        | false => rfl
      try simp (disch := first | assumption | omega | (simp only [Int.ofNat_eq_natCast, neg_one]; done) | (simp only [Int.ofNat_eq_natCast, neg_one]; omega)) only [tysW, wB, mB, Nat.reduceAdd, Nat.reduceMul, List.length_cons, List.length_nil, e]
      rw [hasT_x hN (d + 9) _ _ f1]
      by_cases h5 : x.kind = 5
      · rw [decide_eq_true h5]
        try simp (disch := first | assumption | omega | (simp only [Int.ofNat_eq_natCast, neg_one]; done) | (simp only [Int.ofNat_eq_natCast, neg_one]; omega)) only [tysW, wB, mB, Nat.reduceAdd, Nat.reduceMul, List.length_cons, List.length_nil]
        unfold X67_1
        try simp (disch := first | assumption | omega | (simp only [Int.ofNat_eq_natCast, neg_one]; done) | (simp only [Int.ofNat_eq_natCast, neg_one]; omega)) only [tysW, wB, mB, Nat.reduceAdd, Nat.reduceMul, List.length_cons, List.length_nil]
        refine ok g6 ?_
        rintro (⟨a, b⟩ | ⟨a, b⟩ | ⟨a, b⟩ | ⟨a, b⟩ | ⟨a, b⟩)
        · exact a (z1 b)
        · exact a (z2 b)
        · exact a (z3 b)
        · exact b h5
        · exact b h5
      · rw [decide_eq_false h5]
        cases hex : x.ex with
        | true =>
          rw [hex] at b1
          try simp (disch := first | assumption | omega | (simp only [Int.ofNat_eq_natCast, neg_one]; done) | (simp only [Int.ofNat_eq_natCast, neg_one]; omega)) only [tysW, wB, mB, Nat.reduceAdd, Nat.reduceMul, List.length_cons, List.length_nil, ldB b1, clB b1, ldBL b1, clBL b1]
          unfold X67_1
          try simp (disch := first | assumption | omega | (simp only [Int.ofNat_eq_natCast, neg_one]; done) | (simp only [Int.ofNat_eq_natCast, neg_one]; omega)) only [tysW, wB, mB, Nat.reduceAdd, Nat.reduceMul, List.length_cons, List.length_nil]
          exact bad g6 (.inr (.inr (.inr (.inl ⟨hex, h5⟩))))
        | false =>
          rw [hex] at b1
          try simp (disch := first | assumption | omega | (simp only [Int.ofNat_eq_natCast, neg_one]; done) | (simp only [Int.ofNat_eq_natCast, neg_one]; omega)) only [tysW, wB, mB, Nat.reduceAdd, Nat.reduceMul, List.length_cons, List.length_nil, ldB b1, clB b1, ldBL b1, clBL b1]
          unfold X67_1
          try simp (disch := first | assumption | omega | (simp only [Int.ofNat_eq_natCast, neg_one]; done) | (simp only [Int.ofNat_eq_natCast, neg_one]; omega)) only [tysW, wB, mB, Nat.reduceAdd, Nat.reduceMul, List.length_cons, List.length_nil, ldB b1, clB b1, ldBL b1, clBL b1]
          refine ValS.go g6 hp (s130 (d := d + 9) g6.fresh x.b) fun h7 s7 g7 c7 => ?_
          cases hem : empB x.b with
          | false =>
            try simp (disch := first | assumption | omega | (simp only [Int.ofNat_eq_natCast, neg_one]; done) | (simp only [Int.ofNat_eq_natCast, neg_one]; omega)) only [tysW, wB, mB, Nat.reduceAdd, Nat.reduceMul, List.length_cons, List.length_nil]
            exact bad g7 (.inr (.inr (.inr (.inr ⟨hem, h5⟩))))
          | true =>
            try simp (disch := first | assumption | omega | (simp only [Int.ofNat_eq_natCast, neg_one]; done) | (simp only [Int.ofNat_eq_natCast, neg_one]; omega)) only [tysW, wB, mB, Nat.reduceAdd, Nat.reduceMul, List.length_cons, List.length_nil]
            refine ok g7 ?_
            rintro (⟨a, b⟩ | ⟨a, b⟩ | ⟨a, b⟩ | ⟨a, b⟩ | ⟨a, b⟩)
            · exact a (z1 b)
            · exact a (z2 b)
            · exact a (z3 b)
            · rw [hex] at a; cases a
            · rw [hem] at a; cases a
    have t3 : (x.kind = 5 ∨ x.kind = 6 → x.sen = 0) → (x.kind = 1 → x.seq = 0) → (X67_3 N (D N (d + 10)) K (.bool false) (ptr s) (str (mrkT x.kind)) (.bool false) s6).wp pw Z h6 := by
      intro z1 z2
      unfold X67_3
      try simp (disch := first | assumption | omega | (simp only [Int.ofNat_eq_natCast, neg_one]; done) | (simp only [Int.ofNat_eq_natCast, neg_one]; omega)) only [tysW, wB, mB, Nat.reduceAdd, Nat.reduceMul, List.length_cons, List.length_nil]
      rw [hasT_n hN (d + 9) _ _ f1]
      cases hd : decide (x.kind = 1 ∨ x.kind = 5) with
      | true =>
        have hd' := of_decide_eq_true hd
        by_cases hz : (0 : Int) < (x.nn : Int)
        · try simp (disch := first | assumption | omega | (simp only [Int.ofNat_eq_natCast, neg_one]; done) | (simp only [Int.ofNat_eq_natCast, neg_one]; omega)) only [tysW, wB, mB, Nat.reduceAdd, Nat.reduceMul, List.length_cons, List.length_nil, ldB b1, clB b1, ldBL b1, clBL b1, w_not, Bool.not_true, Bool.not_false]
          rw [bad67_2]
          exact bad g6 (.inr (.inr (.inl ⟨by omega, hd'⟩)))
        · try simp (disch := first | assumption | omega | (simp only [Int.ofNat_eq_natCast, neg_one]; done) | (simp only [Int.ofNat_eq_natCast, neg_one]; omega)) only [tysW, wB, mB, Nat.reduceAdd, Nat.reduceMul, List.length_cons, List.length_nil, ldB b1, clB b1, ldBL b1, clBL b1, w_not, Bool.not_true, Bool.not_false]
          exact t2 z1 z2 (fun _ => by omega) true _ fun _ => rfl
      | false =>
        have hd' := of_decide_eq_false hd
        try simp (disch := first | assumption | omega | (simp only [Int.ofNat_eq_natCast, neg_one]; done) | (simp only [Int.ofNat_eq_natCast, neg_one]; omega)) only [tysW, wB, mB, Nat.reduceAdd, Nat.reduceMul, List.length_cons, List.length_nil, ldB b1, clB b1, ldBL b1, clBL b1, w_not, Bool.not_true, Bool.not_false]
        exact t2 z1 z2 (fun h => absurd h hd') false _ fun h => by cases h
    have t4 : (x.kind = 5 ∨ x.kind = 6 → x.sen = 0) → (X67_4 N (D N (d + 10)) K (.bool false) (ptr s) (str (mrkT x.kind)) (.bool false) s6).wp pw Z h6 := by
      intro z1
      unfold X67_4
      try simp (disch := first | assumption | omega | (simp only [Int.ofNat_eq_natCast, neg_one]; done) | (simp only [Int.ofNat_eq_natCast, neg_one]; omega)) only [tysW, wB, mB, Nat.reduceAdd, Nat.reduceMul, List.length_cons, List.length_nil]
      rw [hasT_q hN (d + 9) _ _ f1]
      cases hd : decide (x.kind = 1) with
      | true =>
        have hd' := of_decide_eq_true hd
        by_cases hz : x.seq = 0
        · try simp (disch := first | assumption | omega | (simp only [Int.ofNat_eq_natCast, neg_one]; done) | (simp only [Int.ofNat_eq_natCast, neg_one]; omega)) only [tysW, wB, mB, Nat.reduceAdd, Nat.reduceMul, List.length_cons, List.length_nil, ldB b1, clB b1, ldBL b1, clBL b1, w_not, Bool.not_true, Bool.not_false]
          exact t3 z1 fun _ => hz
        · try simp (disch := first | assumption | omega | (simp only [Int.ofNat_eq_natCast, neg_one]; done) | (simp only [Int.ofNat_eq_natCast, neg_one]; omega)) only [tysW, wB, mB, Nat.reduceAdd, Nat.reduceMul, List.length_cons, List.length_nil, ldB b1, clB b1, ldBL b1, clBL b1, w_not, Bool.not_true, Bool.not_false]
          rw [bad67_3]
          exact bad g6 (.inr (.inl ⟨hz, hd'⟩))
      | false =>
        have hd' := of_decide_eq_false hd
        try simp (disch := first | assumption | omega | (simp only [Int.ofNat_eq_natCast, neg_one]; done) | (simp only [Int.ofNat_eq_natCast, neg_one]; omega)) only [tysW, wB, mB, Nat.reduceAdd, Nat.reduceMul, List.length_cons, List.length_nil, ldB b1, clB b1, ldBL b1, clBL b1, w_not, Bool.not_true, Bool.not_false]
        exact t3 z1 fun h => absurd h hd'
    unfold X67_5
    try simp (disch := first | assumption | omega | (simp only [Int.ofNat_eq_natCast, neg_one]; done) | (simp only [Int.ofNat_eq_natCast, neg_one]; omega)) only [tysW, wB, mB, Nat.reduceAdd, Nat.reduceMul, List.length_cons, List.length_nil]
    rw [hasT_s hN (d + 9) _ _ f1]
    cases hd : decide (x.kind = 5 ∨ x.kind = 6) with
    | true =>
      have hd' := of_decide_eq_true hd
      by_cases hz : x.sen = 0
      · try simp (disch := first | assumption | omega | (simp only [Int.ofNat_eq_natCast, neg_one]; done) | (simp only [Int.ofNat_eq_natCast, neg_one]; omega)) only [tysW, wB, mB, Nat.reduceAdd, Nat.reduceMul, List.length_cons, List.length_nil, ldB b1, clB b1, ldBL b1, clBL b1, w_not, Bool.not_true, Bool.not_false]
        exact t4 fun _ => hz
      · try simp (disch := first | assumption | omega | (simp only [Int.ofNat_eq_natCast, neg_one]; done) | (simp only [Int.ofNat_eq_natCast, neg_one]; omega)) only [tysW, wB, mB, Nat.reduceAdd, Nat.reduceMul, List.length_cons, List.length_nil, ldB b1, clB b1, ldBL b1, clBL b1, w_not, Bool.not_true, Bool.not_false]
        rw [bad67_4]
        exact bad g6 (.inl ⟨hz, hd'⟩)
    | false =>
      have hd' := of_decide_eq_false hd
      try simp (disch := first | assumption | omega | (simp only [Int.ofNat_eq_natCast, neg_one]; done) | (simp only [Int.ofNat_eq_natCast, neg_one]; omega)) only [tysW, wB, mB, Nat.reduceAdd, Nat.reduceMul, List.length_cons, List.length_nil, ldB b1, clB b1, ldBL b1, clBL b1, w_not, Bool.not_true, Bool.not_false]
      exact t4 fun h => absurd h hd'
end
end Go.Ev.R
namespace Go.Ev.R
open Go Go.RowKit
/-- How many they are. -/
def tri (n : Nat) : Nat := if n = 0 then 0 else if n = 1 then 1 else if n = 2 then 3 else if n = 3 then 6 else if n = 4 then 10 else if n = 5 then 15 else 21
theorem tri_le (n : Nat) : tri n ≤ 21 := by
  unfold tri
  split
  · omega
  split
  · omega
  split
  · omega
  split
  · omega
  split
  · omega
  split <;> omega
section
variable {N d : Nat} (hN : 100000 ≤ N) {h0 h : T} {s0 s t : Nat} {K : KV} {pw : Nat → Prop} {Z : Value → T → Prop} (g : From s0 h0 h s) (hp : ∀ n, s0 ≤ n → pw n) {wb : Nat} (hwb : s0 ≤ wb) {p : Option Addr} {len : Nat} {b : List Int} (hw : h.get wb = some (.cells ⟨[.slice p len len, .bool false]⟩ 111 (0, 0))) (r : Sl EB h p len len b)
include hN g hp hwb hw r
end
section
variable {N d : Nat} {h : T} {s : Nat} (hf : ∀ n, s ≤ n → h.get n = none)
include hf
end
section
variable {N d : Nat} (hN : N = 100000) {h : T} {s : Nat} (hf : ∀ n, s ≤ n → h.get n = none)
include hN hf
end
end Go.Ev.R
namespace Go.Ev.R
open Go Go.RowKit
section
variable {N d : Nat} (hN : N = 100000) {h0 h : T} {s0 s : Nat} {K : KV} {pw : Nat → Prop} {Z : Value → T → Prop} (g : From s0 h0 h s) (hp : ∀ n, s0 ≤ n → pw n) {wb : Nat} (hwb : s0 ≤ wb) {p : Option Addr} {len : Nat} {bs : List Int} (hw : h.get wb = some (.cells ⟨[.slice p len len, .bool false]⟩ 111 (0, 0))) (r : Sl EB h p len len bs)
include hN g hp hwb hw r
end
end Go.Ev.R
namespace Go.Ev.R
open Go Go.RowKit
/-- The telling's lists, in a heap. -/
structure ListsT (h : T) (x : TV) (nl xl pl : List Int) : Prop where
  n : Row EI h x.np x.nn nl
  y : Row EI h x.b.xp x.b.xn xl
  p : Sl EI h x.b.pp x.b.pn x.b.pc pl
theorem ListsT.from {h h' : T} {s0 s : Nat} {x : TV} {nl xl pl : List Int} (r : ListsT h x nl xl pl) (hf : ∀ n, s0 ≤ n → h.get n = none) (g : From s0 h h' s) : ListsT h' x nl xl pl := ⟨g.row hf r.n, g.row hf r.y, r.p.from hf g⟩
section
variable {N d : Nat} (hN : N = 100000) {h : T} {s : Nat} (hf : ∀ n, s ≤ n → h.get n = none)
include hN hf
end
end Go.Ev.R
namespace Go.Ev.R
open Go Go.RowKit
def sameB (a b : BV) (xl pl xl' pl' : List Int) : Bool := decide (a.time = b.time ∧ xl = xl' ∧ pl = pl' ∧ a.flag = b.flag ∧ a.pass = b.pass ∧ a.fail = b.fail)
def sameT (x y : TV) (nl xl pl nl' xl' pl' : List Int) : Bool := decide (x.kind = y.kind ∧ x.sen = y.sen ∧ x.seq = y.seq ∧ x.err = y.err ∧ nl = nl' ∧ x.ex = y.ex ∧ sameB x.b y.b xl pl xl' pl' = true)
section
variable {N d : Nat} {h : T} {s : Nat} (hf : ∀ n, s ≤ n → h.get n = none)
include hf
end
section
variable {N d : Nat} (hN : 100000 ≤ N) {h : T} {s : Nat} (hf : ∀ n, s ≤ n → h.get n = none)
include hN hf
theorem s131 (a b : BV) {xl pl xl' pl' : List Int} (rx : Row EI h a.xp a.xn xl) (rp : Row EI h a.pp a.pn pl) (rx' : Row EI h b.xp b.xn xl') (rp' : Row EI h b.pp b.pn pl') (h1 : a.xn ≤ 1000) (h2 : a.pn ≤ 1000) : ValS (D N (d + 2)) 131 [.agg ⟨bvv a⟩, .agg ⟨bvv b⟩] h s (.bool (sameB a b xl pl xl' pl')) := by
  refine ValS.of hf fun K pw Z g hp hk => ?_
  rw [D_131]; unfold F131; rw [app2_eq]
  refine wp_boxA g hp fun h1 g1 c1 b1 => ?_
  refine wp_boxA g1 hp fun h2 g2 c2 b2 => ?_
  replace b1 := c2.box b1 (by omega)
  simp only [bvv] at b1 b2
  unfold sameB at hk
  by_cases e1 : a.time = b.time
  rotate_left
  · try simp (disch := first | assumption | omega | (simp only [Int.ofNat_eq_natCast, neg_one]; done) | (simp only [Int.ofNat_eq_natCast, neg_one]; omega)) only [tysW, wB, mB, Nat.reduceAdd, Nat.reduceMul, List.length_cons, List.length_nil, ldB b1, clB b1, ldBL b1, clBL b1, ldB b2, clB b2, ldBL b2, clBL b2]
    unfold X131_2 X131_1
    try simp (disch := first | assumption | omega | (simp only [Int.ofNat_eq_natCast, neg_one]; done) | (simp only [Int.ofNat_eq_natCast, neg_one]; omega)) only [tysW, wB, mB, Nat.reduceAdd, Nat.reduceMul, List.length_cons, List.length_nil]
    have hk := hk _ _ g2
    rw [decide_eq_false (by simp [e1])] at hk
    exact hk
  try simp (disch := first | assumption | omega | (simp only [Int.ofNat_eq_natCast, neg_one]; done) | (simp only [Int.ofNat_eq_natCast, neg_one]; omega)) only [tysW, wB, mB, Nat.reduceAdd, Nat.reduceMul, List.length_cons, List.length_nil, ldB b1, clB b1, ldBL b1, clBL b1, ldB b2, clB b2, ldBL b2, clBL b2]
  refine ValS.go g2 hp (s98 (d := d) hN g2.fresh (g2.row hf rx) (g2.row hf rx') (by omega)) fun h3 s3 g3 c3 => ?_
  replace b1 := c3.box b1 (by omega)
  replace b2 := c3.box b2 (by omega)
  have l3 := c3.le
  by_cases e2 : xl = xl'
  rotate_left
  · rw [decide_eq_false e2]
    unfold X131_2
    try simp (disch := first | assumption | omega | (simp only [Int.ofNat_eq_natCast, neg_one]; done) | (simp only [Int.ofNat_eq_natCast, neg_one]; omega)) only [tysW, wB, mB, Nat.reduceAdd, Nat.reduceMul, List.length_cons, List.length_nil]
    unfold X131_1
    try simp (disch := first | assumption | omega | (simp only [Int.ofNat_eq_natCast, neg_one]; done) | (simp only [Int.ofNat_eq_natCast, neg_one]; omega)) only [tysW, wB, mB, Nat.reduceAdd, Nat.reduceMul, List.length_cons, List.length_nil]
    have hk := hk _ _ g3
    rw [decide_eq_false (by simp [e2])] at hk
    exact hk
  rw [decide_eq_true e2]
  unfold X131_2
  try simp (disch := first | assumption | omega | (simp only [Int.ofNat_eq_natCast, neg_one]; done) | (simp only [Int.ofNat_eq_natCast, neg_one]; omega)) only [tysW, wB, mB, Nat.reduceAdd, Nat.reduceMul, List.length_cons, List.length_nil, ldB b1, clB b1, ldBL b1, clBL b1, ldB b2, clB b2, ldBL b2, clBL b2]
  refine ValS.go g3 hp (s98 (d := d) hN g3.fresh (g3.row hf rp) (g3.row hf rp') (by omega)) fun h4 s4 g4 c4 => ?_
  replace b1 := c4.box b1 (by omega)
  replace b2 := c4.box b2 (by omega)
  have l4 := c4.le
  by_cases e3 : pl = pl'
  rotate_left
  · rw [decide_eq_false e3]
    try simp (disch := first | assumption | omega | (simp only [Int.ofNat_eq_natCast, neg_one]; done) | (simp only [Int.ofNat_eq_natCast, neg_one]; omega)) only [tysW, wB, mB, Nat.reduceAdd, Nat.reduceMul, List.length_cons, List.length_nil]
    unfold X131_1
    try simp (disch := first | assumption | omega | (simp only [Int.ofNat_eq_natCast, neg_one]; done) | (simp only [Int.ofNat_eq_natCast, neg_one]; omega)) only [tysW, wB, mB, Nat.reduceAdd, Nat.reduceMul, List.length_cons, List.length_nil]
    have hk := hk _ _ g4
    rw [decide_eq_false (by simp [e3])] at hk
    exact hk
  rw [decide_eq_true e3]
  have hk := hk _ _ g4
  by_cases e4 : a.flag = b.flag
  rotate_left
  · have q : (a.flag == b.flag) = false := by simpa using e4
    try simp (disch := first | assumption | omega | (simp only [Int.ofNat_eq_natCast, neg_one]; done) | (simp only [Int.ofNat_eq_natCast, neg_one]; omega)) only [tysW, wB, mB, Nat.reduceAdd, Nat.reduceMul, List.length_cons, List.length_nil, ldB b1, clB b1, ldBL b1, clBL b1, ldB b2, clB b2, ldBL b2, clBL b2, eqb_4, q]
    unfold X131_1
    try simp (disch := first | assumption | omega | (simp only [Int.ofNat_eq_natCast, neg_one]; done) | (simp only [Int.ofNat_eq_natCast, neg_one]; omega)) only [tysW, wB, mB, Nat.reduceAdd, Nat.reduceMul, List.length_cons, List.length_nil]
    rw [decide_eq_false (by simp [e4])] at hk
    exact hk
  have q : (a.flag == b.flag) = true := by simpa using e4
  by_cases e5 : a.pass = b.pass
  rotate_left
  · try simp (disch := first | assumption | omega | (simp only [Int.ofNat_eq_natCast, neg_one]; done) | (simp only [Int.ofNat_eq_natCast, neg_one]; omega)) only [tysW, wB, mB, Nat.reduceAdd, Nat.reduceMul, List.length_cons, List.length_nil, ldB b1, clB b1, ldBL b1, clBL b1, ldB b2, clB b2, ldBL b2, clBL b2, eqb_4, q]
    unfold X131_1
    try simp (disch := first | assumption | omega | (simp only [Int.ofNat_eq_natCast, neg_one]; done) | (simp only [Int.ofNat_eq_natCast, neg_one]; omega)) only [tysW, wB, mB, Nat.reduceAdd, Nat.reduceMul, List.length_cons, List.length_nil, ldB b1, clB b1, ldBL b1, clBL b1, ldB b2, clB b2, ldBL b2, clBL b2]
    rw [decide_eq_false (by simp [e5])] at hk
    exact hk
  by_cases e6 : a.fail = b.fail
  · try simp (disch := first | assumption | omega | (simp only [Int.ofNat_eq_natCast, neg_one]; done) | (simp only [Int.ofNat_eq_natCast, neg_one]; omega)) only [tysW, wB, mB, Nat.reduceAdd, Nat.reduceMul, List.length_cons, List.length_nil, ldB b1, clB b1, ldBL b1, clBL b1, ldB b2, clB b2, ldBL b2, clBL b2, eqb_4, q]
    unfold X131_1
    try simp (disch := first | assumption | omega | (simp only [Int.ofNat_eq_natCast, neg_one]; done) | (simp only [Int.ofNat_eq_natCast, neg_one]; omega)) only [tysW, wB, mB, Nat.reduceAdd, Nat.reduceMul, List.length_cons, List.length_nil, ldB b1, clB b1, ldBL b1, clBL b1, ldB b2, clB b2, ldBL b2, clBL b2]
    rw [decide_eq_true ⟨e1, e2, e3, e4, e5, e6⟩] at hk
    exact hk
  · try simp (disch := first | assumption | omega | (simp only [Int.ofNat_eq_natCast, neg_one]; done) | (simp only [Int.ofNat_eq_natCast, neg_one]; omega)) only [tysW, wB, mB, Nat.reduceAdd, Nat.reduceMul, List.length_cons, List.length_nil, ldB b1, clB b1, ldBL b1, clBL b1, ldB b2, clB b2, ldBL b2, clBL b2, eqb_4, q]
    unfold X131_1
    try simp (disch := first | assumption | omega | (simp only [Int.ofNat_eq_natCast, neg_one]; done) | (simp only [Int.ofNat_eq_natCast, neg_one]; omega)) only [tysW, wB, mB, Nat.reduceAdd, Nat.reduceMul, List.length_cons, List.length_nil, ldB b1, clB b1, ldBL b1, clBL b1, ldB b2, clB b2, ldBL b2, clBL b2]
    rw [decide_eq_false (by simp [e6])] at hk
    exact hk
theorem s68 (x y : TV) {nl xl pl nl' xl' pl' : List Int} (r : ListsT h x nl xl pl) (r' : ListsT h y nl' xl' pl') (h0 : x.nn ≤ 1000) (h1 : x.b.xn ≤ 1000) (h2 : x.b.pn ≤ 1000) : ValS (D N (d + 3)) 68 [.agg ⟨tvv x⟩, .agg ⟨tvv y⟩] h s (.bool (sameT x y nl xl pl nl' xl' pl')) := by
  refine ValS.of hf fun K pw Z g hp hk => ?_
  rw [D_68]; unfold F68; rw [app2_eq]
  unfold X68_3
  refine wp_boxA g hp fun h1 g1 c1 b1 => ?_
  refine wp_boxA g1 hp fun h2 g2 c2 b2 => ?_
  replace b1 := c2.box b1 (by omega)
  simp only [tvv] at b1 b2
  unfold sameT at hk
  by_cases e1 : x.kind = y.kind
  rotate_left
  · try simp (disch := first | assumption | omega | (simp only [Int.ofNat_eq_natCast, neg_one]; done) | (simp only [Int.ofNat_eq_natCast, neg_one]; omega)) only [tysW, wB, mB, Nat.reduceAdd, Nat.reduceMul, List.length_cons, List.length_nil, ldB b1, clB b1, ldBL b1, clBL b1, ldB b2, clB b2, ldBL b2, clBL b2]
    unfold X68_2 X68_1
    try simp (disch := first | assumption | omega | (simp only [Int.ofNat_eq_natCast, neg_one]; done) | (simp only [Int.ofNat_eq_natCast, neg_one]; omega)) only [tysW, wB, mB, Nat.reduceAdd, Nat.reduceMul, List.length_cons, List.length_nil]
    have hk := hk _ _ g2
    rw [decide_eq_false (by simp [e1])] at hk
    exact hk
  by_cases e2 : x.sen = y.sen
  rotate_left
  · try simp (disch := first | assumption | omega | (simp only [Int.ofNat_eq_natCast, neg_one]; done) | (simp only [Int.ofNat_eq_natCast, neg_one]; omega)) only [tysW, wB, mB, Nat.reduceAdd, Nat.reduceMul, List.length_cons, List.length_nil, ldB b1, clB b1, ldBL b1, clBL b1, ldB b2, clB b2, ldBL b2, clBL b2]
    unfold X68_2 X68_1
    try simp (disch := first | assumption | omega | (simp only [Int.ofNat_eq_natCast, neg_one]; done) | (simp only [Int.ofNat_eq_natCast, neg_one]; omega)) only [tysW, wB, mB, Nat.reduceAdd, Nat.reduceMul, List.length_cons, List.length_nil]
    have hk := hk _ _ g2
    rw [decide_eq_false (by simp [e2])] at hk
    exact hk
  by_cases e3 : x.seq = y.seq
  rotate_left
  · try simp (disch := first | assumption | omega | (simp only [Int.ofNat_eq_natCast, neg_one]; done) | (simp only [Int.ofNat_eq_natCast, neg_one]; omega)) only [tysW, wB, mB, Nat.reduceAdd, Nat.reduceMul, List.length_cons, List.length_nil, ldB b1, clB b1, ldBL b1, clBL b1, ldB b2, clB b2, ldBL b2, clBL b2]
    unfold X68_2
    try simp (disch := first | assumption | omega | (simp only [Int.ofNat_eq_natCast, neg_one]; done) | (simp only [Int.ofNat_eq_natCast, neg_one]; omega)) only [tysW, wB, mB, Nat.reduceAdd, Nat.reduceMul, List.length_cons, List.length_nil, ldB b1, clB b1, ldBL b1, clBL b1, ldB b2, clB b2, ldBL b2, clBL b2]
    unfold X68_1
    try simp (disch := first | assumption | omega | (simp only [Int.ofNat_eq_natCast, neg_one]; done) | (simp only [Int.ofNat_eq_natCast, neg_one]; omega)) only [tysW, wB, mB, Nat.reduceAdd, Nat.reduceMul, List.length_cons, List.length_nil]
    have hk := hk _ _ g2
    rw [decide_eq_false (by simp [e3])] at hk
    exact hk
  by_cases e4 : x.err = y.err
  rotate_left
  · try simp (disch := first | assumption | omega | (simp only [Int.ofNat_eq_natCast, neg_one]; done) | (simp only [Int.ofNat_eq_natCast, neg_one]; omega)) only [tysW, wB, mB, Nat.reduceAdd, Nat.reduceMul, List.length_cons, List.length_nil, ldB b1, clB b1, ldBL b1, clBL b1, ldB b2, clB b2, ldBL b2, clBL b2]
    unfold X68_2
    try simp (disch := first | assumption | omega | (simp only [Int.ofNat_eq_natCast, neg_one]; done) | (simp only [Int.ofNat_eq_natCast, neg_one]; omega)) only [tysW, wB, mB, Nat.reduceAdd, Nat.reduceMul, List.length_cons, List.length_nil, ldB b1, clB b1, ldBL b1, clBL b1, ldB b2, clB b2, ldBL b2, clBL b2]
    unfold X68_1
    try simp (disch := first | assumption | omega | (simp only [Int.ofNat_eq_natCast, neg_one]; done) | (simp only [Int.ofNat_eq_natCast, neg_one]; omega)) only [tysW, wB, mB, Nat.reduceAdd, Nat.reduceMul, List.length_cons, List.length_nil]
    have hk := hk _ _ g2
    rw [decide_eq_false (by simp [e4])] at hk
    exact hk
  try simp (disch := first | assumption | omega | (simp only [Int.ofNat_eq_natCast, neg_one]; done) | (simp only [Int.ofNat_eq_natCast, neg_one]; omega)) only [tysW, wB, mB, Nat.reduceAdd, Nat.reduceMul, List.length_cons, List.length_nil, ldB b1, clB b1, ldBL b1, clBL b1, ldB b2, clB b2, ldBL b2, clBL b2]
  unfold X68_2
  try simp (disch := first | assumption | omega | (simp only [Int.ofNat_eq_natCast, neg_one]; done) | (simp only [Int.ofNat_eq_natCast, neg_one]; omega)) only [tysW, wB, mB, Nat.reduceAdd, Nat.reduceMul, List.length_cons, List.length_nil, ldB b1, clB b1, ldBL b1, clBL b1, ldB b2, clB b2, ldBL b2, clBL b2]
  refine ValS.go g2 hp (s98 (d := d + 1) hN g2.fresh (g2.row hf r.n) (g2.row hf r'.n) (by omega)) fun h3 s3 g3 c3 => ?_
  replace b1 := c3.box b1 (by omega)
  replace b2 := c3.box b2 (by omega)
  by_cases e5 : nl = nl'
  rotate_left
  · rw [decide_eq_false e5]
    unfold X68_1
    try simp (disch := first | assumption | omega | (simp only [Int.ofNat_eq_natCast, neg_one]; done) | (simp only [Int.ofNat_eq_natCast, neg_one]; omega)) only [tysW, wB, mB, Nat.reduceAdd, Nat.reduceMul, List.length_cons, List.length_nil]
    have hk := hk _ _ g3
    rw [decide_eq_false (by simp [e5])] at hk
    exact hk
  rw [decide_eq_true e5]
  unfold X68_1
  by_cases e6 : x.ex = y.ex
  rotate_left
  · have q : (x.ex == y.ex) = false := by simpa using e6
    try simp (disch := first | assumption | omega | (simp only [Int.ofNat_eq_natCast, neg_one]; done) | (simp only [Int.ofNat_eq_natCast, neg_one]; omega)) only [tysW, wB, mB, Nat.reduceAdd, Nat.reduceMul, List.length_cons, List.length_nil, ldB b1, clB b1, ldBL b1, clBL b1, ldB b2, clB b2, ldBL b2, clBL b2, eqb_4, q]
    have hk := hk _ _ g3
    rw [decide_eq_false (by simp [e6])] at hk
    exact hk
  have q : (x.ex == y.ex) = true := by simpa using e6
  try simp (disch := first | assumption | omega | (simp only [Int.ofNat_eq_natCast, neg_one]; done) | (simp only [Int.ofNat_eq_natCast, neg_one]; omega)) only [tysW, wB, mB, Nat.reduceAdd, Nat.reduceMul, List.length_cons, List.length_nil, ldB b1, clB b1, ldBL b1, clBL b1, ldB b2, clB b2, ldBL b2, clBL b2, eqb_4, q]
  refine ValS.go g3 hp (s131 (d := d) hN g3.fresh x.b y.b (g3.row hf r.y) (g3.row hf r.p.row) (g3.row hf r'.y) (g3.row hf r'.p.row) (by omega) (by omega)) fun h4 s4 g4 c4 => ?_
  have hk := hk _ _ g4
  cases e7 : sameB x.b y.b xl pl xl' pl' with
  | true =>
    try simp (disch := first | assumption | omega | (simp only [Int.ofNat_eq_natCast, neg_one]; done) | (simp only [Int.ofNat_eq_natCast, neg_one]; omega)) only [tysW, wB, mB, Nat.reduceAdd, Nat.reduceMul, List.length_cons, List.length_nil]
    rw [decide_eq_true ⟨e1, e2, e3, e4, e5, e6, e7⟩] at hk
    exact hk
  | false =>
    try simp (disch := first | assumption | omega | (simp only [Int.ofNat_eq_natCast, neg_one]; done) | (simp only [Int.ofNat_eq_natCast, neg_one]; omega)) only [tysW, wB, mB, Nat.reduceAdd, Nat.reduceMul, List.length_cons, List.length_nil]
    rw [decide_eq_false (by simp [e7])] at hk
    exact hk
end
end Go.Ev.R
namespace Go.Ev.R
open Go Go.RowKit
theorem D_21 (N d : Nat) (K : KV) (s : Nat) : D N (d + 1) 21 [] K s = K (.bool true) s := by kernel_rfl
end Go.Ev.R
namespace Go.Ev.R
open Go Go.RowKit
def truthR (x : RS) : Bool × RS := (decide ((oneR 1 x).1 = 1), ((oneR 1 x).2.1, (oneR 1 x).2.2 || decide (1 < (oneR 1 x).1)))
theorem truthR_bytes {x : RS} (hb : allBytes x.1) : allBytes (truthR x).2.1 ∧ (truthR x).2.1.length ≤ x.1.length := oneR_bytes hb
section
variable {N d : Nat} (hN : N = 100000) {h0 h : T} {s0 s : Nat} {K : KV} {pw : Nat → Prop} {Z : Value → T → Prop} (g : From s0 h0 h s) (hp : ∀ n, s0 ≤ n → pw n) {rb : Nat} (hrb : s0 ≤ rb) {x : RS} (hb : allBytes x.1) (hl : x.1.length ≤ 50000)
include hN g hp hrb hb hl
theorem s134 {A : Nat → Prop} (hA : ∀ n, A n → n < s) (R : RdAt h rb 135 x A) (hk : ∀ h' s', From s0 h0 h' s' → s ≤ s' → RdAt h' rb 135 (truthR x).2 A → (∀ i, i < s → i ≠ rb → h'.get i = h.get i) → (K (.bool (truthR x).1) s').wp pw Z h') :
    (D N (d + 5) 134 [ptr rb] K s).wp pw Z h := by
  rw [D_134]; unfold F134; rw [app1_eq]
  refine s113A (d := d) (w := 1) hN g hp hrb hb hl (.inl rfl) hA R fun h1 s1 g1 l1 R1 e1 => ?_
  obtain ⟨p, len, cap, bx, sl, hne⟩ := R1
  unfold truthR at hk
  obtain ⟨v, hv⟩ : ∃ v, v = (oneR 1 x).1 := ⟨_, rfl⟩
  obtain ⟨st, hst⟩ : ∃ st, st = (oneR 1 x).2 := ⟨_, rfl⟩
  rw [← hst] at bx sl
  rw [← hst, ← hv] at hk
  rw [← hv]
  have fin : ∀ (nb : Bool), (st.2 || decide (1 < v)) = nb → (aput rb 1 [.bool nb] (fun _ s => eqX P 3 3 false true (vi v) (i64 1) (fun v12 s => K v12 s) s) s1).wp pw Z h1 := by
    intro nb hnb
    refine wp_putF g1 hp bx hrb (by simp) rfl fun h2 g2 b2 e2 => ?_
    simp only [overL] at b2
    rw [hnb] at hk
    have hk := hk h2 s1 g2 l1 ⟨p, len, cap, b2, sl.but fun hc => e2 _ (hne hc).1, hne⟩ fun i h3 h4 => by rw [e2 i h4, e1 i h3 h4]
    try simp (disch := first | assumption | omega | (simp only [Int.ofNat_eq_natCast, neg_one]; done) | (simp only [Int.ofNat_eq_natCast, neg_one]; omega)) only [tysW, wB, mB, Nat.reduceAdd, Nat.reduceMul, List.length_cons, List.length_nil, w_eq]
    exact hk
  cases h2 : st.2 with
  | true =>
    rw [h2] at bx fin
    try simp (disch := first | assumption | omega | (simp only [Int.ofNat_eq_natCast, neg_one]; done) | (simp only [Int.ofNat_eq_natCast, neg_one]; omega)) only [tysW, wB, mB, Nat.reduceAdd, Nat.reduceMul, List.length_cons, List.length_nil, ldB bx, clB bx, ldBL bx, clBL bx]
    exact fin true rfl
  | false =>
    rw [h2] at bx fin
    by_cases h1 : (1 : Int) < v
    · try simp (disch := first | assumption | omega | (simp only [Int.ofNat_eq_natCast, neg_one]; done) | (simp only [Int.ofNat_eq_natCast, neg_one]; omega)) only [tysW, wB, mB, Nat.reduceAdd, Nat.reduceMul, List.length_cons, List.length_nil, ldB bx, clB bx, ldBL bx, clBL bx]
      exact fin true (by rw [decide_eq_true h1]; rfl)
    · try simp (disch := first | assumption | omega | (simp only [Int.ofNat_eq_natCast, neg_one]; done) | (simp only [Int.ofNat_eq_natCast, neg_one]; omega)) only [tysW, wB, mB, Nat.reduceAdd, Nat.reduceMul, List.length_cons, List.length_nil, ldB bx, clB bx, ldBL bx, clBL bx]
      exact fin false (by rw [decide_eq_false h1]; rfl)
theorem s136 {A : Nat → Prop} (hA : ∀ n, A n → n < s) (R : RdAt h rb 146 x A) (hk : ∀ h' s', From s0 h0 h' s' → s ≤ s' → RdAt h' rb 146 (truthR x).2 A → (∀ i, i < s → i ≠ rb → h'.get i = h.get i) → (K (.bool (truthR x).1) s').wp pw Z h') :
    (D N (d + 5) 136 [ptr rb] K s).wp pw Z h := by
  rw [D_136]; unfold F136; rw [app1_eq]
  refine s132A (d := d) (w := 1) hN g hp hrb hb hl (.inl rfl) hA R fun h1 s1 g1 l1 R1 e1 => ?_
  obtain ⟨p, len, cap, bx, sl, hne⟩ := R1
  unfold truthR at hk
  obtain ⟨v, hv⟩ : ∃ v, v = (oneR 1 x).1 := ⟨_, rfl⟩
  obtain ⟨st, hst⟩ : ∃ st, st = (oneR 1 x).2 := ⟨_, rfl⟩
  rw [← hst] at bx sl
  rw [← hst, ← hv] at hk
  rw [← hv]
  have fin : ∀ (nb : Bool), (st.2 || decide (1 < v)) = nb → (aput rb 1 [.bool nb] (fun _ s => eqX P 3 3 false true (vi v) (i64 1) (fun v12 s => K v12 s) s) s1).wp pw Z h1 := by
    intro nb hnb
    refine wp_putF g1 hp bx hrb (by simp) rfl fun h2 g2 b2 e2 => ?_
    simp only [overL] at b2
    rw [hnb] at hk
    have hk := hk h2 s1 g2 l1 ⟨p, len, cap, b2, sl.but fun hc => e2 _ (hne hc).1, hne⟩ fun i h3 h4 => by rw [e2 i h4, e1 i h3 h4]
    try simp (disch := first | assumption | omega | (simp only [Int.ofNat_eq_natCast, neg_one]; done) | (simp only [Int.ofNat_eq_natCast, neg_one]; omega)) only [tysW, wB, mB, Nat.reduceAdd, Nat.reduceMul, List.length_cons, List.length_nil, w_eq]
    exact hk
  cases h2 : st.2 with
  | true =>
    rw [h2] at bx fin
    try simp (disch := first | assumption | omega | (simp only [Int.ofNat_eq_natCast, neg_one]; done) | (simp only [Int.ofNat_eq_natCast, neg_one]; omega)) only [tysW, wB, mB, Nat.reduceAdd, Nat.reduceMul, List.length_cons, List.length_nil, ldB bx, clB bx, ldBL bx, clBL bx]
    exact fin true rfl
  | false =>
    rw [h2] at bx fin
    by_cases h1 : (1 : Int) < v
    · try simp (disch := first | assumption | omega | (simp only [Int.ofNat_eq_natCast, neg_one]; done) | (simp only [Int.ofNat_eq_natCast, neg_one]; omega)) only [tysW, wB, mB, Nat.reduceAdd, Nat.reduceMul, List.length_cons, List.length_nil, ldB bx, clB bx, ldBL bx, clBL bx]
      exact fin true (by rw [decide_eq_true h1]; rfl)
    · try simp (disch := first | assumption | omega | (simp only [Int.ofNat_eq_natCast, neg_one]; done) | (simp only [Int.ofNat_eq_natCast, neg_one]; omega)) only [tysW, wB, mB, Nat.reduceAdd, Nat.reduceMul, List.length_cons, List.length_nil, ldB bx, clB bx, ldBL bx, clBL bx]
      exact fin false (by rw [decide_eq_false h1]; rfl)
end
/-! ### a square filled -/
def fillK (n i : Nat) : Nat → Nat → List Int → List Int → List Int × List Int
  | 0, _, P, u => (P, u)
  | m + 1, k, P, u => fillK n i m (k + 1) ((P.set (i * n + k) (u.headD 0)).set (k * n + i) (u.headD 0)) u.tail
def fillI (n : Nat) : Nat → Nat → List Int → List Int → List Int × List Int
  | 0, _, P, u => (P, u)
  | m + 1, i, P, u => fillI n m (i + 1) (fillK n i (m + 1) i P u).1 (fillK n i (m + 1) i P u).2
def fill (n : Nat) (u : List Int) : List Int := (fillI n n 0 (List.replicate (n * n) 0) u).1
def triR : Nat → Nat
  | 0 => 0
  | m + 1 => triR m + (m + 1)
theorem flatI : ∀ l : List Int, l.flatMap EI.f = l.map vi
  | [] => rfl
  | x :: l => by rw [List.flatMap_cons, flatI l]; rfl
theorem set_int (l : List Int) {i : Nat} (hi : i < l.length) (x : Int) : overL (l.flatMap EI.f) i [vi x] = (l.set i x).flatMap EI.f := by
  rw [set_place _ _ _ (by rw [flatI, List.length_map]; exact hi), flatI, flatI, List.map_set]
theorem fillK_len (n i : Nat) : ∀ (m k : Nat) (P u : List Int), (fillK n i m k P u).1.length = P.length ∧ (fillK n i m k P u).2.length = u.length - m
  | 0, k, P, u => ⟨rfl, rfl⟩
  | m + 1, k, P, u => by
    have ih := fillK_len n i m (k + 1) ((P.set (i * n + k) (u.headD 0)).set (k * n + i) (u.headD 0)) u.tail
    unfold fillK
    refine ⟨by rw [ih.1]; simp, by rw [ih.2]; simp; omega⟩
theorem mk0 (K : KV) (s : Nat) : amakeSlice P 31 (vi 0) (vi 0) K s = anew (.cells ⟨(List.replicate 0 (0 : Int)).flatMap EI.f⟩ 3 (0, 0)) (fun b => K (.slice (some ⟨b, 0, none⟩) 0 0)) s := by kernel_rfl
theorem mk1 (K : KV) (s : Nat) : amakeSlice P 31 (vi 1) (vi 1) K s = anew (.cells ⟨(List.replicate 1 (0 : Int)).flatMap EI.f⟩ 3 (0, 0)) (fun b => K (.slice (some ⟨b, 0, none⟩) 1 1)) s := by kernel_rfl
theorem mk4 (K : KV) (s : Nat) : amakeSlice P 31 (vi 4) (vi 4) K s = anew (.cells ⟨(List.replicate 4 (0 : Int)).flatMap EI.f⟩ 3 (0, 0)) (fun b => K (.slice (some ⟨b, 0, none⟩) 4 4)) s := by kernel_rfl
theorem mk9 (K : KV) (s : Nat) : amakeSlice P 31 (vi 9) (vi 9) K s = anew (.cells ⟨(List.replicate 9 (0 : Int)).flatMap EI.f⟩ 3 (0, 0)) (fun b => K (.slice (some ⟨b, 0, none⟩) 9 9)) s := by kernel_rfl
theorem mk16 (K : KV) (s : Nat) : amakeSlice P 31 (vi 16) (vi 16) K s = anew (.cells ⟨(List.replicate 16 (0 : Int)).flatMap EI.f⟩ 3 (0, 0)) (fun b => K (.slice (some ⟨b, 0, none⟩) 16 16)) s := by kernel_rfl
theorem mk25 (K : KV) (s : Nat) : amakeSlice P 31 (vi 25) (vi 25) K s = anew (.cells ⟨(List.replicate 25 (0 : Int)).flatMap EI.f⟩ 3 (0, 0)) (fun b => K (.slice (some ⟨b, 0, none⟩) 25 25)) s := by kernel_rfl
theorem mk36 (K : KV) (s : Nat) : amakeSlice P 31 (vi 36) (vi 36) K s = anew (.cells ⟨(List.replicate 36 (0 : Int)).flatMap EI.f⟩ 3 (0, 0)) (fun b => K (.slice (some ⟨b, 0, none⟩) 36 36)) s := by kernel_rfl
theorem mkN {n : Nat} (h : n ≤ 6) (K : KV) (s : Nat) : amakeSlice P 31 (vi ((n * n : Nat) : Int)) (vi ((n * n : Nat) : Int)) K s = anew (.cells ⟨(List.replicate (n * n) (0 : Int)).flatMap EI.f⟩ 3 (0, 0)) (fun b => K (.slice (some ⟨b, 0, none⟩) (n * n) (n * n))) s := by
  have : n = 0 ∨ n = 1 ∨ n = 2 ∨ n = 3 ∨ n = 4 ∨ n = 5 ∨ n = 6 := by omega
  rcases this with rfl | rfl | rfl | rfl | rfl | rfl | rfl
  · exact mk0 K s
  · exact mk1 K s
  · exact mk4 K s
  · exact mk9 K s
  · exact mk16 K s
  · exact mk25 K s
  · exact mk36 K s
theorem triR_eq {n : Nat} (h : n ≤ 6) : n * (n + 1) / 2 = triR n := by
  have : n = 0 ∨ n = 1 ∨ n = 2 ∨ n = 3 ∨ n = 4 ∨ n = 5 ∨ n = 6 := by omega
  rcases this with rfl | rfl | rfl | rfl | rfl | rfl | rfl <;> rfl
theorem tri_triR {n : Nat} (h : n ≤ 6) : tri n = triR n := by
  have : n = 0 ∨ n = 1 ∨ n = 2 ∨ n = 3 ∨ n = 4 ∨ n = 5 ∨ n = 6 := by omega
  rcases this with rfl | rfl | rfl | rfl | rfl | rfl | rfl <;> rfl
end Go.Ev.R
namespace Go.Ev.R
open Go Go.RowKit
theorem idx_lt {i k n : Nat} (hi : i < n) (hk : k < n) : i * n + k < n * n := by
  calc i * n + k < i * n + n := by omega
  _ = (i + 1) * n := by rw [Nat.succ_mul]
  _ ≤ n * n := Nat.mul_le_mul hi (Nat.le_refl _)
theorem xaP {pb L j : Nat} (hj : j < L) (K : KV) (s : Nat) : xa 31 (.slice (some ⟨pb, 0, none⟩) L L) (vi (j : Int)) K s = K (.pointer (some ⟨pb, j, none⟩)) s := by
  have := xa_31 (j := (j : Int)) (len := L) (by omega) (by omega) pb 0 L none .i64 K s
  rw [Int.toNat_natCast, Nat.zero_add] at this
  exact this
section
variable {N : Nat} (hN : N = 100000) {C : CallT} {h0 h : T} {s0 s1 bb pb : Nat} {K : KV} {pw : Nat → Prop} {Z : Value → T → Prop} (g : From s0 h0 h s1) (hp : ∀ n, s0 ≤ n → pw n) {a p q : Int} {f : Bool} {sx : Value} {n : Nat} (h6 : n ≤ 6) (hbx : h.get bb = some (.cells ⟨[vi a, sx, .slice (some ⟨pb, 0, none⟩) (n * n) (n * n), .bool f, vi p, vi q]⟩ 58 (0, 0))) (hpb : s0 ≤ pb) {P0 : List Int} (hP : h.get pb = some (.cells ⟨P0.flatMap EI.f⟩ 3 (0, 0))) (hPl : P0.length = n * n) {pu : Option Addr} {cu : Nat} {u0 : List Int} (su : Sl EI h pu u0.length cu u0) (hpu : cu ≠ 0 → blk pu ≠ pb) (hu : u0.length = triR n)
include hN g hp h6 hbx hpb hP hPl su hpu hu
theorem fill135 {J : Nat → AM} (hk : ∀ h', From s0 h0 h' s1 → h'.get pb = some (.cells ⟨(fillI n n 0 P0 u0).1.flatMap EI.f⟩ 3 (0, 0)) → (∀ i, i ≠ pb → h'.get i = h.get i) → (J s1).wp pw Z h') :
    ((loopJ N 2 (fun _ _ _ => AM.fail) (X135_4 N C K (vi n) (ptr bb) J) : Value → Value → Nat → AM) (.slice pu u0.length cu) (vi 0) s1).wp pw Z h := by
  have hbp : bb ≠ pb := fun e => by rw [e, hP] at hbx; simp at hbx
  have hsq : n * n ≤ 36 := by
    calc n * n ≤ 6 * 6 := Nat.mul_le_mul h6 h6
    _ = 36 := rfl
  have outer : ∀ (B : (Value → Value → Nat → AM) → Value → Value → Nat → AM) (hB : ∀ H u v s', B H u v s' = X135_4 N C K (vi n) (ptr bb) J H u v s') (m i : Nat) (pu : Option Addr) (cu : Nat) (PP u : List Int) (h2 : T), n - i < m → i ≤ n → From s0 h0 h2 s1 → h2.get pb = some (.cells ⟨PP.flatMap EI.f⟩ 3 (0, 0)) → PP.length = n * n → Sl EI h2 pu u.length cu u → (cu ≠ 0 → blk pu ≠ pb) → u.length = triR (n - i) → fillI n (n - i) i PP u = fillI n n 0 P0 u0 → (∀ i, i ≠ pb → h2.get i = h.get i) →
      (loopJ m 2 (fun _ _ _ => AM.fail) B (.slice pu u.length cu) (vi i) s1).wp pw Z h2 := by
    intro B hB m
    induction m with
    | zero => intro i pu cu PP u h2 hm; omega
    | succ m ih =>
      intro i pu cu PP u h2 hm hi g2 hP hPl su hpu hu hT e2
      rw [loopJ_succ, hB]
      unfold X135_4
      by_cases hlt : i < n
      · try simp (disch := first | assumption | omega | (simp only [Int.ofNat_eq_natCast, neg_one]; done) | (simp only [Int.ofNat_eq_natCast, neg_one]; omega)) only [tysW, wB, mB, Nat.reduceAdd, Nat.reduceMul, List.length_cons, List.length_nil]
        obtain ⟨r, hr⟩ : ∃ r, n - i = r + 1 := ⟨n - i - 1, by omega⟩
        have inner : ∀ (J2 : Value → Nat → AM) (hJ2 : ∀ u s', J2 u s' = addX P 3 3 false true (vi i) (i64 1) (fun v45 s => loopJ m 2 (fun _ _ _ => AM.fail) B u v45 s) s') (B2 : (Value → Value → Nat → AM) → Value → Value → Nat → AM) (hB2 : ∀ H u v s', B2 H u v s' = X135_3 N C K (vi n) (ptr bb) (vi i) J2 H u v s') (m2 k : Nat) (pu : Option Addr) (cu : Nat) (P1 u1 : List Int) (h3 : T), n - k < m2 → k ≤ n → From s0 h0 h3 s1 → h3.get pb = some (.cells ⟨P1.flatMap EI.f⟩ 3 (0, 0)) → P1.length = n * n → Sl EI h3 pu u1.length cu u1 → (cu ≠ 0 → blk pu ≠ pb) → u1.length = (n - k) + triR r → fillK n i (n - k) k P1 u1 = fillK n i (n - i) i PP u → (∀ i, i ≠ pb → h3.get i = h.get i) →
            (loopJ m2 2 (fun _ _ _ => AM.fail) B2 (.slice pu u1.length cu) (vi k) s1).wp pw Z h3 := by
          intro J2 hJ2 B2 hB2 m2
          induction m2 with
          | zero => intro k pu cu P1 u1 h3 hm2; omega
          | succ m2 ih2 =>
            intro k pu cu P1 u1 h3 hm2 hk g3 hP3 hPl3 su3 hpu3 hu3 hT3 e3
            rw [loopJ_succ, hB2]
            unfold X135_3
            by_cases hlk : k < n
            · cases u1 with
              | nil => simp at hu3; omega
              | cons y u2 =>
                have bx3 := (e3 bb hbp).trans hbx
                have i1 := idx_lt hlt hlk
                have i2 := idx_lt hlk hlt
                have r3 := su3.row
                have hle3 := su3.le
                have ld0 : ∀ (j : LogT) (s : Nat), (AM.log (aload (blk pu) (off pu) (fun v s => .ret (pk v s)) s) (logU j)).wp pw Z h3 = (j (vi y) [blk pu] [] s).wp pw Z h3 := fun j s => intL r3 (i := 0) rfl j s
                have x0 : ∀ (kk : KV) (s : Nat), xa 31 (.slice pu (y :: u2).length cu) (i64 0) kk s = kk (.pointer (some ⟨blk pu, off pu, none⟩)) s := fun kk s => xaI r3 (j := (0 : Int)) (by omega) (by simp) cu .i64 kk s
                obtain ⟨L, hL⟩ : ∃ L, L = (y :: u2).length := ⟨_, rfl⟩
                rw [← hL] at x0 su3 hu3 hle3 ⊢
                try simp (disch := first | assumption | omega | (simp only [Int.ofNat_eq_natCast, neg_one]; done) | (simp only [Int.ofNat_eq_natCast, neg_one]; omega)) only [tysW, wB, mB, Nat.reduceAdd, Nat.reduceMul, List.length_cons, List.length_nil, ldB bx3, clB bx3, ldBL bx3, clBL bx3, mulN _ _ _ _ (show i * n ≤ 1000000 by omega), addN _ _ _ _ (show i * n + k ≤ 1000000 by omega)]
                unfold X135_2
                try simp (disch := first | assumption | omega | (simp only [Int.ofNat_eq_natCast, neg_one]; done) | (simp only [Int.ofNat_eq_natCast, neg_one]; omega)) only [tysW, wB, mB, Nat.reduceAdd, Nat.reduceMul, List.length_cons, List.length_nil, mulN _ _ _ _ (show k * n ≤ 1000000 by omega), addN _ _ _ _ (show k * n + i ≤ 1000000 by omega), x0, ld0, xaP i1]
                refine wp_putL g3 hp hP3 hpb (by rw [flatI, List.length_map, hPl3]; simp; omega) rfl fun h4 g4 b4 e4 => ?_
                rw [set_int _ (by omega)] at b4
                unfold X135_1
                try simp (disch := first | assumption | omega | (simp only [Int.ofNat_eq_natCast, neg_one]; done) | (simp only [Int.ofNat_eq_natCast, neg_one]; omega)) only [tysW, wB, mB, Nat.reduceAdd, Nat.reduceMul, List.length_cons, List.length_nil, xaP i2]
                refine wp_putL g4 hp b4 hpb (by rw [flatI, List.length_map, List.length_set, hPl3]; simp; omega) rfl fun h5 g5 b5 e5 => ?_
                rw [set_int _ (by rw [List.length_set]; omega)] at b5
                have e35 : ∀ i, i ≠ pb → h5.get i = h3.get i := fun i hi => by rw [e5 i hi, e4 i hi]
                have su5 : Sl EI h5 pu L cu (y :: u2) := su3.but fun hc => e35 _ (hpu3 hc)
                rw [wp_guard, if_pos (by repeat' (first | exact dynOk_nil _ _ | refine dyn_skip' ?_ | refine dyn_cons ?_ ?_ | exact allF_nil _ _ | refine allF_cons ?_ ?_ | exact disj_below hbp (by omega) | exact disjA hbp (by omega) | exact disjB hbp (by omega) | exact disjC hbp (by assumption) | exact disjD (fun m hm => by have := hbp m hm; omega) | exact disjN _ | exact disj1 (by omega) | exact disj2 (by omega) | exact disj3 (by assumption)))]
                try simp (disch := first | assumption | omega | (simp only [Int.ofNat_eq_natCast, neg_one]; done) | (simp only [Int.ofNat_eq_natCast, neg_one]; omega)) only [tysW, wB, mB, Nat.reduceAdd, Nat.reduceMul, List.length_cons, List.length_nil]
                refine su5.cut (ab_from (i := 1) (by rw [hL]; simp) hle3 .i64) (by rw [hL]; simp) (Nat.le_refl _) hle3 (Nat.le_refl _) fun p6 r6 k6 => ?_
                simp only [List.drop_succ_cons, List.drop_zero] at r6
                have hl2 : L - 1 = u2.length := by rw [hL]; simp
                rw [hl2, List.take_of_length_le (Nat.le_refl _)] at r6
                rw [hl2]
                try simp (disch := first | assumption | omega | (simp only [Int.ofNat_eq_natCast, neg_one]; done) | (simp only [Int.ofNat_eq_natCast, neg_one]; omega)) only [tysW, wB, mB, Nat.reduceAdd, Nat.reduceMul, List.length_cons, List.length_nil]
                refine ih2 (k + 1) p6 (cu - 1) _ u2 h5 (by omega) (by omega) g5 b5 (by simp [hPl3]) r6 (fun hc => ?_) (by rw [hL] at hu3; simp at hu3; omega) ?_ fun i hi => (e35 i hi).trans (e3 i hi)
                · have := k6 (by omega)
                  rw [this.1]; exact hpu3 (by omega)
                · rw [← hT3, show n - k = (n - (k + 1)) + 1 by omega]
                  rfl
            · obtain rfl : k = n := by omega
              try simp (disch := first | assumption | omega | (simp only [Int.ofNat_eq_natCast, neg_one]; done) | (simp only [Int.ofNat_eq_natCast, neg_one]; omega)) only [tysW, wB, mB, Nat.reduceAdd, Nat.reduceMul, List.length_cons, List.length_nil]
              rw [hJ2]
              try simp (disch := first | assumption | omega | (simp only [Int.ofNat_eq_natCast, neg_one]; done) | (simp only [Int.ofNat_eq_natCast, neg_one]; omega)) only [tysW, wB, mB, Nat.reduceAdd, Nat.reduceMul, List.length_cons, List.length_nil]
              rw [Nat.sub_self] at hT3 hu3
              have hT3 : (P1, u1) = _ := hT3
              have hP1 : P1 = (fillK k i (k - i) i PP u).1 := by rw [← hT3]
              have hu1 : u1 = (fillK k i (k - i) i PP u).2 := by rw [← hT3]
              refine ih (i + 1) pu cu P1 u1 h3 (by omega) (by omega) g3 hP3 hPl3 su3 hpu3 (by rw [show k - (i + 1) = r by omega]; omega) ?_ e3
              rw [← hT, show k - (i + 1) = r by omega, hr]
              show fillI k r (i + 1) P1 u1 = fillI k r (i + 1) (fillK k i (r + 1) i PP u).1 (fillK k i (r + 1) i PP u).2
              rw [hP1, hu1, hr]
        refine inner _ (fun _ _ => rfl) _ (fun _ _ _ _ => rfl) N i pu cu PP u h2 (by omega) (by omega) g2 hP hPl su hpu ?_ rfl e2
        rw [hu, hr]
        show triR r + (r + 1) = _
        omega
      · obtain rfl : i = n := by omega
        try simp (disch := first | assumption | omega | (simp only [Int.ofNat_eq_natCast, neg_one]; done) | (simp only [Int.ofNat_eq_natCast, neg_one]; omega)) only [tysW, wB, mB, Nat.reduceAdd, Nat.reduceMul, List.length_cons, List.length_nil]
        rw [Nat.sub_self] at hT
        have hT : (PP, u) = _ := hT
        refine hk h2 g2 ?_ e2
        rw [← hT]; exact hP
  exact outer _ (fun _ _ _ _ => rfl) N 0 pu cu P0 u0 h (by omega) (by omega) g hP hPl su hpu hu rfl fun _ _ => rfl
end
end Go.Ev.R
namespace Go.Ev.R
open Go Go.RowKit
theorem fillI_len (n : Nat) : ∀ (m i : Nat) (P u : List Int), (fillI n m i P u).1.length = P.length
  | 0, i, P, u => rfl
  | m + 1, i, P, u => by
    unfold fillI
    rw [fillI_len n m (i + 1) _ _, (fillK_len n i (m + 1) i P u).1]
theorem fill_len (n : Nat) (u : List Int) : (fill n u).length = n * n := by
  unfold fill
  rw [fillI_len]; simp
structure BD where
  time : Int
  xl : List Int
  pl : List Int
  flag : Bool
  pass : Int
  fail : Int
def bd0 : BD := ⟨0, [], [], false, 0, 0⟩
def bvD (y : BD) (p2 p3 : Option Addr) : BV := ⟨y.time, p2, y.xl.length, y.xl.length, p3, y.pl.length, y.pl.length, y.flag, y.pass, y.fail⟩
def m1 (x : RS) : Int × RS := oneR 8 x
def m2 (x : RS) : Bool × RS := truthR (m1 x).2
def m3 (x : RS) : Int × RS := oneR 8 (m2 x).2
def m4 (x : RS) : Int × RS := oneR 8 (m3 x).2
def m5 (x : RS) : List Int × RS := listR (m4 x).2
def m6 (x : RS) : List Int × RS := listR (m5 x).2
def wrongR (n l : Nat) : Bool := decide (6 < n) || !decide (l = n * (n + 1) / 2)
def belD (x : RS) : BD := ⟨(m1 x).1, (m5 x).1, fill (m5 x).1.length (m6 x).1, (m2 x).1, (m3 x).1, (m4 x).1⟩
def belP (x : RS) : BD × RS := if ((m6 x).2.2 || wrongR (m5 x).1.length (m6 x).1.length) = true then (bd0, ((m6 x).2.1, true)) else (belD x, (m6 x).2)
theorem bytes1 {x : RS} (hb : allBytes x.1) : allBytes (m1 x).2.1 ∧ (m1 x).2.1.length ≤ x.1.length := oneR_bytes hb
theorem bytes2 {x : RS} (hb : allBytes x.1) : allBytes (m2 x).2.1 ∧ (m2 x).2.1.length ≤ x.1.length := by
  have h1 := bytes1 hb
  have h2 := truthR_bytes (x := (m1 x).2) h1.1
  exact ⟨h2.1, Nat.le_trans h2.2 h1.2⟩
theorem bytes3 {x : RS} (hb : allBytes x.1) : allBytes (m3 x).2.1 ∧ (m3 x).2.1.length ≤ x.1.length := by
  have h1 := bytes2 hb
  have h2 := oneR_bytes (w := 8) (x := (m2 x).2) h1.1
  exact ⟨h2.1, Nat.le_trans h2.2 h1.2⟩
theorem bytes4 {x : RS} (hb : allBytes x.1) : allBytes (m4 x).2.1 ∧ (m4 x).2.1.length ≤ x.1.length := by
  have h1 := bytes3 hb
  have h2 := oneR_bytes (w := 8) (x := (m3 x).2) h1.1
  exact ⟨h2.1, Nat.le_trans h2.2 h1.2⟩
theorem bytes5 {x : RS} (hb : allBytes x.1) : allBytes (m5 x).2.1 ∧ (m5 x).2.1.length ≤ x.1.length ∧ (m5 x).1.length ≤ 24 := by
  have h1 := bytes4 hb
  have h2 := listR_bytes (x := (m4 x).2) h1.1
  exact ⟨h2.1, Nat.le_trans h2.2.1 h1.2, h2.2.2⟩
theorem bytes6 {x : RS} (hb : allBytes x.1) : allBytes (m6 x).2.1 ∧ (m6 x).2.1.length ≤ x.1.length ∧ (m6 x).1.length ≤ 24 := by
  have h1 := bytes5 hb
  have h2 := listR_bytes (x := (m5 x).2) h1.1
  exact ⟨h2.1, Nat.le_trans h2.2.1 h1.2.1, h2.2.2⟩
section
variable {N d : Nat} (hN : N = 100000) {h0 h : T} {s0 s : Nat} {K : KV} {pw : Nat → Prop} {Z : Value → T → Prop} (g : From s0 h0 h s) (hp : ∀ n, s0 ≤ n → pw n) {rb : Nat} (hrb : s0 ≤ rb) {x : RS} (hb : allBytes x.1) (hl : x.1.length ≤ 50000)
include hN g hp hrb hb hl
theorem s135 {A : Nat → Prop} (hA : ∀ n, A n → n < s) (R : RdAt h rb 135 x A) (hk : ∀ p2 p3 h' s', From s0 h0 h' s' → s ≤ s' → RdAt h' rb 135 (belP x).2 A → OwnG EI 3 h' s p2 (belP x).1.xl.length (belP x).1.xl → OwnG EI 3 h' s p3 (belP x).1.pl.length (belP x).1.pl → (∀ i, i < s → i ≠ rb → h'.get i = h.get i) → (K (.agg ⟨bvv (bvD (belP x).1 p2 p3)⟩) s').wp pw Z h') :
    (D N (d + 6) 135 [ptr rb] K s).wp pw Z h := by
  have hrs : rb < s := by obtain ⟨p, len, cap, bx, -⟩ := R; exact lt_of_some g.fresh ⟨_, bx⟩
  have gl := g.le
  rw [D_135]; unfold F135; rw [app1_eq]
  unfold X135_6
  try simp (disch := first | assumption | omega | (simp only [Int.ofNat_eq_natCast, neg_one]; done) | (simp only [Int.ofNat_eq_natCast, neg_one]; omega)) only [tysW, wB, mB, Nat.reduceAdd, Nat.reduceMul, List.length_cons, List.length_nil]
  refine wp_boxA g hp fun h1 g1 c1 b1 => ?_
  have hB : ∀ n, (A n ∨ n = s) → n < s + 1 := fun n hn => hn.elim (fun h => by have := hA n h; omega) fun h => by omega
  have R1 : RdAt h1 rb 135 x (fun n => A n ∨ n = s) := ((R.more g.fresh).from g.fresh c1).less fun n hn => hn.imp_right fun h => by omega
  refine s113A (d := d + 1) (w := 8) hN g1 hp hrb hb hl (.inr (.inr (.inr rfl))) hB R1 fun h2 s2 g2 l2 R2 e2 => ?_
  have hb1 := bytes1 hb
  replace b1 := (e2 s (by omega) (by omega)).trans b1
  try simp (disch := first | assumption | omega | (simp only [Int.ofNat_eq_natCast, neg_one]; done) | (simp only [Int.ofNat_eq_natCast, neg_one]; omega)) only [tysW, wB, mB, Nat.reduceAdd, Nat.reduceMul, List.length_cons, List.length_nil]
  refine wp_putF g2 hp b1 (by omega) (by simp) rfl fun h3 g3 b3 e3 => ?_
  simp only [overL] at b3
  have R3 : RdAt h3 rb 135 (m1 x).2 (fun n => A n ∨ n = s) := R2.butA (.inr rfl) (by omega) e3
  refine s134 (d := d) hN g3 hp hrb hb1.1 (by omega) (fun n hn => by have := hB n hn; omega) R3 fun h4 s4 g4 l4 R4 e4 => ?_
  have hb2 := bytes2 hb
  replace b3 := (e4 s (by omega) (by omega)).trans b3
  try simp (disch := first | assumption | omega | (simp only [Int.ofNat_eq_natCast, neg_one]; done) | (simp only [Int.ofNat_eq_natCast, neg_one]; omega)) only [tysW, wB, mB, Nat.reduceAdd, Nat.reduceMul, List.length_cons, List.length_nil]
  refine wp_putF g4 hp b3 (by omega) (by simp) rfl fun h5 g5 b5 e5 => ?_
  simp only [overL] at b5
  have R5 : RdAt h5 rb 135 (m2 x).2 (fun n => A n ∨ n = s) := R4.butA (.inr rfl) (by omega) e5
  refine s113A (d := d + 1) (w := 8) hN g5 hp hrb hb2.1 (by omega) (.inr (.inr (.inr rfl))) (fun n hn => by have := hB n hn; omega) R5 fun h6 s6 g6 l6 R6 e6 => ?_
  have hb3 := bytes3 hb
  replace b5 := (e6 s (by omega) (by omega)).trans b5
  refine s113A (d := d + 1) (w := 8) hN g6 hp hrb hb3.1 (by omega) (.inr (.inr (.inr rfl))) (fun n hn => by have := hB n hn; omega) R6 fun h7 s7 g7 l7 R7 e7 => ?_
  have hb4 := bytes4 hb
  replace b5 := (e7 s (by omega) (by omega)).trans b5
  try simp (disch := first | assumption | omega | (simp only [Int.ofNat_eq_natCast, neg_one]; done) | (simp only [Int.ofNat_eq_natCast, neg_one]; omega)) only [tysW, wB, mB, Nat.reduceAdd, Nat.reduceMul, List.length_cons, List.length_nil]
  refine wp_putF g7 hp b5 (by omega) (by simp) rfl fun h8 g8 b8 e8 => ?_
  simp only [overL] at b8
  try simp (disch := first | assumption | omega | (simp only [Int.ofNat_eq_natCast, neg_one]; done) | (simp only [Int.ofNat_eq_natCast, neg_one]; omega)) only [tysW, wB, mB, Nat.reduceAdd, Nat.reduceMul, List.length_cons, List.length_nil]
  refine wp_putF g8 hp b8 (by omega) (by simp) rfl fun h9 g9 b9 e9 => ?_
  simp only [overL] at b9
  have R9 : RdAt h9 rb 135 (m4 x).2 (fun n => A n ∨ n = s) := (R7.butA (.inr rfl) (by omega) e8).butA (.inr rfl) (by omega) e9
  refine s114A (d := d) hN g9 hp hrb hb4.1 (by omega) (fun n hn => by have := hB n hn; omega) R9 fun p2 h10 s10 g10 l10 R10 o2 e10 => ?_
  have hb5 := bytes5 hb
  replace b9 := (e10 s (by omega) (by omega)).trans b9
  have o2l := o2.lt g10.fresh
  try simp (disch := first | assumption | omega | (simp only [Int.ofNat_eq_natCast, neg_one]; done) | (simp only [Int.ofNat_eq_natCast, neg_one]; omega)) only [tysW, wB, mB, Nat.reduceAdd, Nat.reduceMul, List.length_cons, List.length_nil]
  refine wp_putF g10 hp b9 (by omega) (by simp) rfl fun h11 g11 b11 e11 => ?_
  simp only [overL] at b11
  replace o2 := o2.but fun hp => e11 _ (by have := o2l hp; omega)
  have R11 : RdAt h11 rb 135 (m5 x).2 (fun n => A n ∨ n = s) := R10.butA (.inr rfl) (by omega) e11
  refine s114A (d := d) hN g11 hp hrb hb5.1 (by omega) (fun n hn => by have := hB n hn; omega) R11 fun p3 h12 s12 g12 l12 R12 o3 e12 => ?_
  have hb6 := bytes6 hb
  replace b11 := (e12 s (by omega) (by omega)).trans b11
  have o3l := o3.lt g12.fresh
  replace o2 := o2.but fun hp => e12 _ (by have := o2l hp; omega) (by have := o2l hp; omega)
  obtain ⟨pr, lr, cr, br, slr, hnr⟩ := R12
  obtain ⟨sb, hsb⟩ : ∃ sb, sb = s := ⟨_, rfl⟩
  obtain ⟨n, hn⟩ : ∃ n, n = (m5 x).1.length := ⟨_, rfl⟩
  obtain ⟨L, hL⟩ : ∃ L, L = (m6 x).1.length := ⟨_, rfl⟩
  obtain ⟨bd, hbd⟩ : ∃ bd, bd = (m6 x).2.2 := ⟨_, rfl⟩
  have keep : ∀ i, i < s → i ≠ rb → h12.get i = h.get i := fun i h1 h2 => by rw [e12 i (by omega) h2, e11 i (by omega), e10 i (by omega) h2, e9 i (by omega), e8 i (by omega), e7 i (by omega) h2, e6 i (by omega) h2, e5 i (by omega), e4 i (by omega) h2, e3 i (by omega), e2 i (by omega) h2, c1.keep i h1]
  have n24 : n ≤ 24 := by rw [hn]; exact hb5.2.2
  have L24 : L ≤ 24 := by rw [hL]; exact hb6.2.2
  replace b11 : h12.get s = some (.cells ⟨[vi (m1 x).1, .slice p2 n n, .slice none 0 0, .bool (m2 x).1, vi (m3 x).1, vi (m4 x).1]⟩ 58 (0, 0)) := by subst hn; exact b11
  replace br : h12.get rb = some (.cells ⟨[.slice pr lr cr, .bool bd]⟩ 135 (0, 0)) := by subst hbd; exact br
  replace slr : Sl EB h12 pr lr cr (m6 x).2.1 := slr
  replace o2 : OwnG EI 3 h12 s7 p2 n (m5 x).1 := by subst hn; exact o2
  replace o3 : OwnG EI 3 h12 s10 p3 L (m6 x).1 := by subst hL; exact o3
  rw [show (listR (m5 x).2).1.length = L from hL.symm]
  have srb : s ≠ rb := by omega
  have badK : (bd || wrongR n L) = true → ∀ {h13 : T}, From s0 h0 h13 s12 → h13.get rb = some (.cells ⟨[.slice pr lr cr, .bool true]⟩ 135 (0, 0)) → (∀ i, i ≠ rb → h13.get i = h12.get i) → (aput s 0 [i64 0, .slice none 0 0, .slice none 0 0, .bool false, i64 0, i64 0] (fun _ s => aloadAt P 58 (ptr sb) (fun v33 s => K v33 s) s) s12).wp pw Z h13 := by
    intro hw h13 g13 b13 e13
    have eb : belP x = (bd0, ((m6 x).2.1, true)) := by
      unfold belP
      rw [← hn, ← hL, ← hbd, if_pos hw]
    rw [eb] at hk
    refine wp_putF g13 hp ((e13 s srb).trans b11) (by omega) (by simp) rfl fun h14 g14 b14 e14 => ?_
    simp only [overL] at b14
    subst hsb
    try simp (disch := first | assumption | omega | (simp only [Int.ofNat_eq_natCast, neg_one]; done) | (simp only [Int.ofNat_eq_natCast, neg_one]; omega)) only [tysW, wB, mB, Nat.reduceAdd, Nat.reduceMul, List.length_cons, List.length_nil, ldB b14, clB b14, ldBL b14, clBL b14]
    exact hk none none h14 s12 g14 (by omega) ⟨pr, lr, cr, (e14 rb (by omega)).trans b13, (slr.but fun hc => e13 _ (hnr hc).1).but fun hc => e14 _ fun he => (hnr hc).2 (.inr he), fun hc => ⟨(hnr hc).1, fun ha => (hnr hc).2 (.inl ha)⟩⟩ .nil .nil fun i h1 h2 => by rw [e14 i (by omega), e13 i h2, keep i h1 h2]
  cases hbd2 : bd with
  | true =>
    rw [hbd2] at br badK
    try simp (disch := first | assumption | omega | (simp only [Int.ofNat_eq_natCast, neg_one]; done) | (simp only [Int.ofNat_eq_natCast, neg_one]; omega)) only [tysW, wB, mB, Nat.reduceAdd, Nat.reduceMul, List.length_cons, List.length_nil, ldB b11, clB b11, ldBL b11, clBL b11, ldB br, clB br, ldBL br, clBL br]
    unfold X135_5
    try simp (disch := first | assumption | omega | (simp only [Int.ofNat_eq_natCast, neg_one]; done) | (simp only [Int.ofNat_eq_natCast, neg_one]; omega)) only [tysW, wB, mB, Nat.reduceAdd, Nat.reduceMul, List.length_cons, List.length_nil]
    refine wp_putF g12 hp br hrb (by simp) rfl fun h13 g13 b13 e13 => ?_
    simp only [overL] at b13
    try simp (disch := first | assumption | omega | (simp only [Int.ofNat_eq_natCast, neg_one]; done) | (simp only [Int.ofNat_eq_natCast, neg_one]; omega)) only [tysW, wB, mB, Nat.reduceAdd, Nat.reduceMul, List.length_cons, List.length_nil, ldB b13, clB b13, ldBL b13, clBL b13]
    subst hsb
    exact badK rfl g13 b13 e13
  | false =>
    rw [hbd2] at br badK
    by_cases h6 : (6 : Int) < (n : Int)
    · try simp (disch := first | assumption | omega | (simp only [Int.ofNat_eq_natCast, neg_one]; done) | (simp only [Int.ofNat_eq_natCast, neg_one]; omega)) only [tysW, wB, mB, Nat.reduceAdd, Nat.reduceMul, List.length_cons, List.length_nil, ldB b11, clB b11, ldBL b11, clBL b11, ldB br, clB br, ldBL br, clBL br]
      unfold X135_5
      try simp (disch := first | assumption | omega | (simp only [Int.ofNat_eq_natCast, neg_one]; done) | (simp only [Int.ofNat_eq_natCast, neg_one]; omega)) only [tysW, wB, mB, Nat.reduceAdd, Nat.reduceMul, List.length_cons, List.length_nil]
      refine wp_putF g12 hp br hrb (by simp) rfl fun h13 g13 b13 e13 => ?_
      simp only [overL] at b13
      try simp (disch := first | assumption | omega | (simp only [Int.ofNat_eq_natCast, neg_one]; done) | (simp only [Int.ofNat_eq_natCast, neg_one]; omega)) only [tysW, wB, mB, Nat.reduceAdd, Nat.reduceMul, List.length_cons, List.length_nil, ldB b13, clB b13, ldBL b13, clBL b13]
      subst hsb
      exact badK (by unfold wrongR; rw [decide_eq_true (by omega)]; rfl) g13 b13 e13
    have hq : n * (n + 1) ≤ 1000000 := by
      calc n * (n + 1) ≤ 24 * 25 := Nat.mul_le_mul n24 (by omega)
      _ ≤ 1000000 := by decide
    have quo2 : ∀ (kk : KV) (s : Nat), quoX P 3 3 false true (vi ((n * (n + 1) : Nat) : Int)) (i64 2) kk s = kk (vi ((n * (n + 1) / 2 : Nat) : Int)) s := fun kk s => quoN false true (n := 2) (by decide) hq kk s
    by_cases hLn : (L : Int) = ((n * (n + 1) / 2 : Nat) : Int)
    · have hw : (false || wrongR n L) = false := by
        unfold wrongR
        rw [decide_eq_false (by omega), decide_eq_true (show L = n * (n + 1) / 2 by omega)]; rfl
      have eb : belP x = (belD x, (m6 x).2) := by
        unfold belP
        rw [← hn, ← hL, ← hbd, hbd2, if_neg (by rw [hw]; simp)]
      rw [eb] at hk
      have h6' : n ≤ 6 := by omega
      have hLt : L = triR n := by rw [← triR_eq h6']; omega
      have hsq : n * n ≤ 1000000 := by
        calc n * n ≤ 6 * 6 := Nat.mul_le_mul h6' h6'
        _ ≤ 1000000 := by decide
      subst hsb
      try simp (disch := first | assumption | omega | (simp only [Int.ofNat_eq_natCast, neg_one]; done) | (simp only [Int.ofNat_eq_natCast, neg_one]; omega)) only [tysW, wB, mB, Nat.reduceAdd, Nat.reduceMul, List.length_cons, List.length_nil, ldB b11, clB b11, ldBL b11, clBL b11, ldB br, clB br, ldBL br, clBL br, mulN _ _ _ _ hq, quo2]
      unfold X135_5
      try simp (disch := first | assumption | omega | (simp only [Int.ofNat_eq_natCast, neg_one]; done) | (simp only [Int.ofNat_eq_natCast, neg_one]; omega)) only [tysW, wB, mB, Nat.reduceAdd, Nat.reduceMul, List.length_cons, List.length_nil]
      refine wp_putF g12 hp br hrb (by simp) rfl fun h13 g13 b13 e13 => ?_
      simp only [overL] at b13
      try simp (disch := first | assumption | omega | (simp only [Int.ofNat_eq_natCast, neg_one]; done) | (simp only [Int.ofNat_eq_natCast, neg_one]; omega)) only [tysW, wB, mB, Nat.reduceAdd, Nat.reduceMul, List.length_cons, List.length_nil, ldB b13, clB b13, ldBL b13, clBL b13, mulN _ _ _ _ hsq]
      rw [mkN h6']
      refine wp_newF g13 hp fun h14 g14 c14 b14 => ?_
      have b11' := c14.box ((e13 sb srb).trans b11) (by omega)
      have b13' := c14.box b13 (by omega)
      try simp (disch := first | assumption | omega | (simp only [Int.ofNat_eq_natCast, neg_one]; done) | (simp only [Int.ofNat_eq_natCast, neg_one]; omega)) only [tysW, wB, mB, Nat.reduceAdd, Nat.reduceMul, List.length_cons, List.length_nil]
      refine wp_putF g14 hp b11' (by omega) (by simp) rfl fun h15 g15 b15 e15 => ?_
      simp only [overL] at b15
      have b14' := (e15 s12 (by omega)).trans b14
      have k15 : ∀ i, i < s12 → i ≠ rb → i ≠ sb → h15.get i = h12.get i := fun i h1 h2 h3 => by rw [e15 i h3, c14.keep i h1, e13 i h2]
      have o3' := o3.but fun hp => k15 _ (by have := o3l hp; omega) (by have := o3l hp; omega) (by have := o3l hp; omega)
      have o2' := o2.but fun hp => k15 _ (by have := o2l hp; omega) (by have := o2l hp; omega) (by have := o2l hp; omega)
      have e3 : (m6 x).1.length = L := hL.symm
      try simp (disch := first | assumption | omega | (simp only [Int.ofNat_eq_natCast, neg_one]; done) | (simp only [Int.ofNat_eq_natCast, neg_one]; omega)) only [tysW, wB, mB, Nat.reduceAdd, Nat.reduceMul, List.length_cons, List.length_nil]
      rw [← e3]
      have su := o3'.sl
      rw [← e3] at su
      refine fill135 hN (bb := sb) (pb := s12) g15 hp h6' b15 (by omega) b14' (by simp) su (fun hc => by
        have hp3 : p3 ≠ none := fun hn => hc (by have := o3.sl.non hn; omega)
        have := o3l hp3; omega) (by omega) fun h16 g16 b16 e16 => ?_
      have b15' := (e16 sb (by omega)).trans b15
      try simp (disch := first | assumption | omega | (simp only [Int.ofNat_eq_natCast, neg_one]; done) | (simp only [Int.ofNat_eq_natCast, neg_one]; omega)) only [tysW, wB, mB, Nat.reduceAdd, Nat.reduceMul, List.length_cons, List.length_nil, ldB b15', clB b15', ldBL b15', clBL b15']
      refine wp_putF g16 hp b15' (by omega) (by simp) rfl fun h17 g17 b17 e17 => ?_
      simp only [overL] at b17
      try simp (disch := first | assumption | omega | (simp only [Int.ofNat_eq_natCast, neg_one]; done) | (simp only [Int.ofNat_eq_natCast, neg_one]; omega)) only [tysW, wB, mB, Nat.reduceAdd, Nat.reduceMul, List.length_cons, List.length_nil, ldB b17, clB b17, ldBL b17, clBL b17]
      have hfl : (fill n (m6 x).1).length = n * n := fill_len n _
      have b16' := (e17 s12 (by omega)).trans b16
      have k17 : ∀ i, i < s12 → i ≠ rb → i ≠ sb → h17.get i = h12.get i := fun i h1 h2 h3 => by rw [e17 i h3, e16 i (by omega), k15 i h1 h2 h3]
      have hk := hk p2 (some ⟨s12, 0, none⟩) h17 (s12 + 1) g17 (by omega) ⟨pr, lr, cr, ?_, slr.but fun hc => ?_, fun hc => ⟨(hnr hc).1, fun ha => (hnr hc).2 (.inl ha)⟩⟩ ?_ ?_ fun i h1 h2 => ?_
      · have ev : bvv (bvD (belD x) p2 (some ⟨s12, 0, none⟩)) = [vi (m1 x).1, .slice p2 n n, .slice (some ⟨s12, 0, none⟩) (n * n) (n * n), .bool (m2 x).1, vi (m3 x).1, vi (m4 x).1] := by
          unfold bvv bvD belD
          dsimp only
          rw [← hn, hfl]
        rw [ev] at hk
        exact hk
      · rw [e17 rb (by omega), e16 rb (by omega), e15 rb (by omega), b13', ← hbd, hbd2]
      · have h1 := (hnr hc).1
        have h2 : blk pr ≠ sb := fun he => (hnr hc).2 (.inr he)
        exact k17 _ (slr.lt g12.fresh hc) h1 h2
      · show OwnG EI 3 h17 sb p2 (m5 x).1.length (m5 x).1
        rw [← hn]
        exact (o2'.but fun hp => by have := o2l hp; rw [e17 _ (by omega), e16 _ (by omega)]).less (by omega)
      · show OwnG EI 3 h17 sb _ (fill (m5 x).1.length (m6 x).1).length (fill (m5 x).1.length (m6 x).1)
        rw [← hn, hfl]
        exact ⟨hfl, .inr ⟨s12, 0, rfl, by omega, b16', .inl rfl⟩⟩
      · rw [k17 i (by omega) h2 (by omega), keep i h1 h2]
    · try simp (disch := first | assumption | omega | (simp only [Int.ofNat_eq_natCast, neg_one]; done) | (simp only [Int.ofNat_eq_natCast, neg_one]; omega)) only [tysW, wB, mB, Nat.reduceAdd, Nat.reduceMul, List.length_cons, List.length_nil, ldB b11, clB b11, ldBL b11, clBL b11, ldB br, clB br, ldBL br, clBL br, mulN _ _ _ _ hq, quo2]
      unfold X135_5
      try simp (disch := first | assumption | omega | (simp only [Int.ofNat_eq_natCast, neg_one]; done) | (simp only [Int.ofNat_eq_natCast, neg_one]; omega)) only [tysW, wB, mB, Nat.reduceAdd, Nat.reduceMul, List.length_cons, List.length_nil]
      refine wp_putF g12 hp br hrb (by simp) rfl fun h13 g13 b13 e13 => ?_
      simp only [overL] at b13
      try simp (disch := first | assumption | omega | (simp only [Int.ofNat_eq_natCast, neg_one]; done) | (simp only [Int.ofNat_eq_natCast, neg_one]; omega)) only [tysW, wB, mB, Nat.reduceAdd, Nat.reduceMul, List.length_cons, List.length_nil, ldB b13, clB b13, ldBL b13, clBL b13]
      subst hsb
      exact badK (by unfold wrongR; rw [decide_eq_false (show ¬ L = n * (n + 1) / 2 by omega)]; simp) g13 b13 e13
end
end Go.Ev.R

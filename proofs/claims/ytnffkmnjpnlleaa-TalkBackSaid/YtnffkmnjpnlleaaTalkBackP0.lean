/- The law TalkBack, part 0: what the functions answer, by their terms. No condition. -/
import Derived.Test.YtnffkmnjpnlleaaTalkBackK
import Derived.Test.YtnffkmnjpnlleaaXQ
set_option linter.unusedVariables false
set_option linter.unusedSimpArgs false
set_option maxRecDepth 100000
namespace Go.Ev.R
open Go Go.RowKit
abbrev vi (n : Int) : Value := .int .i64 n
abbrev ptr (b : Nat) : Value := .pointer (some ⟨b, 0, none⟩)
abbrev str (l : List UInt8) : Value := .string ⟨⟨l⟩⟩
theorem has_s_s (d : Nat) (K : KV) (s : Nat) : D 100000 (d + 1) 97 [str [115], .int .u8 (.ofNat 115)] K s = K (.bool true) s := by kernel_rfl
theorem con_s_s (d : Nat) (K : KV) (s : Nat) : D 100000 (d + 8) 93 [str [115], str [115]] K s = K (.bool true) s := by kernel_rfl
theorem has_s_q (d : Nat) (K : KV) (s : Nat) : D 100000 (d + 1) 97 [str [115], .int .u8 (.ofNat 113)] K s = K (.bool false) s := by kernel_rfl
theorem con_s_q (d : Nat) (K : KV) (s : Nat) : D 100000 (d + 8) 93 [str [115], str [113]] K s = K (.bool false) s := by kernel_rfl
theorem has_s_t (d : Nat) (K : KV) (s : Nat) : D 100000 (d + 1) 97 [str [115], .int .u8 (.ofNat 116)] K s = K (.bool false) s := by kernel_rfl
theorem con_s_t (d : Nat) (K : KV) (s : Nat) : D 100000 (d + 8) 93 [str [115], str [116]] K s = K (.bool false) s := by kernel_rfl
theorem has_s_d (d : Nat) (K : KV) (s : Nat) : D 100000 (d + 1) 97 [str [115], .int .u8 (.ofNat 100)] K s = K (.bool false) s := by kernel_rfl
theorem con_s_d (d : Nat) (K : KV) (s : Nat) : D 100000 (d + 8) 93 [str [115], str [100]] K s = K (.bool false) s := by kernel_rfl
theorem has_sqt_s (d : Nat) (K : KV) (s : Nat) : D 100000 (d + 1) 97 [str [115, 113, 116], .int .u8 (.ofNat 115)] K s = K (.bool true) s := by kernel_rfl
theorem con_sqt_s (d : Nat) (K : KV) (s : Nat) : D 100000 (d + 8) 93 [str [115, 113, 116], str [115]] K s = K (.bool true) s := by kernel_rfl
theorem has_sqt_q (d : Nat) (K : KV) (s : Nat) : D 100000 (d + 1) 97 [str [115, 113, 116], .int .u8 (.ofNat 113)] K s = K (.bool true) s := by kernel_rfl
theorem con_sqt_q (d : Nat) (K : KV) (s : Nat) : D 100000 (d + 8) 93 [str [115, 113, 116], str [113]] K s = K (.bool true) s := by kernel_rfl
theorem has_sqt_t (d : Nat) (K : KV) (s : Nat) : D 100000 (d + 1) 97 [str [115, 113, 116], .int .u8 (.ofNat 116)] K s = K (.bool true) s := by kernel_rfl
theorem con_sqt_t (d : Nat) (K : KV) (s : Nat) : D 100000 (d + 8) 93 [str [115, 113, 116], str [116]] K s = K (.bool true) s := by kernel_rfl
theorem has_sqt_d (d : Nat) (K : KV) (s : Nat) : D 100000 (d + 1) 97 [str [115, 113, 116], .int .u8 (.ofNat 100)] K s = K (.bool false) s := by kernel_rfl
theorem con_sqt_d (d : Nat) (K : KV) (s : Nat) : D 100000 (d + 8) 93 [str [115, 113, 116], str [100]] K s = K (.bool false) s := by kernel_rfl
theorem has_sqtd_s (d : Nat) (K : KV) (s : Nat) : D 100000 (d + 1) 97 [str [115, 113, 116, 100], .int .u8 (.ofNat 115)] K s = K (.bool true) s := by kernel_rfl
theorem con_sqtd_s (d : Nat) (K : KV) (s : Nat) : D 100000 (d + 8) 93 [str [115, 113, 116, 100], str [115]] K s = K (.bool true) s := by kernel_rfl
theorem has_sqtd_q (d : Nat) (K : KV) (s : Nat) : D 100000 (d + 1) 97 [str [115, 113, 116, 100], .int .u8 (.ofNat 113)] K s = K (.bool true) s := by kernel_rfl
theorem con_sqtd_q (d : Nat) (K : KV) (s : Nat) : D 100000 (d + 8) 93 [str [115, 113, 116, 100], str [113]] K s = K (.bool true) s := by kernel_rfl
theorem has_sqtd_t (d : Nat) (K : KV) (s : Nat) : D 100000 (d + 1) 97 [str [115, 113, 116, 100], .int .u8 (.ofNat 116)] K s = K (.bool true) s := by kernel_rfl
theorem con_sqtd_t (d : Nat) (K : KV) (s : Nat) : D 100000 (d + 8) 93 [str [115, 113, 116, 100], str [116]] K s = K (.bool true) s := by kernel_rfl
theorem has_sqtd_d (d : Nat) (K : KV) (s : Nat) : D 100000 (d + 1) 97 [str [115, 113, 116, 100], .int .u8 (.ofNat 100)] K s = K (.bool true) s := by kernel_rfl
theorem con_sqtd_d (d : Nat) (K : KV) (s : Nat) : D 100000 (d + 8) 93 [str [115, 113, 116, 100], str [100]] K s = K (.bool true) s := by kernel_rfl
theorem has_qt_s (d : Nat) (K : KV) (s : Nat) : D 100000 (d + 1) 97 [str [113, 116], .int .u8 (.ofNat 115)] K s = K (.bool false) s := by kernel_rfl
theorem con_qt_s (d : Nat) (K : KV) (s : Nat) : D 100000 (d + 8) 93 [str [113, 116], str [115]] K s = K (.bool false) s := by kernel_rfl
theorem has_qt_q (d : Nat) (K : KV) (s : Nat) : D 100000 (d + 1) 97 [str [113, 116], .int .u8 (.ofNat 113)] K s = K (.bool true) s := by kernel_rfl
theorem con_qt_q (d : Nat) (K : KV) (s : Nat) : D 100000 (d + 8) 93 [str [113, 116], str [113]] K s = K (.bool true) s := by kernel_rfl
theorem has_qt_t (d : Nat) (K : KV) (s : Nat) : D 100000 (d + 1) 97 [str [113, 116], .int .u8 (.ofNat 116)] K s = K (.bool true) s := by kernel_rfl
theorem con_qt_t (d : Nat) (K : KV) (s : Nat) : D 100000 (d + 8) 93 [str [113, 116], str [116]] K s = K (.bool true) s := by kernel_rfl
theorem has_qt_d (d : Nat) (K : KV) (s : Nat) : D 100000 (d + 1) 97 [str [113, 116], .int .u8 (.ofNat 100)] K s = K (.bool false) s := by kernel_rfl
theorem con_qt_d (d : Nat) (K : KV) (s : Nat) : D 100000 (d + 8) 93 [str [113, 116], str [100]] K s = K (.bool false) s := by kernel_rfl
theorem has_q_s (d : Nat) (K : KV) (s : Nat) : D 100000 (d + 1) 97 [str [113], .int .u8 (.ofNat 115)] K s = K (.bool false) s := by kernel_rfl
theorem con_q_s (d : Nat) (K : KV) (s : Nat) : D 100000 (d + 8) 93 [str [113], str [115]] K s = K (.bool false) s := by kernel_rfl
theorem has_q_q (d : Nat) (K : KV) (s : Nat) : D 100000 (d + 1) 97 [str [113], .int .u8 (.ofNat 113)] K s = K (.bool true) s := by kernel_rfl
theorem con_q_q (d : Nat) (K : KV) (s : Nat) : D 100000 (d + 8) 93 [str [113], str [113]] K s = K (.bool true) s := by kernel_rfl
theorem has_q_t (d : Nat) (K : KV) (s : Nat) : D 100000 (d + 1) 97 [str [113], .int .u8 (.ofNat 116)] K s = K (.bool false) s := by kernel_rfl
theorem con_q_t (d : Nat) (K : KV) (s : Nat) : D 100000 (d + 8) 93 [str [113], str [116]] K s = K (.bool false) s := by kernel_rfl
theorem has_q_d (d : Nat) (K : KV) (s : Nat) : D 100000 (d + 1) 97 [str [113], .int .u8 (.ofNat 100)] K s = K (.bool false) s := by kernel_rfl
theorem con_q_d (d : Nat) (K : KV) (s : Nat) : D 100000 (d + 8) 93 [str [113], str [100]] K s = K (.bool false) s := by kernel_rfl
end Go.Ev.R
namespace Go.Ev.R
open Go Go.RowKit
abbrev txt (l : List UInt8) : Value := .agg ⟨[str l]⟩
theorem u115 : P.underlying 115 = some (.map 3 114) := by kernel_rfl
theorem u3 : P.underlying 3 = some (.int .i64) := by kernel_rfl
theorem find_cons (k k' : Int) (x : Value) (b : Nat) (es : List MapEntry) (i : Nat) : Instr.findNow (.int .i64) (vi k) (⟨vi k', x, b⟩ :: es) i = if k = k' then some (some (i, x)) else Instr.findNow (.int .i64) (vi k) es (i + 1) := by
  simp only [Instr.findNow, Instr.sameNow]
  by_cases h : k = k'
  · simp [h]
  · rw [if_neg h]
    simp only [if_true]
    rw [show (k == k') = false from by simp [h]]
theorem find_nil (k : Int) (i : Nat) : Instr.findNow (.int .i64) (vi k) [] i = some none := rfl
section
variable {h : T} {pw : Nat → Prop} {Z : Value → T → Prop} {s0 s : Nat} {h0 : T}
/-- A key put into a map that has it not yet. -/
theorem wp_mu {r cl : Nat} {k : Int} {x : Value} {es : List MapEntry} {kk : Unit → Nat → AM} (g : From s0 h0 h s) (hp : ∀ n, s0 ≤ n → pw n) (hb : h.get r = some (.map ⟨es⟩ cl)) (hr : s0 ≤ r) (hfind : Instr.findNow (.int .i64) (vi k) es 0 = some none)
    (hk : ∀ h', From s0 h0 h' s → h'.get r = some (.map ⟨es ++ [⟨vi k, x, cl⟩]⟩ (cl + 1)) → (kk () s).wp pw Z h') : (amapUpdate P 115 (.map (some r)) (vi k) x kk s).wp pw Z h := by
  have hrs := lt_of_some g.fresh ⟨_, hb⟩
  unfold amapUpdate
  rw [u115]
  dsimp only
  rw [u3]
  dsimp only
  rw [show (keyT (.int .i64) && plain1 (vi k)) = true from rfl]
  simp only [cond_true]
  rw [wp_get, hb]
  dsimp only
  rw [hfind]
  dsimp only
  rw [wp_put, hb]
  refine ⟨hp r hr, ?_⟩
  dsimp only
  have e : (⟨es⟩ : Array MapEntry).push ⟨vi k, x, cl⟩ = ⟨es ++ [⟨vi k, x, cl⟩]⟩ := List.push_toArray es _
  rw [e]
  exact hk _ ⟨g.le, fun n hn => by rw [get_ne (by omega)]; exact g.keep n hn, fun n hn => by rw [get_ne (by omega)]; exact g.fresh n hn⟩ get_eq
/-- What a kind has. -/
def sayT (k : Int) : List UInt8 := if k = 1 then [115] else if k = 2 then [115, 113, 116] else if k = 3 then [115, 113, 116] else if k = 4 then [115, 113, 116, 100] else if k = 5 then [115, 113, 116, 100] else if k = 6 then [113, 116] else if k = 7 then [113] else []
abbrev sayM : Obj := .map ⟨[⟨vi 1, txt [115], 0⟩, ⟨vi 2, txt [115, 113, 116], 1⟩, ⟨vi 3, txt [115, 113, 116], 2⟩, ⟨vi 4, txt [115, 113, 116, 100], 3⟩, ⟨vi 5, txt [115, 113, 116, 100], 4⟩, ⟨vi 6, txt [113, 116], 5⟩, ⟨vi 7, txt [113], 6⟩]⟩ 7
theorem find_say (k : Int) (ok : Bool) : (match Instr.findNow (.int .i64) (vi k) [⟨vi 1, txt [115], 0⟩, ⟨vi 2, txt [115, 113, 116], 1⟩, ⟨vi 3, txt [115, 113, 116], 2⟩, ⟨vi 4, txt [115, 113, 116, 100], 3⟩, ⟨vi 5, txt [115, 113, 116, 100], 4⟩, ⟨vi 6, txt [113, 116], 5⟩, ⟨vi 7, txt [113], 6⟩] 0 with
    | some f => afound P 114 ok f
    | none => none) = some (if ok then .tuple ⟨[txt (sayT k), .bool (decide (1 ≤ k ∧ k ≤ 7))]⟩ else txt (sayT k)) := by
  have hz : zeroT P 114 = some (txt []) := by kernel_rfl
  simp only [find_cons, find_nil, sayT]
  by_cases h1 : k = 1
  · subst h1; rfl
  by_cases h2 : k = 2
  · subst h2; rfl
  by_cases h3 : k = 3
  · subst h3; rfl
  by_cases h4 : k = 4
  · subst h4; rfl
  by_cases h5 : k = 5
  · subst h5; rfl
  by_cases h6 : k = 6
  · subst h6; rfl
  by_cases h7 : k = 7
  · subst h7; rfl
  simp only [if_neg h1, if_neg h2, if_neg h3, if_neg h4, if_neg h5, if_neg h6, if_neg h7]
  show (match zeroT P 114 with | some z => some (if ok then Value.tuple #[z, .bool false] else z) | none => none) = _
  rw [hz, decide_eq_false (by omega)]
theorem wp_say {m : Nat} {k : Int} {ok : Bool} {kk : Value → Nat → AM} {s' : Nat} (hb : h.get m = some sayM) : (alookup P 115 (.map (some m)) (vi k) ok kk s').wp pw Z h = (kk (if ok then .tuple ⟨[txt (sayT k), .bool (decide (1 ≤ k ∧ k ≤ 7))]⟩ else txt (sayT k)) s').wp pw Z h := by
  have hfs := find_say k ok
  unfold alookup
  rw [u115]
  dsimp only
  rw [u3]
  dsimp only
  rw [show (keyT (.int .i64) && plain1 (vi k)) = true from rfl]
  simp only [cond_true]
  rw [wp_get, hb]
  dsimp only
  cases hfd : Instr.findNow (.int .i64) (vi k) [⟨vi 1, txt [115], 0⟩, ⟨vi 2, txt [115, 113, 116], 1⟩, ⟨vi 3, txt [115, 113, 116], 2⟩, ⟨vi 4, txt [115, 113, 116, 100], 3⟩, ⟨vi 5, txt [115, 113, 116, 100], 4⟩, ⟨vi 6, txt [113, 116], 5⟩, ⟨vi 7, txt [113], 6⟩] 0 with
  | none => rw [hfd] at hfs; cases hfs
  | some f =>
    rw [hfd] at hfs
    dsimp only at hfs ⊢
    rw [hfs]
    rfl
end
section
variable {N d : Nat} {h : T} {s : Nat} (hf : ∀ n, s ≤ n → h.get n = none)
include hf
theorem s87 : PureS (D N (d + 1)) 87 [] h s (fun v h' s' => ∃ m, v = .map (some m) ∧ s ≤ m ∧ h'.get m = some (.map ⟨[⟨vi 1, txt [115], 0⟩, ⟨vi 2, txt [115, 113, 116], 1⟩, ⟨vi 3, txt [115, 113, 116], 2⟩, ⟨vi 4, txt [115, 113, 116, 100], 3⟩, ⟨vi 5, txt [115, 113, 116, 100], 4⟩, ⟨vi 6, txt [113, 116], 5⟩, ⟨vi 7, txt [113], 6⟩]⟩ 7)) := by
  refine PureS.of hf fun K pw Z g hp hk => ?_
  rw [D_87]; unfold F87; rw [app0_eq]
  unfold X87_1
  unfold amakeMap
  refine wp_newF g hp fun h1 g1 c1 b1 => ?_
  dsimp only
  simp only [bd_114_0]
  refine wp_mu g1 hp b1 (Nat.le_refl _) (by rfl) fun h2 g2 b2 => ?_
  refine wp_mu g2 hp b2 (Nat.le_refl _) (by rfl) fun h3 g3 b3 => ?_
  refine wp_mu g3 hp b3 (Nat.le_refl _) (by rfl) fun h4 g4 b4 => ?_
  refine wp_mu g4 hp b4 (Nat.le_refl _) (by rfl) fun h5 g5 b5 => ?_
  refine wp_mu g5 hp b5 (Nat.le_refl _) (by rfl) fun h6 g6 b6 => ?_
  refine wp_mu g6 hp b6 (Nat.le_refl _) (by rfl) fun h7 g7 b7 => ?_
  refine wp_mu g7 hp b7 (Nat.le_refl _) (by rfl) fun h8 g8 b8 => ?_
  exact hk _ _ _ g8 ⟨s, rfl, Nat.le_refl _, b8⟩
end
end Go.Ev.R
namespace Go.Ev.R
open Go Go.RowKit
section
variable {N d : Nat} {h : T} {s : Nat} (hf : ∀ n, s ≤ n → h.get n = none)
include hf
theorem s94 (n m : Int) : ValS (D N (d + 1)) 94 [vi n, vi m] h s (.bool (decide (0 ≤ n ∧ n ≤ m))) := by
  refine ValS.of hf fun K pw Z g hp hk => ?_
  rw [D_94]; unfold F94; rw [app2_eq]
  have hk := hk _ _ g
  by_cases h0 : 0 ≤ n
  · by_cases h1 : n ≤ m
    · try simp (disch := first | assumption | omega | (simp only [Int.ofNat_eq_natCast, neg_one]; done) | (simp only [Int.ofNat_eq_natCast, neg_one]; omega)) only [tysW, w_bindJ, w_logJ, w_ct, w_cf, w_gtt, w_gft, w_gtf, w_gff, w_pt, w_pf, w_lret, w_e0, w_e1, w_e2, w_nil, w_fun, w_nt, w_nf, w_add, w_sub, w_eqt, w_eqf, w_net, w_nef, w_ltt, w_ltf, w_let, w_lef, w_gtt', w_gtf', w_get, w_gef, toNat_of, of_add, cast_add, nth_0, nth_s, Nat.zero_add, Nat.reduceAdd, Nat.reduceMul, Nat.add_zero, List.length_cons, List.length_nil, List.drop_zero, List.drop_succ_cons, List.take_succ_cons, List.take_zero, List.take_nil, true_and, and_true, Int.toNat_natCast, List.append_nil, List.nil_append, List.cons_append]
      rw [decide_eq_true ⟨h0, h1⟩] at hk; exact hk
    · try simp (disch := first | assumption | omega | (simp only [Int.ofNat_eq_natCast, neg_one]; done) | (simp only [Int.ofNat_eq_natCast, neg_one]; omega)) only [tysW, w_bindJ, w_logJ, w_ct, w_cf, w_gtt, w_gft, w_gtf, w_gff, w_pt, w_pf, w_lret, w_e0, w_e1, w_e2, w_nil, w_fun, w_nt, w_nf, w_add, w_sub, w_eqt, w_eqf, w_net, w_nef, w_ltt, w_ltf, w_let, w_lef, w_gtt', w_gtf', w_get, w_gef, toNat_of, of_add, cast_add, nth_0, nth_s, Nat.zero_add, Nat.reduceAdd, Nat.reduceMul, Nat.add_zero, List.length_cons, List.length_nil, List.drop_zero, List.drop_succ_cons, List.take_succ_cons, List.take_zero, List.take_nil, true_and, and_true, Int.toNat_natCast, List.append_nil, List.nil_append, List.cons_append]
      rw [decide_eq_false (by omega)] at hk; exact hk
  · try simp (disch := first | assumption | omega | (simp only [Int.ofNat_eq_natCast, neg_one]; done) | (simp only [Int.ofNat_eq_natCast, neg_one]; omega)) only [tysW, w_bindJ, w_logJ, w_ct, w_cf, w_gtt, w_gft, w_gtf, w_gff, w_pt, w_pf, w_lret, w_e0, w_e1, w_e2, w_nil, w_fun, w_nt, w_nf, w_add, w_sub, w_eqt, w_eqf, w_net, w_nef, w_ltt, w_ltf, w_let, w_lef, w_gtt', w_gtf', w_get, w_gef, toNat_of, of_add, cast_add, nth_0, nth_s, Nat.zero_add, Nat.reduceAdd, Nat.reduceMul, Nat.add_zero, List.length_cons, List.length_nil, List.drop_zero, List.drop_succ_cons, List.take_succ_cons, List.take_zero, List.take_nil, true_and, and_true, Int.toNat_natCast, List.append_nil, List.nil_append, List.cons_append]
    rw [decide_eq_false (by omega)] at hk; exact hk
theorem s95 (n : Int) : ValS (D N (d + 1)) 95 [vi n] h s (.bool (decide (0 ≤ n ∧ n ≤ 255))) := by
  refine ValS.of hf fun K pw Z g hp hk => ?_
  rw [D_95]; unfold F95; rw [app1_eq]
  have hk := hk _ _ g
  by_cases h0 : 0 ≤ n
  · by_cases h1 : n < 256
    · try simp (disch := first | assumption | omega | (simp only [Int.ofNat_eq_natCast, neg_one]; done) | (simp only [Int.ofNat_eq_natCast, neg_one]; omega)) only [tysW, w_bindJ, w_logJ, w_ct, w_cf, w_gtt, w_gft, w_gtf, w_gff, w_pt, w_pf, w_lret, w_e0, w_e1, w_e2, w_nil, w_fun, w_nt, w_nf, w_add, w_sub, w_eqt, w_eqf, w_net, w_nef, w_ltt, w_ltf, w_let, w_lef, w_gtt', w_gtf', w_get, w_gef, toNat_of, of_add, cast_add, nth_0, nth_s, Nat.zero_add, Nat.reduceAdd, Nat.reduceMul, Nat.add_zero, List.length_cons, List.length_nil, List.drop_zero, List.drop_succ_cons, List.take_succ_cons, List.take_zero, List.take_nil, true_and, and_true, Int.toNat_natCast, List.append_nil, List.nil_append, List.cons_append]
      rw [decide_eq_true ⟨h0, by omega⟩] at hk; exact hk
    · try simp (disch := first | assumption | omega | (simp only [Int.ofNat_eq_natCast, neg_one]; done) | (simp only [Int.ofNat_eq_natCast, neg_one]; omega)) only [tysW, w_bindJ, w_logJ, w_ct, w_cf, w_gtt, w_gft, w_gtf, w_gff, w_pt, w_pf, w_lret, w_e0, w_e1, w_e2, w_nil, w_fun, w_nt, w_nf, w_add, w_sub, w_eqt, w_eqf, w_net, w_nef, w_ltt, w_ltf, w_let, w_lef, w_gtt', w_gtf', w_get, w_gef, toNat_of, of_add, cast_add, nth_0, nth_s, Nat.zero_add, Nat.reduceAdd, Nat.reduceMul, Nat.add_zero, List.length_cons, List.length_nil, List.drop_zero, List.drop_succ_cons, List.take_succ_cons, List.take_zero, List.take_nil, true_and, and_true, Int.toNat_natCast, List.append_nil, List.nil_append, List.cons_append]
      rw [decide_eq_false (by omega)] at hk; exact hk
  · try simp (disch := first | assumption | omega | (simp only [Int.ofNat_eq_natCast, neg_one]; done) | (simp only [Int.ofNat_eq_natCast, neg_one]; omega)) only [tysW, w_bindJ, w_logJ, w_ct, w_cf, w_gtt, w_gft, w_gtf, w_gff, w_pt, w_pf, w_lret, w_e0, w_e1, w_e2, w_nil, w_fun, w_nt, w_nf, w_add, w_sub, w_eqt, w_eqf, w_net, w_nef, w_ltt, w_ltf, w_let, w_lef, w_gtt', w_gtf', w_get, w_gef, toNat_of, of_add, cast_add, nth_0, nth_s, Nat.zero_add, Nat.reduceAdd, Nat.reduceMul, Nat.add_zero, List.length_cons, List.length_nil, List.drop_zero, List.drop_succ_cons, List.take_succ_cons, List.take_zero, List.take_nil, true_and, and_true, Int.toNat_natCast, List.append_nil, List.nil_append, List.cons_append]
    rw [decide_eq_false (by omega)] at hk; exact hk
theorem s96 (n : Int) : ValS (D N (d + 1)) 96 [vi n] h s (.bool (decide (0 ≤ n ∧ n ≤ 2147483647))) := by
  refine ValS.of hf fun K pw Z g hp hk => ?_
  rw [D_96]; unfold F96; rw [app1_eq]
  have hk := hk _ _ g
  by_cases h0 : 0 ≤ n
  · by_cases h1 : n ≤ 2147483647
    · try simp (disch := first | assumption | omega | (simp only [Int.ofNat_eq_natCast, neg_one]; done) | (simp only [Int.ofNat_eq_natCast, neg_one]; omega)) only [tysW, w_bindJ, w_logJ, w_ct, w_cf, w_gtt, w_gft, w_gtf, w_gff, w_pt, w_pf, w_lret, w_e0, w_e1, w_e2, w_nil, w_fun, w_nt, w_nf, w_add, w_sub, w_eqt, w_eqf, w_net, w_nef, w_ltt, w_ltf, w_let, w_lef, w_gtt', w_gtf', w_get, w_gef, toNat_of, of_add, cast_add, nth_0, nth_s, Nat.zero_add, Nat.reduceAdd, Nat.reduceMul, Nat.add_zero, List.length_cons, List.length_nil, List.drop_zero, List.drop_succ_cons, List.take_succ_cons, List.take_zero, List.take_nil, true_and, and_true, Int.toNat_natCast, List.append_nil, List.nil_append, List.cons_append]
      rw [decide_eq_true ⟨h0, h1⟩] at hk; exact hk
    · try simp (disch := first | assumption | omega | (simp only [Int.ofNat_eq_natCast, neg_one]; done) | (simp only [Int.ofNat_eq_natCast, neg_one]; omega)) only [tysW, w_bindJ, w_logJ, w_ct, w_cf, w_gtt, w_gft, w_gtf, w_gff, w_pt, w_pf, w_lret, w_e0, w_e1, w_e2, w_nil, w_fun, w_nt, w_nf, w_add, w_sub, w_eqt, w_eqf, w_net, w_nef, w_ltt, w_ltf, w_let, w_lef, w_gtt', w_gtf', w_get, w_gef, toNat_of, of_add, cast_add, nth_0, nth_s, Nat.zero_add, Nat.reduceAdd, Nat.reduceMul, Nat.add_zero, List.length_cons, List.length_nil, List.drop_zero, List.drop_succ_cons, List.take_succ_cons, List.take_zero, List.take_nil, true_and, and_true, Int.toNat_natCast, List.append_nil, List.nil_append, List.cons_append]
      rw [decide_eq_false (by omega)] at hk; exact hk
  · try simp (disch := first | assumption | omega | (simp only [Int.ofNat_eq_natCast, neg_one]; done) | (simp only [Int.ofNat_eq_natCast, neg_one]; omega)) only [tysW, w_bindJ, w_logJ, w_ct, w_cf, w_gtt, w_gft, w_gtf, w_gff, w_pt, w_pf, w_lret, w_e0, w_e1, w_e2, w_nil, w_fun, w_nt, w_nf, w_add, w_sub, w_eqt, w_eqf, w_net, w_nef, w_ltt, w_ltf, w_let, w_lef, w_gtt', w_gtf', w_get, w_gef, toNat_of, of_add, cast_add, nth_0, nth_s, Nat.zero_add, Nat.reduceAdd, Nat.reduceMul, Nat.add_zero, List.length_cons, List.length_nil, List.drop_zero, List.drop_succ_cons, List.take_succ_cons, List.take_zero, List.take_nil, true_and, and_true, Int.toNat_natCast, List.append_nil, List.nil_append, List.cons_append]
    rw [decide_eq_false (by omega)] at hk; exact hk
theorem s90 (n : Int) : ValS (D N (d + 1)) 90 [vi n] h s (str (sayT n)) := by
  refine ValS.of hf fun K pw Z g hp hk => ?_
  rw [D_90]; unfold F90; rw [app1_eq]
  try simp (disch := first | assumption | omega | (simp only [Int.ofNat_eq_natCast, neg_one]; done) | (simp only [Int.ofNat_eq_natCast, neg_one]; omega)) only [tysW, w_bindJ, w_logJ, w_ct, w_cf, w_gtt, w_gft, w_gtf, w_gff, w_pt, w_pf, w_lret, w_e0, w_e1, w_e2, w_nil, w_fun, w_nt, w_nf, w_add, w_sub, w_eqt, w_eqf, w_net, w_nef, w_ltt, w_ltf, w_let, w_lef, w_gtt', w_gtf', w_get, w_gef, toNat_of, of_add, cast_add, nth_0, nth_s, Nat.zero_add, Nat.reduceAdd, Nat.reduceMul, Nat.add_zero, List.length_cons, List.length_nil, List.drop_zero, List.drop_succ_cons, List.take_succ_cons, List.take_zero, List.take_nil, true_and, and_true, Int.toNat_natCast, List.append_nil, List.nil_append, List.cons_append]
  refine wp_newF g hp fun h1 g1 c1 b1 => ?_
  have hk := hk _ _ g1
  by_cases h0 : n < 1
  · try simp (disch := first | assumption | omega | (simp only [Int.ofNat_eq_natCast, neg_one]; done) | (simp only [Int.ofNat_eq_natCast, neg_one]; omega)) only [tysW, w_bindJ, w_logJ, w_ct, w_cf, w_gtt, w_gft, w_gtf, w_gff, w_pt, w_pf, w_lret, w_e0, w_e1, w_e2, w_nil, w_fun, w_nt, w_nf, w_add, w_sub, w_eqt, w_eqf, w_net, w_nef, w_ltt, w_ltf, w_let, w_lef, w_gtt', w_gtf', w_get, w_gef, toNat_of, of_add, cast_add, nth_0, nth_s, Nat.zero_add, Nat.reduceAdd, Nat.reduceMul, Nat.add_zero, List.length_cons, List.length_nil, List.drop_zero, List.drop_succ_cons, List.take_succ_cons, List.take_zero, List.take_nil, true_and, and_true, Int.toNat_natCast, List.append_nil, List.nil_append, List.cons_append]
    unfold sayT at hk
    rw [if_neg (by omega), if_neg (by omega), if_neg (by omega), if_neg (by omega), if_neg (by omega), if_neg (by omega), if_neg (by omega)] at hk
    exact hk
  by_cases h8 : 7 < n
  · try simp (disch := first | assumption | omega | (simp only [Int.ofNat_eq_natCast, neg_one]; done) | (simp only [Int.ofNat_eq_natCast, neg_one]; omega)) only [tysW, w_bindJ, w_logJ, w_ct, w_cf, w_gtt, w_gft, w_gtf, w_gff, w_pt, w_pf, w_lret, w_e0, w_e1, w_e2, w_nil, w_fun, w_nt, w_nf, w_add, w_sub, w_eqt, w_eqf, w_net, w_nef, w_ltt, w_ltf, w_let, w_lef, w_gtt', w_gtf', w_get, w_gef, toNat_of, of_add, cast_add, nth_0, nth_s, Nat.zero_add, Nat.reduceAdd, Nat.reduceMul, Nat.add_zero, List.length_cons, List.length_nil, List.drop_zero, List.drop_succ_cons, List.take_succ_cons, List.take_zero, List.take_nil, true_and, and_true, Int.toNat_natCast, List.append_nil, List.nil_append, List.cons_append]
    unfold sayT at hk
    rw [if_neg (by omega), if_neg (by omega), if_neg (by omega), if_neg (by omega), if_neg (by omega), if_neg (by omega), if_neg (by omega)] at hk
    exact hk
  try simp (disch := first | assumption | omega | (simp only [Int.ofNat_eq_natCast, neg_one]; done) | (simp only [Int.ofNat_eq_natCast, neg_one]; omega)) only [tysW, w_bindJ, w_logJ, w_ct, w_cf, w_gtt, w_gft, w_gtf, w_gff, w_pt, w_pf, w_lret, w_e0, w_e1, w_e2, w_nil, w_fun, w_nt, w_nf, w_add, w_sub, w_eqt, w_eqf, w_net, w_nef, w_ltt, w_ltf, w_let, w_lef, w_gtt', w_gtf', w_get, w_gef, toNat_of, of_add, cast_add, nth_0, nth_s, Nat.zero_add, Nat.reduceAdd, Nat.reduceMul, Nat.add_zero, List.length_cons, List.length_nil, List.drop_zero, List.drop_succ_cons, List.take_succ_cons, List.take_zero, List.take_nil, true_and, and_true, Int.toNat_natCast, List.append_nil, List.nil_append, List.cons_append, ldB b1, clB b1, ldBL b1, clBL b1]
  have h7 : n = 1 ∨ n = 2 ∨ n = 3 ∨ n = 4 ∨ n = 5 ∨ n = 6 ∨ n = 7 := by omega
  rcases h7 with rfl | rfl | rfl | rfl | rfl | rfl | rfl <;> exact hk
end
theorem kinds {k : Int} (h : 1 ≤ k ∧ k ≤ 7) : k = 1 ∨ k = 2 ∨ k = 3 ∨ k = 4 ∨ k = 5 ∨ k = 6 ∨ k = 7 := by omega
section
variable {N : Nat} (hN : N = 100000) (d : Nat) (K : KV) (s : Nat) {k : Int} (hk : 1 ≤ k ∧ k ≤ 7)
include hN hk
theorem con_s : D N (d + 8) 93 [str (sayT k), str [115]] K s = K (.bool (!(decide (k = 6 ∨ k = 7)))) s := by
  subst hN
  rcases kinds hk with rfl | rfl | rfl | rfl | rfl | rfl | rfl
  · exact con_s_s d K s
  · exact con_sqt_s d K s
  · exact con_sqt_s d K s
  · exact con_sqtd_s d K s
  · exact con_sqtd_s d K s
  · exact con_qt_s d K s
  · exact con_q_s d K s
theorem con_q : D N (d + 8) 93 [str (sayT k), str [113]] K s = K (.bool (!(decide (k = 1)))) s := by
  subst hN
  rcases kinds hk with rfl | rfl | rfl | rfl | rfl | rfl | rfl
  · exact con_s_q d K s
  · exact con_sqt_q d K s
  · exact con_sqt_q d K s
  · exact con_sqtd_q d K s
  · exact con_sqtd_q d K s
  · exact con_qt_q d K s
  · exact con_q_q d K s
theorem con_t : D N (d + 8) 93 [str (sayT k), str [116]] K s = K (.bool (!(decide (k = 1 ∨ k = 7)))) s := by
  subst hN
  rcases kinds hk with rfl | rfl | rfl | rfl | rfl | rfl | rfl
  · exact con_s_t d K s
  · exact con_sqt_t d K s
  · exact con_sqt_t d K s
  · exact con_sqtd_t d K s
  · exact con_sqtd_t d K s
  · exact con_qt_t d K s
  · exact con_q_t d K s
theorem con_d : D N (d + 8) 93 [str (sayT k), str [100]] K s = K (.bool (decide (k = 4 ∨ k = 5))) s := by
  subst hN
  rcases kinds hk with rfl | rfl | rfl | rfl | rfl | rfl | rfl
  · exact con_s_d d K s
  · exact con_sqt_d d K s
  · exact con_sqt_d d K s
  · exact con_sqtd_d d K s
  · exact con_sqtd_d d K s
  · exact con_qt_d d K s
  · exact con_q_d d K s
end
section
variable {N d : Nat} {h : T} {s : Nat} (hf : ∀ n, s ≤ n → h.get n = none)
include hf
theorem s92 {fb : Nat} {l : List UInt8} (hb : h.get fb = some (.cells ⟨[str l]⟩ 114 (0, 0))) (c : UInt8) (em b : Bool) (hcon : ∀ (K : KV) (s : Nat), D N (d + 8) 93 [str l, str [c]] K s = K (.bool b) s) : ValS (D N (d + 9)) 92 [str [c], .bool em, ptr fb] h s (.bool (!em && !b)) := by
  refine ValS.of hf fun K pw Z g hp hk => ?_
  rw [D_92]; unfold F92; rw [app3_eq]
  have hk := hk _ _ g
  cases em with
  | true =>
    try simp (disch := first | assumption | omega | (simp only [Int.ofNat_eq_natCast, neg_one]; done) | (simp only [Int.ofNat_eq_natCast, neg_one]; omega)) only [tysW, w_bindJ, w_logJ, w_ct, w_cf, w_gtt, w_gft, w_gtf, w_gff, w_pt, w_pf, w_lret, w_e0, w_e1, w_e2, w_nil, w_fun, w_nt, w_nf, w_add, w_sub, w_eqt, w_eqf, w_net, w_nef, w_ltt, w_ltf, w_let, w_lef, w_gtt', w_gtf', w_get, w_gef, toNat_of, of_add, cast_add, nth_0, nth_s, Nat.zero_add, Nat.reduceAdd, Nat.reduceMul, Nat.add_zero, List.length_cons, List.length_nil, List.drop_zero, List.drop_succ_cons, List.take_succ_cons, List.take_zero, List.take_nil, true_and, and_true, Int.toNat_natCast, List.append_nil, List.nil_append, List.cons_append]
    exact hk
  | false =>
    try simp (disch := first | assumption | omega | (simp only [Int.ofNat_eq_natCast, neg_one]; done) | (simp only [Int.ofNat_eq_natCast, neg_one]; omega)) only [tysW, w_bindJ, w_logJ, w_ct, w_cf, w_gtt, w_gft, w_gtf, w_gff, w_pt, w_pf, w_lret, w_e0, w_e1, w_e2, w_nil, w_fun, w_nt, w_nf, w_add, w_sub, w_eqt, w_eqf, w_net, w_nef, w_ltt, w_ltf, w_let, w_lef, w_gtt', w_gtf', w_get, w_gef, toNat_of, of_add, cast_add, nth_0, nth_s, Nat.zero_add, Nat.reduceAdd, Nat.reduceMul, Nat.add_zero, List.length_cons, List.length_nil, List.drop_zero, List.drop_succ_cons, List.take_succ_cons, List.take_zero, List.take_nil, true_and, and_true, Int.toNat_natCast, List.append_nil, List.nil_append, List.cons_append, ldB hb, clB hb, ldBL hb, clBL hb]
    rw [hcon]
    try simp (disch := first | assumption | omega | (simp only [Int.ofNat_eq_natCast, neg_one]; done) | (simp only [Int.ofNat_eq_natCast, neg_one]; omega)) only [tysW, w_bindJ, w_logJ, w_ct, w_cf, w_gtt, w_gft, w_gtf, w_gff, w_pt, w_pf, w_lret, w_e0, w_e1, w_e2, w_nil, w_fun, w_nt, w_nf, w_add, w_sub, w_eqt, w_eqf, w_net, w_nef, w_ltt, w_ltf, w_let, w_lef, w_gtt', w_gtf', w_get, w_gef, toNat_of, of_add, cast_add, nth_0, nth_s, Nat.zero_add, Nat.reduceAdd, Nat.reduceMul, Nat.add_zero, List.length_cons, List.length_nil, List.drop_zero, List.drop_succ_cons, List.take_succ_cons, List.take_zero, List.take_nil, true_and, and_true, Int.toNat_natCast, List.append_nil, List.nil_append, List.cons_append, w_not]
    exact hk
end
end Go.Ev.R
namespace Go.Ev.R
open Go Go.RowKit
/-- A saying as it comes in. -/
structure SV where
  kind : Int
  sen : Int
  seq : Int
  time : Int
  p : Option Addr
  n : Nat
  c : Nat
def svv (x : SV) : List Value := [vi x.kind, vi x.sen, vi x.seq, vi x.time, .slice x.p x.n x.c]
/-- Whether it may not be said. -/
def badS (x : SV) : Bool := !decide (1 ≤ x.kind ∧ x.kind ≤ 7) || (!decide (0 ≤ x.sen ∧ x.sen ≤ 255) || (!decide (0 ≤ x.seq ∧ x.seq ≤ 2147483647) || (decide (24 < x.n) || ((!decide (x.sen = 0) && decide (x.kind = 6 ∨ x.kind = 7)) || ((!decide (x.seq = 0) && decide (x.kind = 1)) || ((!decide (x.time = 0) && decide (x.kind = 1 ∨ x.kind = 7)) || (!decide (x.n = 0) && !decide (x.kind = 4 ∨ x.kind = 5))))))))
section
variable (N : Nat) (C : CallT) (K : KV) (v2 v19 x : Value) (s : Nat)
theorem bad25_1 : X25_1 N C K (.bool true) v2 v19 x s = K (vi 2) s := rfl
theorem bad25_2 : X25_2 N C K (.bool true) v2 v19 x s = K (vi 2) s := rfl
theorem bad25_2' : X25_2 N C K (.bool false) v2 v19 (.bool true) s = K (vi 2) s := rfl
theorem on25_3 {a c d e : Int} {p : Option Addr} {n m s0 : Nat} {pw : Nat → Prop} {Z : Value → T → Prop} {h : T} (hb : h.get s0 = some (.cells ⟨[vi a, vi c, vi d, vi e, .slice p n m]⟩ 33 (0,0))) (hn : (24 : Int) < n) : (X25_3 N C K (.bool false) (ptr s0) v19 (.bool false) s).wp pw Z h = (K (vi 2) s).wp pw Z h := by
  unfold X25_3
  try simp (disch := first | assumption | omega | (simp only [Int.ofNat_eq_natCast, neg_one]; done) | (simp only [Int.ofNat_eq_natCast, neg_one]; omega)) only [tysW, w_bindJ, w_logJ, w_ct, w_cf, w_gtt, w_gft, w_gtf, w_gff, w_pt, w_pf, w_lret, w_e0, w_e1, w_e2, w_nil, w_fun, w_nt, w_nf, w_add, w_sub, w_eqt, w_eqf, w_net, w_nef, w_ltt, w_ltf, w_let, w_lef, w_gtt', w_gtf', w_get, w_gef, toNat_of, of_add, cast_add, nth_0, nth_s, Nat.zero_add, Nat.reduceAdd, Nat.reduceMul, Nat.add_zero, List.length_cons, List.length_nil, List.drop_zero, List.drop_succ_cons, List.take_succ_cons, List.take_zero, List.take_nil, true_and, and_true, Int.toNat_natCast, List.append_nil, List.nil_append, List.cons_append, ldB hb, clB hb, ldBL hb, clBL hb]
  rw [bad25_2]
theorem of25_3 {a c d e : Int} {f : Nat} {p : Option Addr} {n m s0 : Nat} {pw : Nat → Prop} {Z : Value → T → Prop} {h : T} (hb : h.get s0 = some (.cells ⟨[vi a, vi c, vi d, vi e, .slice p n m]⟩ 33 (0,0))) (hn : ¬ (24 : Int) < n) : (X25_3 N C K (.bool false) (ptr s0) (.func (.func 92) ⟨[]⟩ ⟨[ptr f]⟩) (.bool false) s).wp pw Z h = (C 92 [str [115], .bool (decide (c = 0)), ptr f] (fun v s => X25_2 N C K (.bool false) (ptr s0) (.func (.func 92) ⟨[]⟩ ⟨[ptr f]⟩) v s) s).wp pw Z h := by
  unfold X25_3
  try simp (disch := first | assumption | omega | (simp only [Int.ofNat_eq_natCast, neg_one]; done) | (simp only [Int.ofNat_eq_natCast, neg_one]; omega)) only [tysW, w_bindJ, w_logJ, w_ct, w_cf, w_gtt, w_gft, w_gtf, w_gff, w_pt, w_pf, w_lret, w_e0, w_e1, w_e2, w_nil, w_fun, w_nt, w_nf, w_add, w_sub, w_eqt, w_eqf, w_net, w_nef, w_ltt, w_ltf, w_let, w_lef, w_gtt', w_gtf', w_get, w_gef, toNat_of, of_add, cast_add, nth_0, nth_s, Nat.zero_add, Nat.reduceAdd, Nat.reduceMul, Nat.add_zero, List.length_cons, List.length_nil, List.drop_zero, List.drop_succ_cons, List.take_succ_cons, List.take_zero, List.take_nil, true_and, and_true, Int.toNat_natCast, List.append_nil, List.nil_append, List.cons_append, ldB hb, clB hb, ldBL hb, clBL hb, w_eq, iv_92]
  rfl
theorem bad25_3' : X25_3 N C K (.bool false) v2 v19 (.bool true) s = K (vi 2) s := rfl
theorem bad25_3 : X25_3 N C K (.bool true) v2 v19 x s = K (vi 2) s := rfl
end
section
variable {N d : Nat} (hN : N = 100000) {h : T} {s : Nat} (hf : ∀ n, s ≤ n → h.get n = none)
include hN hf
theorem s25 (x : SV) : ValS (D N (d + 11)) 25 [.agg ⟨svv x⟩] h s (vi (if badS x = true then 2 else 0)) := by
  refine ValS.of hf fun K pw Z g hp hk => ?_
  rw [D_25]; unfold F25; rw [app1_eq]
  refine wp_boxA g hp fun h1 g1 c1 b1 => ?_
  simp only [svv] at b1
  refine PureS.goL g1 hp (s87 (d := d + 9) g1.fresh) fun v h2 s2 ts2 ws2 g2 c2 hv hw2 ht2 => ?_
  obtain ⟨m, rfl, hm, bm⟩ := hv
  have l2 := c2.le
  replace b1 := c2.box b1 (by omega)
  unfold X25_5
  try simp (disch := first | assumption | omega | (simp only [Int.ofNat_eq_natCast, neg_one]; done) | (simp only [Int.ofNat_eq_natCast, neg_one]; omega)) only [tysW, w_bindJ, w_logJ, w_ct, w_cf, w_gtt, w_gft, w_gtf, w_gff, w_pt, w_pf, w_lret, w_e0, w_e1, w_e2, w_nil, w_fun, w_nt, w_nf, w_add, w_sub, w_eqt, w_eqf, w_net, w_nef, w_ltt, w_ltf, w_let, w_lef, w_gtt', w_gtf', w_get, w_gef, toNat_of, of_add, cast_add, nth_0, nth_s, Nat.zero_add, Nat.reduceAdd, Nat.reduceMul, Nat.add_zero, List.length_cons, List.length_nil, List.drop_zero, List.drop_succ_cons, List.take_succ_cons, List.take_zero, List.take_nil, true_and, and_true, Int.toNat_natCast, List.append_nil, List.nil_append, List.cons_append, ldB b1, clB b1, ldBL b1, clBL b1]
  refine log_wp (W := fun _ => False) (Q := fun v h' s' => v = .tuple ⟨[txt (sayT x.kind), .bool (decide (1 ≤ x.kind ∧ x.kind ≤ 7))]⟩ ∧ h' = h2 ∧ s' = s2) ?_ (fun n hn => hn.elim) ?_
  · rw [wp_say bm]
    exact ⟨_, _, rfl, rfl, rfl, rfl⟩
  rintro v h3 s3 ts3 ws3 ⟨rfl, rfl, rfl⟩ hw3 ht3
  replace hw3 : ∀ n ∈ ws3, s3 ≤ n ∧ n < s3 := fun n hn => (hw3 n hn).1.elim
  replace ht3 : ∀ n ∈ ts3, n < s3 := fun n hn => lt_of_some g2.fresh (ht3 n hn)
  try simp (disch := first | assumption | omega | (simp only [Int.ofNat_eq_natCast, neg_one]; done) | (simp only [Int.ofNat_eq_natCast, neg_one]; omega)) only [tysW, w_bindJ, w_logJ, w_ct, w_cf, w_gtt, w_gft, w_gtf, w_gff, w_pt, w_pf, w_lret, w_e0, w_e1, w_e2, w_nil, w_fun, w_nt, w_nf, w_add, w_sub, w_eqt, w_eqf, w_net, w_nef, w_ltt, w_ltf, w_let, w_lef, w_gtt', w_gtf', w_get, w_gef, toNat_of, of_add, cast_add, nth_0, nth_s, Nat.zero_add, Nat.reduceAdd, Nat.reduceMul, Nat.add_zero, List.length_cons, List.length_nil, List.drop_zero, List.drop_succ_cons, List.take_succ_cons, List.take_zero, List.take_nil, true_and, and_true, Int.toNat_natCast, List.append_nil, List.nil_append, List.cons_append]
  refine wp_boxL g2 hp fun h4 g4 c4 b4 => ?_
  replace b1 := c4.box b1 (by omega)
  try simp (disch := first | assumption | omega | (simp only [Int.ofNat_eq_natCast, neg_one]; done) | (simp only [Int.ofNat_eq_natCast, neg_one]; omega)) only [tysW, w_bindJ, w_logJ, w_ct, w_cf, w_gtt, w_gft, w_gtf, w_gff, w_pt, w_pf, w_lret, w_e0, w_e1, w_e2, w_nil, w_fun, w_nt, w_nf, w_add, w_sub, w_eqt, w_eqf, w_net, w_nef, w_ltt, w_ltf, w_let, w_lef, w_gtt', w_gtf', w_get, w_gef, toNat_of, of_add, cast_add, nth_0, nth_s, Nat.zero_add, Nat.reduceAdd, Nat.reduceMul, Nat.add_zero, List.length_cons, List.length_nil, List.drop_zero, List.drop_succ_cons, List.take_succ_cons, List.take_zero, List.take_nil, true_and, and_true, Int.toNat_natCast, List.append_nil, List.nil_append, List.cons_append]
  refine wp_putL g4 hp b4 (by omega) (by simp) rfl fun h5 g5 b5 e5 => ?_
  simp only [overL] at b5
  replace b1 := (e5 s (by omega)).trans b1
  unfold X25_4
  rw [wp_guard, if_pos (by repeat' (first | exact dynOk_nil _ _ | refine dyn_skip' ?_ | refine dyn_cons ?_ ?_ | exact allF_nil _ _ | refine allF_cons ?_ ?_ | exact disj_below hw2 (by omega) | exact disjA hw2 (by omega) | exact disjB hw2 (by omega) | exact disjC hw2 (by assumption) | exact disjD (fun m hm => by have := hw2 m hm; omega) | exact disj_below ht2 (by omega) | exact disjA ht2 (by omega) | exact disjB ht2 (by omega) | exact disjC ht2 (by assumption) | exact disjD (fun m hm => by have := ht2 m hm; omega) | exact disj_below hw3 (by omega) | exact disjA hw3 (by omega) | exact disjB hw3 (by omega) | exact disjC hw3 (by assumption) | exact disjD (fun m hm => by have := hw3 m hm; omega) | exact disj_below ht3 (by omega) | exact disjA ht3 (by omega) | exact disjB ht3 (by omega) | exact disjC ht3 (by assumption) | exact disjD (fun m hm => by have := ht3 m hm; omega) | exact disjN _ | exact disj1 (by omega) | exact disj2 (by omega) | exact disj3 (by assumption) | exact disjC hw2 (fun m hm => by have := ht2 m hm; omega) | exact disjC hw2 (fun m hm => by have := hw3 m hm; omega) | exact disjC hw2 (fun m hm => by have := ht3 m hm; omega) | exact disjC ht2 (fun m hm => by have := hw2 m hm; omega) | exact disjC ht2 (fun m hm => by have := hw3 m hm; omega) | exact disjC ht2 (fun m hm => by have := ht3 m hm; omega) | exact disjC hw3 (fun m hm => by have := hw2 m hm; omega) | exact disjC hw3 (fun m hm => by have := ht2 m hm; omega) | exact disjC hw3 (fun m hm => by have := ht3 m hm; omega) | exact disjC ht3 (fun m hm => by have := hw2 m hm; omega) | exact disjC ht3 (fun m hm => by have := ht2 m hm; omega) | exact disjC ht3 (fun m hm => by have := hw3 m hm; omega)))]
  have bad : badS x = true → (K (vi 2) (s3 + 1)).wp pw Z h5 := fun hb => by
    have := hk _ _ g5
    rw [if_pos hb] at this; exact this
  have l3 : s + 1 ≤ s3 := l2
  by_cases hkd : 1 ≤ x.kind ∧ x.kind ≤ 7
  · rw [decide_eq_true hkd]
    try simp (disch := first | assumption | omega | (simp only [Int.ofNat_eq_natCast, neg_one]; done) | (simp only [Int.ofNat_eq_natCast, neg_one]; omega)) only [tysW, w_bindJ, w_logJ, w_ct, w_cf, w_gtt, w_gft, w_gtf, w_gff, w_pt, w_pf, w_lret, w_e0, w_e1, w_e2, w_nil, w_fun, w_nt, w_nf, w_add, w_sub, w_eqt, w_eqf, w_net, w_nef, w_ltt, w_ltf, w_let, w_lef, w_gtt', w_gtf', w_get, w_gef, toNat_of, of_add, cast_add, nth_0, nth_s, Nat.zero_add, Nat.reduceAdd, Nat.reduceMul, Nat.add_zero, List.length_cons, List.length_nil, List.drop_zero, List.drop_succ_cons, List.take_succ_cons, List.take_zero, List.take_nil, true_and, and_true, Int.toNat_natCast, List.append_nil, List.nil_append, List.cons_append, ldB b1, clB b1, ldBL b1, clBL b1]
    refine ValS.go g5 hp (s94 (d := d + 9) g5.fresh x.sen 255) fun h6 s6 g6 c6 => ?_
    have l6 := c6.le
    by_cases hse : 0 ≤ x.sen ∧ x.sen ≤ 255
    · rw [decide_eq_true hse]
      try simp (disch := first | assumption | omega | (simp only [Int.ofNat_eq_natCast, neg_one]; done) | (simp only [Int.ofNat_eq_natCast, neg_one]; omega)) only [tysW, w_bindJ, w_logJ, w_ct, w_cf, w_gtt, w_gft, w_gtf, w_gff, w_pt, w_pf, w_lret, w_e0, w_e1, w_e2, w_nil, w_fun, w_nt, w_nf, w_add, w_sub, w_eqt, w_eqf, w_net, w_nef, w_ltt, w_ltf, w_let, w_lef, w_gtt', w_gtf', w_get, w_gef, toNat_of, of_add, cast_add, nth_0, nth_s, Nat.zero_add, Nat.reduceAdd, Nat.reduceMul, Nat.add_zero, List.length_cons, List.length_nil, List.drop_zero, List.drop_succ_cons, List.take_succ_cons, List.take_zero, List.take_nil, true_and, and_true, Int.toNat_natCast, List.append_nil, List.nil_append, List.cons_append, ldB (c6.box b1 (by omega)), clB (c6.box b1 (by omega)), ldBL (c6.box b1 (by omega)), clBL (c6.box b1 (by omega))]
      refine ValS.go g6 hp (s94 (d := d + 9) g6.fresh x.seq 2147483647) fun h7 s7 g7 c7 => ?_
      have l7 := c7.le
      have b17 := c7.box (c6.box b1 (by omega)) (by omega)
      have bf7 := c7.box (c6.box b5 (by omega)) (by omega)
      have bad7 : badS x = true → (K (vi 2) s7).wp pw Z h7 := fun hb => by
        have := hk _ _ g7
        rw [if_pos hb] at this; exact this
      by_cases hsq : 0 ≤ x.seq ∧ x.seq ≤ 2147483647
      · rw [decide_eq_true hsq]
        by_cases hn : (24 : Int) < (x.n : Int)
        · try simp (disch := first | assumption | omega | (simp only [Int.ofNat_eq_natCast, neg_one]; done) | (simp only [Int.ofNat_eq_natCast, neg_one]; omega)) only [tysW, w_bindJ, w_logJ, w_ct, w_cf, w_gtt, w_gft, w_gtf, w_gff, w_pt, w_pf, w_lret, w_e0, w_e1, w_e2, w_nil, w_fun, w_nt, w_nf, w_add, w_sub, w_eqt, w_eqf, w_net, w_nef, w_ltt, w_ltf, w_let, w_lef, w_gtt', w_gtf', w_get, w_gef, toNat_of, of_add, cast_add, nth_0, nth_s, Nat.zero_add, Nat.reduceAdd, Nat.reduceMul, Nat.add_zero, List.length_cons, List.length_nil, List.drop_zero, List.drop_succ_cons, List.take_succ_cons, List.take_zero, List.take_nil, true_and, and_true, Int.toNat_natCast, List.append_nil, List.nil_append, List.cons_append]
          rw [on25_3 (hb := b17) (hn := hn)]
          exact bad7 (by simp [badS, show 24 < x.n by omega])
        · try simp (disch := first | assumption | omega | (simp only [Int.ofNat_eq_natCast, neg_one]; done) | (simp only [Int.ofNat_eq_natCast, neg_one]; omega)) only [tysW, w_bindJ, w_logJ, w_ct, w_cf, w_gtt, w_gft, w_gtf, w_gff, w_pt, w_pf, w_lret, w_e0, w_e1, w_e2, w_nil, w_fun, w_nt, w_nf, w_add, w_sub, w_eqt, w_eqf, w_net, w_nef, w_ltt, w_ltf, w_let, w_lef, w_gtt', w_gtf', w_get, w_gef, toNat_of, of_add, cast_add, nth_0, nth_s, Nat.zero_add, Nat.reduceAdd, Nat.reduceMul, Nat.add_zero, List.length_cons, List.length_nil, List.drop_zero, List.drop_succ_cons, List.take_succ_cons, List.take_zero, List.take_nil, true_and, and_true, Int.toNat_natCast, List.append_nil, List.nil_append, List.cons_append]
          rw [of25_3 (hb := b17) (hn := hn)]
          refine ValS.go g7 hp (s92 (d := d + 1) g7.fresh bf7 115 (decide (x.sen = 0)) (!(decide (x.kind = 6 ∨ x.kind = 7))) fun K s => con_s hN (d + 1) K s hkd) fun h8 s8 g8 c8 => ?_
          have bf8 := c8.box bf7 (by omega)
          have b18 := c8.box b17 (by omega)
          have l8 := c8.le
          have bad8 : badS x = true → (K (vi 2) s8).wp pw Z h8 := fun hb => by
            have := hk _ _ g8
            rw [if_pos hb] at this; exact this
          cases e1 : (!decide (x.sen = 0) && !(!(decide (x.kind = 6 ∨ x.kind = 7)))) with
          | true =>
            rw [bad25_2']
            rw [Bool.not_not] at e1
            exact bad8 (by unfold badS; rw [e1]; simp)
          | false =>
            unfold X25_2
            try simp (disch := first | assumption | omega | (simp only [Int.ofNat_eq_natCast, neg_one]; done) | (simp only [Int.ofNat_eq_natCast, neg_one]; omega)) only [tysW, w_bindJ, w_logJ, w_ct, w_cf, w_gtt, w_gft, w_gtf, w_gff, w_pt, w_pf, w_lret, w_e0, w_e1, w_e2, w_nil, w_fun, w_nt, w_nf, w_add, w_sub, w_eqt, w_eqf, w_net, w_nef, w_ltt, w_ltf, w_let, w_lef, w_gtt', w_gtf', w_get, w_gef, toNat_of, of_add, cast_add, nth_0, nth_s, Nat.zero_add, Nat.reduceAdd, Nat.reduceMul, Nat.add_zero, List.length_cons, List.length_nil, List.drop_zero, List.drop_succ_cons, List.take_succ_cons, List.take_zero, List.take_nil, true_and, and_true, Int.toNat_natCast, List.append_nil, List.nil_append, List.cons_append, ldB b18, clB b18, ldBL b18, clBL b18, w_eq, iv_92]
            refine ValS.go g8 hp (s92 (d := d + 1) g8.fresh bf8 113 (decide (x.seq = 0)) (!(decide (x.kind = 1))) fun K s => con_q hN (d + 1) K s hkd) fun h9 s9 g9 c9 => ?_
            have bf9 := c9.box bf8 (by omega)
            have b19 := c9.box b18 (by omega)
            have l9 := c9.le
            have bad9 : badS x = true → (K (vi 2) s9).wp pw Z h9 := fun hb => by
              have := hk _ _ g9
              rw [if_pos hb] at this; exact this
            cases e2 : (!decide (x.seq = 0) && !(!(decide (x.kind = 1)))) with
            | true =>
              try simp (disch := first | assumption | omega | (simp only [Int.ofNat_eq_natCast, neg_one]; done) | (simp only [Int.ofNat_eq_natCast, neg_one]; omega)) only [tysW, w_bindJ, w_logJ, w_ct, w_cf, w_gtt, w_gft, w_gtf, w_gff, w_pt, w_pf, w_lret, w_e0, w_e1, w_e2, w_nil, w_fun, w_nt, w_nf, w_add, w_sub, w_eqt, w_eqf, w_net, w_nef, w_ltt, w_ltf, w_let, w_lef, w_gtt', w_gtf', w_get, w_gef, toNat_of, of_add, cast_add, nth_0, nth_s, Nat.zero_add, Nat.reduceAdd, Nat.reduceMul, Nat.add_zero, List.length_cons, List.length_nil, List.drop_zero, List.drop_succ_cons, List.take_succ_cons, List.take_zero, List.take_nil, true_and, and_true, Int.toNat_natCast, List.append_nil, List.nil_append, List.cons_append]
              rw [bad25_1]
              rw [Bool.not_not] at e2
              exact bad9 (by unfold badS; rw [e2]; simp)
            | false =>
              try simp (disch := first | assumption | omega | (simp only [Int.ofNat_eq_natCast, neg_one]; done) | (simp only [Int.ofNat_eq_natCast, neg_one]; omega)) only [tysW, w_bindJ, w_logJ, w_ct, w_cf, w_gtt, w_gft, w_gtf, w_gff, w_pt, w_pf, w_lret, w_e0, w_e1, w_e2, w_nil, w_fun, w_nt, w_nf, w_add, w_sub, w_eqt, w_eqf, w_net, w_nef, w_ltt, w_ltf, w_let, w_lef, w_gtt', w_gtf', w_get, w_gef, toNat_of, of_add, cast_add, nth_0, nth_s, Nat.zero_add, Nat.reduceAdd, Nat.reduceMul, Nat.add_zero, List.length_cons, List.length_nil, List.drop_zero, List.drop_succ_cons, List.take_succ_cons, List.take_zero, List.take_nil, true_and, and_true, Int.toNat_natCast, List.append_nil, List.nil_append, List.cons_append, ldB b19, clB b19, ldBL b19, clBL b19, w_eq, iv_92]
              refine ValS.go g9 hp (s92 (d := d + 1) g9.fresh bf9 116 (decide (x.time = 0)) (!(decide (x.kind = 1 ∨ x.kind = 7))) fun K s => con_t hN (d + 1) K s hkd) fun h10 s10 g10 c10 => ?_
              have bf10 := c10.box bf9 (by omega)
              have b110 := c10.box b19 (by omega)
              have l10 := c10.le
              have bad10 : badS x = true → (K (vi 2) s10).wp pw Z h10 := fun hb => by
                have := hk _ _ g10
                rw [if_pos hb] at this; exact this
              unfold X25_1
              cases e3 : (!decide (x.time = 0) && !(!(decide (x.kind = 1 ∨ x.kind = 7)))) with
              | true =>
                try simp (disch := first | assumption | omega | (simp only [Int.ofNat_eq_natCast, neg_one]; done) | (simp only [Int.ofNat_eq_natCast, neg_one]; omega)) only [tysW, w_bindJ, w_logJ, w_ct, w_cf, w_gtt, w_gft, w_gtf, w_gff, w_pt, w_pf, w_lret, w_e0, w_e1, w_e2, w_nil, w_fun, w_nt, w_nf, w_add, w_sub, w_eqt, w_eqf, w_net, w_nef, w_ltt, w_ltf, w_let, w_lef, w_gtt', w_gtf', w_get, w_gef, toNat_of, of_add, cast_add, nth_0, nth_s, Nat.zero_add, Nat.reduceAdd, Nat.reduceMul, Nat.add_zero, List.length_cons, List.length_nil, List.drop_zero, List.drop_succ_cons, List.take_succ_cons, List.take_zero, List.take_nil, true_and, and_true, Int.toNat_natCast, List.append_nil, List.nil_append, List.cons_append]
                rw [Bool.not_not] at e3
                exact bad10 (by unfold badS; rw [e3]; simp)
              | false =>
                try simp (disch := first | assumption | omega | (simp only [Int.ofNat_eq_natCast, neg_one]; done) | (simp only [Int.ofNat_eq_natCast, neg_one]; omega)) only [tysW, w_bindJ, w_logJ, w_ct, w_cf, w_gtt, w_gft, w_gtf, w_gff, w_pt, w_pf, w_lret, w_e0, w_e1, w_e2, w_nil, w_fun, w_nt, w_nf, w_add, w_sub, w_eqt, w_eqf, w_net, w_nef, w_ltt, w_ltf, w_let, w_lef, w_gtt', w_gtf', w_get, w_gef, toNat_of, of_add, cast_add, nth_0, nth_s, Nat.zero_add, Nat.reduceAdd, Nat.reduceMul, Nat.add_zero, List.length_cons, List.length_nil, List.drop_zero, List.drop_succ_cons, List.take_succ_cons, List.take_zero, List.take_nil, true_and, and_true, Int.toNat_natCast, List.append_nil, List.nil_append, List.cons_append, ldB b110, clB b110, ldBL b110, clBL b110, w_eq, iv_92]
                refine ValS.go g10 hp (s92 (d := d + 1) g10.fresh bf10 100 (decide ((x.n : Int) = 0)) (decide (x.kind = 4 ∨ x.kind = 5)) fun K s => con_d hN (d + 1) K s hkd) fun h11 s11 g11 c11 => ?_
                have hk := hk _ _ g11
                rw [Bool.not_not] at e1 e2 e3
                have e0 : badS x = (!decide ((x.n : Int) = 0) && !decide (x.kind = 4 ∨ x.kind = 5)) := by
                  unfold badS
                  rw [e1, e2, e3, decide_eq_true hkd, decide_eq_true hse, decide_eq_true hsq, decide_eq_false (show ¬ 24 < x.n by omega)]
                  simp
                rw [e0] at hk
                cases e4 : (!decide ((x.n : Int) = 0) && !decide (x.kind = 4 ∨ x.kind = 5)) with
                | true =>
                  rw [e4] at hk
                  try simp (disch := first | assumption | omega | (simp only [Int.ofNat_eq_natCast, neg_one]; done) | (simp only [Int.ofNat_eq_natCast, neg_one]; omega)) only [tysW, w_bindJ, w_logJ, w_ct, w_cf, w_gtt, w_gft, w_gtf, w_gff, w_pt, w_pf, w_lret, w_e0, w_e1, w_e2, w_nil, w_fun, w_nt, w_nf, w_add, w_sub, w_eqt, w_eqf, w_net, w_nef, w_ltt, w_ltf, w_let, w_lef, w_gtt', w_gtf', w_get, w_gef, toNat_of, of_add, cast_add, nth_0, nth_s, Nat.zero_add, Nat.reduceAdd, Nat.reduceMul, Nat.add_zero, List.length_cons, List.length_nil, List.drop_zero, List.drop_succ_cons, List.take_succ_cons, List.take_zero, List.take_nil, true_and, and_true, Int.toNat_natCast, List.append_nil, List.nil_append, List.cons_append]
                  exact hk
                | false =>
                  rw [e4] at hk
                  try simp (disch := first | assumption | omega | (simp only [Int.ofNat_eq_natCast, neg_one]; done) | (simp only [Int.ofNat_eq_natCast, neg_one]; omega)) only [tysW, w_bindJ, w_logJ, w_ct, w_cf, w_gtt, w_gft, w_gtf, w_gff, w_pt, w_pf, w_lret, w_e0, w_e1, w_e2, w_nil, w_fun, w_nt, w_nf, w_add, w_sub, w_eqt, w_eqf, w_net, w_nef, w_ltt, w_ltf, w_let, w_lef, w_gtt', w_gtf', w_get, w_gef, toNat_of, of_add, cast_add, nth_0, nth_s, Nat.zero_add, Nat.reduceAdd, Nat.reduceMul, Nat.add_zero, List.length_cons, List.length_nil, List.drop_zero, List.drop_succ_cons, List.take_succ_cons, List.take_zero, List.take_nil, true_and, and_true, Int.toNat_natCast, List.append_nil, List.nil_append, List.cons_append]
                  exact hk
      · rw [decide_eq_false hsq]
        try simp (disch := first | assumption | omega | (simp only [Int.ofNat_eq_natCast, neg_one]; done) | (simp only [Int.ofNat_eq_natCast, neg_one]; omega)) only [tysW, w_bindJ, w_logJ, w_ct, w_cf, w_gtt, w_gft, w_gtf, w_gff, w_pt, w_pf, w_lret, w_e0, w_e1, w_e2, w_nil, w_fun, w_nt, w_nf, w_add, w_sub, w_eqt, w_eqf, w_net, w_nef, w_ltt, w_ltf, w_let, w_lef, w_gtt', w_gtf', w_get, w_gef, toNat_of, of_add, cast_add, nth_0, nth_s, Nat.zero_add, Nat.reduceAdd, Nat.reduceMul, Nat.add_zero, List.length_cons, List.length_nil, List.drop_zero, List.drop_succ_cons, List.take_succ_cons, List.take_zero, List.take_nil, true_and, and_true, Int.toNat_natCast, List.append_nil, List.nil_append, List.cons_append]
        try simp (disch := first | assumption | omega | (simp only [Int.ofNat_eq_natCast, neg_one]; done) | (simp only [Int.ofNat_eq_natCast, neg_one]; omega)) only [tysW, w_bindJ, w_logJ, w_ct, w_cf, w_gtt, w_gft, w_gtf, w_gff, w_pt, w_pf, w_lret, w_e0, w_e1, w_e2, w_nil, w_fun, w_nt, w_nf, w_add, w_sub, w_eqt, w_eqf, w_net, w_nef, w_ltt, w_ltf, w_let, w_lef, w_gtt', w_gtf', w_get, w_gef, toNat_of, of_add, cast_add, nth_0, nth_s, Nat.zero_add, Nat.reduceAdd, Nat.reduceMul, Nat.add_zero, List.length_cons, List.length_nil, List.drop_zero, List.drop_succ_cons, List.take_succ_cons, List.take_zero, List.take_nil, true_and, and_true, Int.toNat_natCast, List.append_nil, List.nil_append, List.cons_append]
        rw [bad25_3']
        exact bad7 (by simp [badS, hsq])
    · rw [decide_eq_false hse]
      try simp (disch := first | assumption | omega | (simp only [Int.ofNat_eq_natCast, neg_one]; done) | (simp only [Int.ofNat_eq_natCast, neg_one]; omega)) only [tysW, w_bindJ, w_logJ, w_ct, w_cf, w_gtt, w_gft, w_gtf, w_gff, w_pt, w_pf, w_lret, w_e0, w_e1, w_e2, w_nil, w_fun, w_nt, w_nf, w_add, w_sub, w_eqt, w_eqf, w_net, w_nef, w_ltt, w_ltf, w_let, w_lef, w_gtt', w_gtf', w_get, w_gef, toNat_of, of_add, cast_add, nth_0, nth_s, Nat.zero_add, Nat.reduceAdd, Nat.reduceMul, Nat.add_zero, List.length_cons, List.length_nil, List.drop_zero, List.drop_succ_cons, List.take_succ_cons, List.take_zero, List.take_nil, true_and, and_true, Int.toNat_natCast, List.append_nil, List.nil_append, List.cons_append]
      rw [bad25_3]
      have := hk _ _ g6
      rw [if_pos (by simp [badS, hse])] at this
      exact this
  · rw [decide_eq_false hkd]
    try simp (disch := first | assumption | omega | (simp only [Int.ofNat_eq_natCast, neg_one]; done) | (simp only [Int.ofNat_eq_natCast, neg_one]; omega)) only [tysW, w_bindJ, w_logJ, w_ct, w_cf, w_gtt, w_gft, w_gtf, w_gff, w_pt, w_pf, w_lret, w_e0, w_e1, w_e2, w_nil, w_fun, w_nt, w_nf, w_add, w_sub, w_eqt, w_eqf, w_net, w_nef, w_ltt, w_ltf, w_let, w_lef, w_gtt', w_gtf', w_get, w_gef, toNat_of, of_add, cast_add, nth_0, nth_s, Nat.zero_add, Nat.reduceAdd, Nat.reduceMul, Nat.add_zero, List.length_cons, List.length_nil, List.drop_zero, List.drop_succ_cons, List.take_succ_cons, List.take_zero, List.take_nil, true_and, and_true, Int.toNat_natCast, List.append_nil, List.nil_append, List.cons_append]
    rw [bad25_3]
    exact bad (by simp [badS, hkd])
end
end Go.Ev.R
namespace Go.Ev.R
open Go Go.RowKit
abbrev u8 (n : Int) : Value := .int .u8 n
theorem ne9_0 (k : Value → Nat → AM) (s : Nat) : neX P 9 9 false true (str []) (.string ⟨⟨[]⟩⟩) k s = k (.bool false) s := by kernel_rfl
theorem ne9_1 (k : Value → Nat → AM) (s : Nat) : neX P 9 9 false true (str [115]) (.string ⟨⟨[]⟩⟩) k s = k (.bool true) s := by kernel_rfl
theorem ne9_2 (k : Value → Nat → AM) (s : Nat) : neX P 9 9 false true (str [115, 113, 116]) (.string ⟨⟨[]⟩⟩) k s = k (.bool true) s := by kernel_rfl
theorem ne9_3 (k : Value → Nat → AM) (s : Nat) : neX P 9 9 false true (str [115, 113, 116, 100]) (.string ⟨⟨[]⟩⟩) k s = k (.bool true) s := by kernel_rfl
theorem ne9_4 (k : Value → Nat → AM) (s : Nat) : neX P 9 9 false true (str [113, 116]) (.string ⟨⟨[]⟩⟩) k s = k (.bool true) s := by kernel_rfl
theorem ne9_5 (k : Value → Nat → AM) (s : Nat) : neX P 9 9 false true (str [113]) (.string ⟨⟨[]⟩⟩) k s = k (.bool true) s := by kernel_rfl
theorem sayT_no {k : Int} (h : ¬ (1 ≤ k ∧ k ≤ 7)) : sayT k = [] := by
  unfold sayT
  rw [if_neg (by omega), if_neg (by omega), if_neg (by omega), if_neg (by omega), if_neg (by omega), if_neg (by omega), if_neg (by omega)]
theorem ne_say (n : Int) (k : Value → Nat → AM) (s : Nat) : neX P 9 9 false true (str (sayT n)) (.string ⟨⟨[]⟩⟩) k s = k (.bool (decide (1 ≤ n ∧ n ≤ 7))) s := by
  by_cases h : 1 ≤ n ∧ n ≤ 7
  · rw [decide_eq_true h]
    rcases kinds h with rfl | rfl | rfl | rfl | rfl | rfl | rfl
    · exact ne9_1 k s
    · exact ne9_2 k s
    · exact ne9_2 k s
    · exact ne9_3 k s
    · exact ne9_3 k s
    · exact ne9_4 k s
    · exact ne9_5 k s
  · rw [decide_eq_false h, sayT_no h]
    exact ne9_0 k s
section
variable {N : Nat} (hN : N = 100000) (d : Nat) (K : KV) (s : Nat) {k : Int} (hk : 1 ≤ k ∧ k ≤ 7)
include hN hk
theorem has_s : D N (d + 1) 97 [str (sayT k), .int .u8 (.ofNat 115)] K s = K (.bool (!(decide (k = 6 ∨ k = 7)))) s := by
  subst hN
  rcases kinds hk with rfl | rfl | rfl | rfl | rfl | rfl | rfl
  · exact has_s_s d K s
  · exact has_sqt_s d K s
  · exact has_sqt_s d K s
  · exact has_sqtd_s d K s
  · exact has_sqtd_s d K s
  · exact has_qt_s d K s
  · exact has_q_s d K s
theorem has_q : D N (d + 1) 97 [str (sayT k), .int .u8 (.ofNat 113)] K s = K (.bool (!(decide (k = 1)))) s := by
  subst hN
  rcases kinds hk with rfl | rfl | rfl | rfl | rfl | rfl | rfl
  · exact has_s_q d K s
  · exact has_sqt_q d K s
  · exact has_sqt_q d K s
  · exact has_sqtd_q d K s
  · exact has_sqtd_q d K s
  · exact has_qt_q d K s
  · exact has_q_q d K s
theorem has_t : D N (d + 1) 97 [str (sayT k), .int .u8 (.ofNat 116)] K s = K (.bool (!(decide (k = 1 ∨ k = 7)))) s := by
  subst hN
  rcases kinds hk with rfl | rfl | rfl | rfl | rfl | rfl | rfl
  · exact has_s_t d K s
  · exact has_sqt_t d K s
  · exact has_sqt_t d K s
  · exact has_sqtd_t d K s
  · exact has_sqtd_t d K s
  · exact has_qt_t d K s
  · exact has_q_t d K s
theorem has_d : D N (d + 1) 97 [str (sayT k), .int .u8 (.ofNat 100)] K s = K (.bool (decide (k = 4 ∨ k = 5))) s := by
  subst hN
  rcases kinds hk with rfl | rfl | rfl | rfl | rfl | rfl | rfl
  · exact has_s_d d K s
  · exact has_sqt_d d K s
  · exact has_sqt_d d K s
  · exact has_sqtd_d d K s
  · exact has_sqtd_d d K s
  · exact has_qt_d d K s
  · exact has_q_d d K s
end
section
variable (N : Nat) (C : CallT) (K : KV) (v2 v5 x : Value) (s : Nat)
theorem bad26_4 : X26_4 N C K (.bool true) v2 v5 undef s = K (vi 2) s := rfl
theorem no26_5 : X26_5 N C K (.bool false) v2 v5 x s = K (vi 2) s := rfl
theorem no26_5' : X26_5 N C K (.bool true) v2 v5 (.bool false) s = K (vi 2) s := rfl
theorem bad26_3 : X26_3 N C K (.bool true) v2 v5 undef s = K (vi 2) s := rfl
theorem bad26_2 : X26_2 N C K (.bool true) v2 v5 undef s = K (vi 2) s := rfl
theorem bad26_1 : X26_1 N C K (.bool true) v2 undef s = K (vi 2) s := rfl
variable {a c d e : Int} {p : Option Addr} {n m s0 : Nat} {pw : Nat → Prop} {Z : Value → T → Prop} {h : T} (hb : h.get s0 = some (.cells ⟨[vi a, vi c, vi d, vi e, .slice p n m]⟩ 33 (0,0)))
include hb
theorem on26_5 (hn : ¬ (n : Int) ≤ 24) : (X26_5 N C K (.bool true) (ptr s0) v5 (.bool true) s).wp pw Z h = (K (vi 2) s).wp pw Z h := by
  unfold X26_5
  try simp (disch := first | assumption | omega | (simp only [Int.ofNat_eq_natCast, neg_one]; done) | (simp only [Int.ofNat_eq_natCast, neg_one]; omega)) only [tysW, w_bindJ, w_logJ, w_ct, w_cf, w_gtt, w_gft, w_gtf, w_gff, w_pt, w_pf, w_lret, w_e0, w_e1, w_e2, w_nil, w_fun, w_nt, w_nf, w_add, w_sub, w_eqt, w_eqf, w_net, w_nef, w_ltt, w_ltf, w_let, w_lef, w_gtt', w_gtf', w_get, w_gef, toNat_of, of_add, cast_add, nth_0, nth_s, Nat.zero_add, Nat.reduceAdd, Nat.reduceMul, Nat.add_zero, List.length_cons, List.length_nil, List.drop_zero, List.drop_succ_cons, List.take_succ_cons, List.take_zero, List.take_nil, true_and, and_true, Int.toNat_natCast, List.append_nil, List.nil_append, List.cons_append, ldB hb, clB hb, ldBL hb, clBL hb]
  rw [bad26_4]
theorem of26_5 (hn : (n : Int) ≤ 24) : (X26_5 N C K (.bool true) (ptr s0) v5 (.bool true) s).wp pw Z h = (C 97 [v5, .int .u8 (.ofNat 115)] (fun v s => notX P 4 v (fun v s => X26_4 N C K (.bool false) (ptr s0) v5 v s) s) s).wp pw Z h := by
  unfold X26_5
  try simp (disch := first | assumption | omega | (simp only [Int.ofNat_eq_natCast, neg_one]; done) | (simp only [Int.ofNat_eq_natCast, neg_one]; omega)) only [tysW, w_bindJ, w_logJ, w_ct, w_cf, w_gtt, w_gft, w_gtf, w_gff, w_pt, w_pf, w_lret, w_e0, w_e1, w_e2, w_nil, w_fun, w_nt, w_nf, w_add, w_sub, w_eqt, w_eqf, w_net, w_nef, w_ltt, w_ltf, w_let, w_lef, w_gtt', w_gtf', w_get, w_gef, toNat_of, of_add, cast_add, nth_0, nth_s, Nat.zero_add, Nat.reduceAdd, Nat.reduceMul, Nat.add_zero, List.length_cons, List.length_nil, List.drop_zero, List.drop_succ_cons, List.take_succ_cons, List.take_zero, List.take_nil, true_and, and_true, Int.toNat_natCast, List.append_nil, List.nil_append, List.cons_append, ldB hb, clB hb, ldBL hb, clBL hb]
theorem on26_4 (hn : ¬ c = 0) : (X26_4 N C K (.bool false) (ptr s0) v5 (.bool true) s).wp pw Z h = (K (vi 2) s).wp pw Z h := by
  unfold X26_4
  try simp (disch := first | assumption | omega | (simp only [Int.ofNat_eq_natCast, neg_one]; done) | (simp only [Int.ofNat_eq_natCast, neg_one]; omega)) only [tysW, w_bindJ, w_logJ, w_ct, w_cf, w_gtt, w_gft, w_gtf, w_gff, w_pt, w_pf, w_lret, w_e0, w_e1, w_e2, w_nil, w_fun, w_nt, w_nf, w_add, w_sub, w_eqt, w_eqf, w_net, w_nef, w_ltt, w_ltf, w_let, w_lef, w_gtt', w_gtf', w_get, w_gef, toNat_of, of_add, cast_add, nth_0, nth_s, Nat.zero_add, Nat.reduceAdd, Nat.reduceMul, Nat.add_zero, List.length_cons, List.length_nil, List.drop_zero, List.drop_succ_cons, List.take_succ_cons, List.take_zero, List.take_nil, true_and, and_true, Int.toNat_natCast, List.append_nil, List.nil_append, List.cons_append, ldB hb, clB hb, ldBL hb, clBL hb]
  rw [bad26_3]
theorem of26_4 {b : Bool} (hn : b = true → c = 0) : (X26_4 N C K (.bool false) (ptr s0) v5 (.bool b) s).wp pw Z h = (C 97 [v5, .int .u8 (.ofNat 113)] (fun v s => notX P 4 v (fun v s => X26_3 N C K (.bool false) (ptr s0) v5 v s) s) s).wp pw Z h := by
  unfold X26_4
  cases b with
  | true => have := hn rfl; try simp (disch := first | assumption | omega | (simp only [Int.ofNat_eq_natCast, neg_one]; done) | (simp only [Int.ofNat_eq_natCast, neg_one]; omega)) only [tysW, w_bindJ, w_logJ, w_ct, w_cf, w_gtt, w_gft, w_gtf, w_gff, w_pt, w_pf, w_lret, w_e0, w_e1, w_e2, w_nil, w_fun, w_nt, w_nf, w_add, w_sub, w_eqt, w_eqf, w_net, w_nef, w_ltt, w_ltf, w_let, w_lef, w_gtt', w_gtf', w_get, w_gef, toNat_of, of_add, cast_add, nth_0, nth_s, Nat.zero_add, Nat.reduceAdd, Nat.reduceMul, Nat.add_zero, List.length_cons, List.length_nil, List.drop_zero, List.drop_succ_cons, List.take_succ_cons, List.take_zero, List.take_nil, true_and, and_true, Int.toNat_natCast, List.append_nil, List.nil_append, List.cons_append, ldB hb, clB hb, ldBL hb, clBL hb]
  | false => try simp (disch := first | assumption | omega | (simp only [Int.ofNat_eq_natCast, neg_one]; done) | (simp only [Int.ofNat_eq_natCast, neg_one]; omega)) only [tysW, w_bindJ, w_logJ, w_ct, w_cf, w_gtt, w_gft, w_gtf, w_gff, w_pt, w_pf, w_lret, w_e0, w_e1, w_e2, w_nil, w_fun, w_nt, w_nf, w_add, w_sub, w_eqt, w_eqf, w_net, w_nef, w_ltt, w_ltf, w_let, w_lef, w_gtt', w_gtf', w_get, w_gef, toNat_of, of_add, cast_add, nth_0, nth_s, Nat.zero_add, Nat.reduceAdd, Nat.reduceMul, Nat.add_zero, List.length_cons, List.length_nil, List.drop_zero, List.drop_succ_cons, List.take_succ_cons, List.take_zero, List.take_nil, true_and, and_true, Int.toNat_natCast, List.append_nil, List.nil_append, List.cons_append, ldB hb, clB hb, ldBL hb, clBL hb]
theorem on26_3 (hn : ¬ d = 0) : (X26_3 N C K (.bool false) (ptr s0) v5 (.bool true) s).wp pw Z h = (K (vi 2) s).wp pw Z h := by
  unfold X26_3
  try simp (disch := first | assumption | omega | (simp only [Int.ofNat_eq_natCast, neg_one]; done) | (simp only [Int.ofNat_eq_natCast, neg_one]; omega)) only [tysW, w_bindJ, w_logJ, w_ct, w_cf, w_gtt, w_gft, w_gtf, w_gff, w_pt, w_pf, w_lret, w_e0, w_e1, w_e2, w_nil, w_fun, w_nt, w_nf, w_add, w_sub, w_eqt, w_eqf, w_net, w_nef, w_ltt, w_ltf, w_let, w_lef, w_gtt', w_gtf', w_get, w_gef, toNat_of, of_add, cast_add, nth_0, nth_s, Nat.zero_add, Nat.reduceAdd, Nat.reduceMul, Nat.add_zero, List.length_cons, List.length_nil, List.drop_zero, List.drop_succ_cons, List.take_succ_cons, List.take_zero, List.take_nil, true_and, and_true, Int.toNat_natCast, List.append_nil, List.nil_append, List.cons_append, ldB hb, clB hb, ldBL hb, clBL hb]
  rw [bad26_2]
theorem of26_3 {b : Bool} (hn : b = true → d = 0) : (X26_3 N C K (.bool false) (ptr s0) v5 (.bool b) s).wp pw Z h = (C 97 [v5, .int .u8 (.ofNat 116)] (fun v s => notX P 4 v (fun v s => X26_2 N C K (.bool false) (ptr s0) v5 v s) s) s).wp pw Z h := by
  unfold X26_3
  cases b with
  | true => have := hn rfl; try simp (disch := first | assumption | omega | (simp only [Int.ofNat_eq_natCast, neg_one]; done) | (simp only [Int.ofNat_eq_natCast, neg_one]; omega)) only [tysW, w_bindJ, w_logJ, w_ct, w_cf, w_gtt, w_gft, w_gtf, w_gff, w_pt, w_pf, w_lret, w_e0, w_e1, w_e2, w_nil, w_fun, w_nt, w_nf, w_add, w_sub, w_eqt, w_eqf, w_net, w_nef, w_ltt, w_ltf, w_let, w_lef, w_gtt', w_gtf', w_get, w_gef, toNat_of, of_add, cast_add, nth_0, nth_s, Nat.zero_add, Nat.reduceAdd, Nat.reduceMul, Nat.add_zero, List.length_cons, List.length_nil, List.drop_zero, List.drop_succ_cons, List.take_succ_cons, List.take_zero, List.take_nil, true_and, and_true, Int.toNat_natCast, List.append_nil, List.nil_append, List.cons_append, ldB hb, clB hb, ldBL hb, clBL hb]
  | false => try simp (disch := first | assumption | omega | (simp only [Int.ofNat_eq_natCast, neg_one]; done) | (simp only [Int.ofNat_eq_natCast, neg_one]; omega)) only [tysW, w_bindJ, w_logJ, w_ct, w_cf, w_gtt, w_gft, w_gtf, w_gff, w_pt, w_pf, w_lret, w_e0, w_e1, w_e2, w_nil, w_fun, w_nt, w_nf, w_add, w_sub, w_eqt, w_eqf, w_net, w_nef, w_ltt, w_ltf, w_let, w_lef, w_gtt', w_gtf', w_get, w_gef, toNat_of, of_add, cast_add, nth_0, nth_s, Nat.zero_add, Nat.reduceAdd, Nat.reduceMul, Nat.add_zero, List.length_cons, List.length_nil, List.drop_zero, List.drop_succ_cons, List.take_succ_cons, List.take_zero, List.take_nil, true_and, and_true, Int.toNat_natCast, List.append_nil, List.nil_append, List.cons_append, ldB hb, clB hb, ldBL hb, clBL hb]
theorem on26_2 (hn : ¬ e = 0) : (X26_2 N C K (.bool false) (ptr s0) v5 (.bool true) s).wp pw Z h = (K (vi 2) s).wp pw Z h := by
  unfold X26_2
  try simp (disch := first | assumption | omega | (simp only [Int.ofNat_eq_natCast, neg_one]; done) | (simp only [Int.ofNat_eq_natCast, neg_one]; omega)) only [tysW, w_bindJ, w_logJ, w_ct, w_cf, w_gtt, w_gft, w_gtf, w_gff, w_pt, w_pf, w_lret, w_e0, w_e1, w_e2, w_nil, w_fun, w_nt, w_nf, w_add, w_sub, w_eqt, w_eqf, w_net, w_nef, w_ltt, w_ltf, w_let, w_lef, w_gtt', w_gtf', w_get, w_gef, toNat_of, of_add, cast_add, nth_0, nth_s, Nat.zero_add, Nat.reduceAdd, Nat.reduceMul, Nat.add_zero, List.length_cons, List.length_nil, List.drop_zero, List.drop_succ_cons, List.take_succ_cons, List.take_zero, List.take_nil, true_and, and_true, Int.toNat_natCast, List.append_nil, List.nil_append, List.cons_append, ldB hb, clB hb, ldBL hb, clBL hb]
  rw [bad26_1]
theorem of26_2 {b : Bool} (hn : b = true → e = 0) : (X26_2 N C K (.bool false) (ptr s0) v5 (.bool b) s).wp pw Z h = (C 97 [v5, .int .u8 (.ofNat 100)] (fun v s => notX P 4 v (fun v s => X26_1 N C K (.bool false) (ptr s0) v s) s) s).wp pw Z h := by
  unfold X26_2
  cases b with
  | true => have := hn rfl; try simp (disch := first | assumption | omega | (simp only [Int.ofNat_eq_natCast, neg_one]; done) | (simp only [Int.ofNat_eq_natCast, neg_one]; omega)) only [tysW, w_bindJ, w_logJ, w_ct, w_cf, w_gtt, w_gft, w_gtf, w_gff, w_pt, w_pf, w_lret, w_e0, w_e1, w_e2, w_nil, w_fun, w_nt, w_nf, w_add, w_sub, w_eqt, w_eqf, w_net, w_nef, w_ltt, w_ltf, w_let, w_lef, w_gtt', w_gtf', w_get, w_gef, toNat_of, of_add, cast_add, nth_0, nth_s, Nat.zero_add, Nat.reduceAdd, Nat.reduceMul, Nat.add_zero, List.length_cons, List.length_nil, List.drop_zero, List.drop_succ_cons, List.take_succ_cons, List.take_zero, List.take_nil, true_and, and_true, Int.toNat_natCast, List.append_nil, List.nil_append, List.cons_append, ldB hb, clB hb, ldBL hb, clBL hb]
  | false => try simp (disch := first | assumption | omega | (simp only [Int.ofNat_eq_natCast, neg_one]; done) | (simp only [Int.ofNat_eq_natCast, neg_one]; omega)) only [tysW, w_bindJ, w_logJ, w_ct, w_cf, w_gtt, w_gft, w_gtf, w_gff, w_pt, w_pf, w_lret, w_e0, w_e1, w_e2, w_nil, w_fun, w_nt, w_nf, w_add, w_sub, w_eqt, w_eqf, w_net, w_nef, w_ltt, w_ltf, w_let, w_lef, w_gtt', w_gtf', w_get, w_gef, toNat_of, of_add, cast_add, nth_0, nth_s, Nat.zero_add, Nat.reduceAdd, Nat.reduceMul, Nat.add_zero, List.length_cons, List.length_nil, List.drop_zero, List.drop_succ_cons, List.take_succ_cons, List.take_zero, List.take_nil, true_and, and_true, Int.toNat_natCast, List.append_nil, List.nil_append, List.cons_append, ldB hb, clB hb, ldBL hb, clBL hb]
theorem of26_1 {b : Bool} : (X26_1 N C K (.bool false) (ptr s0) (.bool b) s).wp pw Z h = (K (vi (if (b && !decide (n = 0)) = true then 2 else 0)) s).wp pw Z h := by
  unfold X26_1
  by_cases h0 : n = 0
  · subst h0
    cases b with
    | true => try simp (disch := first | assumption | omega | (simp only [Int.ofNat_eq_natCast, neg_one]; done) | (simp only [Int.ofNat_eq_natCast, neg_one]; omega)) only [tysW, w_bindJ, w_logJ, w_ct, w_cf, w_gtt, w_gft, w_gtf, w_gff, w_pt, w_pf, w_lret, w_e0, w_e1, w_e2, w_nil, w_fun, w_nt, w_nf, w_add, w_sub, w_eqt, w_eqf, w_net, w_nef, w_ltt, w_ltf, w_let, w_lef, w_gtt', w_gtf', w_get, w_gef, toNat_of, of_add, cast_add, nth_0, nth_s, Nat.zero_add, Nat.reduceAdd, Nat.reduceMul, Nat.add_zero, List.length_cons, List.length_nil, List.drop_zero, List.drop_succ_cons, List.take_succ_cons, List.take_zero, List.take_nil, true_and, and_true, Int.toNat_natCast, List.append_nil, List.nil_append, List.cons_append, ldB hb, clB hb, ldBL hb, clBL hb]; simp; exact Iff.rfl
    | false => try simp (disch := first | assumption | omega | (simp only [Int.ofNat_eq_natCast, neg_one]; done) | (simp only [Int.ofNat_eq_natCast, neg_one]; omega)) only [tysW, w_bindJ, w_logJ, w_ct, w_cf, w_gtt, w_gft, w_gtf, w_gff, w_pt, w_pf, w_lret, w_e0, w_e1, w_e2, w_nil, w_fun, w_nt, w_nf, w_add, w_sub, w_eqt, w_eqf, w_net, w_nef, w_ltt, w_ltf, w_let, w_lef, w_gtt', w_gtf', w_get, w_gef, toNat_of, of_add, cast_add, nth_0, nth_s, Nat.zero_add, Nat.reduceAdd, Nat.reduceMul, Nat.add_zero, List.length_cons, List.length_nil, List.drop_zero, List.drop_succ_cons, List.take_succ_cons, List.take_zero, List.take_nil, true_and, and_true, Int.toNat_natCast, List.append_nil, List.nil_append, List.cons_append, ldB hb, clB hb, ldBL hb, clBL hb]; simp; exact Iff.rfl
  · have h1 : (0 : Int) < n := by omega
    cases b with
    | true => try simp (disch := first | assumption | omega | (simp only [Int.ofNat_eq_natCast, neg_one]; done) | (simp only [Int.ofNat_eq_natCast, neg_one]; omega)) only [tysW, w_bindJ, w_logJ, w_ct, w_cf, w_gtt, w_gft, w_gtf, w_gff, w_pt, w_pf, w_lret, w_e0, w_e1, w_e2, w_nil, w_fun, w_nt, w_nf, w_add, w_sub, w_eqt, w_eqf, w_net, w_nef, w_ltt, w_ltf, w_let, w_lef, w_gtt', w_gtf', w_get, w_gef, toNat_of, of_add, cast_add, nth_0, nth_s, Nat.zero_add, Nat.reduceAdd, Nat.reduceMul, Nat.add_zero, List.length_cons, List.length_nil, List.drop_zero, List.drop_succ_cons, List.take_succ_cons, List.take_zero, List.take_nil, true_and, and_true, Int.toNat_natCast, List.append_nil, List.nil_append, List.cons_append, ldB hb, clB hb, ldBL hb, clBL hb]; simp [h0]; exact Iff.rfl
    | false => try simp (disch := first | assumption | omega | (simp only [Int.ofNat_eq_natCast, neg_one]; done) | (simp only [Int.ofNat_eq_natCast, neg_one]; omega)) only [tysW, w_bindJ, w_logJ, w_ct, w_cf, w_gtt, w_gft, w_gtf, w_gff, w_pt, w_pf, w_lret, w_e0, w_e1, w_e2, w_nil, w_fun, w_nt, w_nf, w_add, w_sub, w_eqt, w_eqf, w_net, w_nef, w_ltt, w_ltf, w_let, w_lef, w_gtt', w_gtf', w_get, w_gef, toNat_of, of_add, cast_add, nth_0, nth_s, Nat.zero_add, Nat.reduceAdd, Nat.reduceMul, Nat.add_zero, List.length_cons, List.length_nil, List.drop_zero, List.drop_succ_cons, List.take_succ_cons, List.take_zero, List.take_nil, true_and, and_true, Int.toNat_natCast, List.append_nil, List.nil_append, List.cons_append, ldB hb, clB hb, ldBL hb, clBL hb]; simp; exact Iff.rfl
end
section
variable {N d : Nat} (hN : N = 100000) {h : T} {s : Nat} (hf : ∀ n, s ≤ n → h.get n = none)
include hN hf
theorem s26 (x : SV) : ValS (D N (d + 11)) 26 [.agg ⟨svv x⟩] h s (vi (if badS x = true then 2 else 0)) := by
  refine ValS.of hf fun K pw Z g hp hk => ?_
  rw [D_26]; unfold F26; rw [app1_eq]
  refine wp_boxA g hp fun h1 g1 c1 b1 => ?_
  simp only [svv] at b1
  try simp (disch := first | assumption | omega | (simp only [Int.ofNat_eq_natCast, neg_one]; done) | (simp only [Int.ofNat_eq_natCast, neg_one]; omega)) only [tysW, w_bindJ, w_logJ, w_ct, w_cf, w_gtt, w_gft, w_gtf, w_gff, w_pt, w_pf, w_lret, w_e0, w_e1, w_e2, w_nil, w_fun, w_nt, w_nf, w_add, w_sub, w_eqt, w_eqf, w_net, w_nef, w_ltt, w_ltf, w_let, w_lef, w_gtt', w_gtf', w_get, w_gef, toNat_of, of_add, cast_add, nth_0, nth_s, Nat.zero_add, Nat.reduceAdd, Nat.reduceMul, Nat.add_zero, List.length_cons, List.length_nil, List.drop_zero, List.drop_succ_cons, List.take_succ_cons, List.take_zero, List.take_nil, true_and, and_true, Int.toNat_natCast, List.append_nil, List.nil_append, List.cons_append, ldB b1, clB b1, ldBL b1, clBL b1]
  refine ValS.go g1 hp (s90 (d := d + 9) g1.fresh x.kind) fun h2 s2 g2 c2 => ?_
  replace b1 := c2.box b1 (by omega)
  have l2 := c2.le
  rw [ne_say]
  have bad : ∀ {h' s'}, From s h h' s' → badS x = true → (K (vi 2) s').wp pw Z h' := fun g hb => by
    have := hk _ _ g
    rw [if_pos hb] at this; exact this
  by_cases hkd : 1 ≤ x.kind ∧ x.kind ≤ 7
  · rw [decide_eq_true hkd]
    try simp (disch := first | assumption | omega | (simp only [Int.ofNat_eq_natCast, neg_one]; done) | (simp only [Int.ofNat_eq_natCast, neg_one]; omega)) only [tysW, w_bindJ, w_logJ, w_ct, w_cf, w_gtt, w_gft, w_gtf, w_gff, w_pt, w_pf, w_lret, w_e0, w_e1, w_e2, w_nil, w_fun, w_nt, w_nf, w_add, w_sub, w_eqt, w_eqf, w_net, w_nef, w_ltt, w_ltf, w_let, w_lef, w_gtt', w_gtf', w_get, w_gef, toNat_of, of_add, cast_add, nth_0, nth_s, Nat.zero_add, Nat.reduceAdd, Nat.reduceMul, Nat.add_zero, List.length_cons, List.length_nil, List.drop_zero, List.drop_succ_cons, List.take_succ_cons, List.take_zero, List.take_nil, true_and, and_true, Int.toNat_natCast, List.append_nil, List.nil_append, List.cons_append, ldB b1, clB b1, ldBL b1, clBL b1]
    refine ValS.go g2 hp (s95 (d := d + 9) g2.fresh x.sen) fun h3 s3 g3 c3 => ?_
    replace b1 := c3.box b1 (by omega)
    have l3 := c3.le
    by_cases hse : 0 ≤ x.sen ∧ x.sen ≤ 255
    · rw [decide_eq_true hse]
      try simp (disch := first | assumption | omega | (simp only [Int.ofNat_eq_natCast, neg_one]; done) | (simp only [Int.ofNat_eq_natCast, neg_one]; omega)) only [tysW, w_bindJ, w_logJ, w_ct, w_cf, w_gtt, w_gft, w_gtf, w_gff, w_pt, w_pf, w_lret, w_e0, w_e1, w_e2, w_nil, w_fun, w_nt, w_nf, w_add, w_sub, w_eqt, w_eqf, w_net, w_nef, w_ltt, w_ltf, w_let, w_lef, w_gtt', w_gtf', w_get, w_gef, toNat_of, of_add, cast_add, nth_0, nth_s, Nat.zero_add, Nat.reduceAdd, Nat.reduceMul, Nat.add_zero, List.length_cons, List.length_nil, List.drop_zero, List.drop_succ_cons, List.take_succ_cons, List.take_zero, List.take_nil, true_and, and_true, Int.toNat_natCast, List.append_nil, List.nil_append, List.cons_append, ldB b1, clB b1, ldBL b1, clBL b1]
      refine ValS.go g3 hp (s96 (d := d + 9) g3.fresh x.seq) fun h4 s4 g4 c4 => ?_
      replace b1 := c4.box b1 (by omega)
      by_cases hsq : 0 ≤ x.seq ∧ x.seq ≤ 2147483647
      · rw [decide_eq_true hsq]
        by_cases hn : (x.n : Int) ≤ 24
        · rw [of26_5 (hb := b1) (hn := hn), has_s hN (d + 9) _ _ hkd, w_not]
          have e0 : badS x = ((!decide (x.sen = 0) && decide (x.kind = 6 ∨ x.kind = 7)) || ((!decide (x.seq = 0) && decide (x.kind = 1)) || ((!decide (x.time = 0) && decide (x.kind = 1 ∨ x.kind = 7)) || (!decide (x.n = 0) && !decide (x.kind = 4 ∨ x.kind = 5))))) := by
            unfold badS
            rw [decide_eq_true hkd, decide_eq_true hse, decide_eq_true hsq, decide_eq_false (show ¬ 24 < x.n by omega)]
            simp
          rw [Bool.not_not]
          by_cases q1 : (x.kind = 6 ∨ x.kind = 7) ∧ ¬ x.sen = 0
          · rw [decide_eq_true q1.1, on26_4 (hb := b1) (hn := q1.2)]
            exact bad g4 (by rw [e0]; simp [q1.1, q1.2])
          rw [of26_4 (hb := b1) (hn := fun h => Classical.byContradiction fun h2 => q1 ⟨of_decide_eq_true h, h2⟩), has_q hN (d + 9) _ _ hkd, w_not, Bool.not_not]
          by_cases q2 : (x.kind = 1) ∧ ¬ x.seq = 0
          · rw [decide_eq_true q2.1, on26_3 (hb := b1) (hn := q2.2)]
            exact bad g4 (by rw [e0]; simp [q2.1, q2.2])
          rw [of26_3 (hb := b1) (hn := fun h => Classical.byContradiction fun h2 => q2 ⟨of_decide_eq_true h, h2⟩), has_t hN (d + 9) _ _ hkd, w_not, Bool.not_not]
          by_cases q3 : (x.kind = 1 ∨ x.kind = 7) ∧ ¬ x.time = 0
          · rw [decide_eq_true q3.1, on26_2 (hb := b1) (hn := q3.2)]
            exact bad g4 (by rw [e0]; simp [q3.1, q3.2])
          rw [of26_2 (hb := b1) (hn := fun h => Classical.byContradiction fun h2 => q3 ⟨of_decide_eq_true h, h2⟩), has_d hN (d + 9) _ _ hkd, w_not, of26_1 (hb := b1)]
          have hk := hk _ _ g4
          have e1 : (!decide (x.sen = 0) && decide (x.kind = 6 ∨ x.kind = 7)) = false := by
            cases ha : decide (x.kind = 6 ∨ x.kind = 7) with
            | false => simp
            | true => cases hb : decide (x.sen = 0) with
              | true => rfl
              | false => exact absurd ⟨of_decide_eq_true ha, of_decide_eq_false hb⟩ q1
          have e2 : (!decide (x.seq = 0) && decide (x.kind = 1)) = false := by
            cases ha : decide (x.kind = 1) with
            | false => simp
            | true => cases hb : decide (x.seq = 0) with
              | true => rfl
              | false => exact absurd ⟨of_decide_eq_true ha, of_decide_eq_false hb⟩ q2
          have e3 : (!decide (x.time = 0) && decide (x.kind = 1 ∨ x.kind = 7)) = false := by
            cases ha : decide (x.kind = 1 ∨ x.kind = 7) with
            | false => simp
            | true => cases hb : decide (x.time = 0) with
              | true => rfl
              | false => exact absurd ⟨of_decide_eq_true ha, of_decide_eq_false hb⟩ q3
          rw [e0, e1, e2, e3, Bool.false_or, Bool.false_or, Bool.false_or, Bool.and_comm] at hk
          exact hk
        · rw [on26_5 (hb := b1) (hn := hn)]
          exact bad g4 (by simp [badS, show 24 < x.n by omega])
      · rw [decide_eq_false hsq, no26_5']
        exact bad g4 (by simp [badS, hsq])
    · rw [decide_eq_false hse]
      try simp (disch := first | assumption | omega | (simp only [Int.ofNat_eq_natCast, neg_one]; done) | (simp only [Int.ofNat_eq_natCast, neg_one]; omega)) only [tysW, w_bindJ, w_logJ, w_ct, w_cf, w_gtt, w_gft, w_gtf, w_gff, w_pt, w_pf, w_lret, w_e0, w_e1, w_e2, w_nil, w_fun, w_nt, w_nf, w_add, w_sub, w_eqt, w_eqf, w_net, w_nef, w_ltt, w_ltf, w_let, w_lef, w_gtt', w_gtf', w_get, w_gef, toNat_of, of_add, cast_add, nth_0, nth_s, Nat.zero_add, Nat.reduceAdd, Nat.reduceMul, Nat.add_zero, List.length_cons, List.length_nil, List.drop_zero, List.drop_succ_cons, List.take_succ_cons, List.take_zero, List.take_nil, true_and, and_true, Int.toNat_natCast, List.append_nil, List.nil_append, List.cons_append]
      rw [no26_5]
      exact bad g3 (by simp [badS, hse])
  · rw [decide_eq_false hkd]
    try simp (disch := first | assumption | omega | (simp only [Int.ofNat_eq_natCast, neg_one]; done) | (simp only [Int.ofNat_eq_natCast, neg_one]; omega)) only [tysW, w_bindJ, w_logJ, w_ct, w_cf, w_gtt, w_gft, w_gtf, w_gff, w_pt, w_pf, w_lret, w_e0, w_e1, w_e2, w_nil, w_fun, w_nt, w_nf, w_add, w_sub, w_eqt, w_eqf, w_net, w_nef, w_ltt, w_ltf, w_let, w_lef, w_gtt', w_gtf', w_get, w_gef, toNat_of, of_add, cast_add, nth_0, nth_s, Nat.zero_add, Nat.reduceAdd, Nat.reduceMul, Nat.add_zero, List.length_cons, List.length_nil, List.drop_zero, List.drop_succ_cons, List.take_succ_cons, List.take_zero, List.take_nil, true_and, and_true, Int.toNat_natCast, List.append_nil, List.nil_append, List.cons_append]
    rw [no26_5]
    exact bad g2 (by simp [badS, hkd])
end
end Go.Ev.R
namespace Go.Ev.R
open Go Go.RowKit
/-- A byte of a number. -/
def byteN (n : Int) (k : Nat) : Int := (n / 256 ^ k) % 256
def be : Nat → Int → List Int
  | 0, _ => []
  | w + 1, n => byteN n w :: be w n
theorem be_len (n : Int) : ∀ w, (be w n).length = w
  | 0 => rfl
  | w + 1 => by simp [be, be_len n w]
theorem wrap_u8 (n : Int) : IntKind.u8.wrap n = n % 256 := rfl
theorem wrap_u64 (n : Int) : IntKind.u64.wrap n = n % 18446744073709551616 := rfl
theorem byte_range (n : Int) (k : Nat) : 0 ≤ byteN n k ∧ byteN n k < 256 := by unfold byteN; omega
theorem be_range (n : Int) : ∀ w, ∀ x ∈ be w n, 0 ≤ x ∧ x < 256
  | 0, x, h => by cases h
  | w + 1, x, h => by
    rcases List.mem_cons.1 h with rfl | h
    · exact byte_range n w
    · exact be_range n w x h
theorem div_div (a : Int) (j : Nat) : a / 256 ^ j / 256 = a / 256 ^ (j + 1) := by
  rw [Int.ediv_ediv_of_nonneg (Int.le_of_lt (Int.pow_pos (by decide))), Int.pow_succ]
theorem byte_u64 (n : Int) (j : Nat) (h : j < 8) : (n % 18446744073709551616 / 256 ^ j) % 256 = byteN n j := by
  unfold byteN
  have : j = 0 ∨ j = 1 ∨ j = 2 ∨ j = 3 ∨ j = 4 ∨ j = 5 ∨ j = 6 ∨ j = 7 := by omega
  rcases this with rfl | rfl | rfl | rfl | rfl | rfl | rfl | rfl <;> simp only [Int.reducePow] <;> omega
theorem fdiv_shr (n : Int) (j : Nat) (h : j < 8) : (n.fdiv (2 ^ (min (8 * j) 64))) % 256 = byteN n j := by
  unfold byteN
  rw [Nat.min_eq_left (by omega), Int.fdiv_eq_ediv_of_nonneg _ (by exact Int.le_of_lt (Int.pow_pos (by decide))), Int.pow_mul]
  rfl
/-- Whether a number is one of a width. -/
def fitsW (w : Nat) (n : Int) : Bool := decide (w = 8) || decide (0 ≤ n ∧ n < 256 ^ w)
def isW (w : Nat) : Prop := w = 1 ∨ w = 2 ∨ w = 4 ∨ w = 8
theorem byte_step (n : Int) {k : Nat} (hk : k < 8) (K : KV) (s : Nat) : mulX P 3 3 true false (i64 8) (vi k) (fun v33 s => shrX P 3 3 false false (vi n) v33 (fun v34 s => convX P 3 5 v34 K s) s) s = K (u8 (byteN n k)) s := by
  have e : Int.ofNat 8 * (k : Int) = ((8 * k : Nat) : Int) := by simp
  rw [mul_eq, wrap_id (by rw [e]; omega) (by rw [e]; omega), e, shr_eq, cv_3_5, wrap_u8]
  rw [← fdiv_shr n k hk]; rfl
/-! ### lists of one's own -/
def EB : Enc Int := ⟨1, fun x => [.int .u8 x], by decide, fun _ => rfl⟩
section
variable {α : Type} {E : Enc α} {el : TypeId}
/-- A list that was made. -/
def OwnG (E : Enc α) (el : TypeId) (h : T) (s : Nat) (p : Option Addr) (len : Nat) (l : List α) : Prop :=
  l.length = len ∧ (p = none ∧ len = 0 ∨ ∃ n f, p = some ⟨n, 0, none⟩ ∧ s ≤ n ∧ h.get n = some (.cells ⟨l.flatMap E.f⟩ el (f, 0)) ∧ (f = 0 ∨ f = E.z + 1))
variable {h h' : T} {s s' : Nat} {p : Option Addr} {len : Nat} {l : List α}
theorem OwnG.sl (o : OwnG E el h s p len l) : Sl E h p len len l := by
  obtain ⟨hl, ⟨rfl, rfl⟩ | ⟨n, f, rfl, _, hg, hf⟩⟩ := o
  · obtain rfl := List.eq_nil_of_length_eq_zero hl
    exact .nil _
  · exact .own hg hf hl
theorem OwnG.but (o : OwnG E el h s p len l) (e : p ≠ none → h'.get (blk p) = h.get (blk p)) : OwnG E el h' s p len l := by
  obtain ⟨hl, ho | ⟨n, f, rfl, h1, hg, hff⟩⟩ := o
  · exact ⟨hl, .inl ho⟩
  · exact ⟨hl, .inr ⟨n, f, rfl, h1, by rw [show h'.get n = h.get n from e (by simp)]; exact hg, hff⟩⟩
theorem OwnG.lt (o : OwnG E el h s p len l) (hf : ∀ n, s' ≤ n → h.get n = none) (hp : p ≠ none) : s ≤ blk p ∧ blk p < s' := by
  obtain ⟨hl, ⟨rfl, _⟩ | ⟨n, f, rfl, h1, hg, hff⟩⟩ := o
  · exact absurd rfl hp
  · exact ⟨h1, lt_of_some hf ⟨_, hg⟩⟩
theorem OwnG.from {s0 : Nat} (o : OwnG E el h s p len l) (hf : ∀ n, s0 ≤ n → h.get n = none) (g : From s0 h h' s') : OwnG E el h' s p len l :=
  o.but fun hp => g.keep _ (o.lt hf hp).2
theorem OwnG.less (o : OwnG E el h s p len l) (hs : s' ≤ s) : OwnG E el h s' p len l := by
  obtain ⟨hl, ho | ⟨n, f, rfl, h1, hg, hff⟩⟩ := o
  · exact ⟨hl, .inl ho⟩
  · exact ⟨hl, .inr ⟨n, f, rfl, by omega, hg, hff⟩⟩
theorem OwnG.nil : OwnG E el h s none 0 [] := ⟨rfl, .inl ⟨rfl, rfl⟩⟩
/-- One's own list, added to. -/
theorem apG {h0 : T} {s0 t n c : Nat} {q : Option Addr} {l2 : List α} {pw : Nat → Prop} {Z : Value → T → Prop} {k : Value → Nat → AM} (g : From s0 h0 h s) (hp : ∀ n, s0 ≤ n → pw n) (o : OwnG E el h t p len l) (ht : s0 ≤ t) (hts : t ≤ s) (r2 : Row E h q n l2) (h1 : ∀ x, (E.f x).all Value.oneCell' = true) (hsm : len + n ≤ 1000000)
    (hk : ∀ p' h' s', From s0 h0 h' s' → s ≤ s' → OwnG E el h' t p' (len + n) (l ++ l2) → (∀ i, i < s → (p ≠ none → i ≠ blk p) → h'.get i = h.get i) → (k (.slice p' (len + n) (len + n)) s').wp pw Z h') :
    (apS el E.z p len len q n c k s).wp pw Z h := by
  by_cases h0 : n = 0
  · subst h0
    have e2 := List.eq_nil_of_length_eq_zero r2.1
    subst e2
    exact wp_ap_none (by omega) (Nat.le_refl _) (hk p h s g (Nat.le_refl _) (by rw [List.append_nil]; exact o) fun _ _ _ => rfl)
  · refine Sl.addK (E := E) o.sl r2 h1 h0 hsm (by omega) (g.fresh _ (Nat.le_refl _)) (hp _ (by have := g.le; omega)) (fun m o' sp e => ?_) fun h2 b2 e2 => ?_
    · subst e
      obtain ⟨hl, ⟨h4, _⟩ | ⟨n', f, h4, h5, hg, hf⟩⟩ := o
      · cases h4
      · cases h4
        exact ⟨hp _ (by omega), by have := lt_of_some g.fresh ⟨_, hg⟩; omega, _, _, _, _, hg, hf⟩
    · have hb : ∀ i, i < s → (p ≠ none → i ≠ blk p) → h2.get i = h.get i := fun i hi hne => e2 i hne (by omega)
      refine hk _ h2 (s + 1) ⟨by have := g.le; omega, fun i hi => ?_, fun i hi => ?_⟩ (by omega) ⟨by rw [List.length_append, o.1, r2.1], .inr ⟨s, E.z + 1, rfl, hts, b2, .inr rfl⟩⟩ hb
      · rw [hb i (by have := g.le; omega) fun hp => by have := o.lt g.fresh hp; omega]
        exact g.keep i hi
      · rw [e2 i (fun hp => by have := o.lt g.fresh hp; omega) (by omega)]
        exact g.fresh i (by omega)
end
theorem xaI {h : T} {p : Option Addr} {len : Nat} {l : List Int} (r : Row EI h p len l) {j : Int} (hj0 : 0 ≤ j) (hj : j < (len : Int)) (cap : Nat) (kd : IntKind) (k : Value → Nat → AM) (s : Nat) :
    M.opt (aindexAt P 31 (.slice p len cap) (.int kd j)) k s = k (.pointer (some ⟨blk p, off p + j.toNat, none⟩)) s := by
  have := r.2.xa (z := 1) xa0_31 (by decide) hj0 hj cap kd k s
  rwa [Nat.mul_one] at this
theorem xaB {h : T} {p : Option Addr} {len : Nat} {l : List Int} (r : Row EB h p len l) {j : Int} (hj0 : 0 ≤ j) (hj : j < (len : Int)) (cap : Nat) (kd : IntKind) (k : Value → Nat → AM) (s : Nat) :
    M.opt (aindexAt P 25 (.slice p len cap) (.int kd j)) k s = k (.pointer (some ⟨blk p, off p + j.toNat, none⟩)) s := by
  have := r.2.xa (z := 1) xa0_25 (by decide) hj0 hj cap kd k s
  rwa [Nat.mul_one] at this
theorem Row.fld {α : Type} {E : Enc α} {h : T} {l : List α} {i j : Nat} {x : α} {v : Value} (hx : l[i]? = some x) (hj : (E.f x)[j]? = some v) : (l.flatMap E.f)[i * E.z + j]? = some v := by
  have h1 := E.flat_at l i x hx
  have hlt : j < E.z := by rw [← E.len x]; exact (List.getElem?_eq_some_iff.1 hj).1
  rw [← h1, List.getElem?_take, if_pos hlt, List.getElem?_drop] at hj
  exact hj
theorem intL {h : T} {p : Option Addr} {len : Nat} {l : List Int} (r : Row EI h p len l) {i : Nat} {x : Int} (hx : l[i]? = some x) {pw : Nat → Prop} {Z : Value → T → Prop} (j : LogT) (s : Nat) :
    (AM.log (aload (blk p) (off p + i) (fun v s => .ret (pk v s)) s) (logU j)).wp pw Z h = (j (vi x) [blk p] [] s).wp pw Z h := by
  have := r.2.oneL (Row.fld (h := h) (E := EI) (j := 0) hx rfl) j s (pw := pw) (Z := Z)
  rw [show i * EI.z + 0 = i from Nat.mul_one i] at this; exact this
theorem Row.byte {h : T} {p : Option Addr} {len : Nat} {l : List Int} (r : Row EB h p len l) {i : Nat} {x : Int} (hx : l[i]? = some x) {pw : Nat → Prop} {Z : Value → T → Prop} (k : Value → Nat → AM) (s : Nat) :
    (aload (blk p) (off p + i) k s).wp pw Z h = (k (u8 x) s).wp pw Z h := by
  have := r.2.one (Row.fld (h := h) (E := EB) (j := 0) hx rfl) k s (pw := pw) (Z := Z)
  rw [show i * EB.z + 0 = i from Nat.mul_one i] at this; exact this
theorem fit1 (x : Value) (K : KV) (s : Nat) : mulX P 3 3 true false (i64 8) (vi 1) (fun v42 s => shlX P 3 3 true false (i64 1) v42 (fun v43 s => geX P 3 3 false false x v43 K s) s) s = geX P 3 3 false false x (vi 256) K s := by kernel_rfl
theorem fit2 (x : Value) (K : KV) (s : Nat) : mulX P 3 3 true false (i64 8) (vi 2) (fun v42 s => shlX P 3 3 true false (i64 1) v42 (fun v43 s => geX P 3 3 false false x v43 K s) s) s = geX P 3 3 false false x (vi 65536) K s := by kernel_rfl
theorem fit4 (x : Value) (K : KV) (s : Nat) : mulX P 3 3 true false (i64 8) (vi 4) (fun v42 s => shlX P 3 3 true false (i64 1) v42 (fun v43 s => geX P 3 3 false false x v43 K s) s) s = geX P 3 3 false false x (vi 4294967296) K s := by kernel_rfl
section
variable {N d : Nat} {h : T} {s : Nat} (hf : ∀ n, s ≤ n → h.get n = none)
include hf
theorem s167 {w : Nat} (hw : isW w) : ValS (D N (d + 1)) 167 [vi w] h s (.bool true) := by
  refine ValS.of hf fun K pw Z g hp hk => ?_
  have hk := hk _ _ g
  rw [D_167]; unfold F167; rw [app1_eq]
  rcases hw with rfl | rfl | rfl | rfl <;> (try simp (disch := first | assumption | omega | (simp only [Int.ofNat_eq_natCast, neg_one]; done) | (simp only [Int.ofNat_eq_natCast, neg_one]; omega)) only [tysW, w_bindJ, w_logJ, w_ct, w_cf, w_gtt, w_gft, w_gtf, w_gff, w_pt, w_pf, w_lret, w_e0, w_e1, w_e2, w_nil, w_fun, w_nt, w_nf, w_add, w_sub, w_eqt, w_eqf, w_net, w_nef, w_ltt, w_ltf, w_let, w_lef, w_gtt', w_gtf', w_get, w_gef, toNat_of, of_add, cast_add, nth_0, nth_s, Nat.zero_add, Nat.reduceAdd, Nat.reduceMul, Nat.add_zero, List.length_cons, List.length_nil, List.drop_zero, List.drop_succ_cons, List.take_succ_cons, List.take_zero, List.take_nil, true_and, and_true, Int.toNat_natCast, List.append_nil, List.nil_append, List.cons_append]; exact hk)
theorem s168 {w : Nat} (hw : isW w) : ValS (D N (d + 1)) 168 [vi w] h s (.bool true) := by
  refine ValS.of hf fun K pw Z g hp hk => ?_
  have hk := hk _ _ g
  rw [D_168]; unfold F168; rw [app1_eq]
  rcases hw with rfl | rfl | rfl | rfl <;> (try simp (disch := first | assumption | omega | (simp only [Int.ofNat_eq_natCast, neg_one]; done) | (simp only [Int.ofNat_eq_natCast, neg_one]; omega)) only [tysW, w_bindJ, w_logJ, w_ct, w_cf, w_gtt, w_gft, w_gtf, w_gff, w_pt, w_pf, w_lret, w_e0, w_e1, w_e2, w_nil, w_fun, w_nt, w_nf, w_add, w_sub, w_eqt, w_eqf, w_net, w_nef, w_ltt, w_ltf, w_let, w_lef, w_gtt', w_gtf', w_get, w_gef, toNat_of, of_add, cast_add, nth_0, nth_s, Nat.zero_add, Nat.reduceAdd, Nat.reduceMul, Nat.add_zero, List.length_cons, List.length_nil, List.drop_zero, List.drop_succ_cons, List.take_succ_cons, List.take_zero, List.take_nil, true_and, and_true, Int.toNat_natCast, List.append_nil, List.nil_append, List.cons_append]; exact hk)
theorem s112 {p : Option Addr} {len cap : Nat} {l : List Int} (r : Sl EB h p len cap l) (hl : len ≤ 100000) : PureS (D N (d + 1)) 112 [.slice p len cap] h s (fun v h' s' => ∃ p', v = .slice p' len len ∧ OwnG EB 5 h' s p' len l) := by
  refine PureS.of hf fun K pw Z g hp hk => ?_
  rw [D_112]; unfold F112; rw [app1_eq]
  cases p with
  | none =>
    obtain ⟨rfl, rfl⟩ := r.emp rfl
    try simp (disch := first | assumption | omega | (simp only [Int.ofNat_eq_natCast, neg_one]; done) | (simp only [Int.ofNat_eq_natCast, neg_one]; omega)) only [tysW, w_bindJ, w_logJ, w_ct, w_cf, w_gtt, w_gft, w_gtf, w_gff, w_pt, w_pf, w_lret, w_e0, w_e1, w_e2, w_nil, w_fun, w_nt, w_nf, w_add, w_sub, w_eqt, w_eqf, w_net, w_nef, w_ltt, w_ltf, w_let, w_lef, w_gtt', w_gtf', w_get, w_gef, toNat_of, of_add, cast_add, nth_0, nth_s, Nat.zero_add, Nat.reduceAdd, Nat.reduceMul, Nat.add_zero, List.length_cons, List.length_nil, List.drop_zero, List.drop_succ_cons, List.take_succ_cons, List.take_zero, List.take_nil, true_and, and_true, Int.toNat_natCast, List.append_nil, List.nil_append, List.cons_append]
    exact hk _ _ _ g ⟨_, rfl, r.row.1, .inl ⟨rfl, rfl⟩⟩
  | some a =>
    try simp (disch := first | assumption | omega | (simp only [Int.ofNat_eq_natCast, neg_one]; done) | (simp only [Int.ofNat_eq_natCast, neg_one]; omega)) only [tysW, w_bindJ, w_logJ, w_ct, w_cf, w_gtt, w_gft, w_gtf, w_gff, w_pt, w_pf, w_lret, w_e0, w_e1, w_e2, w_nil, w_fun, w_nt, w_nf, w_add, w_sub, w_eqt, w_eqf, w_net, w_nef, w_ltt, w_ltf, w_let, w_lef, w_gtt', w_gtf', w_get, w_gef, toNat_of, of_add, cast_add, nth_0, nth_s, Nat.zero_add, Nat.reduceAdd, Nat.reduceMul, Nat.add_zero, List.length_cons, List.length_nil, List.drop_zero, List.drop_succ_cons, List.take_succ_cons, List.take_zero, List.take_nil, true_and, and_true, Int.toNat_natCast, List.append_nil, List.nil_append, List.cons_append]
    refine wp_newF g hp fun h1 g1 c1 b1 => ?_
    try simp (disch := first | assumption | omega | (simp only [Int.ofNat_eq_natCast, neg_one]; done) | (simp only [Int.ofNat_eq_natCast, neg_one]; omega)) only [tysW, w_bindJ, w_logJ, w_ct, w_cf, w_gtt, w_gft, w_gtf, w_gff, w_pt, w_pf, w_lret, w_e0, w_e1, w_e2, w_nil, w_fun, w_nt, w_nf, w_add, w_sub, w_eqt, w_eqf, w_net, w_nef, w_ltt, w_ltf, w_let, w_lef, w_gtt', w_gtf', w_get, w_gef, toNat_of, of_add, cast_add, nth_0, nth_s, Nat.zero_add, Nat.reduceAdd, Nat.reduceMul, Nat.add_zero, List.length_cons, List.length_nil, List.drop_zero, List.drop_succ_cons, List.take_succ_cons, List.take_zero, List.take_nil, true_and, and_true, Int.toNat_natCast, List.append_nil, List.nil_append, List.cons_append]
    refine apG (E := EB) (l := []) (len := 0) (t := s) g1 hp ⟨rfl, .inr ⟨s, 0, rfl, Nat.le_refl _, b1, .inl rfl⟩⟩ (Nat.le_refl _) (by omega) (r.from hf g1).row (fun _ => rfl) (by omega) fun p' h2 s2 g2 _ o2 e2 => ?_
    rw [Nat.zero_add] at *
    exact hk _ _ _ g2 ⟨p', rfl, o2⟩
end
end Go.Ev.R

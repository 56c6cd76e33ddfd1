/- Functions of the program as terms over a heap of names, part 0. No condition. -/
import Derived.Test.YtgadiajhhjfmbaaProg
import Derived.Test.YtgadiajhhjfmbaaXH
namespace Go.Ev.R
open Go Go.RowKit
set_option linter.unusedVariables false
set_option linter.unusedSimpArgs false
set_option maxRecDepth 100000
noncomputable section
noncomputable abbrev P : Program := Go.Proofs.Try.prog
abbrev KV := Value → Nat → AM
abbrev i64 (n : Nat) : Value := .int .i64 (.ofNat n)
abbrev o : List Nat × List Nat := ([], [])
abbrev fa (t : TypeId) (v : Value) (f : Nat) : M Value := M.opt (afieldAt P t v f)
abbrev xa (t : TypeId) (v i : Value) : M Value := M.opt (aindexAt P t v i)
abbrev ld (t : TypeId) (v : Value) : M Value := aloadAt P t v
abbrev st (t : TypeId) (v x : Value) : M Unit := astoreAt P t v x
abbrev dy (r : List (List Nat × List Nat)) (f : List (List Nat)) : Bool := dynOk r r f
def bodyOf (f : Nat) : Code := Option.rec (motive := fun _ => Code) .skip (fun fn => Option.rec (motive := fun _ => Code) .skip (fun c => c) fn.body) P.funcs[f]?
def cAt : List Nat → Code → Code
  | 0 :: p, .seq a _ => cAt p a
  | 1 :: p, .seq _ a => cAt p a
  | 0 :: p, .cond _ a _ => cAt p a
  | 1 :: p, .cond _ _ a => cAt p a
  | 0 :: p, .block _ a => cAt p a
  | 0 :: p, .loop a => cAt p a
  | 0 :: p, .scope a => cAt p a
  | _, c => c
def rPar (f : Nat) (p : List Nat) : Array Tmp := match cAt p (bodyOf f) with | .rangeFunc _ a _ _ => a | _ => ⟨[]⟩
def rAs (f : Nat) (p : List Nat) : Code := match cAt p (bodyOf f) with | .rangeFunc _ _ a _ => a | _ => .skip
def rBody (f : Nat) (p : List Nat) : Code := match cAt p (bodyOf f) with | .rangeFunc _ _ _ a => a | _ => .skip
def X6_1 (N : Nat) (C : CallT) (K : KV) (v31 v9 : Value) (h10 : Value → Value → Nat → AM) (v8 v41 : Value) : LogT := fun v50 _ _ s =>
  logJ ((fun v53 _ _ s => logJ ((fun v56 _ _ s => pickX v31 (.bool true) v56 (fun v59 s => condX v59 (K (.bool false) s) (addX P 3 3 false true v9 (i64 1) (fun v60 s => h10 v8 v60 s) s)) s) : LogT) (fun l61 s => guardX (gd v31 false) (neX P 23 23 false false v41 v53 (fun v62 s => l61 v62 [] [] s) s) (l61 undef [] [] s)) s) : LogT) (fun l63 s => guardX (gd v31 false) (AM.log (ld 23 v50 (fun v s => AM.ret (pk v s)) s) (logU l63)) (l63 undef [] [] s)) s
def X6_2 (N : Nat) (C : CallT) (K : KV) (v31 v9 : Value) (h10 : Value → Value → Nat → AM) (v8 v1 : Value) : LogT := fun v38 _ _ s =>
  logJ ((fun v41 _ _ s => logJ ((fun v44 _ _ s => logJ ((fun v47 _ _ s => logJ (X6_1 N C K v31 v9 h10 v8 v41) (fun l64 s => guardX (gd v31 false) (xa 24 v44 v47 (fun v65 s => l64 v65 [] [] s) s) (l64 undef [] [] s)) s) : LogT) (fun l66 s => guardX (gd v31 false) (l66 v9 [] [] s) (l66 undef [] [] s)) s) : LogT) (fun l67 s => guardX (gd v31 false) (l67 v1 [] [] s) (l67 undef [] [] s)) s) : LogT) (fun l68 s => guardX (gd v31 false) (AM.log (ld 23 v38 (fun v s => AM.ret (pk v s)) s) (logU l68)) (l68 undef [] [] s)) s
def X6_3 (N : Nat) (C : CallT) (K : KV) (v18 v9 : Value) (h10 : Value → Value → Nat → AM) (v8 v1 v16 v6 : Value) : LogT := fun v28 _ _ s =>
  pickX v18 (.bool true) v28 (fun v31 s => logJ ((fun v32 _ _ s => logJ ((fun v35 _ _ s => logJ (X6_2 N C K v31 v9 h10 v8 v1) (fun l69 s => guardX (gd v31 false) (xa 24 v32 v35 (fun v70 s => l69 v70 [] [] s) s) (l69 undef [] [] s)) s) : LogT) (fun l71 s => guardX (gd v31 false) (l71 v16 [] [] s) (l71 undef [] [] s)) s) : LogT) (fun l72 s => guardX (gd v31 false) (l72 v6 [] [] s) (l72 undef [] [] s)) s) s
def X6_4 (N : Nat) (C : CallT) (K : KV) (v18 v9 : Value) (h10 : Value → Value → Nat → AM) (v8 v1 v16 v6 : Value) : LogT := fun v19 _ _ s =>
  logJ ((fun v22 _ _ s => logJ ((fun v25 _ _ s => logJ (X6_3 N C K v18 v9 h10 v8 v1 v16 v6) (fun l73 s => guardX (gd v18 false) (geX P 3 3 false false v19 v25 (fun v74 s => l73 v74 [] [] s) s) (l73 undef [] [] s)) s) : LogT) (fun l75 s => guardX (gd v18 false) (AM.log (lenX P ⟨[24]⟩ v22 (fun v s => AM.ret (pk v s)) s) (logU l75)) (l75 undef [] [] s)) s) : LogT) (fun l76 s => guardX (gd v18 false) (l76 v6 [] [] s) (l76 undef [] [] s)) s
def X6_5 (N : Nat) (C : CallT) (K : KV) (v1 v6 : Value) (j7 : Nat → AM) : (Value → Value → Nat → AM) → Value → Value → Nat → AM := fun (h10 : Value → Value → Nat → AM) v8 v9 s =>
  lenX P ⟨[24]⟩ v1 (fun v11 s => ltX P 3 3 false false v9 v11 (fun v12 s => condX v12 (xa 24 v1 v9 (fun v13 s => ld 23 v13 (fun v14 s => C 15 [v6, v14] (fun v15 s => extX v15 0 (fun v16 s => extX v15 1 (fun v17 s => notX P 4 v17 (fun v18 s => logJ (X6_4 N C K v18 v9 h10 v8 v1 v16 v6) (fun l77 s => guardX (gd v18 false) (l77 v16 [] [] s) (l77 undef [] [] s)) s) s) s) s) s) s) s) (j7 s)) s) s
def X6_6 (N : Nat) (C : CallT) (K : KV) (v98 : Value) (j88 : Value → Value → Nat → AM) (v79 v80 v108 : Value) : LogT := fun v117 _ _ s =>
  logJ ((fun v120 _ _ s => logJ ((fun v123 _ _ s => pickX v98 (.bool true) v123 (fun v126 s => condX v126 (K (.bool false) s) (j88 v79 v80 s)) s) : LogT) (fun l127 s => guardX (gd v98 false) (neX P 23 23 false false v108 v120 (fun v128 s => l127 v128 [] [] s) s) (l127 undef [] [] s)) s) : LogT) (fun l129 s => guardX (gd v98 false) (AM.log (ld 23 v117 (fun v s => AM.ret (pk v s)) s) (logU l129)) (l129 undef [] [] s)) s
def X6_7 (N : Nat) (C : CallT) (K : KV) (v98 : Value) (j88 : Value → Value → Nat → AM) (v79 v80 v81 v1 : Value) : LogT := fun v105 _ _ s =>
  logJ ((fun v108 _ _ s => logJ ((fun v111 _ _ s => logJ ((fun v114 _ _ s => logJ (X6_6 N C K v98 j88 v79 v80 v108) (fun l130 s => guardX (gd v98 false) (xa 24 v111 v114 (fun v131 s => l130 v131 [] [] s) s) (l130 undef [] [] s)) s) : LogT) (fun l132 s => guardX (gd v98 false) (l132 v81 [] [] s) (l132 undef [] [] s)) s) : LogT) (fun l133 s => guardX (gd v98 false) (l133 v1 [] [] s) (l133 undef [] [] s)) s) : LogT) (fun l134 s => guardX (gd v98 false) (AM.log (ld 23 v105 (fun v s => AM.ret (pk v s)) s) (logU l134)) (l134 undef [] [] s)) s
def X6_8 (N : Nat) (C : CallT) (K : KV) (v92 : Value) (j88 : Value → Value → Nat → AM) (v79 v80 v81 v1 : Value) : LogT := fun v97 _ _ s =>
  eqX P 3 3 false false v92 v97 (fun v98 s => logJ ((fun v99 _ _ s => logJ ((fun v102 _ _ s => logJ (X6_7 N C K v98 j88 v79 v80 v81 v1) (fun l135 s => guardX (gd v98 false) (xa 24 v99 v102 (fun v136 s => l135 v136 [] [] s) s) (l135 undef [] [] s)) s) : LogT) (fun l137 s => guardX (gd v98 false) (l137 v92 [] [] s) (l137 undef [] [] s)) s) : LogT) (fun l138 s => guardX (gd v98 false) (l138 v80 [] [] s) (l138 undef [] [] s)) s) s
def X6_9 (N : Nat) (C : CallT) (K : KV) (v152 : Value) (ts140 ws141 ts143 ws144 ts147 ws148 ts150 ws151 ts153 ws154 : List Nat) (j88 : Value → Value → Nat → AM) (v79 : Value) : LogT := fun v155 ts156 ws157 s =>
  AM.log (aappend P ⟨[24, 24]⟩ v152 v155 (fun v s => AM.ret (pk v s)) s) (logU ((fun v158 _ _ s => guardX (dy [o, o, (ts140, ws141), (ts143, ws144), o, o, o, (ts147, ws148), (ts150, ws151), (ts153, ws154), o, o, (ts156, ws157), o, o] [[], [], [7, 8, 12], [7, 8, 12], [], [], [], [2, 3, 12], [2, 3, 12], [12], [], [], [2, 3, 7, 8, 9], [], []]) (C 21 [v158] (fun v159 s => notX P 4 v159 (fun v160 s => condX v160 (K (.bool false) s) (j88 v79 v158 s)) s) s) AM.fail) : LogT))
def X6_10 (N : Nat) (C : CallT) (K : KV) (v1 v81 v80 v92 : Value) (ts140 ws141 : List Nat) (j88 : Value → Value → Nat → AM) (v79 : Value) : LogT := fun v142 ts143 ws144 s =>
  xa 24 v1 v81 (fun v145 s => AM.log (ld 23 v145 (fun v s => AM.ret (pk v s)) s) (logU ((fun v146 ts147 ws148 s => AM.log (abuildSlice P 24 1 [(0, v146)] (fun v s => AM.ret (pk v s)) s) (logU ((fun v149 ts150 ws151 s => AM.log (aappend P ⟨[24, 24]⟩ v142 v149 (fun v s => AM.ret (pk v s)) s) (logU ((fun v152 ts153 ws154 s => AM.log (sliceX P 24 v80 (some v92) none none (fun v s => AM.ret (pk v s)) s) (logU (X6_9 N C K v152 ts140 ws141 ts143 ws144 ts147 ws148 ts150 ws151 ts153 ws154 j88 v79))) : LogT))) : LogT))) : LogT))) s
def X6_11 (N : Nat) (C : CallT) (K : KV) (v94 v93 v80 v92 : Value) (j88 : Value → Value → Nat → AM) (v79 v81 v1 : Value) : Value → Nat → AM := fun v95 s =>
  pickX v94 (.bool true) v95 (fun v96 s => condX v96 (K (.bool false) s) (condX v93 (AM.log (lenX P ⟨[24]⟩ v80 (fun v s => AM.ret (pk v s)) s) (logU (X6_8 N C K v92 j88 v79 v80 v81 v1))) (AM.log (sliceX P 24 v80 none (some v92) none (fun v s => AM.ret (pk v s)) s) (logU ((fun v139 ts140 ws141 s => AM.log (C 14 [v139] (fun v s => AM.ret (pk v s)) s) (logU (X6_10 N C K v1 v81 v80 v92 ts140 ws141 j88 v79))) : LogT))))) s
def X6_12 (N : Nat) (C : CallT) (K : KV) (v1 : Value) (j78 : Value → Value → Nat → AM) : (Value → Value → Value → Nat → AM) → Value → Value → Value → Nat → AM := fun (h82 : Value → Value → Value → Nat → AM) v79 v80 v81 s =>
  lenX P ⟨[24]⟩ v1 (fun v83 s => ltX P 3 3 false false v81 v83 (fun v84 s => condX v84 (bindJ 2 (fun v85 v86 s => addX P 3 3 false true v81 (i64 1) (fun v87 s => h82 v85 v86 v87 s) s) (fun j88 s => xa 24 v1 v81 (fun v89 s => ld 23 v89 (fun v90 s => C 15 [v80, v90] (fun v91 s => extX v91 0 (fun v92 s => extX v91 1 (fun v93 s => ltX P 3 3 false true v92 (i64 0) (fun v94 s => bindJ 1 (X6_11 N C K v94 v93 v80 v92 j88 v79 v81 v1) (fun j161 s => guardX (gd v94 false) (lenX P ⟨[24]⟩ v80 (fun v162 s => gtX P 3 3 false false v92 v162 (fun v163 s => j161 v163 s) s) s) (j161 undef s)) s) s) s) s) s) s) s) s) (j78 v79 v80 s)) s) s
def F6 (N : Nat) (C : CallT) (args : List Value) (K : KV) (s : Nat) : AM := app 1 (fun v1 s =>
  C 13 [] (fun v2 s => lenX P ⟨[24]⟩ v1 (fun v3 s => gtX P 3 3 false true v3 (i64 60) (fun v4 s => condX v4 (K v2 s) (bindJ 2 (fun v5 v6 s => bindJ 0 (fun s => K v2 s) (fun j7 s => (loopJ N 2 (fun _ _ _ => AM.fail) (X6_5 N C K v1 v6 j7) : Value → Value → Nat → AM) v5 (i64 0) s) s) (fun j78 s => (loopJ N 3 (fun _ _ _ _ => AM.fail) (X6_12 N C K v1 j78) : Value → Value → Value → Nat → AM) (.bool false) (.slice none 0 0) (i64 0) s) s)) s) s) s) args s
theorem F6_ok [Known P] (N : Nat) : FT.OK P N (.leaf 6 (F6 N)) := .leaf 6 (F6 N) fun C args K s => by kernel_rfl
def X13_1 (N : Nat) (C : CallT) (K : KV) (v7 v4 : Value) : Value → Nat → AM := fun v8 s =>
  pickX v7 v8 (.bool false) (fun v9 s => bindJ 1 (fun v10 s => pickX v9 v10 (.bool false) (fun v11 s => bindJ 1 (fun v12 s => pickX v11 v12 (.bool false) (fun v13 s => K v13 s) s) (fun j14 s => guardX (gd v11 true) (C 24 [(i64 4), (i64 0), (i64 0)] (fun v15 s => C 25 [v4, v15, (i64 2), (.bool false)] (fun v16 s => j14 v16 s) s) s) (j14 undef s)) s) s) (fun j17 s => guardX (gd v9 true) (C 24 [(i64 3), (i64 1), (i64 1)] (fun v18 s => C 25 [v4, v18, (i64 1), (.bool true)] (fun v19 s => j17 v19 s) s) s) (j17 undef s)) s) s
def F13 (N : Nat) (C : CallT) (args : List Value) (K : KV) (s : Nat) : AM := app 0 (fun s =>
  C 24 [(i64 1), (i64 1), (i64 1)] (fun v1 s => C 24 [(i64 3), (i64 1), (i64 1)] (fun v2 s => C 24 [(i64 5), (i64 1), (i64 1)] (fun v3 s => abuildSlice P 24 3 [(0, v1), (1, v2), (2, v3)] (fun v4 s => C 24 [(i64 5), (i64 3), (i64 1)] (fun v5 s => C 24 [(i64 5), (i64 3), (i64 2)] (fun v6 s => C 17 [v5, v6] (fun v7 s => bindJ 1 (X13_1 N C K v7 v4) (fun j20 s => guardX (gd v7 true) (C 24 [(i64 5), (i64 3), (i64 1)] (fun v21 s => C 24 [(i64 8), (i64 3), (i64 1)] (fun v22 s => C 19 [v21, v22] (fun v23 s => j20 v23 s) s) s) s) (j20 undef s)) s) s) s) s) s) s) s) s) args s
theorem F13_ok [Known P] (N : Nat) : FT.OK P N (.leaf 13 (F13 N)) := .leaf 13 (F13 N) fun C args K s => by kernel_rfl
def F14 (N : Nat) (C : CallT) (args : List Value) (K : KV) (s : Nat) : AM := app 1 (fun v1 s =>
  abuildSlice P 24 0 [] (fun v2 s => aappend P ⟨[24, 24]⟩ v2 v1 (fun v3 s => K v3 s) s) s) args s
theorem F14_ok [Known P] (N : Nat) : FT.OK P N (.leaf 14 (F14 N)) := .leaf 14 (F14 N) fun C args K s => by kernel_rfl
def F15 (N : Nat) (C : CallT) (args : List Value) (K : KV) (s : Nat) : AM := app 2 (fun v1 v2 s =>
  abox 23 v2 (fun v3 s => C 21 [v1] (fun v4 s => notX P 4 v4 (fun v5 s => condX v5 (K (.tuple ⟨[(i64 0), (.bool false)]⟩) s) (ld 23 v3 (fun v6 s => C 51 [v1, v6, (.func (.func 52) ⟨[]⟩ ⟨[]⟩)] (fun v7 s => extX v7 0 (fun v8 s => extX v7 1 (fun v9 s => K (.tuple ⟨[v8, v9]⟩) s) s) s) s) s)) s) s) s) args s
theorem F15_ok [Known P] (N : Nat) : FT.OK P N (.leaf 15 (F15 N)) := .leaf 15 (F15 N) fun C args K s => by kernel_rfl
def F17 (N : Nat) (C : CallT) (args : List Value) (K : KV) (s : Nat) : AM := app 2 (fun v1 v2 s =>
  abox 23 v1 (fun v3 s => abox 23 v2 (fun v4 s => ld 23 v3 (fun v5 s => ld 23 v4 (fun v6 s => C 52 [v5, v6] (fun v7 s => ltX P 3 3 false true v7 (i64 0) (fun v8 s => K v8 s) s) s) s) s) s) s) args s
theorem F17_ok [Known P] (N : Nat) : FT.OK P N (.leaf 17 (F17 N)) := .leaf 17 (F17 N) fun C args K s => by kernel_rfl
def F19 (N : Nat) (C : CallT) (args : List Value) (K : KV) (s : Nat) : AM := app 2 (fun v1 v2 s =>
  abox 23 v1 (fun v3 s => abox 23 v2 (fun v4 s => fa 23 v3 1 (fun v5 s => ld 3 v5 (fun v6 s => fa 23 v4 1 (fun v7 s => ld 3 v7 (fun v8 s => eqX P 3 3 false false v6 v8 (fun v9 s => bindJ 1 (fun v10 s => pickX v9 v10 (.bool false) (fun v11 s => K v11 s) s) (fun j12 s => guardX (gd v9 true) (fa 23 v3 2 (fun v13 s => ld 3 v13 (fun v14 s => fa 23 v4 2 (fun v15 s => ld 3 v15 (fun v16 s => eqX P 3 3 false false v14 v16 (fun v17 s => j12 v17 s) s) s) s) s) s) (j12 undef s)) s) s) s) s) s) s) s) s) args s
theorem F19_ok [Known P] (N : Nat) : FT.OK P N (.leaf 19 (F19 N)) := .leaf 19 (F19 N) fun C args K s => by kernel_rfl
def F21 (N : Nat) (C : CallT) (args : List Value) (K : KV) (s : Nat) : AM := app 1 (fun v1 s =>
  C 53 [v1, (.func (.func 52) ⟨[]⟩ ⟨[]⟩)] (fun v2 s => bindJ 1 (fun v3 s => pickX v2 v3 (.bool false) (fun v4 s => K v4 s) s) (fun j5 s => guardX (gd v2 true) (C 55 [v1] (fun v6 s => C 54 [v6, (.func (.func 56) ⟨[]⟩ ⟨[]⟩)] (fun v7 s => lenX P ⟨[24]⟩ v7 (fun v8 s => lenX P ⟨[24]⟩ v1 (fun v9 s => eqX P 3 3 false false v8 v9 (fun v10 s => j5 v10 s) s) s) s) s) s) (j5 undef s)) s) s) args s
theorem F21_ok [Known P] (N : Nat) : FT.OK P N (.leaf 21 (F21 N)) := .leaf 21 (F21 N) fun C args K s => by kernel_rfl
def F24 (N : Nat) (C : CallT) (args : List Value) (K : KV) (s : Nat) : AM := app 3 (fun v1 v2 v3 s =>
  aalloc P 23 (fun v4 s => M.opt (abuild P 23 [(0, v1), (1, v2), (2, v3)]) (fun v5 s => st 23 v4 v5 (fun _ s => aloadAt P 23 v4 (fun v6 s => K v6 s) s) s) s) s) args s
theorem F24_ok [Known P] (N : Nat) : FT.OK P N (.leaf 24 (F24 N)) := .leaf 24 (F24 N) fun C args K s => by kernel_rfl
def F25 (N : Nat) (C : CallT) (args : List Value) (K : KV) (s : Nat) : AM := app 4 (fun v1 v2 v3 v4 s =>
  abox 23 v2 (fun v5 s => ld 23 v5 (fun v6 s => C 15 [v1, v6] (fun v7 s => extX v7 0 (fun v8 s => extX v7 1 (fun v9 s => eqX P 3 3 false false v8 v3 (fun v10 s => bindJ 1 (fun v11 s => pickX v10 v11 (.bool false) (fun v12 s => K v12 s) s) (fun j13 s => guardX (gd v10 true) (eqX P 4 4 false false v9 v4 (fun v14 s => j13 v14 s) s) (j13 undef s)) s) s) s) s) s) s) s) args s
theorem F25_ok [Known P] (N : Nat) : FT.OK P N (.leaf 25 (F25 N)) := .leaf 25 (F25 N) fun C args K s => by kernel_rfl
def X51_1 (N : Nat) (C : CallT) (K : KV) (v7 v6 v8 v4 : Value) : LogT := fun v20 _ _ s =>
  logJ ((fun v23 _ _ s => logJ ((fun v26 _ _ s => logJ ((fun v29 _ _ s => pickX v7 v29 (.bool false) (fun v32 s => K (.tuple ⟨[v6, v32]⟩) s) s) : LogT) (fun l33 s => guardX (gd v7 true) (eqX P 3 3 false true v26 (i64 0) (fun v34 s => l33 v34 [] [] s) s) (l33 undef [] [] s)) s) : LogT) (fun l35 s => guardX (gd v7 true) (AM.log (invV P C v8 [v20, v23] (fun v s => AM.ret (pk v s)) s) (logU l35)) (l35 undef [] [] s)) s) : LogT) (fun l36 s => guardX (gd v7 true) (AM.log (ld 23 v4 (fun v s => AM.ret (pk v s)) s) (logU l36)) (l36 undef [] [] s)) s
def X51_2 (N : Nat) (C : CallT) (K : KV) (v7 v6 v4 v1 : Value) : LogT := fun v8 _ _ s =>
  logJ ((fun v11 _ _ s => logJ ((fun v14 _ _ s => logJ ((fun v17 _ _ s => logJ (X51_1 N C K v7 v6 v8 v4) (fun l37 s => guardX (gd v7 true) (AM.log (ld 23 v17 (fun v s => AM.ret (pk v s)) s) (logU l37)) (l37 undef [] [] s)) s) : LogT) (fun l38 s => guardX (gd v7 true) (xa 24 v11 v14 (fun v39 s => l38 v39 [] [] s) s) (l38 undef [] [] s)) s) : LogT) (fun l40 s => guardX (gd v7 true) (l40 v6 [] [] s) (l40 undef [] [] s)) s) : LogT) (fun l41 s => guardX (gd v7 true) (l41 v1 [] [] s) (l41 undef [] [] s)) s
def X51_3 (N : Nat) (C : CallT) (K : KV) (v1 v4 v3 : Value) (j43 : Value → Nat → AM) : (Value → Value → Nat → AM) → Value → Value → Nat → AM := fun (h46 : Value → Value → Nat → AM) v44 v45 s =>
  ltX P 3 3 false false v44 v45 (fun v47 s => condX v47 (addX P 3 3 false false v44 v45 (fun v48 s => convX P 3 103 v48 (fun v49 s => shrX P 103 103 false true v49 (.int .u64 (.ofNat 1)) (fun v50 s => convX P 103 3 v50 (fun v51 s => xa 24 v1 v51 (fun v52 s => AM.log (ld 23 v52 (fun v s => AM.ret (pk v s)) s) (logU ((fun v53 _ _ s => AM.log (ld 23 v4 (fun v s => AM.ret (pk v s)) s) (logU ((fun v54 _ _ s => AM.log (invV P C v3 [v53, v54] (fun v s => AM.ret (pk v s)) s) (logU ((fun v55 _ _ s => ltX P 3 3 false true v55 (i64 0) (fun v56 s => condX v56 (addX P 3 3 false true v51 (i64 1) (fun v57 s => h46 v57 v45 s) s) (h46 v44 v51 s)) s) : LogT))) : LogT))) : LogT))) s) s) s) s) s) (j43 v44 s)) s
def F51 (N : Nat) (C : CallT) (args : List Value) (K : KV) (s : Nat) : AM := app 3 (fun v1 v2 v3 s =>
  abox 23 v2 (fun v4 s => lenX P ⟨[24]⟩ v1 (fun v5 s => bindJ 1 (fun v6 s => ltX P 3 3 false false v6 v5 (fun v7 s => logJ (X51_2 N C K v7 v6 v4 v1) (fun l42 s => guardX (gd v7 true) (l42 v3 [] [] s) (l42 undef [] [] s)) s) s) (fun j43 s => (loopJ N 2 (fun _ _ _ => AM.fail) (X51_3 N C K v1 v4 v3 j43) : Value → Value → Nat → AM) (i64 0) v5 s) s) s) s) args s
theorem F51_ok [Known P] (N : Nat) : FT.OK P N (.leaf 51 (F51 N)) := .leaf 51 (F51 N) fun C args K s => by kernel_rfl
def X52_1 (N : Nat) (C : CallT) (K : KV) (v9 v20 : Value) (ts10 ws11 ts14 ws15 ts18 ws19 ts21 ws22 ts25 ws26 ts29 ws30 : List Nat) : LogT := fun v31 _ _ s =>
  AM.log (abuildSlice P 41 3 [(0, v9), (1, v20), (2, v31)] (fun v s => AM.ret (pk v s)) s) (logU ((fun v32 _ _ s => AM.log (C 77 [v32] (fun v s => AM.ret (pk v s)) s) (logU ((fun v33 _ _ s => guardX (dy [o, o, o, o, (ts10, ws11), o, (ts14, ws15), o, (ts18, ws19), (ts21, ws22), o, (ts25, ws26), o, (ts29, ws30), o, o, o, o] [[], [], [], [], [6, 8, 11, 13], [], [4], [], [4], [11, 13], [], [4, 9], [], [4, 9], [], [], [], []]) (K v33 s) AM.fail) : LogT))) : LogT))
def X52_2 (N : Nat) (C : CallT) (K : KV) (v13 v3 v4 v9 : Value) (ts10 ws11 ts14 ws15 : List Nat) : LogT := fun v17 ts18 ws19 s =>
  AM.log (C 78 [v13, v17] (fun v s => AM.ret (pk v s)) s) (logU ((fun v20 ts21 ws22 s => fa 23 v3 2 (fun v23 s => AM.log (ld 3 v23 (fun v s => AM.ret (pk v s)) s) (logU ((fun v24 ts25 ws26 s => fa 23 v4 2 (fun v27 s => AM.log (ld 3 v27 (fun v s => AM.ret (pk v s)) s) (logU ((fun v28 ts29 ws30 s => AM.log (C 78 [v24, v28] (fun v s => AM.ret (pk v s)) s) (logU (X52_1 N C K v9 v20 ts10 ws11 ts14 ws15 ts18 ws19 ts21 ws22 ts25 ws26 ts29 ws30))) : LogT))) s) : LogT))) s) : LogT))
def X52_3 (N : Nat) (C : CallT) (K : KV) (v4 v3 : Value) : LogT := fun v6 _ _ s =>
  fa 23 v4 0 (fun v7 s => AM.log (ld 3 v7 (fun v s => AM.ret (pk v s)) s) (logU ((fun v8 _ _ s => AM.log (C 78 [v6, v8] (fun v s => AM.ret (pk v s)) s) (logU ((fun v9 ts10 ws11 s => fa 23 v3 1 (fun v12 s => AM.log (ld 3 v12 (fun v s => AM.ret (pk v s)) s) (logU ((fun v13 ts14 ws15 s => fa 23 v4 1 (fun v16 s => AM.log (ld 3 v16 (fun v s => AM.ret (pk v s)) s) (logU (X52_2 N C K v13 v3 v4 v9 ts10 ws11 ts14 ws15))) s) : LogT))) s) : LogT))) : LogT))) s
def F52 (N : Nat) (C : CallT) (args : List Value) (K : KV) (s : Nat) : AM := app 2 (fun v1 v2 s =>
  abox 23 v1 (fun v3 s => abox 23 v2 (fun v4 s => fa 23 v3 0 (fun v5 s => AM.log (ld 3 v5 (fun v s => AM.ret (pk v s)) s) (logU (X52_3 N C K v4 v3))) s) s) s) args s
theorem F52_ok [Known P] (N : Nat) : FT.OK P N (.leaf 52 (F52 N)) := .leaf 52 (F52 N) fun C args K s => by kernel_rfl
def X53_1 (N : Nat) (C : CallT) (K : KV) (v7 v1 v2 : Value) (h8 : Value → Value → Nat → AM) (v6 : Value) : LogT := fun v11 _ _ s =>
  subX P 3 3 false true v7 (i64 1) (fun v12 s => xa 24 v1 v12 (fun v13 s => AM.log (ld 23 v13 (fun v s => AM.ret (pk v s)) s) (logU ((fun v14 _ _ s => AM.log (invV P C v2 [v11, v14] (fun v s => AM.ret (pk v s)) s) (logU ((fun v15 _ _ s => ltX P 3 3 false true v15 (i64 0) (fun v16 s => condX v16 (K (.bool false) s) (subX P 3 3 false true v7 (i64 1) (fun v17 s => h8 v6 v17 s) s)) s) : LogT))) : LogT))) s) s
def X53_2 (N : Nat) (C : CallT) (K : KV) (v1 v2 : Value) (j3 : Nat → AM) : (Value → Value → Nat → AM) → Value → Value → Nat → AM := fun (h8 : Value → Value → Nat → AM) v6 v7 s =>
  gtX P 3 3 false true v7 (i64 0) (fun v9 s => condX v9 (xa 24 v1 v7 (fun v10 s => AM.log (ld 23 v10 (fun v s => AM.ret (pk v s)) s) (logU (X53_1 N C K v7 v1 v2 h8 v6))) s) (j3 s)) s
def F53 (N : Nat) (C : CallT) (args : List Value) (K : KV) (s : Nat) : AM := app 2 (fun v1 v2 s =>
  bindJ 0 (fun s => K (.bool true) s) (fun j3 s => lenX P ⟨[24]⟩ v1 (fun v4 s => subX P 3 3 false true v4 (i64 1) (fun v5 s => (loopJ N 2 (fun _ _ _ => AM.fail) (X53_2 N C K v1 v2 j3) : Value → Value → Nat → AM) (.bool false) v5 s) s) s) s) args s
theorem F53_ok [Known P] (N : Nat) : FT.OK P N (.leaf 53 (F53 N)) := .leaf 53 (F53 N) fun C args K s => by kernel_rfl
def X54_1 (N : Nat) (C : CallT) (K : KV) (v28 v21 v2 v1 v27 : Value) (j34 : Value → Nat → AM) : LogT := fun v36 _ _ s =>
  subX P 3 3 false true v28 (i64 1) (fun v37 s => xa 24 v21 v37 (fun v38 s => AM.log (ld 23 v38 (fun v s => AM.ret (pk v s)) s) (logU ((fun v39 _ _ s => AM.log (invV P C v2 [v36, v39] (fun v s => AM.ret (pk v s)) s) (logU ((fun v40 _ _ s => notX P 4 v40 (fun v41 s => condX v41 (xa 24 v21 v28 (fun v42 s => ld 23 v42 (fun v43 s => xa 24 v1 v27 (fun v44 s => st 23 v44 v43 (fun _ s => addX P 3 3 false true v27 (i64 1) (fun v45 s => j34 v45 s) s) s) s) s) s) (j34 v27 s)) s) : LogT))) : LogT))) s) s
def X54_2 (N : Nat) (C : CallT) (K : KV) (v21 v2 v1 : Value) (j26 : Value → Nat → AM) : (Value → Value → Nat → AM) → Value → Value → Nat → AM := fun (h29 : Value → Value → Nat → AM) v27 v28 s =>
  lenX P ⟨[24]⟩ v21 (fun v30 s => ltX P 3 3 false false v28 v30 (fun v31 s => condX v31 (bindJ 1 (fun v32 s => addX P 3 3 false true v28 (i64 1) (fun v33 s => h29 v32 v33 s) s) (fun j34 s => xa 24 v21 v28 (fun v35 s => AM.log (ld 23 v35 (fun v s => AM.ret (pk v s)) s) (logU (X54_1 N C K v28 v21 v2 v1 v27 j34))) s) s) (j26 v27 s)) s) s
def X54_3 (N : Nat) (C : CallT) (K : KV) (v2 v16 v1 v7 : Value) (j14 : Value → Value → Nat → AM) (v6 : Value) : LogT := fun v19 _ _ s =>
  AM.log (invV P C v2 [v16, v19] (fun v s => AM.ret (pk v s)) s) (logU ((fun v20 _ _ s => condX v20 (sliceX P 24 v1 (some v7) none none (fun v21 s => bindJ 1 (fun v22 s => sliceX P 24 v1 (some v22) none none (fun v23 s => aclear P ⟨[24]⟩ v23 (fun v24 s => sliceX P 24 v1 none (some v22) none (fun v25 s => K v25 s) s) s) s) (fun j26 s => (loopJ N 2 (fun _ _ _ => AM.fail) (X54_2 N C K v21 v2 v1 j26) : Value → Value → Nat → AM) v7 (i64 1) s) s) s) (j14 v6 v7 s)) : LogT))
def X54_4 (N : Nat) (C : CallT) (K : KV) (v1 v2 : Value) (j5 : Nat → AM) : (Value → Value → Nat → AM) → Value → Value → Nat → AM := fun (h8 : Value → Value → Nat → AM) v6 v7 s =>
  lenX P ⟨[24]⟩ v1 (fun v9 s => ltX P 3 3 false false v7 v9 (fun v10 s => condX v10 (bindJ 2 (fun v11 v12 s => addX P 3 3 false true v12 (i64 1) (fun v13 s => h8 v11 v13 s) s) (fun j14 s => xa 24 v1 v7 (fun v15 s => AM.log (ld 23 v15 (fun v s => AM.ret (pk v s)) s) (logU ((fun v16 _ _ s => subX P 3 3 false true v7 (i64 1) (fun v17 s => xa 24 v1 v17 (fun v18 s => AM.log (ld 23 v18 (fun v s => AM.ret (pk v s)) s) (logU (X54_3 N C K v2 v16 v1 v7 j14 v6))) s) s) : LogT))) s) s) (j5 s)) s) s
def F54 (N : Nat) (C : CallT) (args : List Value) (K : KV) (s : Nat) : AM := app 2 (fun v1 v2 s =>
  lenX P ⟨[24]⟩ v1 (fun v3 s => ltX P 3 3 false true v3 (i64 2) (fun v4 s => condX v4 (K v1 s) (bindJ 0 (fun s => K v1 s) (fun j5 s => (loopJ N 2 (fun _ _ _ => AM.fail) (X54_4 N C K v1 v2 j5) : Value → Value → Nat → AM) (.slice none 0 0) (i64 1) s) s)) s) s) args s
theorem F54_ok [Known P] (N : Nat) : FT.OK P N (.leaf 54 (F54 N)) := .leaf 54 (F54 N) fun C args K s => by kernel_rfl
def F55 (N : Nat) (C : CallT) (args : List Value) (K : KV) (s : Nat) : AM := app 1 (fun v1 s =>
  eqX P 24 24 false true v1 (.slice none 0 0) (fun v2 s => condX v2 (K (.slice none 0 0) s) (abuildSlice P 24 0 [] (fun v3 s => aappend P ⟨[24, 24]⟩ v3 v1 (fun v4 s => K v4 s) s) s)) s) args s
theorem F55_ok [Known P] (N : Nat) : FT.OK P N (.leaf 55 (F55 N)) := .leaf 55 (F55 N) fun C args K s => by kernel_rfl
def F56 (N : Nat) (C : CallT) (args : List Value) (K : KV) (s : Nat) : AM := app 2 (fun v1 v2 s =>
  abox 23 v1 (fun v3 s => abox 23 v2 (fun v4 s => ld 23 v3 (fun v5 s => ld 23 v4 (fun v6 s => eqX P 23 23 false false v5 v6 (fun v7 s => K v7 s) s) s) s) s) s) args s
theorem F56_ok [Known P] (N : Nat) : FT.OK P N (.leaf 56 (F56 N)) := .leaf 56 (F56 N) fun C args K s => by kernel_rfl
def X77_1 (N : Nat) (C : CallT) (K : KV) (v3 v1 : Value) (j2 : Nat → AM) : (Value → Value → Nat → AM) → Value → Value → Nat → AM := fun (h6 : Value → Value → Nat → AM) v4 v5 s =>
  ltX P 3 3 false false v5 v3 (fun v7 s => condX v7 (xa 41 v1 v5 (fun v8 s => ld 3 v8 (fun v9 s => neX P 3 3 false false v9 (i64 0) (fun v10 s => condX v10 (K v9 s) (addX P 3 3 false true v5 (i64 1) (fun v11 s => h6 v4 v11 s) s)) s) s) s) (j2 s)) s
def F77 (N : Nat) (C : CallT) (args : List Value) (K : KV) (s : Nat) : AM := app 1 (fun v1 s =>
  bindJ 0 (fun s => K (i64 0) s) (fun j2 s => lenX P ⟨[41]⟩ v1 (fun v3 s => (loopJ N 2 (fun _ _ _ => AM.fail) (X77_1 N C K v3 v1 j2) : Value → Value → Nat → AM) (i64 0) (i64 0) s) s) s) args s
theorem F77_ok [Known P] (N : Nat) : FT.OK P N (.leaf 77 (F77 N)) := .leaf 77 (F77 N) fun C args K s => by kernel_rfl
def F78 (N : Nat) (C : CallT) (args : List Value) (K : KV) (s : Nat) : AM := app 2 (fun v1 v2 s =>
  C 97 [v1] (fun v3 s => C 97 [v2] (fun v4 s => condX v3 (condX v4 (K (i64 0) s) (K (.int .i64 (.negSucc 0)) s)) (condX v4 (K (i64 1) s) (ltX P 3 3 false false v1 v2 (fun v5 s => condX v5 (K (.int .i64 (.negSucc 0)) s) (gtX P 3 3 false false v1 v2 (fun v6 s => condX v6 (K (i64 1) s) (K (i64 0) s)) s)) s))) s) s) args s
theorem F78_ok [Known P] (N : Nat) : FT.OK P N (.leaf 78 (F78 N)) := .leaf 78 (F78 N) fun C args K s => by kernel_rfl
def F97 (N : Nat) (C : CallT) (args : List Value) (K : KV) (s : Nat) : AM := app 1 (fun v1 s =>
  neX P 3 3 false false v1 v1 (fun v2 s => K v2 s) s) args s
theorem F97_ok [Known P] (N : Nat) : FT.OK P N (.leaf 97 (F97 N)) := .leaf 97 (F97 N) fun C args K s => by kernel_rfl
end
end Go.Ev.R

/- The law's run in pieces: each call, from the blocks that it needs. It is closed; no condition. -/
import Derived.Test.YtpfnoffadfahmaaGreatServerKnownQd
namespace Go.Ev.R
open Go Go.RowKit Go.Ev
set_option linter.unusedVariables false
set_option linter.unusedSimpArgs false
set_option maxRecDepth 100000
/-- 23 -/
def p5a : Part := []
def p5b : Part := []
theorem p5 : look (mkT p5a) 4076 5632 p5b ((D 100000 60 23 [] (fun v s => .ret (pk v s)) 4076).runL (mkT p5a) [] []) = some (pk (.bool true) 5632, wants p5b) := by kernel_rfl
/-- 24 -/
def p6a : Part := []
def p6b : Part := [(5633, ob29)]
theorem p6 : look (mkT p6a) 5632 5634 p6b ((D 100000 60 24 [(.int .i64 (.ofNat 1)), (.int .i64 (.ofNat 4294967296))] (fun v s => .ret (pk v s)) 5632).runL (mkT p6a) [] []) = some (pk (.agg ⟨[(.int .i64 (.ofNat 5)), (.int .i64 (.ofNat 1)), (.int .i64 (.ofNat 1)), (.int .i64 (.ofNat 0)), (.slice (some ⟨5633, 0, none⟩) 1 1)]⟩) 5634, wants p6b) := by kernel_rfl
/-- 22 -/
def p7a : Part := [(26, ob0), (28, ob0), (30, ob1), (33, ob2), (37, ob0), (39, ob2), (41, ob21), (43, ob4), (44, ob5), (48, ob0), (50, ob0), (52, ob6), (54, ob2), (55, ob7), (59, ob0), (61, ob0), (63, ob8), (66, ob2), (67, ob27), (69, ob28), (76, ob11), (77, ob12), (144, ob13), (145, ob14), (146, ob15), (1337, ob16), (1338, ob17), (3193, ob2), (3195, ob23), (3197, ob2), (3199, ob2), (3201, ob24), (5633, ob29)]
def p7b : Part := [(26, ob0), (28, ob0), (30, ob1), (33, ob2), (37, ob0), (39, ob2), (41, ob21), (43, ob4), (44, ob5), (48, ob0), (50, ob0), (52, ob6), (54, ob2), (55, ob7), (59, ob0), (61, ob0), (63, ob8), (66, ob2), (67, ob30), (69, ob31), (76, ob11), (77, ob12), (144, ob13), (145, ob14), (146, ob32), (1337, ob16), (1338, ob17), (3193, ob2), (3195, ob23), (3197, ob2), (3199, ob2), (3201, ob24), (5633, ob29)]
theorem p7 : look (mkT p7a) 5634 5988 p7b ((D 100000 60 22 [(.pointer (some ⟨69, 0, none⟩)), (.agg ⟨[(.int .i64 (.ofNat 5)), (.int .i64 (.ofNat 1)), (.int .i64 (.ofNat 1)), (.int .i64 (.ofNat 0)), (.slice (some ⟨5633, 0, none⟩) 1 1)]⟩), (.int .i64 (.ofNat 7)), (.slice none 0 0)] (fun v s => .ret (pk v s)) 5634).runL (mkT p7a) [] []) = some (pk (.bool true) 5988, wants p7b) := by kernel_rfl
/-- 24 -/
def p8a : Part := []
def p8b : Part := [(5989, ob29)]
theorem p8 : look (mkT p8a) 5988 5990 p8b ((D 100000 60 24 [(.int .i64 (.ofNat 2)), (.int .i64 (.ofNat 4294967296))] (fun v s => .ret (pk v s)) 5988).runL (mkT p8a) [] []) = some (pk (.agg ⟨[(.int .i64 (.ofNat 5)), (.int .i64 (.ofNat 2)), (.int .i64 (.ofNat 1)), (.int .i64 (.ofNat 0)), (.slice (some ⟨5989, 0, none⟩) 1 1)]⟩) 5990, wants p8b) := by kernel_rfl
/-- 22 -/
def p9a : Part := [(26, ob0), (28, ob0), (30, ob1), (33, ob2), (37, ob0), (39, ob2), (41, ob21), (43, ob4), (44, ob5), (48, ob0), (50, ob0), (52, ob6), (54, ob2), (55, ob7), (59, ob0), (61, ob0), (63, ob8), (66, ob2), (67, ob30), (69, ob31), (76, ob11), (77, ob12), (144, ob13), (145, ob14), (146, ob32), (1337, ob16), (1338, ob17), (3193, ob2), (3195, ob23), (3197, ob2), (3199, ob2), (3201, ob24), (5989, ob29)]
def p9b : Part := [(26, ob0), (28, ob0), (30, ob1), (33, ob2), (37, ob0), (39, ob2), (41, ob21), (43, ob4), (44, ob5), (48, ob0), (50, ob0), (52, ob6), (54, ob2), (55, ob7), (59, ob0), (61, ob0), (63, ob8), (66, ob2), (67, ob33), (69, ob34), (76, ob11), (77, ob12), (144, ob13), (145, ob14), (146, ob32), (1337, ob16), (1338, ob17), (3193, ob2), (3195, ob23), (3197, ob2), (3199, ob2), (3201, ob24), (5989, ob29)]
theorem p9 : look (mkT p9a) 5990 6263 p9b ((D 100000 60 22 [(.pointer (some ⟨69, 0, none⟩)), (.agg ⟨[(.int .i64 (.ofNat 5)), (.int .i64 (.ofNat 2)), (.int .i64 (.ofNat 1)), (.int .i64 (.ofNat 0)), (.slice (some ⟨5989, 0, none⟩) 1 1)]⟩), (.int .i64 (.ofNat 8)), (.slice none 0 0)] (fun v s => .ret (pk v s)) 5990).runL (mkT p9a) [] []) = some (pk (.bool true) 6263, wants p9b) := by kernel_rfl
/-- 22 -/
def p10a : Part := [(26, ob0), (28, ob0), (30, ob1), (33, ob2), (37, ob0), (39, ob2), (41, ob21), (43, ob4), (44, ob5), (48, ob0), (50, ob0), (52, ob6), (54, ob2), (55, ob7), (59, ob0), (61, ob0), (63, ob8), (66, ob2), (67, ob33), (69, ob34), (76, ob11), (77, ob12), (144, ob13), (145, ob14), (146, ob32), (1337, ob16), (1338, ob17), (3193, ob2), (3195, ob23), (3197, ob2), (3199, ob2), (3201, ob24), (6263, ob35)]
def p10b : Part := [(26, ob0), (28, ob0), (30, ob1), (33, ob2), (37, ob0), (39, ob2), (41, ob21), (43, ob4), (44, ob5), (48, ob0), (50, ob0), (52, ob6), (54, ob2), (55, ob7), (59, ob0), (61, ob0), (63, ob8), (66, ob2), (67, (.cells ⟨[(.slice none 0 0), (.int .u32 (.ofNat 1)), (.int .i32 (.ofNat 0)), (.int .u32 (.ofNat 0))] ++ tbl ++ [(.int .i64 (.ofNat 11)), (.int .i64 (.ofNat 0)), (.bool true)]⟩ 228 (0, 0))), (69, (.cells ⟨[(.pointer (some ⟨55, 0, none⟩)), (.int .i64 (.ofNat 11)), (.int .i64 (.ofNat 0)), (.int .i64 (.ofNat 1)), (.int .i64 (.ofNat 3)), (.int .i64 (.ofNat 1)), (.int .i64 (.ofNat 1)), (.int .i64 (.ofNat 1)), (.slice (some ⟨59, 0, none⟩) 1 1), (.slice (some ⟨61, 0, none⟩) 1 1), (.int .i64 (.ofNat 4294967296)), (.int .i64 (.ofNat 17179869184)), (.int .i64 (.ofNat 1)), (.slice (some ⟨63, 0, none⟩) 1 1), (.int .i64 (.ofNat 3)), (.int .i64 (.ofNat 100)), (.int .i64 (.ofNat 5)), (.int .i64 (.ofNat 1)), (.int .i64 (.ofNat 2)), (.pointer (some ⟨77, 0, none⟩)), (.pointer (some ⟨67, 0, none⟩))] ++ tbl ++ [(.int .i64 (.ofNat 1))]⟩ 72 (0, 0))), (76, ob11), (77, ob12), (144, ob13), (145, ob14), (146, ob32), (1337, ob16), (1338, ob17), (3193, ob2), (3195, ob23), (3197, ob2), (3199, ob2), (3201, ob24), (6263, ob35)]
theorem p10 : look (mkT p10a) 6264 6622 p10b ((D 100000 60 22 [(.pointer (some ⟨69, 0, none⟩)), (.agg ⟨[(.int .i64 (.ofNat 7)), (.int .i64 (.ofNat 0)), (.int .i64 (.ofNat 8)), (.int .i64 (.ofNat 0)), (.slice none 0 0)]⟩), (.int .i64 (.ofNat 0)), (.slice (some ⟨6263, 0, none⟩) 9 9)] (fun v s => .ret (pk v s)) 6264).runL (mkT p10a) [] []) = some (pk (.bool true) 6622, wants p10b) := by kernel_rfl
end Go.Ev.R

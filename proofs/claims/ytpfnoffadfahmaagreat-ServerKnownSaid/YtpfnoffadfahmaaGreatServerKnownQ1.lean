/- The law's run in pieces: each call, from the blocks that it needs. It is closed; no condition. -/
import Derived.Test.YtpfnoffadfahmaaGreatServerKnownQd
namespace Go.Ev.R
open Go Go.RowKit Go.Ev
set_option linter.unusedVariables false
set_option linter.unusedSimpArgs false
set_option maxRecDepth 100000
/-- 21 -/
def p2a : Part := [(26, ob0), (28, ob0), (30, ob1), (33, ob2), (37, ob0), (39, ob2), (41, ob3), (43, ob4), (44, ob5), (48, ob0), (50, ob0), (52, ob6), (54, ob2), (55, ob7), (59, ob0), (61, ob0), (63, ob8), (66, ob2), (67, ob19), (69, ob20), (76, ob11), (77, ob12), (144, ob13), (145, ob14), (146, ob15), (1337, ob16), (1338, ob17), (1341, ob18)]
def p2b : Part := [(26, ob0), (28, ob0), (30, ob1), (33, ob2), (37, ob0), (39, ob2), (41, ob21), (43, ob4), (44, ob5), (48, ob0), (50, ob0), (52, ob6), (54, ob2), (55, ob7), (59, ob0), (61, ob0), (63, ob8), (66, ob2), (67, ob19), (69, ob22), (76, ob11), (77, ob12), (144, ob13), (145, ob14), (146, ob15), (1337, ob16), (1338, ob17), (3193, ob2), (3195, ob23), (3197, ob2), (3199, ob2), (3201, ob24)]
theorem p2 : look (mkT p2a) 2033 3204 p2b ((D 100000 60 21 [(.pointer (some ⟨69, 0, none⟩))] (fun v s => .ret (pk v s)) 2033).runL (mkT p2a) [] []) = some (pk (.tuple ⟨[(.int .i64 (.ofNat 1)), (.int .i64 (.ofNat 0))]⟩) 3204, wants p2b) := by kernel_rfl
/-- 20 -/
def p3a : Part := [(26, ob0), (28, ob0), (30, ob1), (33, ob2), (37, ob0), (39, ob2), (41, ob21), (43, ob4), (44, ob5), (48, ob0), (50, ob0), (52, ob6), (54, ob2), (55, ob7), (59, ob0), (61, ob0), (63, ob8), (66, ob2), (67, ob19), (69, ob22), (76, ob11), (77, ob12), (144, ob13), (145, ob14), (146, ob15), (1337, ob16), (1338, ob17), (3193, ob2), (3195, ob23), (3197, ob2), (3199, ob2), (3201, ob24)]
def p3b : Part := [(26, ob0), (28, ob0), (30, ob1), (33, ob2), (37, ob0), (39, ob2), (41, ob21), (43, ob4), (44, ob5), (48, ob0), (50, ob0), (52, ob6), (54, ob2), (55, ob7), (59, ob0), (61, ob0), (63, ob8), (66, ob2), (67, ob25), (69, ob26), (76, ob11), (77, ob12), (144, ob13), (145, ob14), (146, ob15), (1337, ob16), (1338, ob17), (3193, ob2), (3195, ob23), (3197, ob2), (3199, ob2), (3201, ob24)]
theorem p3 : look (mkT p3a) 3204 3684 p3b ((D 100000 60 20 [(.pointer (some ⟨69, 0, none⟩)), (.int .i64 (.ofNat 6)), (.int .i64 (.ofNat 0)), (.int .i64 (.ofNat 4294967296)), (.bool true)] (fun v s => .ret (pk v s)) 3204).runL (mkT p3a) [] []) = some (pk (.bool true) 3684, wants p3b) := by kernel_rfl
/-- 22 -/
def p4a : Part := [(26, ob0), (28, ob0), (30, ob1), (33, ob2), (37, ob0), (39, ob2), (41, ob21), (43, ob4), (44, ob5), (48, ob0), (50, ob0), (52, ob6), (54, ob2), (55, ob7), (59, ob0), (61, ob0), (63, ob8), (66, ob2), (67, ob25), (69, ob26), (76, ob11), (77, ob12), (144, ob13), (145, ob14), (146, ob15), (1337, ob16), (1338, ob17), (3193, ob2), (3195, ob23), (3197, ob2), (3199, ob2), (3201, ob24)]
def p4b : Part := [(26, ob0), (28, ob0), (30, ob1), (33, ob2), (37, ob0), (39, ob2), (41, ob21), (43, ob4), (44, ob5), (48, ob0), (50, ob0), (52, ob6), (54, ob2), (55, ob7), (59, ob0), (61, ob0), (63, ob8), (66, ob2), (67, ob27), (69, ob28), (76, ob11), (77, ob12), (144, ob13), (145, ob14), (146, ob15), (1337, ob16), (1338, ob17), (3193, ob2), (3195, ob23), (3197, ob2), (3199, ob2), (3201, ob24)]
theorem p4 : look (mkT p4a) 3684 4076 p4b ((D 100000 60 22 [(.pointer (some ⟨69, 0, none⟩)), (.agg ⟨[(.int .i64 (.ofNat 6)), (.int .i64 (.ofNat 0)), (.int .i64 (.ofNat 7)), (.int .i64 (.ofNat 6)), (.slice none 0 0)]⟩), (.int .i64 (.ofNat 4)), (.slice none 0 0)] (fun v s => .ret (pk v s)) 3684).runL (mkT p4a) [] []) = some (pk (.bool true) 4076, wants p4b) := by kernel_rfl

end Go.Ev.R

/- The law's run in pieces: each call, from the blocks that it needs. It is closed; no condition. -/
import Derived.Test.YtpfnoffadfahmaaGreatServerKnownQd
namespace Go.Ev.R
open Go Go.RowKit Go.Ev
set_option linter.unusedVariables false
set_option linter.unusedSimpArgs false
set_option maxRecDepth 100000
/-- 19 -/
def p0a : Part := []
def p0b : Part := [(26, ob0), (28, ob0), (30, ob1), (33, ob2), (37, ob0), (39, ob2), (41, ob3), (43, ob4), (44, ob5), (48, ob0), (50, ob0), (52, ob6), (54, ob2), (55, ob7), (59, ob0), (61, ob0), (63, ob8), (66, ob2), (67, ob9), (69, ob10), (76, ob11), (77, ob12), (144, ob13), (145, ob14), (146, ob15), (1337, ob16), (1338, ob17), (1341, ob18)]
theorem p0 : look (mkT p0a) 1 1557 p0b ((D 100000 60 19 [] (fun v s => .ret (pk v s)) 1).runL (mkT p0a) [] []) = some (pk (.pointer (some ⟨69, 0, none⟩)) 1557, wants p0b) := by kernel_rfl
/-- 20 -/
def p1a : Part := [(26, ob0), (28, ob0), (30, ob1), (33, ob2), (37, ob0), (39, ob2), (41, ob3), (43, ob4), (44, ob5), (48, ob0), (50, ob0), (52, ob6), (54, ob2), (55, ob7), (59, ob0), (61, ob0), (63, ob8), (66, ob2), (67, ob9), (69, ob10), (76, ob11), (77, ob12), (144, ob13), (145, ob14), (146, ob15), (1337, ob16), (1338, ob17), (1341, ob18)]
def p1b : Part := [(26, ob0), (28, ob0), (30, ob1), (33, ob2), (37, ob0), (39, ob2), (41, ob3), (43, ob4), (44, ob5), (48, ob0), (50, ob0), (52, ob6), (54, ob2), (55, ob7), (59, ob0), (61, ob0), (63, ob8), (66, ob2), (67, ob19), (69, ob20), (76, ob11), (77, ob12), (144, ob13), (145, ob14), (146, ob15), (1337, ob16), (1338, ob17), (1341, ob18)]
theorem p1 : look (mkT p1a) 1557 2033 p1b ((D 100000 60 20 [(.pointer (some ⟨69, 0, none⟩)), (.int .i64 (.ofNat 5)), (.int .i64 (.ofNat 0)), (.int .i64 (.ofNat 0)), (.bool false)] (fun v s => .ret (pk v s)) 1557).runL (mkT p1a) [] []) = some (pk (.bool true) 2033, wants p1b) := by kernel_rfl

end Go.Ev.R

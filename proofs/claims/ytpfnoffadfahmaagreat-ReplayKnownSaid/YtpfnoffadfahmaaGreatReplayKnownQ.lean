/- The law's run in pieces: each call, from the blocks that it needs. It is closed; no condition. -/
import Derived.Test.YtpfnoffadfahmaaGreatReplayKnownK
import Derived.Test.YtpfnoffadfahmaaGreatXR
namespace Go.Ev.R
open Go Go.RowKit Go.Ev
set_option linter.unusedVariables false
set_option linter.unusedSimpArgs false
set_option maxRecDepth 100000
/-- 29 -/
def p0a : Part := []
def p0b : Part := [(15, (.cells ⟨[(.int .u8 (.ofNat 1)), (.int .u8 (.ofNat 1))]⟩ 5 (2, 0)))]
theorem p0 : look (mkT p0a) 1 16 p0b ((D 100000 60 29 [(.agg ⟨[(.int .i64 (.ofNat 1)), (.int .i64 (.ofNat 1)), (.int .i64 (.ofNat 0)), (.int .i64 (.ofNat 0)), (.slice none 0 0)]⟩)] (fun v s => .ret (pk v s)) 1).runL (mkT p0a) [] []) = some (pk (.tuple ⟨[(.slice (some ⟨15, 0, none⟩) 2 2), (.int .i64 (.ofNat 0))]⟩) 16, wants p0b) := by kernel_rfl
/-- 30 -/
def p1a : Part := []
def p1b : Part := [(37, (.cells ⟨[(.int .u8 (.ofNat 1)), (.int .u8 (.ofNat 1)), (.int .u8 (.ofNat 0))]⟩ 5 (2, 0)))]
theorem p1 : look (mkT p1a) 16 38 p1b ((D 100000 60 30 [(.agg ⟨[(.int .i64 (.ofNat 1)), (.int .i64 (.ofNat 1)), (.int .i64 (.ofNat 0)), (.int .i64 (.ofNat 0)), (.slice none 0 0), (.bool false), (.int .i64 (.ofNat 0)), (.slice none 0 0), (.slice none 0 0), (.bool false), (.int .i64 (.ofNat 0)), (.int .i64 (.ofNat 0))]⟩)] (fun v s => .ret (pk v s)) 16).runL (mkT p1a) [] []) = some (pk (.tuple ⟨[(.slice (some ⟨37, 0, none⟩) 3 3), (.int .i64 (.ofNat 0))]⟩) 38, wants p1b) := by kernel_rfl
/-- 32 -/
def p2a : Part := []
def p2b : Part := [(39, (.cells ⟨[(.int .i64 (.ofNat 4294967296))]⟩ 3 (0, 0))), (40, (.cells ⟨[(.int .i64 (.ofNat 1)), (.slice (some ⟨39, 0, none⟩) 1 1), (.int .i64 (.ofNat 4294967296))]⟩ 135 (0, 0))), (41, (.cells ⟨[(.int .i64 (.ofNat 0))]⟩ 3 (0, 0))), (42, (.cells ⟨[(.int .i64 (.ofNat 0))]⟩ 3 (0, 0)))]
theorem p2 : look (mkT p2a) 38 43 p2b ((D 100000 60 32 [] (fun v s => .ret (pk v s)) 38).runL (mkT p2a) [] []) = some (pk (.agg ⟨[(.int .i64 (.ofNat 1)), (.slice (some ⟨41, 0, none⟩) 1 1), (.slice (some ⟨42, 0, none⟩) 1 1), (.int .i64 (.ofNat 4294967296)), (.int .i64 (.ofNat 17179869184)), (.int .i64 (.ofNat 1)), (.slice (some ⟨40, 0, none⟩) 1 1)]⟩) 43, wants p2b) := by kernel_rfl
/-- 33 -/
def p3a : Part := []
def p3b : Part := [(44, (.cells ⟨[(.int .i64 (.ofNat 0))]⟩ 3 (0, 0))), (45, (.cells ⟨[(.int .i64 (.ofNat 4294967296))]⟩ 3 (0, 0)))]
theorem p3 : look (mkT p3a) 43 46 p3b ((D 100000 60 33 [] (fun v s => .ret (pk v s)) 43).runL (mkT p3a) [] []) = some (pk (.agg ⟨[(.int .i64 (.ofNat 0)), (.slice (some ⟨44, 0, none⟩) 1 1), (.slice (some ⟨45, 0, none⟩) 1 1), (.bool false), (.int .i64 (.ofNat 0)), (.int .i64 (.ofNat 0))]⟩) 46, wants p3b) := by kernel_rfl
/-- 34 -/
def p4a : Part := []
def p4b : Part := []
theorem p4 : look (mkT p4a) 46 47 p4b ((D 100000 60 34 [] (fun v s => .ret (pk v s)) 46).runL (mkT p4a) [] []) = some (pk (.agg ⟨[(.int .i64 (.ofNat 3)), (.int .i64 (.ofNat 100)), (.int .i64 (.ofNat 5)), (.int .i64 (.ofNat 1)), (.int .i64 (.ofNat 2))]⟩) 47, wants p4b) := by kernel_rfl
/-- 36 -/
def p5a : Part := [(15, (.cells ⟨[(.int .u8 (.ofNat 1)), (.int .u8 (.ofNat 1))]⟩ 5 (2, 0)))]
def p5b : Part := [(15, (.cells ⟨[(.int .u8 (.ofNat 1)), (.int .u8 (.ofNat 1))]⟩ 5 (2, 0))), (53, (.cells ⟨[(.int .u8 (.ofNat 126)), (.int .u8 (.ofNat 0)), (.int .u8 (.ofNat 2)), (.int .u8 (.ofNat 1)), (.int .u8 (.ofNat 1)), (.int .u8 (.ofNat 165)), (.int .u8 (.ofNat 10)), (.int .u8 (.ofNat 220)), (.int .u8 (.ofNat 76))]⟩ 5 (2, 0)))]
theorem p5 : look (mkT p5a) 47 54 p5b ((D 100000 60 36 [(.slice (some ⟨15, 0, none⟩) 2 2)] (fun v s => .ret (pk v s)) 47).runL (mkT p5a) [] []) = some (pk (.slice (some ⟨53, 0, none⟩) 9 9) 54, wants p5b) := by kernel_rfl
/-- 35 -/
def p6a : Part := [(53, (.cells ⟨[(.int .u8 (.ofNat 126)), (.int .u8 (.ofNat 0)), (.int .u8 (.ofNat 2)), (.int .u8 (.ofNat 1)), (.int .u8 (.ofNat 1)), (.int .u8 (.ofNat 165)), (.int .u8 (.ofNat 10)), (.int .u8 (.ofNat 220)), (.int .u8 (.ofNat 76))]⟩ 5 (2, 0)))]
def p6b : Part := [(53, (.cells ⟨[(.int .u8 (.ofNat 126)), (.int .u8 (.ofNat 0)), (.int .u8 (.ofNat 2)), (.int .u8 (.ofNat 1)), (.int .u8 (.ofNat 1)), (.int .u8 (.ofNat 165)), (.int .u8 (.ofNat 10)), (.int .u8 (.ofNat 220)), (.int .u8 (.ofNat 76))]⟩ 5 (2, 0)))]
theorem p6 : look (mkT p6a) 54 55 p6b ((D 100000 60 35 [(.int .i64 (.ofNat 2)), (.slice (some ⟨53, 0, none⟩) 9 9)] (fun v s => .ret (pk v s)) 54).runL (mkT p6a) [] []) = some (pk (.agg ⟨[(.slice (some ⟨53, 0, none⟩) 9 9), (.int .i64 (.ofNat 2))]⟩) 55, wants p6b) := by kernel_rfl
/-- 35 -/
def p7a : Part := []
def p7b : Part := []
theorem p7 : look (mkT p7a) 55 56 p7b ((D 100000 60 35 [(.int .i64 (.ofNat 1)), (.slice none 0 0)] (fun v s => .ret (pk v s)) 55).runL (mkT p7a) [] []) = some (pk (.agg ⟨[(.slice none 0 0), (.int .i64 (.ofNat 1))]⟩) 56, wants p7b) := by kernel_rfl
/-- 31 -/
def p8a : Part := [(39, (.cells ⟨[(.int .i64 (.ofNat 4294967296))]⟩ 3 (0, 0))), (40, (.cells ⟨[(.int .i64 (.ofNat 1)), (.slice (some ⟨39, 0, none⟩) 1 1), (.int .i64 (.ofNat 4294967296))]⟩ 135 (0, 0))), (41, (.cells ⟨[(.int .i64 (.ofNat 0))]⟩ 3 (0, 0))), (42, (.cells ⟨[(.int .i64 (.ofNat 0))]⟩ 3 (0, 0))), (44, (.cells ⟨[(.int .i64 (.ofNat 0))]⟩ 3 (0, 0))), (45, (.cells ⟨[(.int .i64 (.ofNat 4294967296))]⟩ 3 (0, 0))), (53, (.cells ⟨[(.int .u8 (.ofNat 126)), (.int .u8 (.ofNat 0)), (.int .u8 (.ofNat 2)), (.int .u8 (.ofNat 1)), (.int .u8 (.ofNat 1)), (.int .u8 (.ofNat 165)), (.int .u8 (.ofNat 10)), (.int .u8 (.ofNat 220)), (.int .u8 (.ofNat 76))]⟩ 5 (2, 0))), (56, (.cells ⟨[(.slice (some ⟨53, 0, none⟩) 9 9), (.int .i64 (.ofNat 2)), (.slice none 0 0), (.int .i64 (.ofNat 1))]⟩ 91 (0, 0)))]
def p8b : Part := [(39, (.cells ⟨[(.int .i64 (.ofNat 4294967296))]⟩ 3 (0, 0))), (40, (.cells ⟨[(.int .i64 (.ofNat 1)), (.slice (some ⟨39, 0, none⟩) 1 1), (.int .i64 (.ofNat 4294967296))]⟩ 135 (0, 0))), (41, (.cells ⟨[(.int .i64 (.ofNat 0))]⟩ 3 (0, 0))), (42, (.cells ⟨[(.int .i64 (.ofNat 0))]⟩ 3 (0, 0))), (44, (.cells ⟨[(.int .i64 (.ofNat 0))]⟩ 3 (0, 0))), (45, (.cells ⟨[(.int .i64 (.ofNat 4294967296))]⟩ 3 (0, 0))), (53, (.cells ⟨[(.int .u8 (.ofNat 126)), (.int .u8 (.ofNat 0)), (.int .u8 (.ofNat 2)), (.int .u8 (.ofNat 1)), (.int .u8 (.ofNat 1)), (.int .u8 (.ofNat 165)), (.int .u8 (.ofNat 10)), (.int .u8 (.ofNat 220)), (.int .u8 (.ofNat 76))]⟩ 5 (2, 0))), (56, (.cells ⟨[(.slice (some ⟨53, 0, none⟩) 9 9), (.int .i64 (.ofNat 2)), (.slice none 0 0), (.int .i64 (.ofNat 1))]⟩ 91 (0, 0))), (204, (.cells ⟨[(.int .u8 (.ofNat 126)), (.int .u8 (.ofNat 0)), (.int .u8 (.ofNat 3)), (.int .u8 (.ofNat 1)), (.int .u8 (.ofNat 1)), (.int .u8 (.ofNat 0)), (.int .u8 (.ofNat 133)), (.int .u8 (.ofNat 3)), (.int .u8 (.ofNat 78)), (.int .u8 (.ofNat 204))]⟩ 5 (2, 0))), (233, (.cells ⟨[(.int .i64 (.ofNat 3)), (.int .i64 (.ofNat 1)), (.int .i64 (.ofNat 0)), (.int .i64 (.ofNat 0)), (.int .i64 (.ofNat 0)), (.int .i64 (.ofNat 0)), (.int .i64 (.ofNat 0)), (.int .i64 (.ofNat 0)), (.int .i64 (.ofNat 0))]⟩ 3 (0, 0)))]
theorem p8 : look (mkT p8a) 57 234 p8b ((D 100000 60 31 [(.agg ⟨[(.int .i64 (.ofNat 1)), (.slice (some ⟨41, 0, none⟩) 1 1), (.slice (some ⟨42, 0, none⟩) 1 1), (.int .i64 (.ofNat 4294967296)), (.int .i64 (.ofNat 17179869184)), (.int .i64 (.ofNat 1)), (.slice (some ⟨40, 0, none⟩) 1 1)]⟩), (.agg ⟨[(.int .i64 (.ofNat 0)), (.slice (some ⟨44, 0, none⟩) 1 1), (.slice (some ⟨45, 0, none⟩) 1 1), (.bool false), (.int .i64 (.ofNat 0)), (.int .i64 (.ofNat 0))]⟩), (.agg ⟨[(.int .i64 (.ofNat 3)), (.int .i64 (.ofNat 100)), (.int .i64 (.ofNat 5)), (.int .i64 (.ofNat 1)), (.int .i64 (.ofNat 2))]⟩), (.slice (some ⟨56, 0, none⟩) 2 2)] (fun v s => .ret (pk v s)) 57).runL (mkT p8a) [] []) = some (pk (.tuple ⟨[(.agg ⟨[(.slice (some ⟨204, 0, none⟩) 10 10), (.int .i64 (.ofNat 0)), (.slice (some ⟨233, 0, none⟩) 9 9)]⟩), (.int .i64 (.ofNat 0))]⟩) 234, wants p8b) := by kernel_rfl
end Go.Ev.R

/- The functions as terms, in a table. No condition. -/
import Derived.Test.YtgadiajhhjfmbaaEntryKeysR0
namespace Go.Ev.R
set_option linter.unusedVariables false
set_option linter.unusedSimpArgs false
open Go Go.RowKit
set_option maxRecDepth 100000
noncomputable def tab (N : Nat) : FT := (.node 23 (.node 17 (.node 14 (.node 3 (.leaf 3 (F3 N)) (.node 13 (.leaf 13 (F13 N)) (.leaf 14 (F14 N)))) (.node 15 (.leaf 15 (F15 N)) (.node 16 (.leaf 16 (F16 N)) (.leaf 17 (F17 N))))) (.node 20 (.node 18 (.leaf 18 (F18 N)) (.node 19 (.leaf 19 (F19 N)) (.leaf 20 (F20 N)))) (.node 21 (.leaf 21 (F21 N)) (.node 22 (.leaf 22 (F22 N)) (.leaf 23 (F23 N)))))) (.node 54 (.node 51 (.node 24 (.leaf 24 (F24 N)) (.node 25 (.leaf 25 (F25 N)) (.leaf 51 (F51 N)))) (.node 52 (.leaf 52 (F52 N)) (.node 53 (.leaf 53 (F53 N)) (.leaf 54 (F54 N))))) (.node 77 (.node 55 (.leaf 55 (F55 N)) (.node 56 (.leaf 56 (F56 N)) (.leaf 77 (F77 N)))) (.node 78 (.leaf 78 (F78 N)) (.node 97 (.leaf 97 (F97 N)) (.leaf 1000000 (yY P N)))))))
theorem tab_ok (N : Nat) : FT.OK P N (tab N) := (FT.OK.node 23 _ _ (FT.OK.node 17 _ _ (FT.OK.node 14 _ _ (FT.OK.node 3 _ _ (F3_ok N) (FT.OK.node 13 _ _ (F13_ok N) (F14_ok N))) (FT.OK.node 15 _ _ (F15_ok N) (FT.OK.node 16 _ _ (F16_ok N) (F17_ok N)))) (FT.OK.node 20 _ _ (FT.OK.node 18 _ _ (F18_ok N) (FT.OK.node 19 _ _ (F19_ok N) (F20_ok N))) (FT.OK.node 21 _ _ (F21_ok N) (FT.OK.node 22 _ _ (F22_ok N) (F23_ok N))))) (FT.OK.node 54 _ _ (FT.OK.node 51 _ _ (FT.OK.node 24 _ _ (F24_ok N) (FT.OK.node 25 _ _ (F25_ok N) (F51_ok N))) (FT.OK.node 52 _ _ (F52_ok N) (FT.OK.node 53 _ _ (F53_ok N) (F54_ok N)))) (FT.OK.node 77 _ _ (FT.OK.node 55 _ _ (F55_ok N) (FT.OK.node 56 _ _ (F56_ok N) (F77_ok N))) (FT.OK.node 78 _ _ (F78_ok N) (FT.OK.node 97 _ _ (F97_ok N) (.yield))))))
end Go.Ev.R

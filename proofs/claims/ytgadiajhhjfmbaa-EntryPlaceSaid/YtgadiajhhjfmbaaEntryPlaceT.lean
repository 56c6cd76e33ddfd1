/- The functions as terms, in a table. No condition. -/
import Derived.Test.YtgadiajhhjfmbaaEntryPlaceR0
namespace Go.Ev.R
set_option linter.unusedVariables false
set_option linter.unusedSimpArgs false
open Go Go.RowKit
set_option maxRecDepth 100000
noncomputable def tab (N : Nat) : FT := (.node 25 (.node 15 (.node 13 (.node 6 (.leaf 6 (F6 N)) (.leaf 13 (F13 N))) (.node 14 (.leaf 14 (F14 N)) (.leaf 15 (F15 N)))) (.node 19 (.node 17 (.leaf 17 (F17 N)) (.leaf 19 (F19 N))) (.node 21 (.leaf 21 (F21 N)) (.node 24 (.leaf 24 (F24 N)) (.leaf 25 (F25 N)))))) (.node 55 (.node 52 (.node 51 (.leaf 51 (F51 N)) (.leaf 52 (F52 N))) (.node 53 (.leaf 53 (F53 N)) (.node 54 (.leaf 54 (F54 N)) (.leaf 55 (F55 N))))) (.node 77 (.node 56 (.leaf 56 (F56 N)) (.leaf 77 (F77 N))) (.node 78 (.leaf 78 (F78 N)) (.node 97 (.leaf 97 (F97 N)) (.leaf 1000000 (yY P N)))))))
theorem tab_ok [Known P] (N : Nat) : FT.OK P N (tab N) := (FT.OK.node 25 _ _ (FT.OK.node 15 _ _ (FT.OK.node 13 _ _ (FT.OK.node 6 _ _ (F6_ok N) (F13_ok N)) (FT.OK.node 14 _ _ (F14_ok N) (F15_ok N))) (FT.OK.node 19 _ _ (FT.OK.node 17 _ _ (F17_ok N) (F19_ok N)) (FT.OK.node 21 _ _ (F21_ok N) (FT.OK.node 24 _ _ (F24_ok N) (F25_ok N))))) (FT.OK.node 55 _ _ (FT.OK.node 52 _ _ (FT.OK.node 51 _ _ (F51_ok N) (F52_ok N)) (FT.OK.node 53 _ _ (F53_ok N) (FT.OK.node 54 _ _ (F54_ok N) (F55_ok N)))) (FT.OK.node 77 _ _ (FT.OK.node 56 _ _ (F56_ok N) (F77_ok N)) (FT.OK.node 78 _ _ (F78_ok N) (FT.OK.node 97 _ _ (F97_ok N) (.yield))))))
end Go.Ev.R

/- The examples of function 13, reckoned by the kernel in pieces: further pieces. Conditions: none. -/
import Derived.Test.YtfpnapihhgjgaaaHb
namespace Go.Proofs.Ytfpnapihhgjgaaa.Ab
set_option linter.unusedVariables false
set_option maxRecDepth 1000000

theorem aw13_0 : xexec aw13F 100000 (segAt 0 x13.body) .nil [] [] = some (.normal, aw13l1, aw13h1, aw13w1) := okN_eq (by kernel_rfl)
theorem aw13_1 : xexec aw13F 100000 (segAt 1 x13.body) aw13l1 aw13h1 aw13w1 = some (.normal, aw13l2, aw13h2, aw13w2) := okN_eq (by kernel_rfl)
theorem aw13_2 : xexec aw13F 100000 (segAt 2 x13.body) aw13l2 aw13h2 aw13w2 = some (.normal, aw13l3, aw13h3, aw13w3) := okN_eq (by kernel_rfl)
theorem aw13_3 : xexec aw13F 100000 (segAt 3 x13.body) aw13l3 aw13h3 aw13w3 = some (.normal, aw13l4, aw13h4, aw13w4) := okN_eq (by kernel_rfl)
theorem aw13_4 : xexec aw13F 100000 (segAt 4 x13.body) aw13l4 aw13h4 aw13w4 = some (.normal, aw13l5, aw13h5, aw13w5) := okN_eq (by kernel_rfl)
end Go.Proofs.Ytfpnapihhgjgaaa.Ab

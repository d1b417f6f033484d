/- The examples of function 13, reckoned by the kernel in pieces: further pieces. Conditions: none. -/
import Derived.Test.YtfpnapihhgjgaaaHc
namespace Go.Proofs.Ytfpnapihhgjgaaa.Ab
set_option linter.unusedVariables false
set_option maxRecDepth 1000000

theorem aw13_5 : xexec aw13F 100000 (segAt 5 x13.body) aw13l5 aw13h5 aw13w5 = some (.normal, aw13l6, aw13h6, aw13w6) := okN_eq (by kernel_rfl)
end Go.Proofs.Ytfpnapihhgjgaaa.Ab

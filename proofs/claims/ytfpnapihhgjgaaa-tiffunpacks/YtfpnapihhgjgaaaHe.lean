/- The examples of function 13, reckoned by the kernel in pieces: further pieces. Conditions: none. -/
import Derived.Test.YtfpnapihhgjgaaaHd
namespace Go.Proofs.Ytfpnapihhgjgaaa.Ab
set_option linter.unusedVariables false
set_option maxRecDepth 1000000

theorem aw13_6 : xexec aw13F 100000 (segAt 6 x13.body) aw13l6 aw13h6 aw13w6 = some (.normal, aw13l7, aw13h7, aw13w7) := okN_eq (by kernel_rfl)
end Go.Proofs.Ytfpnapihhgjgaaa.Ab

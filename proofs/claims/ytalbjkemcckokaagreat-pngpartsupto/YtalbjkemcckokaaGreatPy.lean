/- The law PngJoins over the layer. Conditions: the file's length. -/
import Derived.Test.YtalbjkemcckokaaGreatPw
namespace Go.Proofs.YtalbjkemcckokaaGreat.Ab
set_option linter.unusedVariables false
set_option linter.unusedSimpArgs false
set_option maxRecDepth 100000

theorem law4_ok {w : AVal} {l : List Chk} {H : AHeap} (h : Ls2 H w l) (hl : bulkC l ≤ 2 ^ 40) (fp : Nat → Prop) : ACall Tryz.prog 4 [w] H fp fun v' H' => v' = .bool true ∧ H' = H := by
  refine acall_of hmix Tryz.func4 x4_ok (by simp) ?_
  simp (config := {contextual := true, implicitDefEqProofs := false}) (disch := omega)
  refine call1_eq (join_ok h hl _) ?_
  simp (config := {contextual := true, implicitDefEqProofs := false}) (disch := omega)
  refine call1_eq (rjoin_ok h hl _) ?_
  simp (config := {contextual := true, implicitDefEqProofs := false}) (disch := omega)
  refine call1_eq (awake_ok _ _) ?_
  simp (config := {contextual := true, implicitDefEqProofs := false}) (disch := omega)
end Go.Proofs.YtalbjkemcckokaaGreat.Ab

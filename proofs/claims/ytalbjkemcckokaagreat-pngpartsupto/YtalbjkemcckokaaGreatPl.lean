/- The law PngFilters over the layer. Conditions: the line's length. -/
import Derived.Test.YtalbjkemcckokaaGreatPk
namespace Go.Proofs.YtalbjkemcckokaaGreat.Ab
set_option linter.unusedVariables false
set_option linter.unusedSimpArgs false
set_option maxRecDepth 100000

theorem law5_ok {kind bpp : Int} {line above : List UInt8} (hl : line.length ≤ roomLim) (H : AHeap) (fp : Nat → Prop) : ACall Tryz.prog 5 [.int .i64 kind, .int .i64 bpp, .str line, .str above] H fp fun v' H' => v' = .bool true ∧ H' = H := by
  refine acall_of hmix Tryz.func5 x5_ok (by simp) ?_
  simp (config := {contextual := true, implicitDefEqProofs := false}) (disch := omega)
  refine call1_eq (Filter_ok kind bpp line above hl _ _) ?_
  simp (config := {contextual := true, implicitDefEqProofs := false}) (disch := omega) [pairV]
  refine call1_eq (rFilter_ok kind bpp line above hl _ _) ?_
  simp (config := {contextual := true, implicitDefEqProofs := false}) (disch := omega) [pairV]
  refine call1_eq (Unfilter_ok kind bpp line above hl _ _) ?_
  simp (config := {contextual := true, implicitDefEqProofs := false}) (disch := omega) [pairV]
  refine call1_eq (rUnfilter_ok kind bpp line above hl _ _) ?_
  simp (config := {contextual := true, implicitDefEqProofs := false}) (disch := omega) [pairV]
  refine call1_eq (awake_ok _ _) ?_
  simp (config := {contextual := true, implicitDefEqProofs := false}) (disch := omega)
end Go.Proofs.YtalbjkemcckokaaGreat.Ab

/- The law TiffPacks over the layer. Conditions: the text's length. -/
import Derived.Test.YtfpnapihhgjgaaaCe
import Derived.Test.YtfpnapihhgjgaaaHf
namespace Go.Proofs.Ytfpnapihhgjgaaa.Ab
set_option linter.unusedVariables false
set_option linter.unusedSimpArgs false
set_option maxRecDepth 100000

theorem law3_ok {s : List UInt8} {n : Int} (hs : 2 * s.length ≤ roomLim) (H : AHeap) (fp : Nat → Prop) : ACall Try.prog 3 [.str s, .int .i64 n] H fp fun v' H' => v' = .bool true ∧ H' = H := by
  refine acall_of hmix Try.func3 x3_ok (by simp) ?_
  simp (config := {contextual := true, implicitDefEqProofs := false}) (disch := omega)
  refine call1_eq (unpack_ok s n (by omega) _ _) ?_
  simp (config := {contextual := true, implicitDefEqProofs := false}) (disch := omega) [pairV]
  refine call1_eq (runpack_ok s n (by omega) _ _) ?_
  simp (config := {contextual := true, implicitDefEqProofs := false}) (disch := omega) [pairV]
  refine call1_eq (pack_ok s hs _ _) ?_
  simp (config := {contextual := true, implicitDefEqProofs := false}) (disch := omega)
  refine call1_eq (rpack_ok s hs _ _) ?_
  simp (config := {contextual := true, implicitDefEqProofs := false}) (disch := omega)
  refine call1_eq (awake_ok _ _) ?_
  simp (config := {contextual := true, implicitDefEqProofs := false}) (disch := omega)
end Go.Proofs.Ytfpnapihhgjgaaa.Ab

/- png.chunk. Conditions: the text's length; for the statements about layer 48. -/
import Derived.Test.YtalbjkemcckokaaGreatPo
namespace Go.Proofs.YtalbjkemcckokaaGreat.Ab
set_option linter.unusedVariables false
set_option linter.unusedSimpArgs false
set_option maxRecDepth 100000

section
variable {s : List UInt8} {H : AHeap} {fp : Nat → Prop}
def cutV (s p : List UInt8) : AVal := if s.take p.length = p then .tuple [.str (s.drop p.length), .bool true] else .tuple [.str s, .bool false]
theorem cutPrefix1_ok (p : List UInt8) : ACall Tryz.prog 71 [.str s, .str p] H fp fun v H' => v = cutV s p ∧ H' = H := by
  refine acall_of hmix Tryz.func71 x71_ok (by simp) ?_
  simp (config := {contextual := true, implicitDefEqProofs := false}) (disch := omega)
  refine call1_eq (hasPrefix_ok p) ?_
  by_cases h : s.take p.length = p
  · have hl : p.length ≤ s.length := by have := congrArg List.length h; simp at this; omega
    have hs : vSlStr (.str s) (some (.int .i64 (p.length : Int))) none = some (.str (s.drop p.length)) := by rw [vSlStr_lo (by omega) (by omega)]; simp
    simp (config := {contextual := true, implicitDefEqProofs := false}) (disch := omega) [h, hs, cutV]
  · simp (config := {contextual := true, implicitDefEqProofs := false}) (disch := omega) [h, cutV]
theorem cutPrefix_ok (p : List UInt8) : ACall Tryz.prog 31 [.str s, .str p] H fp fun v H' => v = cutV s p ∧ H' = H := by
  refine acall_of hmix Tryz.func31 x31_ok (by simp) ?_
  simp (config := {contextual := true, implicitDefEqProofs := false}) (disch := omega)
  refine call1_eq (cutPrefix1_ok p) ?_
  unfold cutV
  split
  · simp (config := {contextual := true, implicitDefEqProofs := false}) (disch := omega)
  · simp (config := {contextual := true, implicitDefEqProofs := false}) (disch := omega)

@[simp] theorem ast2 {e : Nat} {a b : AVal} {x y : List UInt8} : astores [.cells 0 false e [a, b]] 0 0 0 [.str x, .str y] = some [.cells 0 false e [.str x, .str y]] := by simp [astores]
theorem numN_lt (s : List UInt8) : numN s < 4294967296 := by
  have b0 := UInt8.toNat_lt (chr s 0)
  have b1 := UInt8.toNat_lt (chr s 1)
  have b2 := UInt8.toNat_lt (chr s 2)
  have b3 := UInt8.toNat_lt (chr s 3)
  unfold numN; omega
/-- The error of the chunk at the beginning of a text; its name and data. -/
def chkE (s : List UInt8) : Int := if s.length < 8 then 5 else if 1048576 < numN s then 3 else if nameB ((s.drop 4).take 4) = false then 13 else if s.length < numN s + 12 then 5 else if crcG ((s.drop 4).take (numN s + 4)) ≠ numN (s.drop (numN s + 8)) then 7 else 0
def chkN (s : List UInt8) : List UInt8 := (s.drop 4).take 4
def chkD (s : List UInt8) : List UInt8 := (s.drop 8).take (numN s)
def chkV (s : List UInt8) : AVal := if chkE s = 0 then .tuple [.agg [.str (chkN s), .str (chkD s)], .int .i64 ((numN s + 12 : Nat) : Int), .int .i64 0] else .tuple [.agg [.str [], .str []], .int .i64 0, .int .i64 (chkE s)]

theorem chunk_ok (hs : s.length ≤ 2 ^ 60) : ACall Tryz.prog 32 [.str s] H fp fun v H' => v = chkV s ∧ H' = H := by
  refine ((ACall.drop (fp := fp) (R := fun v _ => v = chkV s) (?_) fun v H' e => by rw [e, chkV]; split <;> rfl)).mono fun v H' q => ⟨by obtain ⟨_, _, h, _⟩ := q; exact h, q.1⟩
  refine acall_of hmix Tryz.func32 x32_ok (by simp) ?_
  have hnl := numN_lt s
  simp (config := {contextual := true, implicitDefEqProofs := false}) (disch := omega) [afill, resVal]
  refine ⟨fun h => ?_, fun h => ?_⟩
  · have e : chkE s = 5 := by unfold chkE; rw [if_pos (by omega)]
    simp (config := {contextual := true, implicitDefEqProofs := false}) (disch := omega) [chkV, e, resVal]
  · have hs4 : vSlStr (.str s) (some (.int .i64 4)) (some (.int .i64 8)) = some (.str (chkN s)) := by rw [vSlStr_both (by omega) (by omega) (by omega)]; rfl
    simp (config := {contextual := true, implicitDefEqProofs := false}) (disch := omega) [hs4]
    refine dcall1_eq (number_ok (by omega)) ?_
    obtain ⟨n, hn⟩ : ∃ n, numN s = n := ⟨_, rfl⟩
    rw [hn] at hnl ⊢
    simp (config := {contextual := true, implicitDefEqProofs := false}) (disch := omega) [afill, resVal]
    refine ⟨fun h1 => ?_, fun h1 => ?_⟩
    · have e : chkE s = 3 := by unfold chkE; rw [if_neg (by omega), if_pos (by omega)]
      simp (config := {contextual := true, implicitDefEqProofs := false}) (disch := omega) [chkV, e, resVal]
    · refine call1_eq isName_ok ?_
      cases hnm : nameB (chkN s)
      · have e : chkE s = 13 := by unfold chkE; rw [if_neg (by omega), if_neg (by omega), if_pos (show nameB ((s.drop 4).take 4) = false from hnm)]
        simp (config := {contextual := true, implicitDefEqProofs := false}) (disch := omega) [afill, resVal, chkV, e]
      · have hnm2 : ¬ nameB ((s.drop 4).take 4) = false := by have : nameB ((s.drop 4).take 4) = true := hnm; rw [this]; simp
        simp (config := {contextual := true, implicitDefEqProofs := false}) (disch := omega) [afill, resVal, i64_id]
        refine ⟨fun h2 => ?_, fun h2 => ?_⟩
        · have e : chkE s = 5 := by unfold chkE; rw [if_neg (by omega), if_neg (by omega), if_neg hnm2, if_pos (by omega)]
          simp (config := {contextual := true, implicitDefEqProofs := false}) (disch := omega) [chkV, e, resVal]
        · have hsa : vSlStr (.str s) (some (.int .i64 4)) (some (.int .i64 ((n : Int) + 8))) = some (.str ((s.drop 4).take (n + 4))) := by
            rw [vSlStr_both (by omega) (by omega) (by omega)]; congr 3
          have hsb : vSlStr (.str s) (some (.int .i64 ((n : Int) + 8))) none = some (.str (s.drop (n + 8))) := by rw [vSlStr_lo (by omega) (by omega)]; congr 3
          have hsd : vSlStr (.str s) (some (.int .i64 8)) (some (.int .i64 ((n : Int) + 8))) = some (.str (chkD s)) := by
            rw [vSlStr_both (by omega) (by omega) (by omega), chkD, hn]; congr 3
          simp (config := {contextual := true, implicitDefEqProofs := false}) (disch := omega) [hsa, hsb, i64_id]
          refine dcall1_eq (crc_ok _ (by simp; omega) _ _) ?_
          simp (config := {contextual := true, implicitDefEqProofs := false}) (disch := omega) [hsa, hsb, i64_id]
          refine dcall1_eq (number_ok (by simp; omega)) ?_
          have hw : IntKind.u32.wrap ((numN (s.drop (n + 8)) : Nat) : Int) = ((numN (s.drop (n + 8)) : Nat) : Int) := u32_nat (numN_lt _)
          simp (config := {contextual := true, implicitDefEqProofs := false}) (disch := omega) [hw, hsd, afill, resVal, i64_id]
          refine ⟨fun h3 => ?_, fun h3 => ?_⟩
          · have e : chkE s = 7 := by unfold chkE; rw [if_neg (by omega), if_neg (by omega), if_neg hnm2, if_neg (by omega), if_pos (by rw [hn]; omega)]
            simp (config := {contextual := true, implicitDefEqProofs := false}) (disch := omega) [chkV, e, resVal]
          · have e : chkE s = 0 := by unfold chkE; rw [if_neg (by omega), if_neg (by omega), if_neg hnm2, if_neg (by omega), if_neg (by rw [hn]; omega)]
            simp (config := {contextual := true, implicitDefEqProofs := false}) (disch := omega) [chkV, e, hn, resVal]
end
end Go.Proofs.YtalbjkemcckokaaGreat.Ab

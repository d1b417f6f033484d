/- Numbers, names and checksums of chunks. Conditions: as each says; for the statements about layer 48. -/
import Derived.Test.YtalbjkemcckokaaGreatPl
namespace Go.Proofs.YtalbjkemcckokaaGreat.Ab
set_option linter.unusedVariables false
set_option linter.unusedSimpArgs false
set_option maxRecDepth 100000

def numN (s : List UInt8) : Nat := (chr s 0).toNat * 16777216 + (chr s 1).toNat * 65536 + (chr s 2).toNat * 256 + (chr s 3).toNat
theorem or64 {a b k : Nat} (ha : a % 2 ^ k = 0) (hb : b < 2 ^ k) (h : a + b < 2 ^ 62) : abin .or (.int .i64 (a : Int)) (.int .i64 (b : Int)) = some (.int .i64 ((a + b : Nat) : Int)) := by
  rw [abin_or]
  congr 2
  rw [BitVec.toNat_or, bits_i64, ofIntN (by omega), ofIntN (by omega)]
  have e : a ||| b = a + b := by
    have h1 := Nat.two_pow_add_eq_or_of_lt hb (a / 2 ^ k)
    have h2 : 2 ^ k * (a / 2 ^ k) = a := Nat.mul_div_cancel' (Nat.dvd_of_mod_eq_zero ha)
    rw [h2] at h1
    exact h1.symm
  rw [e, i64_id (by omega) (by omega)]
theorem shl64 {a k : Nat} (hk : k ≤ 24) (ha : a < 256) : abin .shl (.int .i64 (a : Int)) (.int .u64 (k : Int)) = some (.int .i64 ((a * 2 ^ k : Nat) : Int)) := by
  rw [abin_shl (by omega)]
  congr 2
  have h1 : min (k : Int).toNat 64 = k := by omega
  simp only [bits_i64, h1]
  have h2 : (a : Int) * 2 ^ k = ((a * 2 ^ k : Nat) : Int) := by simp
  rw [h2]
  have h3 : 2 ^ k ≤ 2 ^ 24 := Nat.pow_le_pow_right (by omega) hk
  have h4 : a * 2 ^ k ≤ 256 * 2 ^ 24 := Nat.mul_le_mul (by omega) h3
  exact i64_id (by omega) (by omega)

section
variable {s : List UInt8} {H : AHeap} {fp : Nat → Prop}
theorem number_ok (hs : 4 ≤ s.length) : ACall Tryz.prog 72 [.str s] H fp fun v H' => v = .int .i64 (numN s) ∧ H' = H := by
  refine acall_of hmix Tryz.func72 x72_ok (by simp) ?_
  have b0 := UInt8.toNat_lt (chr s 0)
  have b1 := UInt8.toNat_lt (chr s 1)
  have b2 := UInt8.toNat_lt (chr s 2)
  have b3 := UInt8.toNat_lt (chr s 3)
  have i0 : vIdxStr (.str s) (.int .i64 0) = some (.int .u8 ((chr s 0).toNat : Int)) := vIdxStr_of (by omega) (by omega)
  have i1 : vIdxStr (.str s) (.int .i64 1) = some (.int .u8 ((chr s 1).toNat : Int)) := vIdxStr_of (by omega) (by omega)
  have i2 : vIdxStr (.str s) (.int .i64 2) = some (.int .u8 ((chr s 2).toNat : Int)) := vIdxStr_of (by omega) (by omega)
  have i3 : vIdxStr (.str s) (.int .i64 3) = some (.int .u8 ((chr s 3).toNat : Int)) := vIdxStr_of (by omega) (by omega)
  unfold numN
  generalize (chr s 0).toNat = a at *
  generalize (chr s 1).toNat = b at *
  generalize (chr s 2).toNat = c at *
  generalize (chr s 3).toNat = d at *
  have s0 : abin .shl (.int .i64 (a : Int)) (.int .u64 24) = some (.int .i64 ((a * 16777216 : Nat) : Int)) := shl64 (k := 24) (by omega) (by omega)
  have s1 : abin .shl (.int .i64 (b : Int)) (.int .u64 16) = some (.int .i64 ((b * 65536 : Nat) : Int)) := shl64 (k := 16) (by omega) (by omega)
  have s2 : abin .shl (.int .i64 (c : Int)) (.int .u64 8) = some (.int .i64 ((c * 256 : Nat) : Int)) := shl64 (k := 8) (by omega) (by omega)
  have o1 := or64 (a := a * 16777216) (b := b * 65536) (k := 24) (by omega) (by omega) (by omega)
  have o2 := or64 (a := a * 16777216 + b * 65536) (b := c * 256) (k := 16) (by omega) (by omega) (by omega)
  have o3 := or64 (a := a * 16777216 + b * 65536 + c * 256) (b := d) (k := 8) (by omega) (by omega) (by omega)
  simp (config := {contextual := true, implicitDefEqProofs := false}) (disch := omega) [i0, i1, i2, i3, s0, s1, s2, o1, o2, o3, i64_id, -abin_or, -Int.natCast_add, -Int.natCast_mul]
theorem rnumber_ok (hs : 4 ≤ s.length) : ACall Tryz.prog 33 [.str s] H fp fun v H' => v = .int .i64 (numN s) ∧ H' = H := by
  refine acall_of hmix Tryz.func33 x33_ok (by simp) ?_
  have b0 := UInt8.toNat_lt (chr s 0)
  have b1 := UInt8.toNat_lt (chr s 1)
  have b2 := UInt8.toNat_lt (chr s 2)
  have b3 := UInt8.toNat_lt (chr s 3)
  have i0 : vIdxStr (.str s) (.int .i64 0) = some (.int .u8 ((chr s 0).toNat : Int)) := vIdxStr_of (by omega) (by omega)
  have i1 : vIdxStr (.str s) (.int .i64 1) = some (.int .u8 ((chr s 1).toNat : Int)) := vIdxStr_of (by omega) (by omega)
  have i2 : vIdxStr (.str s) (.int .i64 2) = some (.int .u8 ((chr s 2).toNat : Int)) := vIdxStr_of (by omega) (by omega)
  have i3 : vIdxStr (.str s) (.int .i64 3) = some (.int .u8 ((chr s 3).toNat : Int)) := vIdxStr_of (by omega) (by omega)
  unfold numN
  simp (config := {contextual := true, implicitDefEqProofs := false}) (disch := omega) [i0, i1, i2, i3, i64_id]

/-- A letter; four letters. -/
def ltr (c : UInt8) : Bool := decide ((65 ≤ c.toNat ∧ c.toNat ≤ 90) ∨ (97 ≤ c.toNat ∧ c.toNat ≤ 122))
def nameB (s : List UInt8) : Bool := decide (s.length = 4 ∧ ∀ i, i < s.length → ltr (chr s i) = true)
theorem letter_ok (c : UInt8) : ACall Tryz.prog 73 [.int .u8 c.toNat] H fp fun v H' => v = .bool (ltr c) ∧ H' = H := by
  refine acall_of hmix Tryz.func73 x73_ok (by simp) ?_
  have hc := UInt8.toNat_lt c
  simp (config := {contextual := true, implicitDefEqProofs := false}) (disch := omega)
  have yes : (65 ≤ c.toNat ∧ c.toNat ≤ 90) ∨ (97 ≤ c.toNat ∧ c.toNat ≤ 122) → ltr c = true := fun h => by simp [ltr, h]
  have no : ¬ ((65 ≤ c.toNat ∧ c.toNat ≤ 90) ∨ (97 ≤ c.toNat ∧ c.toNat ≤ 122)) → ltr c = false := fun h => by simp only [ltr]; exact decide_eq_false h
  exact ⟨fun a => ⟨fun b => yes (by omega), fun b => ⟨fun d => ⟨fun e => yes (by omega), fun e => no (by omega)⟩, fun d => no (by omega)⟩⟩, fun a => ⟨by omega, fun _ => no (by omega)⟩⟩
theorem nameB_no (h : s.length = 4) {i : Nat} (hi : i < 4) (hl : ltr (chr s i) = false) : nameB s = false := by
  simp only [nameB]
  exact decide_eq_false fun q => by have := q.2 i (by omega); rw [hl] at this; cases this
theorem isName_ok : ACall Tryz.prog 38 [.str s] H fp fun v H' => v = .bool (nameB s) ∧ H' = H := by
  refine acall_of hmix Tryz.func38 x38_ok (by simp) ?_
  simp (config := {contextual := true, implicitDefEqProofs := false}) (disch := omega)
  refine ⟨fun h => ?_, fun h => by simp only [nameB]; exact decide_eq_false fun q => h (by omega)⟩
  have h4 : s.length = 4 := by omega
  have i0 : vIdxStr (.str s) (.int .i64 0) = some (.int .u8 ((chr s 0).toNat : Int)) := vIdxStr_of (by omega) (by omega)
  have i1 : vIdxStr (.str s) (.int .i64 1) = some (.int .u8 ((chr s 1).toNat : Int)) := vIdxStr_of (by omega) (by omega)
  have i2 : vIdxStr (.str s) (.int .i64 2) = some (.int .u8 ((chr s 2).toNat : Int)) := vIdxStr_of (by omega) (by omega)
  have i3 : vIdxStr (.str s) (.int .i64 3) = some (.int .u8 ((chr s 3).toNat : Int)) := vIdxStr_of (by omega) (by omega)
  simp (config := {contextual := true, implicitDefEqProofs := false}) (disch := omega) [i0]
  refine call1_eq (letter_ok (chr s 0)) ?_
  cases l0 : ltr (chr s 0)
  · have hno := nameB_no h4 (by omega) l0
    simp (config := {contextual := true, implicitDefEqProofs := false}) (disch := omega) [hno]
  simp (config := {contextual := true, implicitDefEqProofs := false}) (disch := omega) [i1]
  refine call1_eq (letter_ok (chr s 1)) ?_
  cases l1 : ltr (chr s 1)
  · have hno := nameB_no h4 (by omega) l1
    simp (config := {contextual := true, implicitDefEqProofs := false}) (disch := omega) [hno]
  simp (config := {contextual := true, implicitDefEqProofs := false}) (disch := omega) [i2]
  refine call1_eq (letter_ok (chr s 2)) ?_
  cases l2 : ltr (chr s 2)
  · have hno := nameB_no h4 (by omega) l2
    simp (config := {contextual := true, implicitDefEqProofs := false}) (disch := omega) [hno]
  simp (config := {contextual := true, implicitDefEqProofs := false}) (disch := omega) [i3]
  refine call1_eq (letter_ok (chr s 3)) ?_
  cases l3 : ltr (chr s 3)
  · have hno := nameB_no h4 (by omega) l3
    simp (config := {contextual := true, implicitDefEqProofs := false}) (disch := omega) [hno]
  have hn : nameB s = true := by
    simp only [nameB]
    refine decide_eq_true ⟨h4, fun i hi => ?_⟩
    have : i = 0 ∨ i = 1 ∨ i = 2 ∨ i = 3 := by omega
    rcases this with rfl | rfl | rfl | rfl
    · exact l0
    · exact l1
    · exact l2
    · exact l3
  simp (config := {contextual := true, implicitDefEqProofs := false}) (disch := omega) [hn]

def inv34 (H : AHeap) (s : List UInt8) (n : Nat) (env : Env) (H' : AHeap) : Prop :=
  ∃ i : Nat, n = s.length - i ∧ i ≤ s.length ∧ H' = H ∧ env 0 = .str s ∧ env 3 = .int .i64 i ∧ ∀ j, j < i → ltr (chr s j) = true
theorem letters_ok (hs : s.length ≤ 2 ^ 60) : ACall Tryz.prog 34 [.str s] H fp fun v H' => v = .bool (nameB s) ∧ H' = H := by
  refine acall_of hmix Tryz.func34 x34_ok (by simp) ?_
  simp
  refine vc_loop (inv34 H s) s.length ?_ ?_
  · exact ⟨0, rfl, by omega, rfl, by simp, by simp, fun j hj => by omega⟩
  · rintro n env H' ⟨i, rfl, hi, rfl, e0, e3, hj⟩
    simp (config := {contextual := true, implicitDefEqProofs := false}) (disch := omega) [e0, e3, vIdxStr_nat, vIdxStr_of, i64_id]
    refine ⟨fun h1 => ?_, fun h1 => ?_⟩
    · have no : ¬ ((65 ≤ (chr s i).toNat ∧ (chr s i).toNat ≤ 90) ∨ (97 ≤ (chr s i).toNat ∧ (chr s i).toNat ≤ 122)) → nameB s = false := fun h => by
        simp only [nameB]
        exact decide_eq_false fun q => by have := q.2 i h1; simp only [ltr] at this; exact h (of_decide_eq_true this)
      have yes : (65 ≤ (chr s i).toNat ∧ (chr s i).toNat ≤ 90) ∨ (97 ≤ (chr s i).toNat ∧ (chr s i).toNat ≤ 122) → ∀ j, j < i + 1 → ltr (chr s j) = true := fun h j hj2 => by
        by_cases e : j = i
        · subst e; exact decide_eq_true h
        · exact hj j (by omega)
      refine ⟨fun a => ⟨fun b => ?_, fun b => ⟨fun d => ⟨fun e => ?_, fun e => no (by omega)⟩, fun d => no (by omega)⟩⟩, fun a => ⟨by omega, fun _ => no (by omega)⟩⟩
      · exact again_iff (s.length - (i + 1)) (by omega) ⟨i + 1, rfl, by omega, rfl, by simp [e0], by simp, yes (by omega)⟩
      · exact again_iff (s.length - (i + 1)) (by omega) ⟨i + 1, rfl, by omega, rfl, by simp [e0], by simp, yes (by omega)⟩
    · simp only [nameB]
      by_cases h4 : s.length = 4
      · have hn : nameB s = true := by simp only [nameB]; exact decide_eq_true ⟨h4, fun j hj2 => hj j (by omega)⟩
        simp only [nameB] at hn
        simp [hn]; omega
      · have hn : nameB s = false := by simp only [nameB]; exact decide_eq_false fun q => h4 q.1
        simp only [nameB] at hn
        simp [hn]; omega
end
end Go.Proofs.YtalbjkemcckokaaGreat.Ab

/- The law InflateCuts over the abstract layer. Conditions: none; for the statements about layers 46 and 47. -/
import Derived.Test.YtdknddicpdhkcaaTo
namespace Go.Proofs.Ytdknddicpdhkcaa.Ab
set_option linter.unusedVariables false
set_option linter.unusedSimpArgs false

def rest8 : XCode := (.seq (.seq (.ops [⟨some 104, none, (.s (.move (.t 3)))⟩, ⟨some 105, none, (.s (.bin .geq (.t 104) (.c (.int .i64 0))))⟩, ⟨some 106, none, (.s (.move (.t 105)))⟩, ⟨some 107, some (106, true), (.s (.move (.t 3)))⟩, ⟨some 108, some (106, true), (.s (.move (.t 9)))⟩, ⟨some 109, some (106, true), (.s (.lenS (.t 108)))⟩, ⟨some 110, some (106, true), (.s (.bin .lss (.t 107) (.t 109)))⟩, ⟨some 111, none, (.s (.pick (.t 106) (.t 110) (.c (.bool false))))⟩]) (.cond (.t 111) (.seq (.ops [⟨some 113, none, (.s (.move (.t 0)))⟩, ⟨some 114, none, (.s (.move (.t 3)))⟩, ⟨some 115, none, (.call 28 [(.t 113), (.t 114)])⟩, ⟨some 112, none, (.s (.move (.t 115)))⟩, ⟨some 116, none, (.s (.extract (.t 112) 0))⟩, ⟨some 117, none, (.s (.extract (.t 112) 1))⟩, ⟨some 118, none, (.s (.extract (.t 112) 2))⟩, ⟨some 18, none, (.s (.move (.t 116)))⟩, ⟨some 19, none, (.s (.move (.t 117)))⟩, ⟨some 20, none, (.s (.move (.t 118)))⟩]) (.seq (.ops [⟨some 119, none, (.s (.move (.t 20)))⟩, ⟨some 120, none, (.s (.bin .neq (.t 119) (.c (.int .i64 3))))⟩]) (.cond (.t 120) (.seq (.ops [⟨some 8, none, (.s (.move (.c (.bool false))))⟩]) .ret) .skip))) .skip)) (.seq (.ops [⟨some 121, none, (.call 26 [])⟩, ⟨some 8, none, (.s (.move (.t 121)))⟩]) .ret))
def x8s : XFun := ⟨122, [(.tmp 8)], (.seq (.ops [⟨some 8, none, (.s (.move (.c (.bool false))))⟩]) (.seq (.seq (.ops [⟨some 21, none, (.s (.move (.t 1)))⟩, ⟨some 22, none, (.s (.bin .lss (.t 21) (.c (.int .i64 0))))⟩]) (.cond (.t 22) (.seq (.ops [⟨some 23, none, (.call 26 [])⟩, ⟨some 8, none, (.s (.move (.t 23)))⟩]) .ret) .skip)) (.seq (.ops [⟨some 25, none, (.s (.move (.t 0)))⟩, ⟨some 26, none, (.s (.move (.t 1)))⟩, ⟨some 27, none, (.call 28 [(.t 25), (.t 26)])⟩, ⟨some 24, none, (.s (.move (.t 27)))⟩, ⟨some 28, none, (.s (.extract (.t 24) 0))⟩, ⟨some 29, none, (.s (.extract (.t 24) 1))⟩, ⟨some 30, none, (.s (.extract (.t 24) 2))⟩, ⟨some 9, none, (.s (.move (.t 28)))⟩, ⟨some 10, none, (.s (.move (.t 29)))⟩, ⟨some 11, none, (.s (.move (.t 30)))⟩]) (.seq (.seq (.ops [⟨some 31, none, (.s (.move (.t 11)))⟩, ⟨some 32, none, (.s (.bin .neq (.t 31) (.c (.int .i64 0))))⟩]) (.cond (.t 32) (.seq (.ops [⟨some 33, none, (.s (.move (.t 9)))⟩, ⟨some 34, none, (.s (.bin .eql (.t 33) (.c (.str []))))⟩, ⟨some 35, none, (.s (.move (.t 34)))⟩, ⟨some 36, some (35, true), (.s (.move (.t 10)))⟩, ⟨some 37, some (35, true), (.s (.bin .eql (.t 36) (.c (.int .i64 0))))⟩, ⟨some 38, none, (.s (.pick (.t 35) (.t 37) (.c (.bool false))))⟩, ⟨some 39, none, (.s (.move (.t 38)))⟩, ⟨some 40, some (39, true), (.call 26 [])⟩, ⟨some 41, none, (.s (.pick (.t 39) (.t 40) (.c (.bool false))))⟩, ⟨some 8, none, (.s (.move (.t 41)))⟩]) .ret) .skip)) (.seq (.seq (.ops [⟨some 42, none, (.s (.move (.t 10)))⟩, ⟨some 43, none, (.s (.bin .lss (.t 42) (.c (.int .i64 1))))⟩, ⟨some 44, none, (.s (.move (.t 43)))⟩, ⟨some 45, some (44, false), (.s (.move (.t 10)))⟩, ⟨some 46, some (44, false), (.s (.move (.t 0)))⟩, ⟨some 47, some (44, false), (.s (.lenS (.t 46)))⟩, ⟨some 48, some (44, false), (.s (.bin .gtr (.t 45) (.t 47)))⟩, ⟨some 49, none, (.s (.pick (.t 44) (.c (.bool true)) (.t 48)))⟩, ⟨some 50, none, (.s (.move (.t 49)))⟩, ⟨some 51, some (50, false), (.s (.move (.t 9)))⟩, ⟨some 52, some (50, false), (.s (.lenS (.t 51)))⟩, ⟨some 53, some (50, false), (.s (.move (.t 1)))⟩, ⟨some 54, some (50, false), (.s (.bin .gtr (.t 52) (.t 53)))⟩, ⟨some 55, none, (.s (.pick (.t 50) (.c (.bool true)) (.t 54)))⟩]) (.cond (.t 55) (.seq (.ops [⟨some 8, none, (.s (.move (.c (.bool false))))⟩]) .ret) .skip)) (.seq (.ops [⟨some 57, none, (.s (.move (.t 0)))⟩, ⟨some 58, none, (.s (.move (.t 10)))⟩, ⟨some 59, none, (.s (.slice .str (.t 57) none (some (.t 58))))⟩, ⟨some 60, none, (.s (.move (.t 9)))⟩, ⟨some 61, none, (.s (.lenS (.t 60)))⟩, ⟨some 62, none, (.call 28 [(.t 59), (.t 61)])⟩, ⟨some 56, none, (.s (.move (.t 62)))⟩, ⟨some 63, none, (.s (.extract (.t 56) 0))⟩, ⟨some 64, none, (.s (.extract (.t 56) 1))⟩, ⟨some 65, none, (.s (.extract (.t 56) 2))⟩, ⟨some 12, none, (.s (.move (.t 63)))⟩, ⟨some 13, none, (.s (.move (.t 64)))⟩, ⟨some 14, none, (.s (.move (.t 65)))⟩]) (.seq (.seq (.ops [⟨some 66, none, (.s (.move (.t 12)))⟩, ⟨some 67, none, (.s (.move (.t 9)))⟩, ⟨some 68, none, (.s (.bin .neq (.t 66) (.t 67)))⟩, ⟨some 69, none, (.s (.move (.t 68)))⟩, ⟨some 70, some (69, false), (.s (.move (.t 13)))⟩, ⟨some 71, some (69, false), (.s (.move (.t 10)))⟩, ⟨some 72, some (69, false), (.s (.bin .neq (.t 70) (.t 71)))⟩, ⟨some 73, none, (.s (.pick (.t 69) (.c (.bool true)) (.t 72)))⟩, ⟨some 74, none, (.s (.move (.t 73)))⟩, ⟨some 75, some (74, false), (.s (.move (.t 14)))⟩, ⟨some 76, some (74, false), (.s (.bin .neq (.t 75) (.c (.int .i64 0))))⟩, ⟨some 77, none, (.s (.pick (.t 74) (.c (.bool true)) (.t 76)))⟩]) (.cond (.t 77) (.seq (.ops [⟨some 8, none, (.s (.move (.c (.bool false))))⟩]) .ret) .skip)) (.seq (.seq (.ops [⟨some 78, none, (.s (.move (.t 2)))⟩, ⟨some 79, none, (.s (.bin .geq (.t 78) (.c (.int .i64 0))))⟩, ⟨some 80, none, (.s (.move (.t 79)))⟩, ⟨some 81, some (80, true), (.s (.move (.t 2)))⟩, ⟨some 82, some (80, true), (.s (.move (.t 10)))⟩, ⟨some 83, some (80, true), (.s (.bin .lss (.t 81) (.t 82)))⟩, ⟨some 84, none, (.s (.pick (.t 80) (.t 83) (.c (.bool false))))⟩]) (.cond (.t 84) (.seq (.ops [⟨some 86, none, (.s (.move (.t 0)))⟩, ⟨some 87, none, (.s (.move (.t 2)))⟩, ⟨some 88, none, (.s (.slice .str (.t 86) none (some (.t 87))))⟩, ⟨some 89, none, (.s (.move (.t 1)))⟩, ⟨some 90, none, (.call 28 [(.t 88), (.t 89)])⟩, ⟨some 85, none, (.s (.move (.t 90)))⟩, ⟨some 91, none, (.s (.extract (.t 85) 0))⟩, ⟨some 92, none, (.s (.extract (.t 85) 1))⟩, ⟨some 93, none, (.s (.extract (.t 85) 2))⟩, ⟨some 15, none, (.s (.move (.t 91)))⟩, ⟨some 16, none, (.s (.move (.t 92)))⟩, ⟨some 17, none, (.s (.move (.t 93)))⟩]) (.seq (.ops [⟨some 94, none, (.s (.move (.t 15)))⟩, ⟨some 95, none, (.s (.bin .neq (.t 94) (.c (.str []))))⟩, ⟨some 96, none, (.s (.move (.t 95)))⟩, ⟨some 97, some (96, false), (.s (.move (.t 16)))⟩, ⟨some 98, some (96, false), (.s (.bin .neq (.t 97) (.c (.int .i64 0))))⟩, ⟨some 99, none, (.s (.pick (.t 96) (.c (.bool true)) (.t 98)))⟩, ⟨some 100, none, (.s (.move (.t 99)))⟩, ⟨some 101, some (100, false), (.s (.move (.t 17)))⟩, ⟨some 102, some (100, false), (.s (.bin .neq (.t 101) (.c (.int .i64 5))))⟩, ⟨some 103, none, (.s (.pick (.t 100) (.c (.bool true)) (.t 102)))⟩]) (.cond (.t 103) (.seq (.ops [⟨some 8, none, (.s (.move (.c (.bool false))))⟩]) .ret) .skip))) .skip)) rest8))))))))⟩
theorem x8s_ok : xfun Try.prog Try.f8 = some x8s := x8_ok

section
variable {s : List UInt8} {H : AHeap} {fp : Nat → Prop}

theorem infl_err {n : Int} {F : Nat} (h : (loopM s (clampN n) F F ⟨0, [], 0⟩).err ≠ 0) : inflM s n F = ([], 0, (loopM s (clampN n) F F ⟨0, [], 0⟩).err) := by
  unfold inflM; rw [if_pos h]
theorem infl_good {n : Int} {F : Nat} (h : (loopM s (clampN n) F F ⟨0, [], 0⟩).err = 0) : inflM s n F = ((loopM s (clampN n) F F ⟨0, [], 0⟩).out, ((loopM s (clampN n) F F ⟨0, [], 0⟩).at' + 7) / 8, 0) := by
  unfold inflM; rw [if_neg (by simp [h])]

/-- All that the law says of a stream that is good. -/
theorem cuts_all {n : Int} {F : Nat} (hn : 0 ≤ n) (hF : 0 < F) (h : (loopM s (clampN n) F F ⟨0, [], 0⟩).err = 0) :
    ∃ (o : List UInt8) (u : Nat), inflM s n F = (o, u, 0) ∧ 1 ≤ u ∧ u ≤ s.length ∧ (o.length : Int) ≤ n ∧ o.length ≤ 1048576 ∧ inflM (s.take u) o.length F = (o, u, 0) ∧ (∀ c, c < u → inflM (s.take c) n F = ([], 0, 5)) ∧ ∀ less : Int, 0 ≤ less → less < o.length → (inflM s less F).2.2 = 3 := by
  have hf := loopM_facts s (most := clampN n) (F := F) (G := F) (t := ⟨0, [], 0⟩) (by simp) (by simp)
  have ha := loopM_at hF h hF
  have hM : clampN n ≤ n.toNat ∧ clampN n ≤ 1048576 := by unfold clampN; omega
  have hg := infl_good h
  refine ⟨_, _, hg, by omega, by omega, by omega, by omega, ?_, ?_, ?_⟩
  · have hcl0 : ∀ k : Nat, k ≤ 1048576 → clampN (k : Int) = k := by intro k h; unfold clampN; omega
    have hcl := hcl0 (loopM s (clampN n) F F ⟨0, [], 0⟩).out.length (by omega)
    rcases cuts (m := ((loopM s (clampN n) F F ⟨0, [], 0⟩).at' + 7) / 8) (M2 := (loopM s (clampN n) F F ⟨0, [], 0⟩).out.length) hf.2.2 h with h1 | ⟨_, h1⟩ | ⟨_, h1⟩
    · rw [infl_good (by rw [hcl, h1]; exact h), hcl, h1]
    · simp at h1; omega
    · omega
  · intro c hc
    have hf2 := loopM_facts (s.take c) (most := clampN n) (F := F) (G := F) (t := ⟨0, [], 0⟩) (by simp) (by simp)
    rcases cuts (m := c) (M2 := clampN n) (Nat.le_refl _) h with h1 | ⟨h1, _⟩ | ⟨_, h1⟩
    · rw [h1] at hf2
      have := hf2.2.1
      simp at this; omega
    · rw [infl_err (by rw [h1]; decide), h1]
    · omega
  · intro less h0 h1
    have hcl : clampN less < (loopM s (clampN n) F F ⟨0, [], 0⟩).out.length ∧ clampN less ≤ clampN n := by unfold clampN at *; omega
    have hf2 := loopM_facts s (most := clampN less) (F := F) (G := F) (t := ⟨0, [], 0⟩) (by simp) (by simp)
    have hc := cuts (m := s.length) (M2 := clampN less) hcl.2 h
    rw [List.take_length] at hc
    rcases hc with h2 | ⟨_, h2⟩ | ⟨h2, _⟩
    · rw [h2] at hf2; omega
    · omega
    · rw [infl_err (by rw [h2]; decide), h2]

theorem rest8_ok {o : List UInt8} {less : Int} {env' : Env} (hs : s.length ≤ 2 ^ 48) (h8 : 0 ≤ less → less < o.length → (inflM s less (8 * s.length + 1)).2.2 = 3) (awake : ∀ (H : AHeap) (fp : Nat → Prop), ACall Try.prog 26 [] H fp fun v' H' => v' = .bool true ∧ H' = H)
    (e0 : env' 0 = .str s) (e3 : env' 3 = .int .i64 less) (e9 : env' 9 = .str o) : vc (ACall Try.prog) (fun r => fp r ∨ H.length ≤ r) rest8 (rpost [.tmp 8] fun v' H' => v' = .bool true ∧ H' = H) env' H := by
  unfold rest8
  by_cases hl0 : 0 ≤ less
  · by_cases hl1 : less < o.length
    · have i4 := inflate_ok (H := H) (fp := fun r => fp r ∨ H.length ≤ r) (s := s) (n := less) (F := 8 * s.length + 1) (by omega) (by omega)
      rw [h8 hl0 hl1] at i4
      simp (config := {contextual := true, implicitDefEqProofs := false}) (disch := omega) [e0, e3, e9, hl0, hl1]
      refine call1_eq i4 ?_
      simp (config := {contextual := true, implicitDefEqProofs := false}) (disch := omega) [e0, e3, e9]
      refine call1_eq (awake _ _) ?_
      simp
    · simp (config := {contextual := true, implicitDefEqProofs := false}) (disch := omega) [e0, e3, e9, hl0, hl1]
      refine call1_eq (awake _ _) ?_
      simp
  · simp (config := {contextual := true, implicitDefEqProofs := false}) (disch := omega) [e0, e3, e9, hl0]
    refine call1_eq (awake _ _) ?_
    simp

theorem law8_all {n cut less : Int} (hs : s.length ≤ 2 ^ 48) (hn0 : -9223372036854775808 ≤ n) (awake : ∀ (H : AHeap) (fp : Nat → Prop), ACall Try.prog 26 [] H fp fun v' H' => v' = .bool true ∧ H' = H) :
    ACall Try.prog 8 [.str s, .int .i64 n, .int .i64 cut, .int .i64 less] H fp fun v' H' => v' = .bool true ∧ H' = H := by
  refine acall_of hmix Try.func8 x8s_ok (by simp) ?_
  by_cases hn : n < 0
  · simp (config := {contextual := true, implicitDefEqProofs := false}) (disch := omega) [hn]
    refine call1_eq (awake _ _) ?_
    simp
  have i1 := inflate_ok (H := H) (fp := fun r => fp r ∨ H.length ≤ r) (s := s) (n := n) (F := 8 * s.length + 1) (by omega) (by omega)
  by_cases he : (loopM s (clampN n) (8 * s.length + 1) (8 * s.length + 1) ⟨0, [], 0⟩).err = 0
  · obtain ⟨o, u, h1, h2, h3, h4, h5, h6, h7, h8⟩ := cuts_all (by omega) (by omega) he
    have i2 := inflate_ok (H := H) (fp := fun r => fp r ∨ H.length ≤ r) (s := s.take u) (n := o.length) (F := 8 * s.length + 1) (by simp; omega) (by simp; omega)
    rw [h6] at i2
    rw [h1] at i1
    have sl : vSlStr (.str s) none (some (.int .i64 u)) = some (.str (s.take u)) := by
      have := vSlStr_hi (s := s) (k := .i64) (h := (u : Int)) (by omega) (by omega); simpa using this
    simp (config := {contextual := true, implicitDefEqProofs := false}) (disch := omega) [hn]
    refine call1_eq i1 ?_
    simp (config := {contextual := true, implicitDefEqProofs := false}) (disch := omega) [show ¬ (u : Int) < 1 by omega, show ¬ (s.length : Int) < u by omega, show ¬ n < (o.length : Int) by omega, sl, show ¬ u = 0 by omega, show ¬ s.length < u by omega]
    refine call1_eq i2 ?_
    by_cases hc0 : 0 ≤ cut
    · by_cases hc1 : cut < u
      · have i3 := inflate_ok (H := H) (fp := fun r => fp r ∨ H.length ≤ r) (s := s.take cut.toNat) (n := n) (F := 8 * s.length + 1) (by simp; omega) (by simp; omega)
        rw [h7 cut.toNat (by omega)] at i3
        have sl2 : vSlStr (.str s) none (some (.int .i64 cut)) = some (.str (s.take cut.toNat)) := vSlStr_hi (s := s) (k := .i64) (h := cut) (by omega) (by omega)
        simp (config := {contextual := true, implicitDefEqProofs := false}) (disch := omega) [hc0, hc1, sl2]
        refine call1_eq i3 ?_
        simp (config := {contextual := true, implicitDefEqProofs := false}) (disch := omega)
        exact rest8_ok hs (h8 less) awake (by simp) (by simp) (by simp)
      · simp (config := {contextual := true, implicitDefEqProofs := false}) (disch := omega) [hc0, hc1]
        exact rest8_ok hs (h8 less) awake (by simp) (by simp) (by simp)
    · simp (config := {contextual := true, implicitDefEqProofs := false}) (disch := omega) [hc0]
      exact rest8_ok hs (h8 less) awake (by simp) (by simp) (by simp)
  · have hi := infl_err he
    rw [hi] at i1
    simp (config := {contextual := true, implicitDefEqProofs := false}) (disch := omega) [hn]
    refine call1_eq i1 ?_
    simp (config := {contextual := true, implicitDefEqProofs := false}) (disch := omega) [he]
    refine call1_eq (awake _ _) ?_
    simp
end
end Go.Proofs.Ytdknddicpdhkcaa.Ab

/- Plain laws of PackBits and Unpack; the law TiffUnpacks over the layer. Conditions: none. -/
import Derived.Test.YtfpnapihhgjgaaaCe
import Derived.Test.YtfpnapihhgjgaaaHf
namespace Go.Proofs.Ytfpnapihhgjgaaa.Ab
set_option linter.unusedVariables false
set_option linter.unusedSimpArgs false
set_option maxRecDepth 100000

theorem run_take (s : List UInt8) : s.take (runG s) = List.replicate (runG s) (chr s 0) := lead_take _ _ _
theorem run_split (s : List UInt8) : s = List.replicate (runG s) (chr s 0) ++ s.drop (runG s) := by
  rw [← run_take]; exact (List.take_append_drop _ _).symm

theorem unp_pack : ∀ (k : Nat) (s : List UInt8), s.length ≤ k → ∀ (tl out : List UInt8) (n : Nat), out.length + s.length ≤ n → unpG n (packG s ++ tl) out = unpG n tl (out ++ s) := by
  intro k
  induction k with
  | zero =>
    intro s hs tl out n hn
    have : s = [] := List.eq_nil_of_length_eq_zero (by omega)
    subst this
    simp [packG_nil]
  | succ k ih =>
    intro s hs tl out n hn
    by_cases h0 : s = []
    · subst h0; simp [packG_nil]
    · have hpos := List.length_pos_iff.2 h0
      by_cases h1 : 1 < runG s
      · have hr := runG_le s
        rw [packG_run h1, List.cons_append, List.cons_append]
        have hb : (UInt8.ofNat (257 - runG s)).toNat = 257 - runG s := by simp; omega
        rw [unpG_run (by omega) (by omega), hb, if_neg (by omega), if_neg (by simp), show 257 - (257 - runG s) = runG s by omega]
        have hd : (chr s 0 :: (packG (s.drop (runG s)) ++ tl)).drop 1 = packG (s.drop (runG s)) ++ tl := rfl
        have hc : chr (chr s 0 :: (packG (s.drop (runG s)) ++ tl)) 0 = chr s 0 := rfl
        rw [hd, hc, ih _ (by simp; omega) _ _ _ (by simp; omega), List.append_assoc, ← run_split]
      · have hg := litG_le h0
        rw [packG_lit h0 h1, List.cons_append]
        have hb : (UInt8.ofNat (litG s - 1)).toNat = litG s - 1 := by simp; omega
        have hd : (s.take (litG s) ++ packG (s.drop (litG s)) ++ tl).drop (litG s) = packG (s.drop (litG s)) ++ tl := by
          rw [List.append_assoc, List.drop_left' (by simp; omega)]
        have ht : (s.take (litG s) ++ packG (s.drop (litG s)) ++ tl).take (litG s) = s.take (litG s) := by
          rw [List.append_assoc, List.take_left' (by simp; omega)]
        rw [unpG_lit (by omega) (by omega), hb, show litG s - 1 + 1 = litG s by omega, if_neg (by omega), if_neg (by simp; omega), hd, ht, ih _ (by simp; omega) _ _ _ (by simp; omega), List.append_assoc, List.take_append_drop]

theorem packG_ne {s : List UInt8} (h : s ≠ []) : packG s ≠ [] := by
  by_cases h1 : 1 < runG s
  · rw [packG_run h1]; simp
  · rw [packG_lit h h1]; simp

theorem unp_short : ∀ (k : Nat) (s : List UInt8), s.length ≤ k → s ≠ [] → ∀ (out : List UInt8) (n : Nat), out.length + s.length = n → unpG n (packG s).dropLast out = ([], 5) := by
  intro k
  induction k with
  | zero =>
    intro s hs h0
    exact absurd (List.eq_nil_of_length_eq_zero (by omega)) h0
  | succ k ih =>
    intro s hs h0 out n hn
    have hpos := List.length_pos_iff.2 h0
    by_cases h1 : 1 < runG s
    · have hr := runG_le s
      rw [packG_run h1]
      have hb : (UInt8.ofNat (257 - runG s)).toNat = 257 - runG s := by simp; omega
      by_cases h2 : s.drop (runG s) = []
      · rw [h2, packG_nil]
        have : [UInt8.ofNat (257 - runG s), chr s 0].dropLast = [UInt8.ofNat (257 - runG s)] := rfl
        rw [this, unpG_run (by omega) (by omega), hb, if_neg (by omega), if_pos (by simp)]
      · have hne := packG_ne h2
        have : (UInt8.ofNat (257 - runG s) :: chr s 0 :: packG (s.drop (runG s))).dropLast = UInt8.ofNat (257 - runG s) :: chr s 0 :: (packG (s.drop (runG s))).dropLast := by
          rw [List.dropLast_cons_of_ne_nil (by simp), List.dropLast_cons_of_ne_nil hne]
        rw [this, unpG_run (by omega) (by omega), hb, if_neg (by omega), if_neg (by simp), show 257 - (257 - runG s) = runG s by omega]
        exact ih _ (by simp; omega) h2 _ _ (by simp; omega)
    · have hg := litG_le h0
      rw [packG_lit h0 h1]
      have hb : (UInt8.ofNat (litG s - 1)).toNat = litG s - 1 := by simp; omega
      have htl : (s.take (litG s)).length = litG s := by simp; omega
      by_cases h2 : s.drop (litG s) = []
      · rw [h2, packG_nil, List.append_nil]
        have : (UInt8.ofNat (litG s - 1) :: s.take (litG s)).dropLast = UInt8.ofNat (litG s - 1) :: (s.take (litG s)).dropLast := List.dropLast_cons_of_ne_nil (by intro e; rw [e] at htl; simp at htl; omega)
        rw [this, unpG_lit (by omega) (by omega), hb, show litG s - 1 + 1 = litG s by omega, if_neg (by omega), if_pos (by rw [List.length_dropLast, htl]; omega)]
      · have hne := packG_ne h2
        have : (UInt8.ofNat (litG s - 1) :: (s.take (litG s) ++ packG (s.drop (litG s)))).dropLast = UInt8.ofNat (litG s - 1) :: (s.take (litG s) ++ (packG (s.drop (litG s))).dropLast) := by
          rw [List.dropLast_cons_of_ne_nil (by simp [hne]), List.dropLast_append_of_ne_nil hne]
        rw [this, unpG_lit (by omega) (by omega), hb, show litG s - 1 + 1 = litG s by omega, if_neg (by omega), if_neg (by rw [List.length_append, htl]; omega), List.drop_left' htl, List.take_left' htl]
        exact ih _ (by simp; omega) h2 _ _ (by simp; omega)

/-- A piece without a run that ends before 128 bytes ends at a run of three. -/
theorem litN_stop : ∀ (k : Nat) (s : List UInt8), litN k s < k → s.drop (litN k s) = [] ∨ 3 ≤ runG (s.drop (litN k s))
  | 0, s, h => by simp [litN] at h
  | k + 1, [], h => by simp [litN]
  | k + 1, b :: t, h => by
    simp only [litN] at h ⊢
    split
    · rename_i g
      rw [if_pos g] at h
      exact litN_stop k t (by omega)
    · rename_i g
      right; simp only [List.drop_zero]; omega
theorem lit_stop {s : List UInt8} (h0 : s ≠ []) (h : litG s < 128) : s.drop (litG s) = [] ∨ 3 ≤ runG (s.drop (litG s)) := by
  have := litN_stop 127 (s.drop 1) (by unfold litG at h; omega)
  rw [List.drop_drop] at this
  exact this

theorem pack_len : ∀ (k : Nat) (s : List UInt8), s.length ≤ k → (packG s).length ≤ s.length + (s.length + 127) / 128 := by
  intro k
  induction k using Nat.strongRecOn with
  | ind k ih =>
    intro s hs
    by_cases h0 : s = []
    · subst h0; simp [packG_nil]
    · have hpos := List.length_pos_iff.2 h0
      by_cases h1 : 1 < runG s
      · have hr := runG_le s
        rw [packG_run h1]
        have := ih (s.drop (runG s)).length (by simp; omega) (s.drop (runG s)) (Nat.le_refl _)
        simp only [List.length_cons, List.length_drop] at this ⊢
        omega
      · have hg := litG_le h0
        rw [packG_lit h0 h1]
        have htl : (s.take (litG s)).length = litG s := by simp; omega
        simp only [List.length_cons, List.length_append, htl]
        by_cases h2 : litG s < 128
        · rcases lit_stop h0 h2 with h3 | h3
          · rw [h3, packG_nil]
            have := congrArg List.length h3
            simp only [List.length_drop, List.length_nil] at this ⊢
            omega
          · have hr := runG_le (s.drop (litG s))
            rw [packG_run (by omega)]
            have := ih ((s.drop (litG s)).drop (runG (s.drop (litG s)))).length (by simp; omega) _ (Nat.le_refl _)
            simp only [List.length_cons, List.length_drop] at this hr ⊢
            omega
        · have := ih (s.drop (litG s)).length (by simp; omega) _ (Nat.le_refl _)
          simp only [List.length_drop] at this ⊢
          omega

theorem law4_ok {s : List UInt8} (hs : s.length ≤ 9223372036854775807) (H : AHeap) (fp : Nat → Prop) : ACall Try.prog 4 [.str s] H fp fun v' H' => v' = .bool true ∧ H' = H := by
  refine acall_of hmix Try.func4 x4_ok (by simp) ?_
  simp (config := {contextual := true, implicitDefEqProofs := false}) (disch := omega)
  refine ⟨fun h => ?_, fun h => ?_⟩
  · refine call1_eq (awake_ok _ _) ?_
    simp
  · have hl : s.length ≤ 1048576 := by omega
    refine call1_eq (pack_ok s (by unfold roomLim; omega) _ _) ?_
    have hpl := pack_len _ s (Nat.le_refl _)
    have hpl2 : (packG s).length ≤ 2 * s.length := by omega
    have u1 : unpP (packG s) (s.length : Int) = (s, 0) := by
      rw [unpP, if_neg (by omega), Int.toNat_natCast]
      have := unp_pack _ s (Nat.le_refl _) [] [] s.length (by simp)
      rw [List.append_nil] at this
      rw [this, unpG_end (by simp)]; simp
    have u2 : unpP (packG s ++ [120]) (s.length : Int) = ([], 6) := by
      rw [unpP, if_neg (by omega), Int.toNat_natCast, unp_pack _ s (Nat.le_refl _) [120] [] s.length (by simp), unpG_end (by simp)]; simp
    simp (config := {contextual := true, implicitDefEqProofs := false}) (disch := omega)
    refine call1_eq (unpack_ok (packG s) s.length (by unfold roomLim; omega) _ _) ?_
    rw [u1]
    have hadd : abin .add (.str (packG s)) (.str [120]) = some (.str (packG s ++ [120])) := abin_sadd (by simp; omega)
    simp (config := {contextual := true, implicitDefEqProofs := false}) (disch := omega) [pairV, hadd]
    refine call1_eq (unpack_ok (packG s ++ [120]) s.length (by simp [roomLim]; omega) _ _) ?_
    rw [u2]
    simp (config := {contextual := true, implicitDefEqProofs := false}) (disch := omega) [pairV, i64_id, abin_quo]
    have ht : ((s.length : Int) + 127).tdiv 128 = (((s.length + 127) / 128 : Nat) : Int) := by
      rw [Int.tdiv_eq_ediv_of_nonneg (by omega)]; omega
    have hw : IntKind.i64.wrap ((s.length : Int) + IntKind.i64.wrap (((s.length : Int) + 127).tdiv 128)) = ((s.length + (s.length + 127) / 128 : Nat) : Int) := by
      have hi : IntKind.i64.wrap (((s.length + 127) / 128 : Nat) : Int) = (((s.length + 127) / 128 : Nat) : Int) := i64_id (by omega) (by omega)
      rw [ht, hi, i64_id (by omega) (by omega)]; omega
    rw [hw]
    refine ⟨by omega, fun _ => ?_⟩
    refine call1_eq (awake_ok _ _) ?_
    simp (config := {contextual := true, implicitDefEqProofs := false}) (disch := omega)
    refine ⟨fun h0 => ?_, fun h0 => ?_⟩
    · subst h0
      simp [packG_nil]
    · have hne : s ≠ [] := h0
      have hp1 : 0 < (packG s).length := List.length_pos_iff.2 (packG_ne hne)
      have hsl : vSlStr (.str (packG s)) none (some (.int .i64 (((packG s).length : Int) - 1))) = some (.str (packG s).dropLast) := by
        rw [vSlStr_hi (by omega) (by omega), List.dropLast_eq_take]
        congr 3; omega
      have u3 : unpP (packG s).dropLast (s.length : Int) = ([], 5) := by
        rw [unpP, if_neg (by omega), Int.toNat_natCast, unp_short _ s (Nat.le_refl _) hne [] s.length (by simp)]
      simp (config := {contextual := true, implicitDefEqProofs := false}) (disch := omega) [i64_id, hsl]
      refine call1_eq (unpack_ok (packG s).dropLast s.length (by simp [roomLim]; omega) _ _) ?_
      rw [u3]
      simp (config := {contextual := true, implicitDefEqProofs := false}) (disch := omega) [pairV]
end Go.Proofs.Ytfpnapihhgjgaaa.Ab

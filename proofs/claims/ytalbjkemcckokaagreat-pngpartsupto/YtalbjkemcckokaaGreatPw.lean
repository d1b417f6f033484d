/- The reference's Join. Conditions: the file's length; for the statements about layer 48. -/
import Derived.Test.YtalbjkemcckokaaGreatPv
namespace Go.Proofs.YtalbjkemcckokaaGreat.Ab
set_option linter.unusedVariables false
set_option linter.unusedSimpArgs false
set_option maxRecDepth 100000

def vEqB (neg : Bool) : AVal → AVal → Option AVal
  | .bool a, .bool b => some (.bool (if neg then !(a == b) else a == b))
  | _, _ => none
@[simp ↓] theorem val_eqB {env : Env} {H : AHeap} {neg : Bool} {x y : XOpd} : SOp.val env H (.eqB neg x y) = vEqB neg (x.ev env) (y.ev env) := by
  simp only [SOp.val]; generalize XOpd.ev env x = u; generalize XOpd.ev env y = u2; cases u <;> cases u2 <;> rfl
@[simp] theorem vEqB_bool {neg a b : Bool} : vEqB neg (.bool a) (.bool b) = some (.bool (if neg then !(a == b) else a == b)) := rfl
theorem bulkC_at (l : List Chk) (i : Nat) (h : i < l.length) : l[i].1.length + l[i].2.length + 12 ≤ bulkC l := by
  have h1 := bulkC_le l i
  rw [bulkC_drop l i h] at h1; omega
def inv17a (H : AHeap) (w : AVal) (l : List Chk) (n : Nat) (env : Env) (H' : AHeap) : Prop :=
  ∃ i : Nat, n = l.length - i ∧ i ≤ l.length ∧ badC l = badC (l.drop i) ∧ H' = H ∧ env 0 = w ∧ env 4 = .int .i64 i
def inv17b (H : AHeap) (w : AVal) (l : List Chk) (n : Nat) (env : Env) (H' : AHeap) : Prop :=
  ∃ i : Nat, n = l.length - i ∧ i ≤ l.length ∧ (∀ j (h : j < l.length), j < i → isEnd l[j] = decide (j + 1 = l.length)) ∧ H' = H ∧ env 0 = w ∧ env 5 = .int .i64 i
def inv17c (H : AHeap) (w : AVal) (l : List Chk) (n : Nat) (env : Env) (H' : AHeap) : Prop :=
  ∃ (i : Nat) (s : List UInt8), n = l.length - i ∧ i ≤ l.length ∧ sig8 ++ l.flatMap chunkB = s ++ (l.drop i).flatMap chunkB ∧ s.length + bulkC (l.drop i) ≤ bulkC l + 8 ∧ H' = H ∧ env 0 = w ∧ env 6 = .str s ∧ env 7 = .int .i64 i
theorem ord_no {l : List Chk} {i : Nat} (h : i < l.length) (hj : ∀ j (h : j < l.length), j < i → isEnd l[j] = decide (j + 1 = l.length)) (hi : isEnd l[i] ≠ decide (i + 1 = l.length)) : l.findIdx isEnd + 1 ≠ l.length := by
  intro e
  have hlt : l.findIdx isEnd < l.length := by omega
  have h1 : isEnd l[l.findIdx isEnd] = true := List.findIdx_getElem
  by_cases c : i + 1 = l.length
  · have e2 : l.findIdx isEnd = i := by omega
    simp only [e2] at h1
    rw [h1] at hi; simp [c] at hi
  · rw [decide_eq_false c] at hi
    have h3 : isEnd l[i] = true := by simpa using hi
    have h4 : ¬ i < l.findIdx isEnd := fun c2 => by have := List.not_of_lt_findIdx c2; rw [h3] at this; cases this
    omega
theorem ord_yes {l : List Chk} (h0 : 0 < l.length) (hj : ∀ j (h : j < l.length), isEnd l[j] = decide (j + 1 = l.length)) : l.findIdx isEnd + 1 = l.length := by
  have : l.findIdx isEnd = l.length - 1 := (List.findIdx_eq (by omega)).2 ⟨by rw [hj _ (by omega)]; exact decide_eq_true (by omega), fun j hjl => by rw [hj _ (by omega)]; exact decide_eq_false (by omega)⟩
  omega

theorem rjoin_ok {w : AVal} {l : List Chk} {H : AHeap} (h : Ls2 H w l) (hl : bulkC l ≤ 2 ^ 40) (fp : Nat → Prop) : ACall Tryz.prog 17 [w] H fp fun v H' => v = .tuple [.str (joinP l).1, .int .i64 (joinP l).2] ∧ H' = H := by
  refine acall_of hmix Tryz.func17 x17_ok (by simp) ?_
  have hll := bulkC_len l
  simp (config := {contextual := true, implicitDefEqProofs := false}) (disch := omega) [h.len]
  refine vc_loop (inv17a H w l) l.length ?_ ?_
  · exact ⟨0, rfl, by omega, rfl, rfl, by simp, by simp⟩
  · rintro n env H' ⟨i, rfl, hi, hbd, rfl, e0, e4⟩
    simp (config := {contextual := true, implicitDefEqProofs := false}) (disch := omega) [e0, e4, h.len]
    refine ⟨fun h1 => ?_, fun h1 => ?_⟩
    · obtain ⟨r, g, o, a1, a2, a3, a4, a5⟩ := h.get h1
      have hbk := bulkC_at l i h1
      rw [drop_at h1, badC] at hbd
      generalize l[i] = c at *
      simp (config := {contextual := true, implicitDefEqProofs := false}) (disch := omega) [e0, e4, a1, a2, a3, a4]
      refine call1_eq (letters_ok (by omega)) ?_
      cases hn : nameB c.1
      · rw [if_pos hn] at hbd
        simp (config := {contextual := true, implicitDefEqProofs := false}) (disch := omega) [joinP, hbd]
      · rw [if_neg (by rw [hn]; simp)] at hbd
        simp (config := {contextual := true, implicitDefEqProofs := false}) (disch := omega) [e0, e4, a1, a2, a3, a4]
        refine ⟨fun h2 => ?_, fun h2 => ?_⟩
        · rw [if_pos (by omega)] at hbd
          simp (config := {contextual := true, implicitDefEqProofs := false}) (disch := omega) [joinP, hbd]
        · rw [if_neg (by omega)] at hbd
          simp (config := {contextual := true, implicitDefEqProofs := false}) (disch := omega) [e4, i64_id]
          exact again_iff (l.length - (i + 1)) (by omega) ⟨i + 1, rfl, by omega, hbd, rfl, by simp [e0], by simp⟩
    · have hb0 : badC l = 0 := by rw [hbd, List.drop_eq_nil_of_le (by omega)]; rfl
      refine vc_loop (inv17b H' w l) l.length ?_ ?_
      · exact ⟨0, rfl, by omega, fun j _ hj => by omega, rfl, by simp [e0], by simp⟩
      · rintro n env H' ⟨i, rfl, hi, hj, rfl, e0, e5⟩
        simp (config := {contextual := true, implicitDefEqProofs := false}) (disch := omega) [e0, e5, h.len]
        refine ⟨fun h1 => ?_, fun h1 => ?_⟩
        · obtain ⟨r, g, o, a1, a2, a3, a4, a5⟩ := h.get h1
          simp (config := {contextual := true, implicitDefEqProofs := false}) (disch := omega) [e0, e5, a1, a2, a3, a4, h.len, i64_id]
          have bad : isEnd l[i] ≠ decide (i + 1 = l.length) → joinP l = ([], 24) := fun q => by unfold joinP; rw [if_neg (by omega), if_pos (ord_no h1 hj q)]
          have good : isEnd l[i] = decide (i + 1 = l.length) → ∀ env2 : Env, env2 0 = w → env2 5 = .int .i64 ((i + 1 : Nat) : Int) → again (inv17b H' w l) (l.length - i) env2 H' := fun q env2 f0 f5 => by
            refine again_iff (l.length - (i + 1)) (by omega) ⟨i + 1, rfl, by omega, fun j hjl hji => ?_, rfl, f0, f5⟩
            by_cases e : j = i
            · subst e; exact q
            · exact hj j hjl (by omega)
          refine ⟨fun g1 => ⟨fun g2 => ?_, fun g2 => ?_⟩, fun g1 => ⟨fun g2 => ?_, fun g2 => ?_⟩⟩
          · exact good (by rw [show isEnd l[i] = true from decide_eq_true g1, decide_eq_true (by omega)]) _ (by simp [e0]) (by simp; omega)
          · rw [bad (by rw [show isEnd l[i] = true from decide_eq_true g1, decide_eq_false (by omega)]; simp)]; simp
          · rw [bad (by rw [show isEnd l[i] = false from decide_eq_false g1, decide_eq_true (by omega)]; simp)]; simp
          · exact good (by rw [show isEnd l[i] = false from decide_eq_false g1, decide_eq_false (by omega)]) _ (by simp [e0]) (by simp)
        · by_cases hz : l = []
          · simp (config := {contextual := true, implicitDefEqProofs := false}) (disch := omega) [hz, joinP, badC]
          · have hzl : 0 < l.length := List.length_pos_iff.2 hz
            have hord := ord_yes hzl fun j hjl => hj j hjl (by omega)
            have hjp : joinP l = if lastD l ≠ [] then ([], 4) else (sig8 ++ l.flatMap chunkB, 0) := by unfold joinP; rw [if_neg (by omega), if_neg (by omega)]
            obtain ⟨r, g, o, a1, a2, a3, a4, a5⟩ := h.get (show l.length - 1 < l.length by omega)
            have hx : vIdx H' 2 w (.int .i64 ((l.length : Int) - 1)) = some (.ptr r g o) := by rw [← a1]; congr 2; omega
            have hla : l[l.length - 1].2 = lastD l := by
              unfold lastD; rw [List.getD_eq_getElem?_getD, List.getElem?_eq_getElem (show l.length - 1 < l.length by omega)]; rfl
            rw [hla] at a4 a5
            rw [hjp]
            by_cases hla0 : lastD l ≠ []
            · rw [if_pos hla0]
              simp (config := {contextual := true, implicitDefEqProofs := false}) (disch := omega) [e0, h.len, i64_id, hx, a2, a4, hla0, hz]
            · rw [if_neg hla0]
              have hla1 : lastD l = [] := Classical.not_not.1 hla0
              rw [hla1] at a4
              simp (config := {contextual := true, implicitDefEqProofs := false}) (disch := omega) [e0, h.len, i64_id, hx, a2, a4, hz]
              refine vc_loop (inv17c H' w l) l.length ?_ ?_
              · exact ⟨0, sig8, rfl, by omega, by simp, by simp [sig8]; omega, rfl, by simp [e0], by simp [sig8], by simp⟩
              · rintro n env H' ⟨i, s, rfl, hi2, hs, hsl, rfl, e0, e6, e7⟩
                have hbk := bulkC_le l i
                simp (config := {contextual := true, implicitDefEqProofs := false}) (disch := omega) [e0, e7, e6, h.len]
                refine ⟨fun g1 => ?_, fun g1 => ?_⟩
                · obtain ⟨r2, g2, o2, b1, b2, b3, b4, b5⟩ := h.get g1
                  have hbd2 := badC_bound hb0 i g1
                  rw [drop_at g1, List.flatMap_cons] at hs
                  rw [bulkC_drop l i g1] at hsl hbk
                  have hcl := chunkB_len l[i]
                  generalize l[i] = c at *
                  have ad1 : abin .add (.str c.1) (.str c.2) = some (.str (c.1 ++ c.2)) := abin_sadd (by omega)
                  have ad2 : abin .add (.str (fourB c.2.length)) (.str (c.1 ++ c.2)) = some (.str (fourB c.2.length ++ (c.1 ++ c.2))) := abin_sadd (by simp [fourB]; omega)
                  have ad4 : abin .add (.str (fourB c.2.length ++ (c.1 ++ c.2))) (.str (fourB (crcG (c.1 ++ c.2)))) = some (.str (chunkB c)) := by
                    rw [abin_sadd (by simp [fourB]; omega)]; simp [chunkB]
                  have ad5 : abin .add (.str s) (.str (chunkB c)) = some (.str (s ++ chunkB c)) := abin_sadd (by omega)
                  have hcl2 := crcG_lt (c.1 ++ c.2)
                  simp (config := {contextual := true, implicitDefEqProofs := false}) (disch := omega) [e0, e6, e7, b1, b2, b3, b4, ad1]
                  refine call1_eq (four_ok (by omega)) ?_
                  simp (config := {contextual := true, implicitDefEqProofs := false}) (disch := omega) [e0, e6, e7, b1, b2, b3, b4, ad2]
                  refine call1_eq (rCrc_ok (by simp; omega)) ?_
                  simp (config := {contextual := true, implicitDefEqProofs := false}) (disch := omega) [e0, e6, e7, i64_id]
                  refine call1_eq (four_ok hcl2) ?_
                  simp (config := {contextual := true, implicitDefEqProofs := false}) (disch := omega) [e0, e6, e7, ad4, ad5, i64_id]
                  exact again_iff (l.length - (i + 1)) (by omega) ⟨i + 1, s ++ chunkB c, rfl, by omega, by rw [hs]; simp, by simp; omega, rfl, by simp [e0], by simp, by simp⟩
                · rw [List.drop_eq_nil_of_le (by omega)] at hs
                  rw [hs]
                  simp (config := {contextual := true, implicitDefEqProofs := false}) (disch := omega) [e6]
end Go.Proofs.YtalbjkemcckokaaGreat.Ab

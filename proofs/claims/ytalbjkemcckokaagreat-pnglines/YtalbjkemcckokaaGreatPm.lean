/- A line that is filtered and restored; the law PngLines over the layer. Conditions: the line's length. -/
import Derived.Test.YtalbjkemcckokaaGreatPk
namespace Go.Proofs.YtalbjkemcckokaaGreat.Ab
set_option linter.unusedVariables false
set_option linter.unusedSimpArgs false
set_option maxRecDepth 100000

theorem byteI_back (x : UInt8) (p : Int) : byteI (((byteI ((x.toNat : Int) - p)).toNat : Int) + p) = x := by
  apply UInt8.toNat_inj.1
  have h := byteI_nat (((byteI ((x.toNat : Int) - p)).toNat : Int) + p)
  have h2 := byteI_nat ((x.toNat : Int) - p)
  have hx := UInt8.toNat_lt x
  omega
theorem chr_take {s : List UInt8} {i j : Nat} (h : j < i) : chr (s.take i) j = chr s j := by
  simp [chr, List.getD_eq_getElem?_getD, List.getElem?_take, h]
theorem unf_fil_go (kind : Int) (bpp : Nat) (line above : List UInt8) (hb : 1 ≤ bpp) : ∀ i, i ≤ line.length → genN (unfF kind bpp (genN (filF kind bpp line above) line.length) above) i = line.take i
  | 0, _ => by simp [genN]
  | i + 1, h => by
    have ih := unf_fil_go kind bpp line above hb i (by omega)
    have hf : ∀ n, i < n → n ≤ line.length → chr (genN (filF kind bpp line above) n) i = byteI ((chr line i).toNat - pN kind bpp above line i) := by
      intro n
      induction n with
      | zero => intro h; omega
      | succ n ihn =>
        intro h1 h2
        by_cases e : i = n
        · subst e; rw [genN_last]; rfl
        · rw [genN_old _ (by omega)]; exact ihn (by omega) (by omega)
    have hp : pN kind bpp above (line.take i) i = pN kind bpp above line i := by
      unfold pN
      by_cases hle : bpp ≤ i
      · simp only [if_pos hle]; rw [chr_take (by omega)]
      · simp only [if_neg hle]
    have hl : i < line.length := by omega
    rw [genN, ih]
    have : unfF kind bpp (genN (filF kind bpp line above) line.length) above (line.take i) i = chr line i := by
      unfold unfF
      rw [hf _ hl (Nat.le_refl _), hp, byteI_back]
    rw [this, List.take_add_one, List.getElem?_eq_getElem hl]
    simp [chr, hl]
theorem unf_fil (kind : Int) (bpp : Nat) (line above : List UInt8) (hb : 1 ≤ bpp) : genN (unfF kind bpp (genN (filF kind bpp line above) line.length) above) line.length = line := by
  rw [unf_fil_go kind bpp line above hb _ (Nat.le_refl _), List.take_length]

def inv8 (H : AHeap) (line ab : List UInt8) (b : Nat) (n : Nat) (env : Env) (H' : AHeap) : Prop :=
  ∃ k : Nat, n = 5 - k ∧ k ≤ 5 ∧ H' = H ∧ env 1 = .str line ∧ env 7 = .int .i64 (1 + ((b % 8 : Nat) : Int)) ∧ env 2 = .str ab ∧ env 31 = .int .i64 k

theorem law8_ok {b : UInt8} {line above : List UInt8} (hl : line.length ≤ roomLim) (hl2 : above.length ≤ 9223372036854775807) (H : AHeap) (fp : Nat → Prop) : ACall Tryz.prog 8 [.int .u8 b.toNat, .str line, .str above] H fp fun v' H' => v' = .bool true ∧ H' = H := by
  refine acall_of hmix Tryz.func8 x8_ok (by simp) ?_
  have hbl := UInt8.toNat_lt b
  have hr : ((b.toNat : Nat) : Int).tmod 8 = ((b.toNat % 8 : Nat) : Int) := by rw [Int.tmod_eq_emod_of_nonneg (by omega)]; omega
  simp (config := {contextual := true, implicitDefEqProofs := false}) (disch := omega) [i64_id, abin_rem, hr, -Int.natCast_emod]
  refine ⟨fun c1 => ?_, fun c1 => ⟨fun c2 => ?_, fun c2 => ?_⟩⟩
  · have hsl : vSlStr (.str above) none (some (.int .i64 (line.length : Int))) = some (.str (above.take line.length)) := by rw [vSlStr_hi (by omega) (by omega)]; simp
    have hab : above.take line.length = [] ∨ (above.take line.length).length = line.length := .inr (by simp; omega)
    simp (config := {contextual := true, implicitDefEqProofs := false}) (disch := omega) [hsl]
    refine vc_loop (inv8 H line (above.take line.length) b.toNat) 5 ?_ ?_
    · exact ⟨0, rfl, by omega, rfl, by simp, by simp, by simp, by simp⟩
    · rintro n env H' ⟨k, rfl, hk, rfl, f1, f7, f2, f31⟩
      have hb : (1 : Int) ≤ 1 + (b.toNat % 8 : Nat) ∧ (1 : Int) + (b.toNat % 8 : Nat) ≤ 8 := by omega
      simp (config := {contextual := true, implicitDefEqProofs := false}) (disch := omega) [f1, f7, f2, f31]
      refine ⟨fun h1 => ?_, fun h1 => ?_⟩
      · have hk4 : k ≤ 4 := by omega
        have he : ∀ l : List UInt8, l.length = line.length → errF (k : Int) (1 + ((b.toNat % 8 : Nat) : Int)) l (above.take line.length) = 0 := by
          intro l hl2
          unfold errF
          rw [if_neg (by omega), if_neg (by omega), if_neg (by rintro ⟨q1, q2⟩; exact q2 (by rw [hl2]; rcases hab with h | h; exact absurd h q1; exact h))]
        refine call1_eq (Filter_ok (k : Int) (1 + ((b.toNat % 8 : Nat) : Int)) line (above.take line.length) hl _ _) ?_
        rw [filP, if_pos (he line rfl)]
        simp (config := {contextual := true, implicitDefEqProofs := false}) (disch := omega) [pairV, f1, f7, f2, f31, -Int.natCast_emod]
        refine call1_eq (Unfilter_ok (k : Int) (1 + ((b.toNat % 8 : Nat) : Int)) _ (above.take line.length) (by rw [genN_len]; exact hl) _ _) ?_
        rw [unfP, if_pos (he _ (genN_len _ _)), genN_len, unf_fil _ _ _ _ (by omega)]
        simp (config := {contextual := true, implicitDefEqProofs := false}) (disch := omega) [pairV, f1, f7, f2, f31, i64_id, -Int.natCast_emod]
        exact again_iff (5 - (k + 1)) (by omega) ⟨k + 1, rfl, by omega, rfl, by simp [f1], by simp [f7], by simp [f2], by simp⟩
      · refine call1_eq (awake_ok _ _) ?_
        simp
  · have hab : ([] : List UInt8) = [] ∨ ([] : List UInt8).length = line.length := .inl rfl
    refine vc_loop (inv8 H line [] b.toNat) 5 ?_ ?_
    · exact ⟨0, rfl, by omega, rfl, by simp, by simp, by simp, by simp⟩
    · rintro n env H' ⟨k, rfl, hk, rfl, f1, f7, f2, f31⟩
      have hb : (1 : Int) ≤ 1 + (b.toNat % 8 : Nat) ∧ (1 : Int) + (b.toNat % 8 : Nat) ≤ 8 := by omega
      simp (config := {contextual := true, implicitDefEqProofs := false}) (disch := omega) [f1, f7, f2, f31]
      refine ⟨fun h1 => ?_, fun h1 => ?_⟩
      · have hk4 : k ≤ 4 := by omega
        have he : ∀ l : List UInt8, l.length = line.length → errF (k : Int) (1 + ((b.toNat % 8 : Nat) : Int)) l [] = 0 := by
          intro l hl2
          unfold errF
          rw [if_neg (by omega), if_neg (by omega), if_neg (by rintro ⟨q1, q2⟩; exact q2 (by rw [hl2]; rcases hab with h | h; exact absurd h q1; exact h))]
        refine call1_eq (Filter_ok (k : Int) (1 + ((b.toNat % 8 : Nat) : Int)) line [] hl _ _) ?_
        rw [filP, if_pos (he line rfl)]
        simp (config := {contextual := true, implicitDefEqProofs := false}) (disch := omega) [pairV, f1, f7, f2, f31, -Int.natCast_emod]
        refine call1_eq (Unfilter_ok (k : Int) (1 + ((b.toNat % 8 : Nat) : Int)) _ [] (by rw [genN_len]; exact hl) _ _) ?_
        rw [unfP, if_pos (he _ (genN_len _ _)), genN_len, unf_fil _ _ _ _ (by omega)]
        simp (config := {contextual := true, implicitDefEqProofs := false}) (disch := omega) [pairV, f1, f7, f2, f31, i64_id, -Int.natCast_emod]
        exact again_iff (5 - (k + 1)) (by omega) ⟨k + 1, rfl, by omega, rfl, by simp [f1], by simp [f7], by simp [f2], by simp⟩
      · refine call1_eq (awake_ok _ _) ?_
        simp
  · have hab : above = [] ∨ above.length = line.length := .inr (by omega)
    refine vc_loop (inv8 H line above b.toNat) 5 ?_ ?_
    · exact ⟨0, rfl, by omega, rfl, by simp, by simp, by simp, by simp⟩
    · rintro n env H' ⟨k, rfl, hk, rfl, f1, f7, f2, f31⟩
      have hb : (1 : Int) ≤ 1 + (b.toNat % 8 : Nat) ∧ (1 : Int) + (b.toNat % 8 : Nat) ≤ 8 := by omega
      simp (config := {contextual := true, implicitDefEqProofs := false}) (disch := omega) [f1, f7, f2, f31]
      refine ⟨fun h1 => ?_, fun h1 => ?_⟩
      · have hk4 : k ≤ 4 := by omega
        have he : ∀ l : List UInt8, l.length = line.length → errF (k : Int) (1 + ((b.toNat % 8 : Nat) : Int)) l above = 0 := by
          intro l hl2
          unfold errF
          rw [if_neg (by omega), if_neg (by omega), if_neg (by rintro ⟨q1, q2⟩; exact q2 (by rw [hl2]; rcases hab with h | h; exact absurd h q1; exact h))]
        refine call1_eq (Filter_ok (k : Int) (1 + ((b.toNat % 8 : Nat) : Int)) line above hl _ _) ?_
        rw [filP, if_pos (he line rfl)]
        simp (config := {contextual := true, implicitDefEqProofs := false}) (disch := omega) [pairV, f1, f7, f2, f31, -Int.natCast_emod]
        refine call1_eq (Unfilter_ok (k : Int) (1 + ((b.toNat % 8 : Nat) : Int)) _ above (by rw [genN_len]; exact hl) _ _) ?_
        rw [unfP, if_pos (he _ (genN_len _ _)), genN_len, unf_fil _ _ _ _ (by omega)]
        simp (config := {contextual := true, implicitDefEqProofs := false}) (disch := omega) [pairV, f1, f7, f2, f31, i64_id, -Int.natCast_emod]
        exact again_iff (5 - (k + 1)) (by omega) ⟨k + 1, rfl, by omega, rfl, by simp [f1], by simp [f7], by simp [f2], by simp⟩
      · refine call1_eq (awake_ok _ _) ?_
        simp
theorem u8_wf {n : Int} (h : (Lit.int .u8 n).wf = true) : 0 ≤ n ∧ n ≤ 255 := by
  simp only [Lit.wf, Bool.and_eq_true, decide_eq_true_eq] at h
  have h1 : IntKind.u8.min = 0 := by decide
  have h2 : IntKind.u8.max = 255 := by decide
  omega
theorem law8_int {n : Int} (hn : 0 ≤ n ∧ n ≤ 255) {line above : List UInt8} (hl : line.length ≤ roomLim) (hl2 : above.length ≤ 9223372036854775807) (H : AHeap) (fp : Nat → Prop) : ACall Tryz.prog 8 [.int .u8 n, .str line, .str above] H fp fun v' H' => v' = .bool true ∧ H' = H := by
  obtain ⟨b, hb⟩ : ∃ b : UInt8, (b.toNat : Int) = n := ⟨UInt8.ofNat n.toNat, by simp; omega⟩
  rw [← hb]
  exact law8_ok hl hl2 H fp
end Go.Proofs.YtalbjkemcckokaaGreat.Ab

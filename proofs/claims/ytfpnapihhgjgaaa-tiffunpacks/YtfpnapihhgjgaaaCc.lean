/- Layer 49: the reference's PackBits. Conditions: the text's length. -/
import Derived.Test.YtfpnapihhgjgaaaCb
namespace Go.Proofs.Ytfpnapihhgjgaaa.Ab
set_option linter.unusedVariables false
set_option linter.unusedSimpArgs false
set_option maxRecDepth 100000

def inv12 (H : AHeap) (s : List UInt8) (n : Nat) (env : Env) (H' : AHeap) : Prop :=
  ∃ acc p, n = s.length - p ∧ p ≤ s.length ∧ packG s = acc ++ packG (s.drop p) ∧ acc.length + 2 * (s.length - p) ≤ 2 * s.length ∧ env 0 = .str s ∧ env 4 = .int .i64 p ∧ OwnX (fun r => r < H.length) H' 5 (env 3) (bytesOf acc) ∧ (∀ r, r < H.length → H'[r]? = H[r]?) ∧ H.length ≤ H'.length

def inv12b (H : AHeap) (s : List UInt8) (p : Nat) (w : AVal) (n : Nat) (env : Env) (H' : AHeap) : Prop :=
  ∃ m, n = 128 - m ∧ 1 ≤ m ∧ m ≤ 128 ∧ p + m ≤ s.length ∧ litG (s.drop p) = m + litN (128 - m) (s.drop (p + m)) ∧ H' = H ∧ env 0 = .str s ∧ env 4 = .int .i64 p ∧ env 6 = .int .i64 ((p + m : Nat) : Int) ∧ env 3 = w

theorem rpack_ok (s : List UInt8) (hs : 2 * s.length ≤ roomLim) (H : AHeap) (fp : Nat → Prop) : ACall Try.prog 12 [.str s] H fp fun v' H' => v' = .str (packG s) ∧ H' = H := by
  unfold roomLim at hs
  refine ((ACall.drop (fp := fp) (R := fun v _ => v = .str (packG s)) (?_) fun v H' e => by rw [e]; rfl)).mono fun v H' q => ⟨by obtain ⟨_, _, h, _⟩ := q; exact h, q.1⟩
  refine acall_of hmix Try.func12 x12_ok (by simp) ?_
  simp
  refine vc_loop (inv12 H s) s.length ?_ ?_
  · exact ⟨[], 0, by simp, by simp, by simp, by simp, by simp, by simp, .inl ⟨by simp, rfl⟩, fun r hr => rfl, Nat.le_refl _⟩
  · rintro n env H1 ⟨acc, p, rfl, hp0, hp, hlen, e0, e4, hO, hk, hl⟩
    obtain ⟨w, hw⟩ : ∃ w, env 3 = w := ⟨_, rfl⟩
    rw [hw] at hO
    simp (config := {contextual := true, implicitDefEqProofs := false}) (disch := omega) [e0, e4, hw]
    refine ⟨fun hne => ?_, fun he => ?_⟩
    · refine call1_eq (rrun_ok s (by omega) p (by omega) _ _) ?_
      have hne2 : s.drop p ≠ [] := by intro e; have := congrArg List.length e; simp at this; omega
      have hr0 := runG_pos hne2
      have hr1 := runG_le (s.drop p)
      simp only [List.length_drop] at hr1
      obtain ⟨c, hc⟩ : ∃ c, UInt8.ofNat (257 - runG (s.drop p)) = c := ⟨_, rfl⟩
      obtain ⟨d, hd⟩ : ∃ d, chr s p = d := ⟨_, rfl⟩
      have hd2 : vIdxStr (.str s) (.int .i64 (p : Int)) = some (.int .u8 (d.toNat : Int)) := by rw [vIdxStr_nat (by omega), hd]
      have hwr : 1 < runG (s.drop p) → IntKind.u8.wrap (257 - (runG (s.drop p) : Int)) = (c.toNat : Int) := by
        intro h
        have : c.toNat = 257 - runG (s.drop p) := by rw [← hc]; simp; omega
        rw [this, IntWalk.u8_in _ (by omega)]; omega
      simp (config := {contextual := true, implicitDefEqProofs := false}) (disch := omega) [e0, e4, hw, hd2, i64_id, afill, zrep]
      refine ⟨fun h1 => ?_, fun h1 => ?_⟩
      · have h1 : 1 < runG (s.drop p) := by omega
        rw [hwr h1]
        obtain ⟨w', H2, ha0, hO2, hle2, hfr2⟩ := hO.appendNew (fun r hr => by omega) [c, d] (by simp [roomLim]; omega)
        have ha : aappend 1 1 5 w (.slice H1.length 0 0 2 1) (H1 ++ [.cells 0 false 5 [.int .u8 (c.toNat : Int), .int .u8 (d.toNat : Int)]]) = some (w', H2) := ha0
        simp (config := {contextual := true, implicitDefEqProofs := false}) (disch := omega) [e0, e4, hw, ha, i64_id]
        refine ⟨fun r hr => ?_, ?_⟩
        · have := hO.target hr; omega
        · refine again_iff (s.length - (p + runG (s.drop p))) (by omega) ⟨acc ++ [c, d], p + runG (s.drop p), rfl, by omega, ?_, ?_, by simp [e0], by simp, by simpa [-bytesOf_app] using hO2, fun r hr => by rw [hfr2 r hr]; exact hk r hr, by omega⟩
          · rw [hp, packG_run h1, chr_drop]; simp [hc, hd, List.drop_drop]
          · simp; omega
      · have h1 : ¬ 1 < runG (s.drop p) := by omega
        have hg := litG_le hne2
        simp only [List.length_drop] at hg
        refine vc_loop_cut 2 (fun env H' => H' = H1 ∧ env 0 = .str s ∧ env 4 = .int .i64 p ∧ env 6 = .int .i64 ((p + litG (s.drop p) : Nat) : Int) ∧ env 3 = w) (inv12b H1 s p w) 127 ?_ ?_ ?_
        · exact ⟨1, rfl, by omega, by omega, by omega, by rw [litG, List.drop_drop], rfl, by simp [e0], by simp [e4], by simp, by simp [hw]⟩
        · rintro n env H' ⟨m, rfl, hm1, hm2, hm3, hg2, rfl, f0, f4, f6, f3⟩
          simp (config := {contextual := true, implicitDefEqProofs := false}) (disch := omega) [f0, f3, f4, f6, i64_id, -Int.natCast_add]
          have hsub : ((p + m : Nat) : Int) - (p : Int) = (m : Int) := by omega
          simp only [hsub]
          have key : ∀ (h1 : p + m < s.length), m < 128 → litN (128 - m) (s.drop (p + m)) = if runG (s.drop (p + m)) < 3 then litN (128 - (m + 1)) (s.drop (p + (m + 1))) + 1 else 0 := by
            intro h1 h2
            have := litN_step (s := s.drop p) (m := m) (by simp; omega) h2
            simpa [List.drop_drop] using this
          refine ⟨fun g1 => ⟨fun g2 => ?_, fun g2 => ?_⟩, fun g1 => ?_⟩
          · refine call1_eq (rrun_ok s (by omega) (p + m) (by omega) _ _) ?_
            rw [key (by omega) (by omega)] at hg2
            simp (config := {contextual := true, implicitDefEqProofs := false}) (disch := omega) [f0, f3, f4, f6, i64_id, -Int.natCast_add]
            refine ⟨fun g3 => ?_, fun g3 => ?_⟩
            · rw [if_pos (by omega)] at hg2
              exact again_iff (128 - (m + 1)) (by omega) ⟨m + 1, rfl, by omega, by omega, by omega, by omega, rfl, by simp [f0], by simp [f4], by simp; omega, by simp [f3]⟩
            · rw [if_neg (by omega)] at hg2
              omega
          · rw [show 128 - m = 0 by omega, litN] at hg2; omega
          · have hz : s.drop (p + m) = [] := List.drop_eq_nil_of_le (by omega)
            rw [hz, litN_nil] at hg2; omega
        · rintro env H' ⟨rfl, f0, f4, f6, f3⟩
          obtain ⟨c, hc⟩ : ∃ c, UInt8.ofNat (litG (s.drop p) - 1) = c := ⟨_, rfl⟩
          have hsub : ((p + litG (s.drop p) : Nat) : Int) - (p : Int) = (litG (s.drop p) : Int) := by omega
          have hw2 : IntKind.u8.wrap ((litG (s.drop p) : Int) - 1) = (c.toNat : Int) := by
            have : c.toNat = litG (s.drop p) - 1 := by rw [← hc]; simp; omega
            rw [this, IntWalk.u8_in _ (by omega)]; omega
          obtain ⟨w', H2, ha0, hO2, hle2, hfr2⟩ := hO.appendNew (fun r hr => by omega) [c] (by simp [roomLim]; omega)
          have ha : aappend 1 1 5 w (.slice H'.length 0 0 1 1) (H' ++ [.cells 0 false 5 [.int .u8 (c.toNat : Int)]]) = some (w', H2) := ha0
          obtain ⟨w'', H3, hb, hO3, hle3, hfr3⟩ := hO2.appendStr (fun r hr => by omega) ((s.drop p).take (litG (s.drop p))) (by simp [roomLim]; omega)
          have hsl : vSlStr (.str s) (some (.int .i64 (p : Int))) (some (.int .i64 ((p + litG (s.drop p) : Nat) : Int))) = some (.str ((s.drop p).take (litG (s.drop p)))) := by
            rw [vSlStr_both (by omega) (by omega) (by omega)]
            congr 3; omega
          have ht1 : ∀ r, appTarget w r → fp r ∨ H.length ≤ r := fun r hr => by have := hO.target hr; omega
          simp (config := {contextual := true, implicitDefEqProofs := false}) (disch := omega) [f0, f3, f4, f6, i64_id, hsub, hw2, ha, hb, hsl, afill, zrep, -Int.natCast_add]
          refine ⟨fun r hr => ?_, fun r hr => ?_, ?_⟩
          · have := hO.target hr; omega
          · have := hO2.target hr; omega
          · refine again_iff (s.length - (p + litG (s.drop p))) (by omega) ⟨acc ++ [c] ++ (s.drop p).take (litG (s.drop p)), p + litG (s.drop p), rfl, by omega, ?_, ?_, by simp [f0], by simp, by simpa [-bytesOf_app, -List.append_assoc] using hO3, fun r hr => by rw [hfr3 r hr, hfr2 r hr]; exact hk r hr, by omega⟩
            · rw [hp, packG_lit hne2 h1, hc]; simp [List.drop_drop]
            · simp; omega
    · have hz : s.drop p = [] := List.drop_eq_nil_of_le (by omega)
      have := hO.sl.toStr
      simp (config := {contextual := true, implicitDefEqProofs := false}) (disch := omega) [e0, e4, hw, this, hp, hz, packG_nil]
end Go.Proofs.Ytfpnapihhgjgaaa.Ab

/- Layer 49: tiff.PackBits. Conditions: the text's length. -/
import Derived.Test.YtfpnapihhgjgaaaCa
namespace Go.Proofs.Ytfpnapihhgjgaaa.Ab
set_option linter.unusedVariables false
set_option linter.unusedSimpArgs false
set_option maxRecDepth 100000

def inv11 (H : AHeap) (s : List UInt8) (n : Nat) (env : Env) (H' : AHeap) : Prop :=
  ∃ acc rest, n = rest.length ∧ packG s = acc ++ packG rest ∧ acc.length + 2 * rest.length ≤ 2 * s.length ∧ env 0 = .str rest ∧ env 3 = .ptr H.length 0 0 ∧ BldT (fun r => r < H.length) H' H.length acc ∧ (∀ r, r < H.length → H'[r]? = H[r]?) ∧ H.length < H'.length

def inv11b (H : AHeap) (b : Nat) (rest : List UInt8) (n : Nat) (env : Env) (H' : AHeap) : Prop :=
  ∃ m, n = 128 - m ∧ 1 ≤ m ∧ m ≤ 128 ∧ m ≤ rest.length ∧ litG rest = m + litN (128 - m) (rest.drop m) ∧ H' = H ∧ env 0 = .str rest ∧ env 3 = .ptr b 0 0 ∧ env 4 = .int .i64 m

theorem pack_ok (s : List UInt8) (hs : 2 * s.length ≤ roomLim) (H : AHeap) (fp : Nat → Prop) : ACall Try.prog 11 [.str s] H fp fun v' H' => v' = .str (packG s) ∧ H' = H := by
  unfold roomLim at hs
  refine ((ACall.drop (fp := fp) (R := fun v _ => v = .str (packG s)) (?_) fun v H' e => by rw [e]; rfl)).mono fun v H' q => ⟨by obtain ⟨_, _, h, _⟩ := q; exact h, q.1⟩
  refine acall_of hmix Try.func11 x11_ok (by simp) ?_
  simp
  refine vc_loop (inv11 H s) s.length ?_ ?_
  · exact ⟨[], s, rfl, by simp, by simp, by simp, by simp, Bld.fresh (fun r h => h), fun r hr => List.getElem?_append_left hr, by simp⟩
  · rintro n env H1 ⟨acc, rest, rfl, hp, hlen, e0, e3, hB, hk, hl⟩
    simp (config := {contextual := true, implicitDefEqProofs := false}) (disch := omega) [e0, e3]
    refine ⟨fun hne => ?_, fun he => ?_⟩
    · refine call1_eq (run_ok rest _ _) ?_
      have hr0 := runG_pos hne
      have hr1 := runG_le rest
      have hpos := List.length_pos_iff.2 hne
      have hw : 1 < runG rest → IntKind.u8.wrap (257 - (runG rest : Int)) = ((UInt8.ofNat (257 - runG rest)).toNat : Int) := by
        intro h
        have : (UInt8.ofNat (257 - runG rest)).toNat = 257 - runG rest := by simp; omega
        rw [this, IntWalk.u8_in _ (by omega)]; omega
      simp (config := {contextual := true, implicitDefEqProofs := false}) (disch := omega) [e0, e3, vIdxStr_nat, vIdxStr_of, i64_id, afill, zrep]
      refine ⟨fun h1 => ?_, fun h1 => ?_⟩
      · have h1 : 1 < runG rest := by omega
        have hsub : BldT (fun r => r < H.length ∨ r = H1.length) H1 H.length acc := hB.sub fun r hr c => c.elim id (fun e => by omega)
        refine call1_of (w_ok (B := fun r => r < H.length ∨ r = H1.length) (s := acc) (t := [UInt8.ofNat (257 - runG rest), chr rest 0]) (fp := fun r => ¬ (r < H.length ∨ r = H1.length)) (hsub.keep fun k _ hk => List.getElem?_append_left hk) ?_ ?_ ?_ ?_ (fun r h => h)) ?_ ?_
        · rintro r (hr | rfl) <;> simp <;> omega
        · exact .inr (.inr ⟨H1.length, 0, 0, rfl, by simp [bytesOf, hw h1]⟩)
        · rintro r rfl; exact .inr rfl
        · simp [roomLim]; omega
        · intro r hr; simp only [not_or] at hr; left; omega
        · rintro v H2 ⟨rfl, hB2, hle2, hfr2⟩ _ _
          simp at hle2
          simp (config := {contextual := true, implicitDefEqProofs := false}) (disch := omega) [e0, e3, vSlStr_lo]
          refine again_iff (rest.length - runG rest) (by omega) ⟨acc ++ [UInt8.ofNat (257 - runG rest), chr rest 0], rest.drop (runG rest), by simp, ?_, by simp; omega, by simp, by simp [e3], hB2.sub fun r _ c => .inl c, ?_, by omega⟩
          · rw [hp, packG_run h1]; simp
          · intro r hr
            rw [hfr2 r (.inl hr), List.getElem?_append_left (by omega)]; exact hk r hr
      · have h1 : ¬ 1 < runG rest := by omega
        have hg := litG_le hne
        refine vc_loop_cut 2 (fun env H' => H' = H1 ∧ env 0 = .str rest ∧ env 3 = .ptr H.length 0 0 ∧ env 4 = .int .i64 (litG rest)) (inv11b H1 H.length rest) 127 ?_ ?_ ?_
        · have : runG rest = 1 := by omega
          exact ⟨1, rfl, by omega, by omega, by omega, rfl, rfl, by simp [e0], by simp [e3], by simp [this]⟩
        · rintro n env H' ⟨m, rfl, hm1, hm2, hm3, hg2, rfl, f0, f3, f4⟩
          simp (config := {contextual := true, implicitDefEqProofs := false}) (disch := omega) [f0, f3, f4, vSlStr_lo]
          refine ⟨fun g1 => ⟨fun g2 => ?_, fun g2 => ?_⟩, fun g1 => ?_⟩
          · refine call1_eq (run_ok _ _ _) ?_
            rw [litN_step g1 (by omega)] at hg2
            simp (config := {contextual := true, implicitDefEqProofs := false}) (disch := omega) [f0, f3, f4, i64_id]
            refine ⟨fun g3 => ?_, fun g3 => ?_⟩
            · rw [if_pos (by omega)] at hg2
              exact again_iff (128 - (m + 1)) (by omega) ⟨m + 1, rfl, by omega, by omega, by omega, by omega, rfl, by simp [f0], by simp [f3], by simp⟩
            · rw [if_neg (by omega)] at hg2
              omega
          · rw [show 128 - m = 0 by omega, litN] at hg2; omega
          · have hz : rest.drop m = [] := List.drop_eq_nil_of_le (by omega)
            rw [hz, litN_nil] at hg2; omega
        · rintro env H' ⟨rfl, f0, f3, f4⟩
          obtain ⟨c, hc⟩ : ∃ c, UInt8.ofNat (litG rest - 1) = c := ⟨_, rfl⟩
          have hw2 : IntKind.u8.wrap ((litG rest : Int) - 1) = (c.toNat : Int) := by
            have : (UInt8.ofNat (litG rest - 1)).toNat = litG rest - 1 := by simp; omega
            rw [← hc, this, IntWalk.u8_in _ (by omega)]; omega
          simp (config := {contextual := true, implicitDefEqProofs := false}) (disch := omega) [f0, f3, f4, i64_id, hw2]
          refine call1_of (wb_ok (fp := fun r => ¬ r < H.length) hB (fun r hr => by omega) (by unfold roomLim; omega) fun r h => h) (fun r hr => .inl (by omega)) ?_
          rintro v H2 ⟨rfl, hB2, hle2, hfr2⟩ _ _
          simp (config := {contextual := true, implicitDefEqProofs := false}) (disch := omega) [f0, f3, f4, vSlStr_hi]
          refine call1_of (ws_ok (fp := fun r => ¬ r < H.length) hB2 (fun r hr => by omega) (by simp [roomLim]; omega) fun r h => h) (fun r hr => .inl (by omega)) ?_
          rintro v H3 ⟨rfl, hB3, hle3, hfr3⟩ _ _
          simp (config := {contextual := true, implicitDefEqProofs := false}) (disch := omega) [f0, f3, f4, vSlStr_lo]
          refine again_iff (rest.length - litG rest) (by omega) ⟨_, rest.drop (litG rest), by simp, ?_, ?_, by simp, by simp [f3], hB3, fun r hr => by rw [hfr3 r hr, hfr2 r hr]; exact hk r hr, by omega⟩
          · rw [hp, packG_lit hne h1, hc]; simp
          · simp; omega
    · subst he
      refine call1_of (bs_ok (fp := fun r => ¬ r < H.length) hB (by simp at hlen; unfold roomLim; omega) fun r h => h) (fun r hr => .inl (by omega)) ?_
      rintro v H2 ⟨rfl, _, hfr2⟩ _ _
      simp (config := {contextual := true, implicitDefEqProofs := false}) (disch := omega) [hp, packG_nil]
end Go.Proofs.Ytfpnapihhgjgaaa.Ab

/- The reference's Filter and Unfilter. Conditions: the line's length; for the statements about layer 48. -/
import Derived.Test.YtalbjkemcckokaaGreatPj
namespace Go.Proofs.YtalbjkemcckokaaGreat.Ab
set_option linter.unusedVariables false
set_option linter.unusedSimpArgs false
set_option maxRecDepth 100000

theorem abs_ok (x : Int) (hx : -10000 ≤ x ∧ x ≤ 10000) (H : AHeap) (fp : Nat → Prop) : ACall Tryz.prog 77 [.int .i64 x] H fp fun v H' => v = .int .i64 (if -x > x then -x else x) ∧ H' = H := by
  refine acall_of hmix Tryz.func77 x77_ok (by simp) ?_
  have hn : aunary .neg (.int .i64 x) = some (.int .i64 (-x)) := by
    have : aunary .neg (.int .i64 x) = some (.int .i64 (IntKind.i64.wrap (0 - x))) := rfl
    rw [this, i64_id (by omega) (by omega), Int.zero_sub]
  simp (config := {contextual := true, implicitDefEqProofs := false}) (disch := omega) [hn]
theorem farI_abs (p a : Int) : (if -(p - a) > p - a then -(p - a) else p - a) = farI p a := by
  unfold farI; split <;> split <;> omega

theorem rpredict_ok (kind : Int) (a b c : Nat) (ha : a < 256) (hb : b < 256) (hc : c < 256) (H : AHeap) (fp : Nat → Prop) :
    ACall Tryz.prog 48 [.int .i64 kind, .int .i64 a, .int .i64 b, .int .i64 c] H fp fun v H' => v = .int .i64 (predI kind a b c) ∧ H' = H := by
  refine acall_of hmix Tryz.func48 x48_ok (by simp) ?_
  have hkk : ((a : Int) + b).tdiv 2 = ((a : Int) + b) / 2 := Int.tdiv_eq_ediv_of_nonneg (by omega)
  simp (config := {contextual := true, implicitDefEqProofs := false}) (disch := omega) [i64_id, abin_quo, hkk]
  refine ⟨fun k1 => by simp [predI], fun k1 => ⟨fun k2 => by simp [predI], fun k2 => ⟨fun k3 => by simp [predI], fun k3 => ⟨fun k4 => ?_, fun k4 => by simp [predI, k1, k2, k3, k4]⟩⟩⟩⟩
  have ab : ∀ (x : Int) (fp : Nat → Prop), -1000 ≤ x ∧ x ≤ 1000 → ACall Tryz.prog 77 [.int .i64 ((a : Int) + b - c - x)] H fp fun v H' => v = .int .i64 (farI ((a : Int) + b - c) x) ∧ H' = H := fun x fp hx => by
    have := abs_ok ((a : Int) + b - c - x) (by omega) H fp
    rw [farI_abs] at this; exact this
  refine call1_eq (ab a _ (by omega)) ?_
  simp (config := {contextual := true, implicitDefEqProofs := false}) (disch := omega) [i64_id]
  refine call1_eq (ab b _ (by omega)) ?_
  simp (config := {contextual := true, implicitDefEqProofs := false}) (disch := omega) [i64_id]
  refine ⟨fun g => ?_, fun g => ?_⟩
  · refine call1_eq (ab a _ (by omega)) ?_
    simp (config := {contextual := true, implicitDefEqProofs := false}) (disch := omega) [i64_id]
    refine call1_eq (ab c _ (by omega)) ?_
    simp (config := {contextual := true, implicitDefEqProofs := false}) (disch := omega) [i64_id]
    refine ⟨fun g2 => by simp [predI, paethI, g, g2], fun g2 => ?_⟩
    refine call1_eq (ab b _ (by omega)) ?_
    simp (config := {contextual := true, implicitDefEqProofs := false}) (disch := omega) [i64_id]
    refine call1_eq (ab c _ (by omega)) ?_
    simp (config := {contextual := true, implicitDefEqProofs := false}) (disch := omega) [i64_id]
    have hn : ¬ (farI ((a : Int) + b - c) a ≤ farI ((a : Int) + b - c) b ∧ farI ((a : Int) + b - c) a ≤ farI ((a : Int) + b - c) c) := fun q => by omega
    refine ⟨fun g3 => ?_, fun g3 => ?_⟩
    · simp only [predI, paethI, if_neg hn]; rw [if_neg (by omega), if_neg (by omega), if_neg (by omega), if_pos trivial, if_pos g3]
    · simp only [predI, paethI, if_neg hn]; rw [if_neg (by omega), if_neg (by omega), if_neg (by omega), if_pos trivial, if_neg (by omega)]
  · refine call1_eq (ab b _ (by omega)) ?_
    simp (config := {contextual := true, implicitDefEqProofs := false}) (disch := omega) [i64_id]
    refine call1_eq (ab c _ (by omega)) ?_
    simp (config := {contextual := true, implicitDefEqProofs := false}) (disch := omega) [i64_id]
    have hn : ¬ (farI ((a : Int) + b - c) a ≤ farI ((a : Int) + b - c) b ∧ farI ((a : Int) + b - c) a ≤ farI ((a : Int) + b - c) c) := fun q => by omega
    refine ⟨fun g3 => ?_, fun g3 => ?_⟩
    · simp only [predI, paethI, if_neg hn]; rw [if_neg (by omega), if_neg (by omega), if_neg (by omega), if_pos trivial, if_pos g3]
    · simp only [predI, paethI, if_neg hn]; rw [if_neg (by omega), if_neg (by omega), if_neg (by omega), if_pos trivial, if_neg (by omega)]

def atN (s : List UInt8) (i : Int) : Nat := if 0 ≤ i ∧ i < s.length then (chr s i.toNat).toNat else 0
theorem atN_lt (s : List UInt8) (i : Int) : atN s i < 256 := by
  unfold atN; split
  · exact UInt8.toNat_lt _
  · omega
theorem at_ok (s : List UInt8) (i : Int) (H : AHeap) (fp : Nat → Prop) : ACall Tryz.prog 49 [.str s, .int .i64 i] H fp fun v H' => v = .int .i64 (atN s i) ∧ H' = H := by
  refine acall_of hmix Tryz.func49 x49_ok (by simp) ?_
  simp (config := {contextual := true, implicitDefEqProofs := false}) (disch := omega)
  refine ⟨fun h => by rw [atN, if_neg (by omega)]; rfl, fun h => ⟨fun h2 => by rw [atN, if_neg (by omega)]; rfl, fun h2 => ?_⟩⟩
  have hc := UInt8.toNat_lt (chr s i.toNat)
  rw [vIdxStr_of h h2]
  simp (config := {contextual := true, implicitDefEqProofs := false}) (disch := omega) [i64_id]
  rw [atN, if_pos ⟨h, h2⟩]
theorem atN_sub {s : List UInt8} {i bpp : Nat} (h : s = [] ∨ i < s.length) : atN s ((i : Int) - bpp) = if bpp ≤ i then (chr s (i - bpp)).toNat else 0 := by
  rcases h with rfl | h
  · unfold atN
    rw [if_neg (by intro q; simp at q; omega)]; split <;> rfl
  · unfold atN
    by_cases hle : bpp ≤ i
    · rw [if_pos (by omega), if_pos hle, show ((i : Int) - bpp).toNat = i - bpp by omega]
    · rw [if_neg (by omega), if_neg hle]
theorem atN_at {s : List UInt8} {i : Nat} (h : s = [] ∨ i < s.length) : atN s (i : Int) = (chr s i).toNat := by
  rcases h with rfl | h
  · unfold atN; rw [if_neg (by intro q; simp at q; omega)]; rfl
  · unfold atN; rw [if_pos (by omega)]; rfl

def inv19 (H : AHeap) (kind : Int) (bpp : Nat) (line above : List UInt8) (f : List UInt8 → Nat → UInt8) (n : Nat) (env : Env) (H' : AHeap) : Prop :=
  ∃ i : Nat, n = line.length - i ∧ i ≤ line.length ∧ env 0 = .int .i64 kind ∧ env 1 = .int .i64 bpp ∧ env 2 = .str line ∧ env 3 = .str above ∧ env 12 = .int .i64 i ∧ OwnX (fun r => r < H.length) H' 5 (env 11) (bytesOf (genN f i)) ∧ (∀ r, r < H.length → H'[r]? = H[r]?) ∧ H.length ≤ H'.length

theorem rFilter_ok (kind bpp : Int) (line above : List UInt8) (hl : line.length ≤ roomLim) (H : AHeap) (fp : Nat → Prop) : ACall Tryz.prog 19 [.int .i64 kind, .int .i64 bpp, .str line, .str above] H fp fun v H' => v = pairV (filP kind bpp line above) ∧ H' = H := by
  refine ((ACall.drop (fp := fp) (R := fun v _ => v = pairV (filP kind bpp line above)) (?_) fun v H' e => by rw [e]; rfl)).mono fun v H' q => ⟨by obtain ⟨_, _, h, _⟩ := q; exact h, q.1⟩
  refine acall_of hmix Tryz.func19 x19_ok (by simp) ?_
  simp (config := {contextual := true, implicitDefEqProofs := false}) (disch := omega)
  refine call1_eq (wrong_ok kind bpp line above _ _) ?_
  simp (config := {contextual := true, implicitDefEqProofs := false}) (disch := omega)
  refine ⟨fun h => by simp [filP, h, pairV], fun h => ?_⟩
  obtain ⟨hk, hb, ha⟩ := errF_zero h
  obtain ⟨b, rfl⟩ := Int.eq_ofNat_of_zero_le (by omega : 0 ≤ bpp)
  have hl2 := hl
  unfold roomLim at hl2
  refine vc_loop (inv19 H kind b line above (filF kind b line above)) line.length ?_ ?_
  · exact ⟨0, rfl, by omega, by simp, by simp, by simp, by simp, by simp, .inl ⟨by simp, rfl⟩, fun r hr => rfl, Nat.le_refl _⟩
  · rintro n env H' ⟨i, rfl, hi, e0, e1, e2, e3, e12, hO, hkk, hle⟩
    obtain ⟨w, hw⟩ : ∃ w, env 11 = w := ⟨_, rfl⟩
    rw [hw] at hO
    simp (config := {contextual := true, implicitDefEqProofs := false}) (disch := omega) [e0, e1, e2, e3, e12, hw]
    refine ⟨fun h1 => ?_, fun h1 => ?_⟩
    · have hx : vIdxStr (.str line) (.int .i64 (i : Int)) = some (.int .u8 ((chr line i).toNat : Int)) := vIdxStr_nat h1
      have hcx := UInt8.toNat_lt (chr line i)
      have hai : above = [] ∨ i < above.length := by rcases ha with h | h; exact .inl h; exact .inr (by omega)
      simp (config := {contextual := true, implicitDefEqProofs := false}) (disch := omega) [e0, e1, e2, e3, e12, hw, hx, i64_id]
      refine dcall1_eq (at_ok line _ _ _) ?_
      simp (config := {contextual := true, implicitDefEqProofs := false}) (disch := omega) [e0, e1, e2, e3, e12, hw, hx, i64_id]
      refine dcall1_eq (at_ok above _ _ _) ?_
      simp (config := {contextual := true, implicitDefEqProofs := false}) (disch := omega) [e0, e1, e2, e3, e12, hw, hx, i64_id]
      refine dcall1_eq (at_ok above _ _ _) ?_
      rw [atN_sub (s := line) (.inr h1), atN_at hai, atN_sub hai]
      simp (config := {contextual := true, implicitDefEqProofs := false}) (disch := omega) [e0, e1, e2, e3, e12, hw, hx, i64_id]
      refine dcall1_eq (rpredict_ok kind _ _ _ (by split; exact UInt8.toNat_lt _; omega) (UInt8.toNat_lt _) (by split; exact UInt8.toNat_lt _; omega) _ _) ?_
      have hpn := predI_nat kind (a := (if b ≤ i then (chr line (i - b)).toNat else 0)) (b := (chr above i).toNat) (c := (if b ≤ i then (chr above (i - b)).toNat else 0)) (by split; exact UInt8.toNat_lt _; omega) (UInt8.toNat_lt _) (by split; exact UInt8.toNat_lt _; omega)
      have hp : predI kind ((if b ≤ i then (chr line (i - b)).toNat else 0 : Nat) : Int) ((chr above i).toNat : Nat) ((if b ≤ i then (chr above (i - b)).toNat else 0 : Nat) : Int) = pN kind b above line i := rfl
      rw [hp] at hpn ⊢
      have hf : filF kind b line above (genN (filF kind b line above) i) i = byteI ((chr line i).toNat - pN kind b above line i) := rfl
      generalize pN kind b above line i = pp at *
      obtain ⟨w', H2, ha0, hO2, hle2, hfr2⟩ := hO.appendNew (fun r hr => by omega) [byteI ((chr line i).toNat - pp)] (by simp [roomLim, genN_len]; omega)
      have haa : aappend 1 1 5 w (.slice H'.length 0 0 1 1) (H' ++ [.cells 0 false 5 [.int .u8 ((byteI ((chr line i).toNat - pp)).toNat : Int)]]) = some (w', H2) := ha0
      simp (config := {contextual := true, implicitDefEqProofs := false}) (disch := omega) [e0, e1, e2, e3, e12, hw, i64_id, u8_wrap, haa, afill, zrep]
      refine ⟨fun r hr => by have := hO.target hr; omega, ?_⟩
      exact again_iff (line.length - (i + 1)) (by omega) ⟨i + 1, rfl, by omega, by simp [e0], by simp [e1], by simp [e2], by simp [e3], by simp, by simpa [genN, hf, -bytesOf_app] using hO2, fun r hr => by rw [hfr2 r hr]; exact hkk r hr, by omega⟩
    · have hil : i = line.length := by omega
      subst hil
      have := hO.sl.toStr
      simp (config := {contextual := true, implicitDefEqProofs := false}) (disch := omega) [hw, this, filP, h, pairV]

theorem rUnfilter_ok (kind bpp : Int) (line above : List UInt8) (hl : line.length ≤ roomLim) (H : AHeap) (fp : Nat → Prop) : ACall Tryz.prog 21 [.int .i64 kind, .int .i64 bpp, .str line, .str above] H fp fun v H' => v = pairV (unfP kind bpp line above) ∧ H' = H := by
  refine ((ACall.drop (fp := fp) (R := fun v _ => v = pairV (unfP kind bpp line above)) (?_) fun v H' e => by rw [e]; rfl)).mono fun v H' q => ⟨by obtain ⟨_, _, h, _⟩ := q; exact h, q.1⟩
  refine acall_of hmix Tryz.func21 x21_ok (by simp) ?_
  simp (config := {contextual := true, implicitDefEqProofs := false}) (disch := omega)
  refine call1_eq (wrong_ok kind bpp line above _ _) ?_
  simp (config := {contextual := true, implicitDefEqProofs := false}) (disch := omega)
  refine ⟨fun h => by simp [unfP, h, pairV], fun h => ?_⟩
  obtain ⟨hk, hb, ha⟩ := errF_zero h
  obtain ⟨b, rfl⟩ := Int.eq_ofNat_of_zero_le (by omega : 0 ≤ bpp)
  have hl2 := hl
  unfold roomLim at hl2
  refine vc_loop (inv19 H kind b line above (unfF kind b line above)) line.length ?_ ?_
  · exact ⟨0, rfl, by omega, by simp, by simp, by simp, by simp, by simp, .inl ⟨by simp, rfl⟩, fun r hr => rfl, Nat.le_refl _⟩
  · rintro n env H' ⟨i, rfl, hi, e0, e1, e2, e3, e12, hO, hkk, hle⟩
    obtain ⟨w, hw⟩ : ∃ w, env 11 = w := ⟨_, rfl⟩
    rw [hw] at hO
    simp (config := {contextual := true, implicitDefEqProofs := false}) (disch := omega) [e0, e1, e2, e3, e12, hw]
    refine ⟨fun h1 => ?_, fun h1 => ?_⟩
    · have hx : vIdxStr (.str line) (.int .i64 (i : Int)) = some (.int .u8 ((chr line i).toNat : Int)) := vIdxStr_nat h1
      have hcx := UInt8.toNat_lt (chr line i)
      have hai : above = [] ∨ i < above.length := by rcases ha with h | h; exact .inl h; exact .inr (by omega)
      have hsl := hO.sl
      by_cases hle : b ≤ i
      · have hq1 : vIdx H' 1 w (.int .i64 ((i : Int) - b)) = some (w.at (i - b)) := by rw [show (i : Int) - b = ((i - b : Nat) : Int) by omega]; exact hsl.idxN (by simp [genN_len]; omega)
        have hq2 : vLoad H' (w.at (i - b)) = some (.int .u8 ((chr (genN (unfF kind b line above) i) (i - b)).toNat : Int)) := by rw [hsl.load (by simp [genN_len]; omega), bytesOf_get (by rw [genN_len]; omega)]
        have hcx2 := UInt8.toNat_lt (chr (genN (unfF kind b line above) i) (i - b))
        simp (config := {contextual := true, implicitDefEqProofs := false}) (disch := omega) [e0, e1, e2, e3, e12, hw, hx, i64_id, hle, hq1, hq2]
        refine ⟨?_, fun hc => by omega⟩
        refine dcall1_eq (H' := H') (at_ok above _ H' _) ?_
        simp (config := {contextual := true, implicitDefEqProofs := false}) (disch := omega) [e0, e1, e2, e3, e12, hw, hx, i64_id]
        refine dcall1_eq (H' := H') (at_ok above _ H' _) ?_
        rw [atN_at hai, atN_sub hai]
        simp (config := {contextual := true, implicitDefEqProofs := false}) (disch := omega) [e0, e1, e2, e3, e12, hw, hx, i64_id]
        refine dcall1_eq (rpredict_ok kind (chr (genN (unfF kind b line above) i) (i - b)).toNat _ _ (by omega) (UInt8.toNat_lt _) (by split; exact UInt8.toNat_lt _; omega) _ _) ?_
        have hif : (if b ≤ i then (chr (genN (unfF kind b line above) i) (i - b)).toNat else 0) = (chr (genN (unfF kind b line above) i) (i - b)).toNat := if_pos hle
        rw [← hif]
        have hpn := predI_nat kind (a := (if b ≤ i then (chr (genN (unfF kind b line above) i) (i - b)).toNat else 0)) (b := (chr above i).toNat) (c := (if b ≤ i then (chr above (i - b)).toNat else 0)) (by split; exact UInt8.toNat_lt _; omega) (UInt8.toNat_lt _) (by split; exact UInt8.toNat_lt _; omega)
        have hp : predI kind ((if b ≤ i then (chr (genN (unfF kind b line above) i) (i - b)).toNat else 0 : Nat) : Int) ((chr above i).toNat : Nat) ((if b ≤ i then (chr above (i - b)).toNat else 0 : Nat) : Int) = pN kind b above (genN (unfF kind b line above) i) i := rfl
        rw [hp] at hpn ⊢
        have hf : unfF kind b line above (genN (unfF kind b line above) i) i = byteI ((chr line i).toNat + pN kind b above (genN (unfF kind b line above) i) i) := rfl
        generalize pN kind b above (genN (unfF kind b line above) i) i = pp at *
        obtain ⟨w', H2, ha0, hO2, hle2, hfr2⟩ := hO.appendNew (fun r hr => by omega) [byteI ((chr line i).toNat + pp)] (by simp [roomLim, genN_len]; omega)
        have haa : aappend 1 1 5 w (.slice H'.length 0 0 1 1) (H' ++ [.cells 0 false 5 [.int .u8 ((byteI ((chr line i).toNat + pp)).toNat : Int)]]) = some (w', H2) := ha0
        simp (config := {contextual := true, implicitDefEqProofs := false}) (disch := omega) [e0, e1, e2, e3, e12, hw, i64_id, u8_wrap, haa, afill, zrep]
        refine ⟨fun r hr => by have := hO.target hr; omega, ?_⟩
        exact again_iff (line.length - (i + 1)) (by omega) ⟨i + 1, rfl, by omega, by simp [e0], by simp [e1], by simp [e2], by simp [e3], by simp, by simpa [genN, hf, -bytesOf_app] using hO2, fun r hr => by rw [hfr2 r hr]; exact hkk r hr, by omega⟩
      · simp (config := {contextual := true, implicitDefEqProofs := false}) (disch := omega) [e0, e1, e2, e3, e12, hw, hx, i64_id, hle]
        intro _
        refine dcall1_eq (H' := H') (at_ok above _ H' _) ?_
        simp (config := {contextual := true, implicitDefEqProofs := false}) (disch := omega) [e0, e1, e2, e3, e12, hw, hx, i64_id]
        refine dcall1_eq (H' := H') (at_ok above _ H' _) ?_
        rw [atN_at hai, atN_sub hai, if_neg hle]
        simp (config := {contextual := true, implicitDefEqProofs := false}) (disch := omega) [e0, e1, e2, e3, e12, hw, hx, i64_id]
        refine dcall1_eq (rpredict_ok kind 0 _ 0 (by omega) (UInt8.toNat_lt _) (by omega) _ _) ?_
        have hif : (if b ≤ i then (chr (genN (unfF kind b line above) i) (i - b)).toNat else 0) = 0 := if_neg hle
        have hpn := predI_nat kind (a := 0) (b := (chr above i).toNat) (c := 0) (by omega) (UInt8.toNat_lt _) (by omega)
        have hp : predI kind ((0 : Nat) : Int) ((chr above i).toNat : Nat) ((0 : Nat) : Int) = pN kind b above (genN (unfF kind b line above) i) i := by unfold pN; rw [if_neg hle, if_neg hle]
        rw [hp] at hpn ⊢
        have hf : unfF kind b line above (genN (unfF kind b line above) i) i = byteI ((chr line i).toNat + pN kind b above (genN (unfF kind b line above) i) i) := rfl
        generalize pN kind b above (genN (unfF kind b line above) i) i = pp at *
        obtain ⟨w', H2, ha0, hO2, hle2, hfr2⟩ := hO.appendNew (fun r hr => by omega) [byteI ((chr line i).toNat + pp)] (by simp [roomLim, genN_len]; omega)
        have haa : aappend 1 1 5 w (.slice H'.length 0 0 1 1) (H' ++ [.cells 0 false 5 [.int .u8 ((byteI ((chr line i).toNat + pp)).toNat : Int)]]) = some (w', H2) := ha0
        simp (config := {contextual := true, implicitDefEqProofs := false}) (disch := omega) [e0, e1, e2, e3, e12, hw, i64_id, u8_wrap, haa, afill, zrep]
        refine ⟨fun r hr => by have := hO.target hr; omega, ?_⟩
        exact again_iff (line.length - (i + 1)) (by omega) ⟨i + 1, rfl, by omega, by simp [e0], by simp [e1], by simp [e2], by simp [e3], by simp, by simpa [genN, hf, -bytesOf_app] using hO2, fun r hr => by rw [hfr2 r hr]; exact hkk r hr, by omega⟩
    · have hil : i = line.length := by omega
      subst hil
      have := hO.sl.toStr
      simp (config := {contextual := true, implicitDefEqProofs := false}) (disch := omega) [hw, this, unfP, h, pairV]
end Go.Proofs.YtalbjkemcckokaaGreat.Ab

/- The reference's checksum; beginnings of texts. Conditions: as each says; for the statements about layer 48. -/
import Derived.Test.YtalbjkemcckokaaGreatPn
namespace Go.Proofs.YtalbjkemcckokaaGreat.Ab
set_option linter.unusedVariables false
set_option linter.unusedSimpArgs false
set_option maxRecDepth 100000

section
variable {s : List UInt8} {H : AHeap} {fp : Nat → Prop}
def fourB (n : Nat) : List UInt8 := [UInt8.ofNat (n / 16777216 % 256), UInt8.ofNat (n / 65536 % 256), UInt8.ofNat (n / 256 % 256), UInt8.ofNat (n % 256)]
theorem four_ok {n : Nat} (h : n < 4294967296) : ACall Tryz.prog 35 [.int .i64 n] H fp fun v H' => v = .str (fourB n) ∧ H' = H := by
  refine ((ACall.drop (fp := fp) (R := fun v _ => v = .str (fourB n)) (?_) fun v H' e => by rw [e]; rfl)).mono fun v H' q => ⟨by obtain ⟨_, _, h, _⟩ := q; exact h, q.1⟩
  refine acall_of hmix Tryz.func35 x35_ok (by simp) ?_
  have hq : ∀ a : Nat, 0 < a → abin .quo (.int .i64 (n : Int)) (.int .i64 (a : Int)) = some (.int .i64 ((n / a : Nat) : Int)) := fun a ha => by
    have e : ((n : Int)).tdiv a = ((n / a : Nat) : Int) := by rw [Int.tdiv_eq_ediv_of_nonneg (by omega)]; simp
    have hle : n / a ≤ n := Nat.div_le_self n a
    rw [abin_quo (by omega), e]
    generalize n / a = m at hle
    rw [i64_id (by omega) (by omega)]
  have hr : ∀ a : Nat, abin .rem (.int .i64 (a : Int)) (.int .i64 256) = some (.int .i64 ((a % 256 : Nat) : Int)) := fun a => by
    rw [abin_rem (by omega), Int.tmod_eq_emod_of_nonneg (by omega)]; simp
  have q1 : abin .quo (.int .i64 (n : Int)) (.int .i64 16777216) = some (.int .i64 ((n / 16777216 : Nat) : Int)) := hq 16777216 (by omega)
  have q2 : abin .quo (.int .i64 (n : Int)) (.int .i64 65536) = some (.int .i64 ((n / 65536 : Nat) : Int)) := hq 65536 (by omega)
  have q3 : abin .quo (.int .i64 (n : Int)) (.int .i64 256) = some (.int .i64 ((n / 256 : Nat) : Int)) := hq 256 (by omega)
  have hu : ∀ a : Nat, IntKind.u8.wrap ((a % 256 : Nat) : Int) = ((UInt8.ofNat (a % 256)).toNat : Int) := fun a => by
    have : (UInt8.ofNat (a % 256)).toNat = a % 256 := by simp
    rw [this, IntWalk.u8_in _ (by omega)]
  have hcv : vConvBS (H ++ [.cells 0 false 5 [.int .u8 ((UInt8.ofNat (n / 16777216 % 256)).toNat : Int), .int .u8 ((UInt8.ofNat (n / 65536 % 256)).toNat : Int), .int .u8 ((UInt8.ofNat (n / 256 % 256)).toNat : Int), .int .u8 ((UInt8.ofNat (n % 256)).toNat : Int)]]) (.slice H.length 0 0 4 1) = some (.str (fourB n)) := by
    have : Sl (H ++ [.cells 0 false 5 (bytesOf (fourB n))]) (.slice H.length 0 0 4 1) (bytesOf (fourB n)) := .inr (.inr ⟨H.length, 0, 0, rfl, by simp [aloads, fourB]; rfl⟩)
    exact this.toStr
  simp (config := {contextual := true, implicitDefEqProofs := false}) (disch := omega) [q1, q2, q3, hr, hu, afill, zrep, hcv, -Int.natCast_emod, -Int.natCast_ediv, -UInt8.toNat_ofNat']

def inv36 (H : AHeap) (s : List UInt8) (n : Nat) (env : Env) (H' : AHeap) : Prop :=
  ∃ (i c : Nat), n = s.length - i ∧ i ≤ s.length ∧ c < 4294967296 ∧ H' = H ∧ crcN s 4294967295 = crcN (s.drop i) c ∧ env 0 = .str s ∧ env 3 = .int .u32 c ∧ env 4 = .int .i64 i
def inv36b (H : AHeap) (s : List UInt8) (i c0 : Nat) (n : Nat) (env : Env) (H' : AHeap) : Prop :=
  ∃ (k c : Nat), n = 8 - k ∧ k ≤ 8 ∧ c < 4294967296 ∧ crcK 8 c0 = crcK (8 - k) c ∧ H' = H ∧ env 0 = .str s ∧ env 3 = .int .u32 c ∧ env 4 = .int .i64 i ∧ env 5 = .int .i64 k
theorem rCrc_ok (hs : s.length ≤ 2 ^ 60) : ACall Tryz.prog 36 [.str s] H fp fun v H' => v = .int .u32 (crcG s) ∧ H' = H := by
  refine acall_of hmix Tryz.func36 x36_ok (by simp) ?_
  simp
  refine vc_loop (inv36 H s) s.length ?_ ?_
  · exact ⟨0, 4294967295, rfl, by omega, by omega, rfl, rfl, by simp, by simp, by simp⟩
  · rintro n env H' ⟨i, c, rfl, hi, hc, rfl, he, e0, e3, e4⟩
    simp (config := {contextual := true, implicitDefEqProofs := false}) (disch := omega) [e0, e3, e4]
    refine ⟨fun h1 => ?_, fun h1 => ?_⟩
    · obtain ⟨b, hb2⟩ : ∃ b, chr s i = b := ⟨_, rfl⟩
      have hbl := UInt8.toNat_lt b
      have hidx : vIdxStr (.str s) (.int .i64 (i : Int)) = some (.int .u8 (b.toNat : Int)) := by rw [vIdxStr_nat h1, hb2]
      have hw : IntKind.u32.wrap (b.toNat : Int) = ((b.toNat : Nat) : Int) := u32_nat (by omega)
      have hx := xor32 (a := c) (b := b.toNat) hc (by omega)
      have hcb := xor_lt32 hc (b := b.toNat) (by omega)
      simp (config := {contextual := true, implicitDefEqProofs := false}) (disch := omega) [e0, e3, e4, hidx, hw, hx, -abin_xor]
      refine vc_loop_cut 2 (inv36b H' s i (c ^^^ b.toNat) 0) (inv36b H' s i (c ^^^ b.toNat)) 8 ?_ ?_ ?_
      · exact ⟨0, _, rfl, by omega, hcb, rfl, rfl, by simp [e0], by simp, by simp [e4], by simp⟩
      · rintro n env2 H2 ⟨k, d, rfl, hk, hd1, hd2, rfl, f0, f3, f4, f5⟩
        have hx2 : abin .xor (.int .u32 ((d / 2 : Nat) : Int)) (.int .u32 3988292384) = some (.int .u32 ((d / 2 ^^^ 3988292384 : Nat) : Int)) := xor32 (a := d / 2) (b := 3988292384) (by omega) (by omega)
        simp (config := {contextual := true, implicitDefEqProofs := false}) (disch := omega) [f0, f3, f4, f5, and1 hd1, shr32a, hx2, i64_id, -abin_xor, -Int.natCast_ediv, -Int.natCast_emod]
        refine ⟨fun g1 => ?_, fun g1 => ?_⟩
        · have hs2 : crcK (8 - k) d = crcK (8 - (k + 1)) (crc1 d) := by rw [show 8 - k = (8 - (k + 1)) + 1 by omega, crcK]
          rw [hs2] at hd2
          refine ⟨fun g2 => ?_, fun g2 => ?_⟩
          · have e : crc1 d = d / 2 ^^^ 3988292384 := by unfold crc1; rw [if_pos (by omega)]
            rw [e] at hd2
            exact again_iff (8 - (k + 1)) (by omega) ⟨k + 1, _, rfl, by omega, by rw [← e]; exact crc1_lt hd1, hd2, rfl, by simp [f0], by simp, by simp [f4], by simp⟩
          · have e : crc1 d = d / 2 := by unfold crc1; rw [if_neg (by omega)]
            rw [e] at hd2
            exact again_iff (8 - (k + 1)) (by omega) ⟨k + 1, _, rfl, by omega, by omega, hd2, rfl, by simp [f0], by simp, by simp [f4], by simp⟩
        · have : k = 8 := by omega
          subst this
          exact ⟨8, d, rfl, by omega, hd1, hd2, rfl, by simp [f0], by simp [f3], by simp [f4], by simp [f5]⟩
      · rintro env2 H2 ⟨k, d, hk0, hk, hd1, hd2, rfl, f0, f3, f4, f5⟩
        have hk8 : k = 8 := by omega
        subst hk8
        simp (config := {contextual := true, implicitDefEqProofs := false}) (disch := omega) [f0, f3, f4, f5, i64_id]
        have hd : s.drop i = b :: s.drop (i + 1) := by rw [← hb2, chr, List.getD_eq_getElem?_getD, List.getElem?_eq_getElem h1]; exact List.drop_eq_getElem_cons h1
        have hd3 : crcK 8 (c ^^^ b.toNat) = d := by rw [hd2]; rfl
        rw [hd, crcN, hd3] at he
        exact again_iff (s.length - (i + 1)) (by omega) ⟨i + 1, d, rfl, by omega, hd1, rfl, he, by simp [f0], by simp [f3], by simp⟩
    · have : s.drop i = [] := List.drop_eq_nil_of_le (by omega)
      rw [this, crcN] at he
      simp (config := {contextual := true, implicitDefEqProofs := false}) (disch := omega) [e3, not32 hc, crcG, he]

theorem hasPrefix_ok (p : List UInt8) : ACall Tryz.prog 107 [.str s, .str p] H fp fun v H' => v = .bool (decide (s.take p.length = p)) ∧ H' = H := by
  refine acall_of hmix Tryz.func107 x107_ok (by simp) ?_
  simp (config := {contextual := true, implicitDefEqProofs := false}) (disch := omega)
  refine ⟨fun h => ?_, fun h => ?_⟩
  · rw [vSlStr_hi (by omega) (by omega), Int.toNat_natCast]
    simp (config := {contextual := true, implicitDefEqProofs := false}) (disch := omega)
  · intro e
    have := congrArg List.length e
    simp at this; omega
end
end Go.Proofs.YtalbjkemcckokaaGreat.Ab

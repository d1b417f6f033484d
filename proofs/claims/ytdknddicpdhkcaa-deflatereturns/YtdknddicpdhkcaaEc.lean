/- Deflate: the shorter form, and the zlib stream. Conditions: none; for the statements about layer 47. -/
import Derived.Test.YtdknddicpdhkcaaEb
import Derived.Test.YtdknddicpdhkcaaM1
import Derived.Test.YtdknddicpdhkcaaXc
namespace Go.Proofs.Ytdknddicpdhkcaa.Ab
set_option linter.unusedVariables false
set_option linter.unusedSimpArgs false

def bestB (s : List UInt8) : List UInt8 := if (pack (fixB s)).length < (storedB s).length then pack (fixB s) else storedB s
def beB (n : Nat) : List UInt8 := [UInt8.ofNat (n / 16777216), UInt8.ofNat (n / 65536), UInt8.ofNat (n / 256), UInt8.ofNat n]
def zlibB (s : List UInt8) : List UInt8 := [120, 1] ++ bestB s ++ beB (adlerN s)
theorem be_cells (n : Nat) : [.int .u8 ((n / 16777216 % 256 : Nat) : Int), .int .u8 ((n / 65536 % 256 : Nat) : Int), .int .u8 ((n / 256 % 256 : Nat) : Int), .int .u8 ((n % 256 : Nat) : Int)] = bytesOf (beB n) := by
  simp [bytesOf, beB]
theorem bestB_len (s : List UInt8) : (bestB s).length ≤ s.length + 5 * (s.length / 65535 + 1) := by
  have := storedB_len s
  unfold bestB; split <;> omega
theorem shr32 (n k : Nat) (hk : k ≤ 31) : abin .shr (.int .u32 (n : Int)) (.int .u64 (k : Int)) = some (.int .u32 ((n / 2 ^ k : Nat) : Int)) := by
  rw [abin_shr (by omega)]
  simp only [bits_u32, Int.toNat_natCast, show min k 32 = k by omega, fdiv_nat]
theorem shr32a (n : Nat) : abin .shr (.int .u32 (n : Int)) (.int .u64 24) = some (.int .u32 ((n / 16777216 : Nat) : Int)) := shr32 n 24 (by omega)
theorem shr32b (n : Nat) : abin .shr (.int .u32 (n : Int)) (.int .u64 16) = some (.int .u32 ((n / 65536 : Nat) : Int)) := shr32 n 16 (by omega)
theorem shr32c (n : Nat) : abin .shr (.int .u32 (n : Int)) (.int .u64 8) = some (.int .u32 ((n / 256 : Nat) : Int)) := shr32 n 8 (by omega)

section
variable {s : List UInt8} {H : AHeap} {fp : Nat → Prop}

def inv42 (H : AHeap) (s : List UInt8) (n : Nat) (env : Env) (H' : AHeap) : Prop :=
  ∃ i a b, i ≤ s.length ∧ n = s.length - i ∧ H' = H ∧ env 0 = .str s ∧ env 5 = .int .i64 i ∧ env 3 = .int .u32 (a : Nat) ∧ env 4 = .int .u32 (b : Nat) ∧ a < 65521 ∧ b < 65521 ∧ adlG s 1 0 = adlG (s.drop i) a b

theorem radler_ok (hs : s.length ≤ 2 ^ 50) : ACall Try.prog 42 [.str s] H fp fun v H' => v = .int .u32 (adlerN s) ∧ H' = H := by
  refine acall_of hmix Try.func42 x42_ok (by simp) ?_
  simp
  refine vc_loop (inv42 H s) s.length ⟨0, 1, 0, by omega, by omega, rfl, by simp, by simp, by simp, by simp, by omega, by omega, rfl⟩ ?_
  rintro n env H1 ⟨i, a, b, hi, rfl, rfl, e0, e5, e3, e4, ha, hb, hadl⟩
  by_cases hlt : i < s.length
  · have hc := UInt8.toNat_lt (chr s i)
    have hd : s.drop i = chr s i :: s.drop (i + 1) := by
      rw [List.drop_eq_getElem_cons hlt]; simp [chr, List.getD_eq_getElem?_getD, hlt]
    rw [hd, adlG] at hadl
    have a1 : IntKind.u32.wrap ((chr s i).toNat : Int) = ((chr s i).toNat : Int) := u32_nat (by omega)
    have a2 : abin .add (.int .u32 (a : Int)) (.int .u32 ((chr s i).toNat : Int)) = some (.int .u32 ((a + (chr s i).toNat : Nat) : Int)) := by
      rw [abin_add, ← Int.natCast_add, u32_nat (by omega)]
    have a3 : ∀ x : Nat, abin .rem (.int .u32 (x : Int)) (.int .u32 65521) = some (.int .u32 ((x % 65521 : Nat) : Int)) := by
      intro x; rw [abin_rem (by omega), Int.tmod_eq_emod_of_nonneg (by omega)]; rfl
    have a4 : ∀ y : Nat, y < 65521 → abin .add (.int .u32 (b : Int)) (.int .u32 (y : Int)) = some (.int .u32 ((b + y : Nat) : Int)) := by
      intro y hy; rw [abin_add, ← Int.natCast_add, u32_nat (by omega)]
    have hm := Nat.mod_lt (a + (chr s i).toNat) (show 0 < 65521 by omega)
    have a5 : abin .add (.int .i64 (i : Int)) (.int .i64 1) = some (.int .i64 ((i + 1 : Nat) : Int)) := by rw [abin_add, i64_id (by omega) (by omega)]; rfl
    simp (config := {contextual := true, implicitDefEqProofs := false}) (disch := omega) [e0, e5, e3, e4, hlt, vIdxStr_nat, a1, a2, a3, a4, i64_id, -abin_add, -Int.natCast_add, -Int.natCast_emod]
    simp (config := {contextual := true, implicitDefEqProofs := false}) (disch := omega) [e5, a5, -abin_add, -Int.natCast_add, -Int.natCast_emod]
    exact again_iff (s.length - (i + 1)) (by omega) ⟨i + 1, _, _, hlt, rfl, rfl, by simp [e0], by simp, by simp, by simp, hm, Nat.mod_lt _ (by omega), hadl⟩
  · have hi2 : i = s.length := by omega
    rw [hi2, List.drop_length, adlG] at hadl
    have a1 : abin .mul (.int .u32 (b : Int)) (.int .u32 65536) = some (.int .u32 ((b * 65536 : Nat) : Int)) := by
      rw [abin_mul, show (b : Int) * 65536 = ((b * 65536 : Nat) : Int) by simp, u32_nat (by omega)]
    have a2 : abin .add (.int .u32 ((b * 65536 : Nat) : Int)) (.int .u32 (a : Int)) = some (.int .u32 ((b * 65536 + a : Nat) : Int)) := by
      rw [abin_add, ← Int.natCast_add, u32_nat (by omega)]
    have hN : adlerN s = b * 65536 + a := by rw [adlerN, hadl]
    simp (config := {contextual := true, implicitDefEqProofs := false}) (disch := omega) [e0, e5, e3, e4, hlt, a1, a2, hN, -abin_add, -abin_mul, -Int.natCast_add, -Int.natCast_mul]

theorem best40_ok (hs : s.length ≤ 1048576) : ACall Try.prog 40 [.str s] H (fun _ => False) fun v H' => Sl H' v (bytesOf (bestB s)) := by
  refine acall_of hmix Try.func40 x40_ok (by simp) ?_
  simp (config := {contextual := true, implicitDefEqProofs := false}) (disch := omega)
  refine call1_of (fixed32_raw hs) (fun r h => h.elim) ?_
  intro v H2 hv hl2 hf2
  simp (config := {contextual := true, implicitDefEqProofs := false}) (disch := omega)
  refine call1_of (fp := fun _ => False) (stored53_ok (by omega)) (fun r h => h.elim) ?_
  intro u H3 hu hl3 hf3
  have hv3 : Sl H3 v (bytesOf (pack (fixB s))) := hv.keep fun k hk => hf3 k hk (by simp)
  have n1 := hv3.len
  have n2 := hu.sl.len
  rw [bytesOf_len] at n1 n2
  unfold bestB
  by_cases c : (pack (fixB s)).length < (storedB s).length
  · simp (config := {contextual := true, implicitDefEqProofs := false}) (disch := omega) [n1, n2, c]
    exact hv3
  · simp (config := {contextual := true, implicitDefEqProofs := false}) (disch := omega) [n1, n2, c]
    exact hu.sl

theorem Best_ok (hs : s.length ≤ 1048576) : ACall Try.prog 20 [.str s] H fp fun v H' => v = .str (bestB s) ∧ H' = H := by
  refine (ACall.drop (R := fun v' _ => v' = .str (bestB s)) ?_ (by rintro v' H' rfl; rfl)).mono fun v' H' q => ⟨q.2.elim fun _ q => q.1, q.1⟩
  refine acall_of hmix Try.func20 x20_ok (by simp) ?_
  simp (config := {contextual := true, implicitDefEqProofs := false}) (disch := omega)
  refine call1_eq (input33_ok hs) ?_
  simp (config := {contextual := true, implicitDefEqProofs := false}) (disch := omega)
  refine call1_of (best40_ok hs) (fun r h => h.elim) ?_
  intro v H2 hv hl hf
  simp (config := {contextual := true, implicitDefEqProofs := false}) (disch := omega) [hv.toStr]

theorem rBest_ok (hs : s.length ≤ 1048576) : ACall Try.prog 21 [.str s] H fp fun v H' => v = .str (bestB s) ∧ H' = H := by
  refine acall_of hmix Try.func21 x21_ok (by simp) ?_
  simp (config := {contextual := true, implicitDefEqProofs := false}) (disch := omega)
  refine call1_eq (rfixed_ok hs) ?_
  simp (config := {contextual := true, implicitDefEqProofs := false}) (disch := omega)
  refine call1_eq (rstored_ok hs) ?_
  unfold bestB
  by_cases c : (pack (fixB s)).length < (storedB s).length
  · simp (config := {contextual := true, implicitDefEqProofs := false}) (disch := omega) [c]
  · simp (config := {contextual := true, implicitDefEqProofs := false}) (disch := omega) [c]

theorem Zlib_ok (hs : s.length ≤ 1048576) : ACall Try.prog 22 [.str s] H fp fun v H' => v = .str (zlibB s) ∧ H' = H := by
  refine (ACall.drop (R := fun v' _ => v' = .str (zlibB s)) ?_ (by rintro v' H' rfl; rfl)).mono fun v' H' q => ⟨q.2.elim fun _ q => q.1, q.1⟩
  refine acall_of hmix Try.func22 x22_ok (by simp) ?_
  simp (config := {contextual := true, implicitDefEqProofs := false}) (disch := omega)
  refine call1_eq (input33_ok hs) ?_
  simp (config := {contextual := true, implicitDefEqProofs := false}) (disch := omega)
  refine call1_eq (adler_ok (by omega)) ?_
  simp (config := {contextual := true, implicitDefEqProofs := false}) (disch := omega) [afill, zrep]
  refine call1_of (best40_ok hs) (fun r h => h.elim) ?_
  intro v H2 hv hl2 hf2
  have hbl := bestB_len s
  have o1 : Own H.length (H ++ [.cells 0 false 5 (bytesOf [120, 1])]) 5 (.slice H.length 0 0 2 1) (bytesOf [120, 1]) := .inr ⟨H.length, 0, Nat.le_refl _, rfl, by simp⟩
  have o2 : Own H.length H2 5 (.slice H.length 0 0 2 1) (bytesOf [120, 1]) := o1.keep fun k _ hk => hf2 k hk (by simp)
  rw [List.length_append] at hl2
  obtain ⟨w3, H3, ha3, hw3, hl3, _⟩ := o2.append (x := v) (bytes := 1) (by omega) hv.src (by simp) (by simp) (by simp [roomLim]; omega)
  rw [← bytesOf_app] at hw3
  have o4 := hw3.app [.cells 0 false 5 (bytesOf (beB (adlerN s)))]
  obtain ⟨w4, H4, ha4, hw4, hl4, _⟩ := o4.append (x := .slice H3.length 0 0 4 1) (new := bytesOf (beB (adlerN s))) (n := 4) (bytes := 1) (by rw [List.length_append]; omega) (by simp [asrc, beB]; rfl) (by simp [beB]) (by simp) (by simp [roomLim]; omega)
  rw [← bytesOf_app] at hw4
  have hk := be_cells (adlerN s)
  have hst := hw4.sl.toStr
  simp (config := {contextual := true, implicitDefEqProofs := false}) (disch := omega)
  refine e1_of ha3 ?_ ?_
  · intro r ht
    exact o2.target (by simpa using ht)
  simp (config := {contextual := true, implicitDefEqProofs := false}) (disch := omega) [shr32a, shr32b, shr32c, u8_wrap, afill, zrep, -Int.natCast_ediv, -Int.natCast_emod]
  rw [hk]
  refine e1_of ha4 ?_ ?_
  · intro r ht
    exact o4.target (by simpa using ht)
  simp (config := {contextual := true, implicitDefEqProofs := false}) (disch := omega) [hst, zlibB]

theorem rZlib_ok (hs : s.length ≤ 1048576) : ACall Try.prog 23 [.str s] H fp fun v H' => v = .str (zlibB s) ∧ H' = H := by
  refine (ACall.drop (R := fun v' _ => v' = .str (zlibB s)) ?_ (by rintro v' H' rfl; rfl)).mono fun v' H' q => ⟨q.2.elim fun _ q => q.1, q.1⟩
  refine acall_of hmix Try.func23 x23_ok (by simp) ?_
  simp (config := {contextual := true, implicitDefEqProofs := false}) (disch := omega)
  refine call1_eq (input34_ok hs) ?_
  simp (config := {contextual := true, implicitDefEqProofs := false}) (disch := omega)
  refine call1_eq (radler_ok (by omega)) ?_
  have hbl := bestB_len s
  have l1 : abin .add (.str [120, 1]) (.str (bestB s)) = some (.str (120 :: 1 :: bestB s)) := abin_sadd (by simp; omega)
  have l2 : abin .add (.str (120 :: 1 :: bestB s)) (.str (beB (adlerN s))) = some (.str (120 :: 1 :: (bestB s ++ beB (adlerN s)))) := abin_sadd (by simp [beB]; omega)
  have hbe : (beB (adlerN s)).length = 4 := rfl
  have hk := be_cells (adlerN s)
  have hst : vConvBS (H ++ [.cells 0 false 5 (bytesOf (beB (adlerN s)))]) (.slice H.length 0 0 4 1) = some (.str (beB (adlerN s))) := Sl.toStr (.inr (.inr ⟨H.length, 0, 0, by simp [beB], by simp [beB]; rfl⟩))
  simp (config := {contextual := true, implicitDefEqProofs := false}) (disch := omega) [shr32a, shr32b, shr32c, u8_wrap, afill, zrep, -Int.natCast_ediv, -Int.natCast_emod]
  refine ⟨?_, ?_⟩
  · refine tcall1_eq (rBest_ok hs) ?_
    simp (config := {contextual := true, implicitDefEqProofs := false}) (disch := omega) [afill, zrep, -Int.natCast_ediv, -Int.natCast_emod, hk, hst, l1, l2, hbe, zlibB]
  · rw [hk]
    simp (config := {contextual := true, implicitDefEqProofs := false}) (disch := omega) [hst]
    refine tcall1_eq (rBest_ok hs) ?_
    simp (config := {contextual := true, implicitDefEqProofs := false}) (disch := omega) [l1, l2, zlibB]
end
end Go.Proofs.Ytdknddicpdhkcaa.Ab

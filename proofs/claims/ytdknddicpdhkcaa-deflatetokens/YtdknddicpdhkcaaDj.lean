/- The law DeflateTokens over the abstract layer. Conditions: none; for the statements about layer 47. -/
import Derived.Test.YtdknddicpdhkcaaDi
import Derived.Test.YtdknddicpdhkcaaDh
namespace Go.Proofs.Ytdknddicpdhkcaa.Ab
set_option linter.unusedVariables false
set_option linter.unusedSimpArgs false

section
variable {S : List UInt8} {a p : Nat} {H : AHeap} {fp : Nat → Prop}
def tkB (S : List UInt8) (a : Nat) : ABlk := .cells 0 false 27 [.str S, .int .i64 a]

theorem take_ok (hp : H[p]? = some (tkB S a)) (hS : S.length ≤ 2 ^ 40) (ha : a ≤ 2 ^ 45) : ACall Try.prog 38 [.ptr p 0 0] H (fun r => r = p) fun v H' => v = .int .i64 (bitAt S a : Nat) ∧ H' = H.set p (tkB S (a + 1)) := by
  refine acall_of hmix Try.func38 x38_ok (by simp) ?_
  have g1 := ageOk_at hp
  have l0 : aload H p 0 0 = some (.str S) := by rw [aload_at hp]; rfl
  have l1 : aload H p 0 1 = some (.int .i64 a) := by rw [aload_at hp]; rfl
  have s1 : astore H p 0 1 (.int .i64 ((a + 1 : Nat) : Int)) = some (H.set p (tkB S (a + 1))) := by rw [astore_at hp]; simp [tkB]
  have q1 : abin .quo (.int .i64 (a : Int)) (.int .i64 8) = some (.int .i64 ((a / 8 : Nat) : Int)) := by
    rw [abin_quo (by omega), Int.tdiv_eq_ediv_of_nonneg (by omega), i64_id (by omega) (by omega)]; rfl
  have q2 : abin .rem (.int .i64 (a : Int)) (.int .i64 8) = some (.int .i64 ((a % 8 : Nat) : Int)) := by rw [abin_rem (by omega), Int.tmod_eq_emod_of_nonneg (by omega)]; rfl
  have a1 : abin .add (.int .i64 (a : Int)) (.int .i64 1) = some (.int .i64 ((a + 1 : Nat) : Int)) := addN (b := 1) (by omega)
  by_cases c : a / 8 < S.length
  · have hc := UInt8.toNat_lt (chr S (a / 8))
    have i1 := vIdxStr_nat (s := S) (k := .i64) (n := a / 8) c
    have w1 : IntKind.i64.wrap ((chr S (a / 8)).toNat : Int) = ((chr S (a / 8)).toNat : Int) := i64_nat (by omega)
    have s2 := shr_nat (x := (chr S (a / 8)).toNat) (i := a % 8) (by omega)
    have hdl := Nat.div_le_self (chr S (a / 8)).toNat (2 ^ (a % 8))
    have n1 := and1_i64 (x := (chr S (a / 8)).toNat / 2 ^ (a % 8)) (by omega)
    have hb : (chr S (a / 8)).toNat / 2 ^ (a % 8) % 2 = bitAt S a := rfl
    rw [hb] at n1
    simp (config := {contextual := true, implicitDefEqProofs := false}) (disch := omega) [g1, l0, l1, q1, q2, show ((a / 8 : Nat) : Int) < S.length by omega, c, i1, w1, s2, n1, a1, s1, -abin_add, -abin_and, -Int.natCast_add, -Int.natCast_ediv, -Int.natCast_emod]
  · have hb : bitAt S a = 0 := by unfold bitAt; rw [chr_out (by omega)]; simp
    simp (config := {contextual := true, implicitDefEqProofs := false}) (disch := omega) [g1, l0, l1, q1, show ¬ ((a / 8 : Nat) : Int) < S.length by omega, c, a1, s1, hb, -abin_add, -Int.natCast_add, -Int.natCast_ediv]

def inv14 (H : AHeap) (p : Nat) (S : List UInt8) (a N : Nat) (n : Nat) (env : Env) (H' : AHeap) : Prop :=
  ∃ i, i ≤ N ∧ n = N - i ∧ H' = H.set p (tkB S (a + i)) ∧ env 0 = .ptr p 0 0 ∧ env 1 = .int .i64 N ∧ env 5 = .int .i64 (bitsV S a i) ∧ env 6 = .int .i64 i
theorem num14_ok (hp : H[p]? = some (tkB S a)) (hS : S.length ≤ 2 ^ 40) (ha : a ≤ 2 ^ 44) {N : Nat} (hN : N ≤ 30) : ACall Try.prog 14 [.ptr p 0 0, .int .i64 N] H (fun r => r = p) fun v H' => v = .int .i64 (bitsV S a N : Nat) ∧ H' = H.set p (tkB S (a + N)) := by
  refine acall_of hmix Try.func14 x14_ok (by simp) ?_
  have hpl := (List.getElem?_eq_some_iff.1 hp).1
  simp
  refine vc_loop (inv14 H p S a N) N ⟨0, by omega, by omega, by simp [set_same hp], by simp, by simp, by simp [bitsV], by simp⟩ ?_
  rintro n env H1 ⟨i, hi, rfl, rfl, e0, e1', e5, e6⟩
  have hp1 : (H.set p (tkB S (a + i)))[p]? = some (tkB S (a + i)) := List.getElem?_set_self hpl
  by_cases hlt : i < N
  · have hv := bitsV_lt S a i
    have hv2 : (2 : Nat) ^ i < 2 ^ 30 := Nat.pow_lt_pow_right (by omega) (by omega)
    have hb := bitAt_le S (a + i)
    have h3 : bitAt S (a + i) * 2 ^ i ≤ 1 * 2 ^ i := Nat.mul_le_mul_right _ hb
    have a5 : abin .shl (.int .i64 ((bitAt S (a + i) : Nat) : Int)) (.int .i64 (i : Int)) = some (.int .i64 ((bitAt S (a + i) * 2 ^ i : Nat) : Int)) := by
      rw [abin_shl (by omega)]
      simp only [bits_i64, Int.toNat_natCast, show min i 64 = i by omega]
      rw [show ((bitAt S (a + i) : Nat) : Int) * 2 ^ i = ((bitAt S (a + i) * 2 ^ i : Nat) : Int) by simp, i64_nat (by omega)]
    have a6 : abin .add (.int .i64 ((bitsV S a i : Nat) : Int)) (.int .i64 ((bitAt S (a + i) * 2 ^ i : Nat) : Int)) = some (.int .i64 ((bitsV S a (i + 1) : Nat) : Int)) := addN (by omega)
    have a7 : abin .add (.int .i64 (i : Int)) (.int .i64 1) = some (.int .i64 ((i + 1 : Nat) : Int)) := addN (b := 1) (by omega)
    simp (config := {contextual := true, implicitDefEqProofs := false}) (disch := omega) [e0, e1', e5, e6, hlt]
    refine call1_eq ((take_ok hp1 hS (by omega)).use (fun r h => Or.inl (Or.inl h)) fun v H' q _ _ => q) ?_
    rw [List.set_set]
    simp (config := {contextual := true, implicitDefEqProofs := false}) (disch := omega) [e0, e1', e5, e6, a5, a6, a7, -abin_add, -Int.natCast_add, -Int.natCast_mul, -Int.natCast_pow]
    exact again_iff (N - (i + 1)) (by omega) ⟨i + 1, hlt, rfl, rfl, by simp [e0], by simp [e1'], by simp, by simp⟩
  · have : i = N := by omega
    subst this
    simp (config := {contextual := true, implicitDefEqProofs := false}) (disch := omega) [e0, e1', e5, e6]

def inv19 (H : AHeap) (p : Nat) (S : List UInt8) (a N : Nat) (n : Nat) (env : Env) (H' : AHeap) : Prop :=
  ∃ i, i ≤ N ∧ n = N - i ∧ H' = H.set p (tkB S (a + i)) ∧ env 0 = .ptr p 0 0 ∧ env 1 = .int .i64 N ∧ env 5 = .int .i64 (codeV S a i) ∧ env 6 = .int .i64 i
theorem code19_ok (hp : H[p]? = some (tkB S a)) (hS : S.length ≤ 2 ^ 40) (ha : a ≤ 2 ^ 44) {N : Nat} (hN : N ≤ 30) : ACall Try.prog 19 [.ptr p 0 0, .int .i64 N] H (fun r => r = p) fun v H' => v = .int .i64 (codeV S a N : Nat) ∧ H' = H.set p (tkB S (a + N)) := by
  refine acall_of hmix Try.func19 x19_ok (by simp) ?_
  have hpl := (List.getElem?_eq_some_iff.1 hp).1
  simp
  refine vc_loop (inv19 H p S a N) N ⟨0, by omega, by omega, by simp [set_same hp], by simp, by simp, by simp [codeV], by simp⟩ ?_
  rintro n env H1 ⟨i, hi, rfl, rfl, e0, e1', e5, e6⟩
  have hp1 : (H.set p (tkB S (a + i)))[p]? = some (tkB S (a + i)) := List.getElem?_set_self hpl
  by_cases hlt : i < N
  · have hv := codeV_lt S a i
    have hv2 : (2 : Nat) ^ i < 2 ^ 30 := Nat.pow_lt_pow_right (by omega) (by omega)
    have hb := bitAt_le S (a + i)
    have a5 : abin .mul (.int .i64 2) (.int .i64 ((codeV S a i : Nat) : Int)) = some (.int .i64 ((2 * codeV S a i : Nat) : Int)) := by rw [abin_mul, i64_id (by omega) (by omega)]; rfl
    have a6 : abin .add (.int .i64 ((2 * codeV S a i : Nat) : Int)) (.int .i64 ((bitAt S (a + i) : Nat) : Int)) = some (.int .i64 ((codeV S a (i + 1) : Nat) : Int)) := addN (by omega)
    have a7 : abin .add (.int .i64 (i : Int)) (.int .i64 1) = some (.int .i64 ((i + 1 : Nat) : Int)) := addN (b := 1) (by omega)
    simp (config := {contextual := true, implicitDefEqProofs := false}) (disch := omega) [e0, e1', e5, e6, hlt, a5, -abin_mul, -Int.natCast_mul]
    refine call1_eq ((take_ok hp1 hS (by omega)).use (fun r h => Or.inl (Or.inl h)) fun v H' q _ _ => q) ?_
    rw [List.set_set]
    simp (config := {contextual := true, implicitDefEqProofs := false}) (disch := omega) [e0, e1', e5, e6, a6, a7, -abin_add, -Int.natCast_add, -Int.natCast_mul]
    exact again_iff (N - (i + 1)) (by omega) ⟨i + 1, hlt, rfl, rfl, by simp [e0], by simp [e1'], by simp, by simp⟩
  · have : i = N := by omega
    subst this
    simp (config := {contextual := true, implicitDefEqProofs := false}) (disch := omega) [e0, e1', e5, e6]

theorem sym16_ok (hp : H[p]? = some (tkB S a)) (hS : S.length ≤ 2 ^ 40) (ha : a ≤ 2 ^ 43) : ACall Try.prog 16 [.ptr p 0 0] H (fun r => r = p) fun v H' => v = .int .i64 (symV S a).1 ∧ H' = H.set p (tkB S (a + (symV S a).2)) := by
  refine acall_of hmix Try.func16 x16_ok (by simp) ?_
  have hpl := (List.getElem?_eq_some_iff.1 hp).1
  have hp1 : ∀ x, (H.set p (tkB S x))[p]? = some (tkB S x) := fun x => List.getElem?_set_self hpl
  have k7 := codeV_lt S a 7
  have k8 := codeV_lt S a 8
  have k9 := codeV_lt S a 9
  have b7 := bitAt_le S (a + 7)
  have b8 := bitAt_le S (a + 8)
  have d8 : codeV S a 8 = 2 * codeV S a 7 + bitAt S (a + 7) := rfl
  have d9 : codeV S a 9 = 2 * codeV S a 8 + bitAt S (a + 8) := rfl
  have m7 : abin .mul (.int .i64 2) (.int .i64 ((codeV S a 7 : Nat) : Int)) = some (.int .i64 ((2 * codeV S a 7 : Nat) : Int)) := by rw [abin_mul, i64_id (by omega) (by omega)]; rfl
  have s7 : abin .add (.int .i64 ((2 * codeV S a 7 : Nat) : Int)) (.int .i64 ((bitAt S (a + 7) : Nat) : Int)) = some (.int .i64 ((codeV S a 8 : Nat) : Int)) := addN (by omega)
  have m8 : abin .mul (.int .i64 2) (.int .i64 ((codeV S a 8 : Nat) : Int)) = some (.int .i64 ((2 * codeV S a 8 : Nat) : Int)) := by rw [abin_mul, i64_id (by omega) (by omega)]; rfl
  have s8 : abin .add (.int .i64 ((2 * codeV S a 8 : Nat) : Int)) (.int .i64 ((bitAt S (a + 8) : Nat) : Int)) = some (.int .i64 ((codeV S a 9 : Nat) : Int)) := addN (by omega)
  unfold symV
  simp
  refine call1_eq ((code19_ok hp hS (by omega) (N := 7) (by omega)).use (fun r h => Or.inl (Or.inl h)) fun v H' q _ _ => q) ?_
  clear d8 d9
  generalize codeV S a 7 = c7 at *
  generalize codeV S a 8 = c8 at *
  generalize codeV S a 9 = c9 at *
  by_cases c1 : c7 < 24
  · simp (config := {contextual := true, implicitDefEqProofs := false}) (disch := omega) [show (c7 : Int) < 24 by omega, c1, i64_id]
  · simp (config := {contextual := true, implicitDefEqProofs := false}) (disch := omega) [show ¬ (c7 : Int) < 24 by omega, c1, m7, -abin_mul, -Int.natCast_mul]
    refine call1_eq ((take_ok (hp1 _) hS (by omega)).use (fun r h => Or.inl (Or.inl h)) fun v H' q _ _ => q) ?_
    rw [List.set_set]
    have s48 : abin .sub (.int .i64 (c8 : Int)) (.int .i64 48) = some (.int .i64 ((c8 : Int) - 48)) := by rw [abin_sub, i64_id (by omega) (by omega)]
    have s192 : abin .sub (.int .i64 (c8 : Int)) (.int .i64 192) = some (.int .i64 ((c8 : Int) - 192)) := by rw [abin_sub, i64_id (by omega) (by omega)]
    have s280 : abin .add (.int .i64 ((c8 : Int) - 192)) (.int .i64 280) = some (.int .i64 ((c8 : Int) - 192 + 280)) := by rw [abin_add, i64_id (by omega) (by omega)]
    by_cases c2 : 48 ≤ c8 ∧ c8 < 192
    · simp (config := {contextual := true, implicitDefEqProofs := false}) (disch := omega) [c1, s7, show (48 : Int) ≤ c8 by omega, show (c8 : Int) < 192 by omega, c2.1, c2.2, s48, -abin_add, -abin_sub, -Int.natCast_add, -Int.natCast_mul]
    · by_cases c3 : 192 ≤ c8 ∧ c8 < 200
      · simp (config := {contextual := true, implicitDefEqProofs := false}) (disch := omega) [c1, s7, show (48 : Int) ≤ c8 by omega, show 48 ≤ c8 by omega, show ¬ (c8 : Int) < 192 by omega, show ¬ c8 < 192 by omega, show (192 : Int) ≤ c8 by omega, show (c8 : Int) < 200 by omega, c3.1, c3.2, s192, s280, -abin_add, -abin_sub, -Int.natCast_add, -Int.natCast_mul]
      · have s400 : abin .sub (.int .i64 (c9 : Int)) (.int .i64 400) = some (.int .i64 ((c9 : Int) - 400)) := by rw [abin_sub, i64_id (by omega) (by omega)]
        have s144 : abin .add (.int .i64 ((c9 : Int) - 400)) (.int .i64 144) = some (.int .i64 ((c9 : Int) - 400 + 144)) := by rw [abin_add, i64_id (by omega) (by omega)]
        by_cases c4 : 48 ≤ c8
        · have c5 : ¬ c8 < 200 := by omega
          simp (config := {contextual := true, implicitDefEqProofs := false}) (disch := omega) [c1, s7, show (48 : Int) ≤ c8 by omega, c4, show ¬ (c8 : Int) < 192 by omega, show ¬ c8 < 192 by omega, show (192 : Int) ≤ c8 by omega, show 192 ≤ c8 by omega, show ¬ (c8 : Int) < 200 by omega, c5, m8, -abin_add, -abin_sub, -abin_mul, -Int.natCast_add, -Int.natCast_mul]
          refine call1_eq ((take_ok (hp1 _) hS (by omega)).use (fun r h => Or.inl (Or.inl h)) fun v H' q _ _ => q) ?_
          rw [List.set_set]
          simp (config := {contextual := true, implicitDefEqProofs := false}) (disch := omega) [c1, c4, c5, show ¬ c8 < 192 by omega, s8, s400, s144, -abin_add, -abin_sub, -Int.natCast_add, -Int.natCast_mul]
        · simp (config := {contextual := true, implicitDefEqProofs := false}) (disch := omega) [c1, s7, show ¬ (48 : Int) ≤ c8 by omega, c4, show ¬ (192 : Int) ≤ c8 by omega, show ¬ 192 ≤ c8 by omega, m8, -abin_add, -abin_sub, -abin_mul, -Int.natCast_add, -Int.natCast_mul]
          refine call1_eq ((take_ok (hp1 _) hS (by omega)).use (fun r h => Or.inl (Or.inl h)) fun v H' q _ _ => q) ?_
          rw [List.set_set]
          simp (config := {contextual := true, implicitDefEqProofs := false}) (disch := omega) [c1, c4, show ¬ 192 ≤ c8 by omega, s8, s400, s144, -abin_add, -abin_sub, -Int.natCast_add, -Int.natCast_mul]
end
end Go.Proofs.Ytdknddicpdhkcaa.Ab

/- Inflate: the reader's state, and the reading of bits. Conditions: none; for the statements about layers 46 and 47. -/
import Derived.Test.YtdknddicpdhkcaaSg
import Derived.Test.YtdknddicpdhkcaaAv
namespace Go.Proofs.Ytdknddicpdhkcaa.Ab
set_option linter.unusedVariables false
set_option linter.unusedSimpArgs false

/-! ### What it computes -/
structure St where
  at' : Nat
  out : List UInt8
  err : Int

def bitAt (s : List UInt8) (i : Nat) : Nat := (chr s (i / 8)).toNat / 2 ^ (i % 8) % 2
def bitsV (s : List UInt8) (a : Nat) : Nat → Nat
  | 0 => 0
  | n + 1 => bitsV s a n + bitAt s (a + n) * 2 ^ n
theorem bitAt_le (s : List UInt8) (i : Nat) : bitAt s i ≤ 1 := by unfold bitAt; omega
theorem bitsV_lt (s : List UInt8) (a : Nat) : ∀ n, bitsV s a n < 2 ^ n
  | 0 => by simp [bitsV]
  | n + 1 => by
    have := bitsV_lt s a n
    have h := bitAt_le s (a + n)
    have h2 : bitAt s (a + n) * 2 ^ n ≤ 1 * 2 ^ n := Nat.mul_le_mul_right _ h
    simp only [bitsV, Nat.pow_succ]; omega
def failM (e : Int) (t : St) : St := if t.err = 0 then { t with err := e } else t
def bitsM (s : List UInt8) (n : Nat) (t : St) : Nat × St :=
  if t.err ≠ 0 then (0, t) else if 8 * s.length < t.at' + n then (0, { t with err := 5 }) else (bitsV s t.at' n, { t with at' := t.at' + n })

def rcs (s : List UInt8) (t : St) (w : AVal) (most : Nat) : List AVal := [.str s, .int .i64 t.at', w, .int .i64 most, .int .i64 t.err]
def rdBlk (s : List UInt8) (t : St) (w : AVal) (most : Nat) : ABlk := .cells 0 false 66 (rcs s t w most)

/-! ### Arithmetic -/
theorem ofInt_nat (k n : Nat) : BitVec.ofInt k (n : Int) = BitVec.ofNat k n := by
  apply BitVec.eq_of_toNat_eq
  simp [BitVec.toNat_ofInt]
  try omega
theorem and_i64 {a b : Nat} (ha : a < 2 ^ 63) (hb : b < 2 ^ 63) : IntKind.i64.wrap (BitVec.ofInt 64 (a : Int) &&& BitVec.ofInt 64 (b : Int)).toNat = ((a &&& b : Nat) : Int) := by
  rw [ofInt_nat, ofInt_nat, BitVec.toNat_and, BitVec.toNat_ofNat, BitVec.toNat_ofNat, Nat.mod_eq_of_lt (by omega), Nat.mod_eq_of_lt (by omega)]
  have : a &&& b ≤ a := Nat.and_le_left
  exact i64_nat (by omega)
theorem or_i64 {a b : Nat} (ha : a < 2 ^ 63) (hb : b < 2 ^ 63) : IntKind.i64.wrap (BitVec.ofInt 64 (a : Int) ||| BitVec.ofInt 64 (b : Int)).toNat = ((a ||| b : Nat) : Int) := by
  rw [ofInt_nat, ofInt_nat, BitVec.toNat_or, BitVec.toNat_ofNat, BitVec.toNat_ofNat, Nat.mod_eq_of_lt (by omega), Nat.mod_eq_of_lt (by omega)]
  have : a ||| b < 2 ^ 63 := Nat.or_lt_two_pow ha hb
  exact i64_nat (by omega)
theorem u8_nat {n : Nat} (h : n ≤ 255) : IntKind.u8.wrap (n : Int) = n := IntWalk.u8_in _ (by omega)
theorem and_u8 {a b : Nat} (ha : a < 256) (hb : b < 256) : IntKind.u8.wrap (BitVec.ofInt 8 (a : Int) &&& BitVec.ofInt 8 (b : Int)).toNat = ((a &&& b : Nat) : Int) := by
  rw [ofInt_nat, ofInt_nat, BitVec.toNat_and, BitVec.toNat_ofNat, BitVec.toNat_ofNat, Nat.mod_eq_of_lt (by omega), Nat.mod_eq_of_lt (by omega)]
  have : a &&& b ≤ a := Nat.and_le_left
  exact u8_nat (by omega)
theorem or_add {a b i : Nat} (h : a < 2 ^ i) : a ||| b * 2 ^ i = a + b * 2 ^ i := by
  rw [Nat.mul_comm b, Nat.or_comm, ← Nat.two_pow_add_eq_or_of_lt h]; omega
theorem fdiv_nat (a b : Nat) : Int.fdiv (a : Int) ((2 : Int) ^ b) = ((a / 2 ^ b : Nat) : Int) := by
  rw [show (2 : Int) ^ b = ((2 ^ b : Nat) : Int) by simp, Int.fdiv_eq_ediv_of_nonneg _ (Int.natCast_nonneg _)]; simp

/-- Bit number a of the text, as the code takes it. -/
theorem shr_i64 {n : Nat} {m : Nat} : abin .shr (.int .i64 (n : Int)) (.int .u64 (m : Int)) = some (.int .i64 ((n / 2 ^ (min m 64) : Nat) : Int)) ∨ ¬ n < 2 ^ 63 := by
  by_cases h : n < 2 ^ 63
  · left
    rw [abin_shr (by omega)]
    simp only [bits_i64, Int.toNat_natCast]
    rw [fdiv_nat]
  · exact .inr h

section
variable {s : List UInt8} {t : St} {w : AVal} {most p : Nat} {H : AHeap} {fp : Nat → Prop}

theorem rd0 (hp : H[p]? = some (rdBlk s t w most)) : aload H p 0 0 = some (.str s) := by rw [aload_at hp]; rfl
theorem rd1 (hp : H[p]? = some (rdBlk s t w most)) : aload H p 0 1 = some (.int .i64 t.at') := by rw [aload_at hp]; rfl
theorem rd2 (hp : H[p]? = some (rdBlk s t w most)) : aload H p 0 2 = some w := by rw [aload_at hp]; rfl
theorem rd3 (hp : H[p]? = some (rdBlk s t w most)) : aload H p 0 3 = some (.int .i64 most) := by rw [aload_at hp]; rfl
theorem rd4 (hp : H[p]? = some (rdBlk s t w most)) : aload H p 0 4 = some (.int .i64 t.err) := by rw [aload_at hp]; rfl
theorem wr1 (hp : H[p]? = some (rdBlk s t w most)) {n : Nat} : astore H p 0 1 (.int .i64 n) = some (H.set p (rdBlk s { t with at' := n } w most)) := by rw [astore_at hp]; simp [rcs, rdBlk]
theorem wr4 (hp : H[p]? = some (rdBlk s t w most)) {e : Int} : astore H p 0 4 (.int .i64 e) = some (H.set p (rdBlk s { t with err := e } w most)) := by rw [astore_at hp]; simp [rcs, rdBlk]
theorem ok_ok (hp : H[p]? = some (rdBlk s t w most)) : ACall Try.prog 46 [.ptr p 0 0] H fp fun v H' => v = .bool (decide (t.err = 0)) ∧ H' = H := by
  refine acall_of hmix Try.func46 x46_ok (by simp) ?_
  have h1 := ageOk_at hp
  simp [h1, rd4 hp]

theorem fail_ok (hp : H[p]? = some (rdBlk s t w most)) {e : Int} : ACall Try.prog 52 [.ptr p 0 0, .int .i64 e] H (fun r => r = p) fun v H' => v = .tuple [] ∧ H' = H.set p (rdBlk s (failM e t) w most) := by
  refine acall_of hmix Try.func52 x52_ok (by simp) ?_
  have h1 := ageOk_at hp
  have h3 := wr4 hp (e := e)
  simp
  refine call1_eq (ok_ok hp) ?_
  simp [h1, h3]
  constructor
  · intro h; simp [failM, h]
  · intro h
    simp [failM, h]
    rw [List.getElem?_eq_some_iff] at hp
    obtain ⟨hl, hp⟩ := hp
    rw [← hp]; simp

def inv47 (H : AHeap) (p : Nat) (s : List UInt8) (t : St) (w : AVal) (most N : Nat) (n : Nat) (env : Env) (H' : AHeap) : Prop :=
  ∃ i, i ≤ N ∧ n = N - i ∧ H' = H.set p (rdBlk s { t with at' := t.at' + i } w most) ∧ env 0 = .ptr p 0 0 ∧ env 25 = .int .i64 N ∧ env 26 = .int .i64 i ∧ env 5 = .int .i64 (bitsV s t.at' i)

theorem set_same {b : ABlk} (h : H[p]? = some b) : H.set p b = H := by
  rw [List.getElem?_eq_some_iff] at h
  obtain ⟨hl, h⟩ := h
  rw [← h]; simp

theorem bits_ok (hp : H[p]? = some (rdBlk s t w most)) {N : Nat} (hN : N ≤ 30) (hs : s.length ≤ 2 ^ 50) (hat : t.at' ≤ 8 * s.length) :
    ACall Try.prog 47 [.ptr p 0 0, .int .i64 N] H (fun r => r = p) fun v H' => v = .int .i64 ((bitsM s N t).1 : Nat) ∧ H' = H.set p (rdBlk s (bitsM s N t).2 w most) := by
  refine acall_of hmix Try.func47 x47_ok (by simp) ?_
  have h1 := ageOk_at hp
  simp
  refine call1_eq (ok_ok hp) ?_
  by_cases he : t.err = 0
  · by_cases hb : 8 * s.length < t.at' + N
    · simp (config := {contextual := true, implicitDefEqProofs := false}) (disch := omega) [he, h1, rd0 hp, rd1 hp, i64_id, show (8 : Int) * s.length < t.at' + N by omega]
      refine call1_eq ((fail_ok hp).use (fun r h => Or.inl (Or.inl h)) fun v H' q _ _ => q) ?_
      simp [bitsM, he, hb, failM]
    · simp (config := {contextual := true, implicitDefEqProofs := false}) (disch := omega) [he, h1, rd0 hp, rd1 hp, i64_id, show ¬ (8 : Int) * s.length < t.at' + N by omega]
      refine vc_loop (inv47 H p s t w most N) N ⟨0, by omega, rfl, by simp [set_same hp], by simp, by simp, by simp, by simp [bitsV]⟩ ?_
      rintro n env H' ⟨i, hi, rfl, rfl, e0, e25, e26, e5⟩
      have hl := (List.getElem?_eq_some_iff.1 hp).1
      have g0 : (H.set p (rdBlk s { t with at' := t.at' + i } w most))[p]? = some (rdBlk s { t with at' := t.at' + i } w most) := List.getElem?_set_self hl
      have g1 := ageOk_at g0
      have g2 := rd0 g0
      have g3 := rd1 g0
      have g4 : astore (H.set p (rdBlk s { t with at' := t.at' + i } w most)) p 0 1 (.int .i64 ((t.at' : Int) + i + 1)) = some (H.set p (rdBlk s { t with at' := t.at' + (i + 1) } w most)) := by
        have := wr1 g0 (n := t.at' + (i + 1))
        rw [List.set_set] at this
        rw [← this]; congr 2
      by_cases hlt : i < N
      · have hv := bitsV_lt s t.at' i
        have hv2 : (2 : Nat) ^ i < 2 ^ 30 := Nat.pow_lt_pow_right (by omega) (by omega)
        have a1 : abin .shr (.int .i64 ((t.at' : Int) + i)) (.int .u64 3) = some (.int .i64 (((t.at' + i) / 8 : Nat) : Int)) := by
          rw [abin_shr (by omega)]
          have := fdiv_nat (t.at' + i) 3
          simp only [bits_i64, show min (3 : Int).toNat 64 = 3 by decide] at this ⊢
          rw [← Int.natCast_add, this]
        have a2 : abin .and (.int .i64 ((t.at' : Int) + i)) (.int .i64 7) = some (.int .i64 (((t.at' + i) % 8 : Nat) : Int)) := by
          have := and_i64 (a := t.at' + i) (b := 7) (by omega) (by omega)
          rw [Nat.and_two_pow_sub_one_eq_mod _ 3] at this
          rw [← Int.natCast_add, abin_and]; exact congrArg (fun x => some (AVal.int .i64 x)) this
        have a3 : ∀ (c : UInt8) (j : Nat), j < 8 → abin .shr (.int .u8 (c.toNat : Int)) (.int .i64 (j : Int)) = some (.int .u8 ((c.toNat / 2 ^ j : Nat) : Int)) := by
          intro c j hj
          rw [abin_shr (by omega)]
          have := fdiv_nat c.toNat j
          simp only [bits_u8, Int.toNat_natCast, show min j 8 = j by omega]
          rw [this]
        have a4 : ∀ c : Nat, c < 256 → abin .and (.int .u8 (c : Int)) (.int .u8 1) = some (.int .u8 ((c % 2 : Nat) : Int)) := by
          intro c hc
          have := and_u8 (a := c) (b := 1) hc (by omega)
          rw [Nat.and_two_pow_sub_one_eq_mod _ 1] at this
          rw [abin_and]; exact congrArg (fun x => some (AVal.int .u8 x)) this
        have hc : (chr s ((t.at' + i) / 8)).toNat < 256 := UInt8.toNat_lt _
        have hd : (chr s ((t.at' + i) / 8)).toNat / 2 ^ ((t.at' + i) % 8) < 256 := Nat.lt_of_le_of_lt (Nat.div_le_self _ _) hc
        have hbit : (chr s ((t.at' + i) / 8)).toNat / 2 ^ ((t.at' + i) % 8) % 2 = bitAt s (t.at' + i) := rfl
        have hble := bitAt_le s (t.at' + i)
        have a5 : abin .shl (.int .i64 ((bitAt s (t.at' + i) : Nat) : Int)) (.int .i64 (i : Int)) = some (.int .i64 ((bitAt s (t.at' + i) * 2 ^ i : Nat) : Int)) := by
          rw [abin_shl (by omega)]
          have h3 : bitAt s (t.at' + i) * 2 ^ i ≤ 1 * 2 ^ i := Nat.mul_le_mul_right _ hble
          simp only [bits_i64, Int.toNat_natCast, show min i 64 = i by omega]
          rw [show ((bitAt s (t.at' + i) : Nat) : Int) * 2 ^ i = ((bitAt s (t.at' + i) * 2 ^ i : Nat) : Int) by simp, i64_nat (by omega)]
        have a6 : abin .or (.int .i64 ((bitsV s t.at' i : Nat) : Int)) (.int .i64 ((bitAt s (t.at' + i) * 2 ^ i : Nat) : Int)) = some (.int .i64 ((bitsV s t.at' (i + 1) : Nat) : Int)) := by
          have h3 : bitAt s (t.at' + i) * 2 ^ i ≤ 1 * 2 ^ i := Nat.mul_le_mul_right _ hble
          rw [abin_or]; exact congrArg (fun x => some (AVal.int .i64 x)) (by rw [bits_i64, or_i64 (by omega) (by omega), or_add hv, bitsV])
        simp (config := {contextual := true, implicitDefEqProofs := false}) (disch := omega) [e0, e25, e26, e5, g1, g2, g3, g4, i64_id, hlt, a1, vIdxStr_nat, a2, a3, a4, hd, hbit, a5, a6, i64_nat, -abin_and, -abin_or, -Int.natCast_ediv, -Int.natCast_mul, -Int.natCast_pow, -Int.natCast_emod]
        exact again_iff (N - (i + 1)) (by omega) ⟨i + 1, hlt, rfl, rfl, by simp [e0], by simp [e25], by simp, by simp⟩
      · simp (config := {contextual := true, implicitDefEqProofs := false}) (disch := omega) [e0, e25, e26, e5, hlt]
        have : i = N := by omega
        subst this
        simp [bitsM, he, hb]
  · simp [he, bitsM, set_same hp]
end
end Go.Proofs.Ytdknddicpdhkcaa.Ab

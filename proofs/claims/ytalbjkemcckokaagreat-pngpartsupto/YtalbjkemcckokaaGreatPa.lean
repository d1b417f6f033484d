/- The checksum CRC-32 in plain numbers; arithmetic of 32 bits. Conditions: as each says. -/
import Derived.Test.YtalbjkemcckokaaGreatBb
namespace Go.Proofs.YtalbjkemcckokaaGreat.Ab
set_option linter.unusedVariables false
set_option linter.unusedSimpArgs false

/-- One step, and k steps, of the register. -/
def crc1 (c : Nat) : Nat := if c % 2 = 1 then (c / 2) ^^^ 3988292384 else c / 2
def crcK : Nat → Nat → Nat
  | 0, c => c
  | k + 1, c => crcK k (crc1 c)
/-- The register behind a text. -/
def crcN : List UInt8 → Nat → Nat
  | [], c => c
  | b :: t, c => crcN t (crcK 8 (c ^^^ b.toNat))
def crcG (s : List UInt8) : Nat := crcN s 4294967295 ^^^ 4294967295

theorem xor_half (a b : Nat) : (a ^^^ b) / 2 = a / 2 ^^^ b / 2 := by
  have := Nat.shiftRight_xor_distrib (a := a) (b := b) (i := 1)
  simpa [Nat.shiftRight_succ] using this
theorem xor_odd (a b : Nat) : (a ^^^ b) % 2 = (a % 2 + b % 2) % 2 := by
  have h1 : ∀ n : Nat, n % 2 = (n.testBit 0).toNat := fun n => by rw [Nat.testBit_zero]; rcases Nat.mod_two_eq_zero_or_one n with h | h <;> simp [h]
  rw [h1, h1 a, h1 b, Nat.testBit_xor]
  cases a.testBit 0 <;> cases b.testBit 0 <;> rfl
theorem crc1_xor (a h : Nat) : crc1 (a ^^^ (2 * h)) = crc1 a ^^^ h := by
  have h1 : (a ^^^ (2 * h)) % 2 = a % 2 := by rw [xor_odd]; omega
  have h2 : (a ^^^ (2 * h)) / 2 = a / 2 ^^^ h := by rw [xor_half]; congr 1; omega
  unfold crc1
  rw [h1, h2]
  split
  · rw [Nat.xor_assoc, Nat.xor_comm h, ← Nat.xor_assoc]
  · rfl
theorem crcK_xor : ∀ (k a h : Nat), crcK k (a ^^^ (2 ^ k * h)) = crcK k a ^^^ h
  | 0, a, h => by simp [crcK]
  | k + 1, a, h => by
    have e : 2 ^ (k + 1) * h = 2 * (2 ^ k * h) := by rw [Nat.pow_succ]; rw [Nat.mul_comm (2 ^ k) 2, Nat.mul_assoc]
    rw [e, crcK, crcK, crc1_xor, crcK_xor k]
theorem xor_parts (x : Nat) : x = (x % 256) ^^^ (2 ^ 8 * (x / 256)) := by
  apply Nat.eq_of_testBit_eq
  intro i
  have h1 : (x % 256).testBit i = (decide (i < 8) && x.testBit i) := by
    have := Nat.testBit_mod_two_pow x 8 i
    simpa using this
  have h2 : (2 ^ 8 * (x / 256)).testBit i = (decide (8 ≤ i) && x.testBit i) := by
    rw [Nat.testBit_two_pow_mul]
    by_cases h : i ≥ 8
    · have : (x / 2 ^ 8).testBit (i - 8) = x.testBit i := by rw [Nat.testBit_div_two_pow]; congr 1; omega
      simp only [h, decide_true, Bool.true_and]
      exact this
    · simp [h]
  rw [Nat.testBit_xor, h1, h2]
  by_cases h : i < 8
  · have : ¬ 8 ≤ i := by omega
    simp [h, this]
  · have : 8 ≤ i := by omega
    simp [h, this]
/-- A step by the table of all bytes. -/
theorem crc_table (x : Nat) : crcK 8 x = crcK 8 (x % 256) ^^^ (x / 256) := by
  conv => lhs; rw [xor_parts x]
  exact crcK_xor 8 _ _
theorem crc_step (c b : Nat) (hb : b < 256) : crcK 8 (c ^^^ b) = crcK 8 ((c % 256) ^^^ b) ^^^ (c / 256) := by
  have e1 : (c ^^^ b) % 256 = (c % 256) ^^^ b := by
    have := Nat.xor_mod_two_pow (a := c) (b := b) (n := 8)
    rw [show (2 : Nat) ^ 8 = 256 by rfl] at this
    rw [this, Nat.mod_eq_of_lt hb]
  have e2 : (c ^^^ b) / 256 = c / 256 := by
    have := Nat.shiftRight_xor_distrib (a := c) (b := b) (i := 8)
    rw [Nat.shiftRight_eq_div_pow, Nat.shiftRight_eq_div_pow, Nat.shiftRight_eq_div_pow, show (2 : Nat) ^ 8 = 256 by rfl, Nat.div_eq_of_lt hb, Nat.xor_zero] at this
    exact this
  rw [crc_table, e1, e2]
theorem xor_lt32 {a b : Nat} (ha : a < 4294967296) (hb : b < 4294967296) : a ^^^ b < 4294967296 := Nat.xor_lt_two_pow (n := 32) ha hb
theorem crc1_lt {c : Nat} (h : c < 4294967296) : crc1 c < 4294967296 := by
  unfold crc1
  split
  · exact xor_lt32 (by omega) (by omega)
  · omega
theorem crcK_lt : ∀ (k : Nat) {c : Nat}, c < 4294967296 → crcK k c < 4294967296
  | 0, c, h => h
  | k + 1, c, h => crcK_lt k (crc1_lt h)
theorem crcN_lt : ∀ (s : List UInt8) {c : Nat}, c < 4294967296 → crcN s c < 4294967296
  | [], c, h => h
  | b :: t, c, h => crcN_lt t (crcK_lt 8 (xor_lt32 h (by have := b.toNat_lt; omega)))
theorem crcG_lt (s : List UInt8) : crcG s < 4294967296 := xor_lt32 (crcN_lt s (by omega)) (by omega)
theorem crcN_app : ∀ (s t : List UInt8) (c : Nat), crcN (s ++ t) c = crcN t (crcN s c)
  | [], t, c => rfl
  | b :: s, t, c => crcN_app s t _

theorem ofIntN {w n : Nat} (h : n < 2 ^ w) : (BitVec.ofInt w (n : Int)).toNat = n := by
  rw [BitVec.toNat_ofInt]
  have : ((n : Int) % ((2 ^ w : Nat) : Int)).toNat = n := by
    rw [Int.emod_eq_of_lt (by omega) (by omega)]; omega
  exact this
theorem u32_nat {n : Nat} (h : n < 4294967296) : IntKind.u32.wrap (n : Int) = n := by
  simp only [IntKind.wrap, IntKind.bits, IntKind.signed]
  simp
  omega
theorem xor32 {a b : Nat} (ha : a < 4294967296) (hb : b < 4294967296) : abin .xor (.int .u32 (a : Int)) (.int .u32 (b : Int)) = some (.int .u32 ((a ^^^ b : Nat) : Int)) := by
  rw [abin_xor]
  congr 2
  rw [BitVec.toNat_xor, bits_u32, ofIntN (by omega), ofIntN (by omega), u32_nat (xor_lt32 ha hb)]
theorem and32 {a b : Nat} (ha : a < 4294967296) (hb : b < 4294967296) : abin .and (.int .u32 (a : Int)) (.int .u32 (b : Int)) = some (.int .u32 ((a &&& b : Nat) : Int)) := by
  rw [abin_and]
  congr 2
  rw [BitVec.toNat_and, bits_u32, ofIntN (by omega), ofIntN (by omega), u32_nat (Nat.lt_of_le_of_lt Nat.and_le_left ha)]
theorem xorB {a b : Nat} (ha : a < 256) (hb : b < 256) : abin .xor (.int .u8 (a : Int)) (.int .u8 (b : Int)) = some (.int .u8 ((a ^^^ b : Nat) : Int)) := by
  rw [abin_xor]
  congr 2
  rw [BitVec.toNat_xor, bits_u8, ofIntN (by omega), ofIntN (by omega)]
  have := Nat.xor_lt_two_pow (n := 8) ha hb
  exact IntWalk.u8_in _ (by omega)
theorem not32 {n : Nat} (h : n < 4294967296) : aunary .xor (.int .u32 (n : Int)) = some (.int .u32 ((n ^^^ 4294967295 : Nat) : Int)) := by
  have e : (BitVec.ofInt 32 4294967295 ^^^ BitVec.ofInt 32 (n : Int)).toNat = n ^^^ 4294967295 := by
    rw [BitVec.toNat_xor, ofIntN h, Nat.xor_comm]; rfl
  have : aunary .xor (.int .u32 (n : Int)) = some (.int .u32 (IntKind.u32.wrap ((BitVec.ofInt 32 4294967295 ^^^ BitVec.ofInt 32 (n : Int)).toNat : Nat))) := rfl
  rw [this, e, u32_nat (xor_lt32 h (by omega))]
end Go.Proofs.YtalbjkemcckokaaGreat.Ab

/- Deflate: bits are read back. Conditions: none; for the statements about layer 47. -/
import Derived.Test.YtdknddicpdhkcaaDg
namespace Go.Proofs.Ytdknddicpdhkcaa.Ab
set_option linter.unusedVariables false
set_option linter.unusedSimpArgs false

theorem chrA (pre x : List UInt8) (i : Nat) : chr (pre ++ x) (pre.length + i) = chr x i := by
  simp [chr, List.getD_eq_getElem?_getD, List.getElem?_append_right]
theorem chrL {x y : List UInt8} {i : Nat} (h : i < x.length) : chr (x ++ y) i = chr x i := by
  simp [chr, List.getD_eq_getElem?_getD, List.getElem?_append_left h]
theorem chr_out {s : List UInt8} {i : Nat} (h : s.length ≤ i) : chr s i = 0 := by
  simp [chr, List.getD_eq_getElem?_getD, h]
theorem bitAt_pack (l : List Nat) : (∀ b ∈ l, b ≤ 1) → ∀ i, bitAt (pack l) i = l.getD i 0 := by
  refine list_snoc_ind (P := fun l => (∀ b ∈ l, b ≤ 1) → ∀ i, bitAt (pack l) i = l.getD i 0) ?_ ?_ l
  · intro _ i
    have : pack [] = [] := rfl
    rw [this]; unfold bitAt; rw [chr_out (by simp)]; simp
  · intro l b ih hb i
    have hbl : ∀ x ∈ l, x ≤ 1 := fun x hx => hb x (List.mem_append_left _ hx)
    have ih := ih hbl
    obtain ⟨h1, h2⟩ := pk_facts l hbl
    have hb1 : b ≤ 1 := hb b (by simp)
    have hp : pack (l ++ [b]) = if l.length % 8 = 0 then pack l ++ [UInt8.ofNat b] else (pack l).set ((pack l).length - 1) (UInt8.ofNat ((chr (pack l) ((pack l).length - 1)).toNat + b * 2 ^ (l.length % 8))) := by
      unfold pack; rw [pk_snoc]; simp only [wstep, pk_two]
    have hg : (l ++ [b]).getD i 0 = if i < l.length then l.getD i 0 else if i = l.length then b else 0 := by
      simp only [List.getD_eq_getElem?_getD]
      by_cases c : i < l.length
      · rw [if_pos c, List.getElem?_append_left c]
      · rw [if_neg c, List.getElem?_append_right (by omega)]
        by_cases c2 : i = l.length
        · rw [if_pos c2, c2]; simp
        · rw [if_neg c2, List.getElem?_eq_none (by simp; omega)]; rfl
    have hgo : ∀ i, l.length ≤ i → l.getD i 0 = 0 := fun i h => by simp [List.getD_eq_getElem?_getD, h]
    rw [hg, hp]
    by_cases c : l.length % 8 = 0
    · rw [if_pos c]
      by_cases c1 : i / 8 < (pack l).length
      · have e : bitAt (pack l ++ [UInt8.ofNat b]) i = bitAt (pack l) i := by unfold bitAt; rw [chrL c1]
        rw [e, ih, if_pos (by omega)]
      · by_cases c2 : i / 8 = (pack l).length
        · have e : chr (pack l ++ [UInt8.ofNat b]) (i / 8) = UInt8.ofNat b := by
            rw [c2]; simp [chr]
          unfold bitAt
          rw [e]
          have hv : (UInt8.ofNat b).toNat = b := by
            have : (UInt8.ofNat b).toNat = b % 256 := by simp
            omega
          rw [hv, if_neg (by omega)]
          by_cases c3 : i = l.length
          · rw [if_pos c3, show i % 8 = 0 by omega]; simp; omega
          · rw [if_neg c3]
            have : 2 ≤ 2 ^ (i % 8) := by
              have := Nat.pow_le_pow_right (n := 2) (by omega) (show 1 ≤ i % 8 by omega)
              simpa using this
            rw [Nat.div_eq_of_lt (by omega)]
        · unfold bitAt
          rw [chr_out (by simp; omega), if_neg (by omega), if_neg (by omega)]; simp
    · rw [if_neg c]
      have h3 := h2 c
      have hl0 : 0 < (pack l).length := by omega
      by_cases c1 : i / 8 = (pack l).length - 1
      · have e : chr ((pack l).set ((pack l).length - 1) (UInt8.ofNat ((chr (pack l) ((pack l).length - 1)).toNat + b * 2 ^ (l.length % 8)))) (i / 8) = UInt8.ofNat ((chr (pack l) ((pack l).length - 1)).toNat + b * 2 ^ (l.length % 8)) := by
          rw [c1]
          simp only [chr, List.getD_eq_getElem?_getD]
          rw [List.getElem?_set_self (by omega)]; rfl
        have hold : bitAt (pack l) i = (chr (pack l) ((pack l).length - 1)).toNat / 2 ^ (i % 8) % 2 := by unfold bitAt; rw [c1]
        have hpw : 2 ^ (l.length % 8 + 1) ≤ 2 ^ 8 := Nat.pow_le_pow_right (by omega) (by omega)
        have hpe : 2 ^ (l.length % 8 + 1) = 2 ^ (l.length % 8) * 2 := Nat.pow_succ ..
        have hbm : b * 2 ^ (l.length % 8) ≤ 1 * 2 ^ (l.length % 8) := Nat.mul_le_mul_right _ hb1
        unfold bitAt
        rw [e]
        have hv : (UInt8.ofNat ((chr (pack l) ((pack l).length - 1)).toNat + b * 2 ^ (l.length % 8))).toNat = (chr (pack l) ((pack l).length - 1)).toNat + b * 2 ^ (l.length % 8) := by
          have : (UInt8.ofNat ((chr (pack l) ((pack l).length - 1)).toNat + b * 2 ^ (l.length % 8))).toNat = ((chr (pack l) ((pack l).length - 1)).toNat + b * 2 ^ (l.length % 8)) % 256 := by simp
          rw [this, Nat.mod_eq_of_lt (by omega)]
        rw [hv]
        have hih := ih i
        rw [hold] at hih
        have hi8 : i % 8 < 8 := Nat.mod_lt _ (by omega)
        by_cases c3 : i < l.length
        · rw [if_pos c3, ← hih]
          have hk : l.length % 8 = i % 8 + (l.length % 8 - i % 8) := by omega
          have hk1 : 2 ^ (l.length % 8) = 2 ^ (i % 8) * (2 * 2 ^ (l.length % 8 - i % 8 - 1)) := by
            rw [← Nat.pow_succ', ← Nat.pow_add]; congr 1; omega
          rw [hk1, show b * (2 ^ (i % 8) * (2 * 2 ^ (l.length % 8 - i % 8 - 1))) = 2 ^ (i % 8) * (2 * (b * 2 ^ (l.length % 8 - i % 8 - 1))) by
            rw [Nat.mul_left_comm]; congr 1; rw [Nat.mul_left_comm], Nat.add_mul_div_left _ _ (Nat.two_pow_pos _)]
          omega
        · rw [if_neg c3]
          by_cases c4 : i = l.length
          · have h3i : (chr (pack l) ((pack l).length - 1)).toNat < 2 ^ (i % 8) := by rw [c4]; exact h3
            rw [if_pos c4, show l.length % 8 = i % 8 by rw [c4], Nat.mul_comm b, Nat.add_mul_div_left _ _ (Nat.two_pow_pos _), Nat.div_eq_of_lt h3i]; omega
          · rw [if_neg c4]
            have h5 : 2 ^ (l.length % 8 + 1) ≤ 2 ^ (i % 8) := Nat.pow_le_pow_right (by omega) (by omega)
            rw [Nat.div_eq_of_lt (by omega)]
      · have e : ∀ x, chr ((pack l).set ((pack l).length - 1) x) (i / 8) = chr (pack l) (i / 8) := by
          intro x
          simp only [chr, List.getD_eq_getElem?_getD]
          rw [List.getElem?_set_ne (by omega)]
        have e2 : ∀ x, bitAt ((pack l).set ((pack l).length - 1) x) i = bitAt (pack l) i := by intro x; unfold bitAt; rw [e]
        rw [e2, ih]
        by_cases c3 : i < l.length
        · rw [if_pos c3]
        · rw [if_neg c3, if_neg (by omega), hgo i (by omega)]

def codeV (s : List UInt8) (a : Nat) : Nat → Nat
  | 0 => 0
  | n + 1 => 2 * codeV s a n + bitAt s (a + n)
theorem codeV_lt (s : List UInt8) (a : Nat) : ∀ n, codeV s a n < 2 ^ n
  | 0 => by simp [codeV]
  | n + 1 => by have := codeV_lt s a n; have h := bitAt_le s (a + n); simp only [codeV, Nat.pow_succ]; omega
theorem bitsV_num {s : List UInt8} {a x : Nat} : ∀ n, (∀ i, i < n → bitAt s (a + i) = x / 2 ^ i % 2) → bitsV s a n = x % 2 ^ n
  | 0, _ => by simp [bitsV]; omega
  | n + 1, h => by
    rw [bitsV, bitsV_num n fun i hi => h i (by omega), h n (by omega), Nat.pow_succ, Nat.mod_mul, Nat.mul_comm]
theorem codeV_code {s : List UInt8} {a x N : Nat} (h : ∀ i, i < N → bitAt s (a + i) = x / 2 ^ (N - 1 - i) % 2) : ∀ m, m ≤ N → codeV s a m = x / 2 ^ (N - m) % 2 ^ m
  | 0, _ => by simp [codeV]; omega
  | m + 1, hm => by
    rw [codeV, codeV_code h m (by omega), h m (by omega)]
    have e : x / 2 ^ (N - m) = x / 2 ^ (N - (m + 1)) / 2 := by
      rw [Nat.div_div_eq_div_mul, ← Nat.pow_succ]; congr 2; omega
    rw [e, show N - 1 - m = N - (m + 1) by omega]
    generalize x / 2 ^ (N - (m + 1)) = y
    rw [Nat.pow_succ', Nat.mod_mul]; omega

/-- A symbol, as it is read, and its number of bits. -/
def symV (s : List UInt8) (a : Nat) : Int × Nat :=
  if codeV s a 7 < 24 then (256 + (codeV s a 7 : Nat), 7)
  else if 48 ≤ codeV s a 8 ∧ codeV s a 8 < 192 then (((codeV s a 8 : Nat) : Int) - 48, 8)
  else if 192 ≤ codeV s a 8 ∧ codeV s a 8 < 200 then (((codeV s a 8 : Nat) : Int) - 192 + 280, 8)
  else (((codeV s a 9 : Nat) : Int) - 400 + 144, 9)

section
variable {pre post : List Nat}
/-- The bits that are read where a text of bits lies. -/
theorem bit_mid {mid : List Nat} (hb : ∀ b ∈ pre ++ (mid ++ post), b ≤ 1) {i : Nat} (hi : i < mid.length) : bitAt (pack (pre ++ (mid ++ post))) (pre.length + i) = mid.getD i 0 := by
  rw [bitAt_pack _ hb]
  simp only [List.getD_eq_getElem?_getD]
  rw [List.getElem?_append_right (by omega), show pre.length + i - pre.length = i by omega, List.getElem?_append_left hi]
theorem num_back {x N : Nat} (hb : ∀ b ∈ pre ++ (numB x N ++ post), b ≤ 1) : bitsV (pack (pre ++ (numB x N ++ post))) pre.length N = x % 2 ^ N := by
  refine bitsV_num N fun i hi => ?_
  rw [bit_mid hb (by simpa using hi)]
  simp [numB, List.getD_eq_getElem?_getD, hi]
theorem code_bit {x N i : Nat} (hi : i < N) : (codeB x N).getD i 0 = x / 2 ^ (N - 1 - i) % 2 := by
  rw [List.getD_eq_getElem?_getD, List.getElem?_eq_getElem (by simpa using hi)]
  simp only [codeB, List.getElem_reverse, numB, List.getElem_map, List.getElem_range, List.length_map, List.length_range]
  rfl
theorem code_back {x N m : Nat} (hb : ∀ b ∈ pre ++ (codeB x N ++ post), b ≤ 1) (hm : m ≤ N) : codeV (pack (pre ++ (codeB x N ++ post))) pre.length m = x / 2 ^ (N - m) % 2 ^ m := by
  refine codeV_code (fun i hi => ?_) m hm
  rw [bit_mid hb (by simpa using hi), code_bit hi]
theorem sym_back {v : Nat} (hv : v < 288) (hb : ∀ b ∈ pre ++ (symB v ++ post), b ≤ 1) : symV (pack (pre ++ (symB v ++ post))) pre.length = ((v : Int), (symB v).length) := by
  unfold symB at *
  by_cases c1 : v < 144
  · rw [if_pos c1] at *
    have k7 := code_back hb (m := 7) (by omega)
    have k8 := code_back hb (m := 8) (by omega)
    unfold symV
    rw [k7, k8]
    simp only [codeB_len, show 8 - 7 = 1 from rfl, Nat.sub_self, Nat.pow_one, Nat.pow_zero, Nat.div_one, show (2 : Nat) ^ 7 = 128 from rfl, show (2 : Nat) ^ 8 = 256 from rfl]
    rw [if_neg (by omega), if_pos (by omega)]
    exact Prod.ext (by simp only []; omega) rfl
  · rw [if_neg c1] at *
    by_cases c2 : v < 256
    · rw [if_pos c2] at *
      have k7 := code_back hb (m := 7) (by omega)
      have k8 := code_back hb (m := 8) (by omega)
      have k9 := code_back hb (m := 9) (by omega)
      unfold symV
      rw [k7, k8, k9]
      simp only [codeB_len, show 9 - 7 = 2 from rfl, show 9 - 8 = 1 from rfl, Nat.sub_self, Nat.pow_one, Nat.pow_zero, Nat.div_one, show (2 : Nat) ^ 2 = 4 from rfl, show (2 : Nat) ^ 7 = 128 from rfl, show (2 : Nat) ^ 8 = 256 from rfl, show (2 : Nat) ^ 9 = 512 from rfl]
      rw [if_neg (by omega), if_neg (by omega), if_neg (by omega)]
      exact Prod.ext (by simp only []; omega) rfl
    · rw [if_neg c2] at *
      by_cases c3 : v < 280
      · rw [if_pos c3] at *
        have k7 := code_back hb (m := 7) (by omega)
        unfold symV
        rw [k7]
        simp only [codeB_len, Nat.sub_self, Nat.pow_zero, Nat.div_one, show (2 : Nat) ^ 7 = 128 from rfl]
        rw [if_pos (by omega)]
        exact Prod.ext (by simp only []; omega) rfl
      · rw [if_neg c3] at *
        have k7 := code_back hb (m := 7) (by omega)
        have k8 := code_back hb (m := 8) (by omega)
        unfold symV
        rw [k7, k8]
        simp only [codeB_len, show 8 - 7 = 1 from rfl, Nat.sub_self, Nat.pow_one, Nat.pow_zero, Nat.div_one, show (2 : Nat) ^ 7 = 128 from rfl, show (2 : Nat) ^ 8 = 256 from rfl]
        rw [if_neg (by omega), if_neg (by omega), if_pos (by omega)]
        exact Prod.ext (by simp only []; omega) rfl
end
end Go.Proofs.Ytdknddicpdhkcaa.Ab

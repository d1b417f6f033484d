/- Deflate: stored blocks. Conditions: none; for the statements about layer 47. -/
import Derived.Test.YtdknddicpdhkcaaM1
import Derived.Test.YtdknddicpdhkcaaM2
namespace Go.Proofs.Ytdknddicpdhkcaa.Ab
set_option linter.unusedVariables false
set_option linter.unusedSimpArgs false

def storB : Nat → List UInt8 → List UInt8
  | 0, s => []
  | f + 1, s => if s.length ≤ 65535 then blkB s true else blkB (s.take 65535) false ++ storB f (s.drop 65535)
def storedB (s : List UInt8) : List UInt8 := storB (s.length / 65535 + 1) s
theorem storB_len : ∀ (f : Nat) (s : List UInt8), (storB f s).length ≤ s.length + 5 * f
  | 0, s => by simp [storB]
  | f + 1, s => by
    rw [storB]
    split
    · rw [blkB_len]; omega
    · rw [List.length_append, blkB_len, List.length_take]
      have := storB_len f (s.drop 65535)
      rw [List.length_drop] at this
      omega
theorem storedB_len (s : List UInt8) : (storedB s).length ≤ s.length + 5 * (s.length / 65535 + 1) := storB_len _ s

theorem xor64 {n : Nat} (h : n < 2 ^ 62) : aunary .xor (.int .i64 (n : Int)) = some (.int .i64 (-(n : Int) - 1)) := by
  have e : (BitVec.ofInt 64 (-1) ^^^ BitVec.ofInt 64 (n : Int)).toNat = 2 ^ 64 - 1 - n := by
    rw [ofInt_nat, show BitVec.ofInt 64 (-1) = BitVec.allOnes 64 by decide, BitVec.allOnes_xor, BitVec.toNat_not, BitVec.toNat_ofNat, Nat.mod_eq_of_lt (by omega)]
  have : aunary .xor (.int .i64 (n : Int)) = some (.int .i64 (IntKind.i64.wrap ((BitVec.ofInt 64 (-1) ^^^ BitVec.ofInt 64 (n : Int)).toNat : Nat))) := rfl
  rw [this, e]
  congr 2
  simp only [IntKind.wrap, IntKind.bits, IntKind.signed]
  simp
  omega
theorem xor8 {n : Nat} (h : n < 256) : aunary .xor (.int .u8 (n : Int)) = some (.int .u8 ((255 - n : Nat) : Int)) := by
  have key : ∀ x : Fin 256, IntKind.u8.wrap ((BitVec.ofInt 8 255 ^^^ BitVec.ofInt 8 (x.val : Int)).toNat : Nat) = ((255 - x.val : Nat) : Int) := by decide +kernel
  have k := key ⟨n, h⟩
  simp only [] at k
  rw [← k]; rfl
theorem u8_mod (z : Int) : IntKind.u8.wrap z = z % 256 := by
  simp [IntKind.wrap, IntKind.bits, IntKind.signed]
theorem u8_neg {n : Nat} (h : n ≤ 65535) : IntKind.u8.wrap (-(n : Int) - 1) = (((65535 - n) % 256 : Nat) : Int) := by
  rw [u8_mod]; omega
theorem shr_neg {n : Nat} (h : n ≤ 65535) : abin .shr (.int .i64 (-(n : Int) - 1)) (.int .u64 8) = some (.int .i64 (-((n / 256 : Nat) : Int) - 1)) := by
  rw [abin_shr (by omega)]
  simp only [bits_i64, show min (8 : Int).toNat 64 = 8 by decide]
  congr 2
  rw [Int.fdiv_eq_ediv_of_nonneg _ (by decide)]
  omega
theorem u8_neg2 {n : Nat} (h : n ≤ 65535) : IntKind.u8.wrap (-((n / 256 : Nat) : Int) - 1) = (((65535 - n) / 256 % 256 : Nat) : Int) := by
  rw [u8_mod]; omega
theorem shr8 (n : Nat) : abin .shr (.int .i64 (n : Int)) (.int .u64 8) = some (.int .i64 ((n / 256 : Nat) : Int)) := by
  rw [abin_shr (by omega)]
  have := fdiv_nat n 8
  simp only [bits_i64, show min (8 : Int).toNat 64 = 8 by decide] at this ⊢
  rw [this]
theorem hdr_cells (n : Nat) (last : Bool) : [.int .u8 (if last then 1 else 0), .int .u8 ((n % 256 : Nat) : Int), .int .u8 ((n / 256 % 256 : Nat) : Int), .int .u8 (((65535 - n) % 256 : Nat) : Int), .int .u8 (((65535 - n) / 256 % 256 : Nat) : Int)] = bytesOf (hdrB n last) := by
  cases last <;> simp [bytesOf, hdrB]

theorem k53_b1 : aunary .xor (.int .i64 65535) = some (.int .i64 (-65536)) := by have := xor64 (n := 65535) (by omega); simpa using this
theorem k53_b2 : IntKind.u8.wrap (-65536) = 0 := by rw [u8_mod]; rfl
theorem k53_b3 : abin .shr (.int .i64 (-65536)) (.int .u64 8) = some (.int .i64 (-256)) := by have := shr_neg (n := 65535) (by omega); simpa using this
theorem k53_b4 : IntKind.u8.wrap (-256) = 0 := by rw [u8_mod]; rfl
theorem k53_b5 : abin .shr (.int .i64 65535) (.int .u64 8) = some (.int .i64 255) := by have := shr8 65535; simpa using this
theorem k53_b6 : IntKind.u8.wrap 65535 = 255 := by rw [u8_mod]; rfl
theorem k53_b7 : IntKind.u8.wrap 255 = 255 := by rw [u8_mod]; rfl
theorem k53_hk : [.int .u8 0, .int .u8 255, .int .u8 255, .int .u8 0, .int .u8 0] = bytesOf (hdrB 65535 false) := hdr_cells 65535 false

section
variable {H : AHeap} {fp : Nat → Prop} {s : List UInt8}

def inv53 (m : Nat) (R : List UInt8) (n : Nat) (env : Env) (H' : AHeap) : Prop :=
  ∃ (pre s : List UInt8) (w : AVal) (last : Bool), Own m H' 5 w (bytesOf pre) ∧ m ≤ H'.length ∧ (if last then R = pre else R = pre ++ storB n s ∧ s.length < 65535 * n ∧ 1 ≤ n) ∧ s.length + pre.length + 5 * n ≤ 2 ^ 41 ∧ env 0 = .str s ∧ env 3 = w ∧ env 4 = .bool last

theorem stored53_ok (hs : s.length ≤ 2 ^ 40) : ACall Try.prog 53 [.str s] H fp fun v H' => Own H.length H' 5 v (bytesOf (storedB s)) := by
  refine acall_of hmix Try.func53 x53_ok (by simp) ?_
  simp (config := {contextual := true, implicitDefEqProofs := false}) (disch := omega)
  refine vc_loop (inv53 H.length (storedB s)) (s.length / 65535 + 1) ⟨[], s, .nilslice, false, .inl ⟨rfl, rfl⟩, Nat.le_refl _, ⟨rfl, by omega, by omega⟩, by simp; omega, by simp, by simp, by simp⟩ ?_
  rintro n env H1 ⟨pre, s1, w, last, hw, hl1, hc, hb, e0, e3, e4⟩
  cases last with
  | true =>
    rw [if_pos rfl] at hc
    simp (config := {contextual := true, implicitDefEqProofs := false}) (disch := omega) [e0, e3, e4]
    rw [hc]; exact hw
  | false =>
    simp only [Bool.false_eq_true, if_false] at hc
    obtain ⟨hR, hlt, h1n⟩ := hc
    obtain ⟨n', rfl⟩ : ∃ n', n = n' + 1 := ⟨n - 1, by omega⟩
    rw [storB] at hR
    by_cases c : s1.length ≤ 65535
    · rw [if_pos c] at hR
      have hmin : vMin (.int .i64 (s1.length : Int)) (.int .i64 65535) = some (.int .i64 (s1.length : Int)) := by
        simp only [vMin_int]
        by_cases c2 : s1.length = 65535
        · rw [c2]; rfl
        · rw [if_neg (by omega)]
      have b1 := xor64 (n := s1.length) (by omega)
      have b2 := u8_neg c
      have b3 := shr_neg c
      have b4 := u8_neg2 c
      have b5 := shr8 s1.length
      have hk := hdr_cells s1.length true
      simp only [if_true] at hk
      have hw1 := hw.app [.cells 0 false 5 (bytesOf (hdrB s1.length true))]
      obtain ⟨w2, H2, ha2, hw2, hl2, _⟩ := hw1.append (x := .slice H1.length 0 0 5 1) (new := bytesOf (hdrB s1.length true)) (n := 5) (bytes := 1) (by rw [List.length_append]; omega) (by simp [asrc]; exact List.take_of_length_le (by simp)) (by simp) (by simp) (by simp [roomLim]; omega)
      rw [← bytesOf_app] at hw2
      obtain ⟨w3, H3, ha3, hw3, hl3, _⟩ := hw2.append (x := .str s1) (bytes := 1) (by rw [List.length_append] at hl2; omega) asrc_str (by simp) (by simp) (by simp [roomLim]; omega)
      rw [← bytesOf_app] at hw3
      have hsl := vSlStr_hi (s := s1) (k := .i64) (h := s1.length) (by omega) (by omega)
      simp only [Int.toNat_natCast, List.take_length] at hsl
      have hsl2 := vSlStr_lo (s := s1) (k := .i64) (l := s1.length) (by omega) (by omega)
      simp (config := {contextual := true, implicitDefEqProofs := false}) (disch := omega) [e0, e3, e4, hmin, b1, b2, b3, b4, b5, u8_wrap, afill, zrep, hk, -Int.natCast_ediv, -Int.natCast_emod]
      refine e1_of ha2 ?_ ?_
      · intro r ht
        exact .inr (hw1.target (by simpa using ht))
      simp (config := {contextual := true, implicitDefEqProofs := false}) (disch := omega) [e0, e3, e4, hsl]
      refine e1_of ha3 ?_ ?_
      · intro r ht
        exact .inr (hw2.target (by simpa using ht))
      simp (config := {contextual := true, implicitDefEqProofs := false}) (disch := omega) [e0, e3, e4, hsl2]
      exact again_iff n' (by omega) ⟨pre ++ hdrB s1.length true ++ s1, [], w3, true, hw3, by rw [List.length_append] at hl2; omega, by rw [if_pos rfl, hR, blkB, List.append_assoc], by simp; omega, by simp, by simp, by simp⟩
    · rw [if_neg c] at hR
      have hmin : vMin (.int .i64 (s1.length : Int)) (.int .i64 65535) = some (.int .i64 65535) := by
        simp only [vMin_int]
        rw [if_pos (by omega)]
      have b1 := k53_b1
      have b2 := k53_b2
      have b3 := k53_b3
      have b4 := k53_b4
      have b5 := k53_b5
      have b6 := k53_b6
      have b7 := k53_b7
      have hk := k53_hk
      have htl : (s1.take 65535).length = 65535 := by rw [List.length_take]; omega
      obtain ⟨a1, hat⟩ : ∃ a1, s1.take 65535 = a1 := ⟨_, rfl⟩
      obtain ⟨h5, hh5⟩ : ∃ h5, hdrB 65535 false = h5 := ⟨_, rfl⟩
      have hh5l : h5.length = 5 := by rw [← hh5]; rfl
      rw [hat] at htl hR
      rw [hh5] at hk
      have hw1 := hw.app [.cells 0 false 5 (bytesOf (h5))]
      obtain ⟨w2, H2, ha2, hw2, hl2, _⟩ := hw1.append (x := .slice H1.length 0 0 5 1) (new := bytesOf (h5)) (n := 5) (bytes := 1) (by rw [List.length_append]; omega) (by simp [asrc, hh5l]; exact List.take_of_length_le (by simp [hh5l])) (by simp [hh5l]) (by simp) (by simp [roomLim]; omega)
      rw [← bytesOf_app] at hw2
      obtain ⟨w3, H3, ha3, hw3, hl3, _⟩ := hw2.append (x := .str (a1)) (bytes := 1) (by rw [List.length_append] at hl2; omega) asrc_str (by simp) (by simp) (by rw [htl]; simp [roomLim]; omega)
      rw [← bytesOf_app] at hw3
      have hsl := vSlStr_hi (s := s1) (k := .i64) (h := 65535) (by omega) (by omega)
      have hsl2 := vSlStr_lo (s := s1) (k := .i64) (l := 65535) (by omega) (by omega)
      simp only [show (65535 : Int).toNat = 65535 from rfl, hat] at hsl hsl2
      simp (config := {contextual := true, implicitDefEqProofs := false}) (disch := omega) [e0, e3, e4, hmin, b1, b2, b3, b4, b5, b6, b7, u8_wrap, afill, zrep, -Int.natCast_ediv, -Int.natCast_emod, show ¬ (65535 : Int) = s1.length by omega]
      rw [hk]
      refine e1_of ha2 ?_ ?_
      · intro r ht
        exact .inr (hw1.target (by simpa using ht))
      simp (config := {contextual := true, implicitDefEqProofs := false}) (disch := omega) [e0, e3, e4, hsl]
      refine e1_of ha3 ?_ ?_
      · intro r ht
        exact .inr (hw2.target (by simpa using ht))
      simp (config := {contextual := true, implicitDefEqProofs := false}) (disch := omega) [e0, e3, e4, hsl2]
      exact again_iff n' (by omega) ⟨pre ++ h5 ++ a1, s1.drop 65535, w3, false, hw3, by rw [List.length_append] at hl2; omega, by simp only [Bool.false_eq_true, if_false]; refine ⟨by rw [hR, blkB, htl, hh5]; simp only [List.append_assoc], by rw [List.length_drop]; omega, by omega⟩, by simp only [List.length_append, hh5l, htl, List.length_drop]; omega, by simp, by simp, by simp⟩
end
end Go.Proofs.Ytdknddicpdhkcaa.Ab

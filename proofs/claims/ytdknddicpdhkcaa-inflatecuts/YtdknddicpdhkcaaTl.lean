/- Inflate: zlib streams and their checksums. Conditions: none; for the statements about layers 46 and 47. -/
import Derived.Test.YtdknddicpdhkcaaTk
namespace Go.Proofs.Ytdknddicpdhkcaa.Ab
set_option linter.unusedVariables false
set_option linter.unusedSimpArgs false

/-- The checksum's two halves. -/
def adlG : List UInt8 → Nat → Nat → Nat × Nat
  | [], a, b => (a, b)
  | c :: l, a, b => adlG l ((a + c.toNat) % 65521) ((b + (a + c.toNat) % 65521) % 65521)
def adlerN (s : List UInt8) : Nat := (adlG s 1 0).2 * 65536 + (adlG s 1 0).1
theorem adlG_lt : ∀ (l : List UInt8) (a b : Nat), a < 65521 → b < 65521 → (adlG l a b).1 < 65521 ∧ (adlG l a b).2 < 65521
  | [], a, b, ha, hb => ⟨ha, hb⟩
  | c :: l, a, b, ha, hb => adlG_lt l _ _ (Nat.mod_lt _ (by omega)) (Nat.mod_lt _ (by omega))
theorem adlerN_lt (s : List UInt8) : adlerN s < 2 ^ 32 := by
  have := adlG_lt s 1 0 (by omega) (by omega)
  unfold adlerN; omega

def be32 (s : List UInt8) : Nat := (((chr s 0).toNat * 256 + (chr s 1).toNat) * 256 + (chr s 2).toNat) * 256 + (chr s 3).toNat
def zbad (c f : Nat) : Prop := c % 16 ≠ 8 ∨ 128 ≤ c ∨ (256 * c + f) % 31 ≠ 0 ∨ f / 32 % 2 ≠ 0
instance (c f : Nat) : Decidable (zbad c f) := inferInstanceAs (Decidable (_ ∨ _))
/-- What is made of what the stream came to. -/
def ztail (rest out : List UInt8) : List UInt8 × Int :=
  if rest.length < 4 then ([], 5)
  else if be32 rest ≠ adlerN out then ([], 7)
  else if 4 < rest.length then ([], 6)
  else (out, 0)
def zrest (s : List UInt8) (r : List UInt8 × Nat × Int) : List UInt8 × Int :=
  if r.2.2 ≠ 0 then ([], r.2.2) else ztail (s.drop (2 + r.2.1)) r.1
def zlibM (s : List UInt8) (n : Int) (F : Nat) : List UInt8 × Int :=
  if s.length < 2 then ([], 5)
  else if zbad (chr s 0).toNat (chr s 1).toNat then ([], 4)
  else zrest s (inflM (s.drop 2) n F)

theorem loopM_facts (s : List UInt8) {most F : Nat} : ∀ {G : Nat} {t : St}, t.out.length ≤ most → t.at' ≤ 8 * s.length → t.at' ≤ (loopM s most F G t).at' ∧ (loopM s most F G t).at' ≤ 8 * s.length ∧ (loopM s most F G t).out.length ≤ most
  | 0, t, ho, hat => ⟨Nat.le_refl _, hat, ho⟩
  | G + 1, t, ho, hat => by
    have h1 := bitsM_at s 1 t hat
    have h2 := bitsM_at s 2 (bitsM s 1 t).2 h1.1
    have h3 := kindM_facts s (most := most) (F := F) (kind := (bitsM s 2 (bitsM s 1 t).2).1) (t := (bitsM s 2 (bitsM s 1 t).2).2) (by simpa using ho) h2.1
    rw [loopM]
    split
    · exact ⟨Nat.le_refl _, hat, ho⟩
    · split
      · exact ⟨by omega, h2.1, by simpa using ho⟩
      · split
        · have ih := loopM_facts s (F := F) (G := G) (t := kindM s most F (bitsM s 2 (bitsM s 1 t).2).1 (bitsM s 2 (bitsM s 1 t).2).2) h3.2.2 h3.2.1
          exact ⟨by omega, ih.2.1, ih.2.2⟩
        · exact ⟨by omega, h3.2.1, h3.2.2⟩
theorem inflM_used (s : List UInt8) (n : Int) (F : Nat) : (inflM s n F).2.1 ≤ s.length ∧ (inflM s n F).1.length ≤ clampN n := by
  have h := loopM_facts s (most := clampN n) (F := F) (G := F) (t := ⟨0, [], 0⟩) (by simp) (by simp)
  unfold inflM
  split
  · simp
  · exact ⟨by simp only []; omega, h.2.2⟩

theorem u32_nat {n : Nat} (h : n < 2 ^ 32) : IntKind.u32.wrap (n : Int) = n := IntWalk.u32_in _ (by omega)
theorem or_u32 {a b : Nat} (ha : a < 2 ^ 32) (hb : b < 2 ^ 32) : abin .or (.int .u32 (a : Int)) (.int .u32 (b : Int)) = some (.int .u32 ((a ||| b : Nat) : Int)) := by
  rw [abin_or]
  refine congrArg (fun x => some (AVal.int .u32 x)) ?_
  rw [bits_u32, ofInt_nat, ofInt_nat, BitVec.toNat_or, BitVec.toNat_ofNat, BitVec.toNat_ofNat, Nat.mod_eq_of_lt (by omega), Nat.mod_eq_of_lt (by omega)]
  exact u32_nat (Nat.or_lt_two_pow ha hb)
theorem or_add2 {a b i : Nat} (h : a < 2 ^ i) : b * 2 ^ i ||| a = b * 2 ^ i + a := by rw [Nat.or_comm, or_add h]; omega

section
variable {s : List UInt8} {H : AHeap} {fp : Nat → Prop}

def inv29 (H : AHeap) (s : List UInt8) (n : Nat) (env : Env) (H' : AHeap) : Prop :=
  ∃ i a b, i ≤ s.length ∧ n = s.length - i ∧ H' = H ∧ env 0 = .str s ∧ env 7 = .int .i64 s.length ∧ env 8 = .int .i64 i ∧ env 3 = .int .u32 (a : Nat) ∧ env 4 = .int .u32 (b : Nat) ∧ a < 65521 ∧ b < 65521 ∧ adlG s 1 0 = adlG (s.drop i) a b

theorem adler_ok (hs : s.length ≤ 2 ^ 50) : ACall Try.prog 29 [.str s] H fp fun v H' => v = .int .u32 (adlerN s) ∧ H' = H := by
  refine acall_of hmix Try.func29 x29_ok (by simp) ?_
  simp
  refine vc_loop (inv29 H s) s.length ⟨0, 1, 0, by omega, by omega, rfl, by simp, by simp, by simp, by simp, by simp, by omega, by omega, rfl⟩ ?_
  rintro n env H1 ⟨i, a, b, hi, rfl, rfl, e0, e7, e8, e3, e4, ha, hb, hadl⟩
  by_cases hlt : i < s.length
  · have hc := UInt8.toNat_lt (chr s i)
    have hd : s.drop i = chr s i :: s.drop (i + 1) := by
      rw [List.drop_eq_getElem_cons hlt]; simp [chr, List.getD_eq_getElem?_getD, hlt]
    rw [hd, adlG] at hadl
    have a1 : IntKind.u32.wrap ((chr s i).toNat : Int) = ((chr s i).toNat : Int) := u32_nat (by omega)
    have a2 : abin .add (.int .u32 (a : Int)) (.int .u32 ((chr s i).toNat : Int)) = some (.int .u32 ((a + (chr s i).toNat : Nat) : Int)) := by
      rw [abin_add, ← Int.natCast_add, u32_nat (by omega)]
    have a3 : ∀ x : Nat, abin .rem (.int .u32 (x : Int)) (.int .u32 65521) = some (.int .u32 ((x % 65521 : Nat) : Int)) := by
      intro x; rw [abin_rem (by omega), Int.tmod_eq_emod_of_nonneg (by omega)]; rfl
    have a4 : ∀ y : Nat, y < 65521 → abin .add (.int .u32 (b : Int)) (.int .u32 (y : Int)) = some (.int .u32 ((b + y : Nat) : Int)) := by
      intro y hy; rw [abin_add, ← Int.natCast_add, u32_nat (by omega)]
    have hm := Nat.mod_lt (a + (chr s i).toNat) (show 0 < 65521 by omega)
    simp (config := {contextual := true, implicitDefEqProofs := false}) (disch := omega) [e0, e7, e8, e3, e4, hlt, vIdxStr_nat, a1, a2, a3, a4, i64_id, -abin_add, -Int.natCast_add, -Int.natCast_emod]
    have a5 : abin .add (.int .i64 (i : Int)) (.int .i64 1) = some (.int .i64 ((i + 1 : Nat) : Int)) := by rw [abin_add, i64_id (by omega) (by omega)]; rfl
    simp (config := {contextual := true, implicitDefEqProofs := false}) (disch := omega) [a5, -abin_add, -Int.natCast_add, -Int.natCast_emod]
    exact again_iff (s.length - (i + 1)) (by omega) ⟨i + 1, _, _, hlt, rfl, rfl, by simp [e0], by simp [e7], by simp, by simp, by simp, hm, Nat.mod_lt _ (by omega), hadl⟩
  · have hi2 : i = s.length := by omega
    rw [hi2, List.drop_length, adlG] at hadl
    have a1 : abin .shl (.int .u32 (b : Int)) (.int .u64 16) = some (.int .u32 ((b * 65536 : Nat) : Int)) := by
      rw [abin_shl (by omega)]
      simp only [bits_u32, show min (16 : Int).toNat 32 = 16 by decide]
      rw [show (b : Int) * 2 ^ 16 = ((b * 65536 : Nat) : Int) by simp, u32_nat (by omega)]
    have a2 : abin .or (.int .u32 ((b * 65536 : Nat) : Int)) (.int .u32 (a : Int)) = some (.int .u32 ((b * 65536 + a : Nat) : Int)) := by
      rw [or_u32 (by omega) (by omega)]
      have := or_add2 (a := a) (b := b) (i := 16) (by omega)
      rw [show (2 : Nat) ^ 16 = 65536 by rfl] at this
      rw [this]
    have hN : adlerN s = b * 65536 + a := by rw [adlerN, hadl]
    simp (config := {contextual := true, implicitDefEqProofs := false}) (disch := omega) [e0, e7, e8, e3, e4, hlt, a1, a2, hN, -abin_or, -Int.natCast_add, -Int.natCast_mul]

/-- Zlib, in any state. -/
theorem zlib_ok {n : Int} {F : Nat} (hs : s.length ≤ 2 ^ 49) (hF : 8 * s.length < F) :
    ACall Try.prog 30 [.str s, .int .i64 n] H fp fun v H' => v = .tuple [.str (zlibM s n F).1, .int .i64 (zlibM s n F).2] ∧ H' = H := by
  refine acall_of hmix Try.func30 x30_ok (by simp) ?_
  unfold zlibM
  by_cases c1 : s.length < 2
  · simp (config := {contextual := true, implicitDefEqProofs := false}) (disch := omega) [show (s.length : Int) < 2 by omega, c1]
  have i0 : vIdxStr (.str s) (.int .i64 0) = some (.int .u8 (chr s 0).toNat) := vIdxStr_nat (n := 0) (by omega)
  have i1 : vIdxStr (.str s) (.int .i64 1) = some (.int .u8 (chr s 1).toNat) := vIdxStr_nat (n := 1) (by omega)
  have hc := UInt8.toNat_lt (chr s 0)
  have hf := UInt8.toNat_lt (chr s 1)
  rw [if_neg c1]
  generalize (chr s 0).toNat = c at *
  generalize (chr s 1).toNat = f at *
  have a1 : ∀ x : Nat, abin .rem (.int .i64 (x : Int)) (.int .i64 16) = some (.int .i64 ((x % 16 : Nat) : Int)) := by
    intro x; rw [abin_rem (by omega), Int.tmod_eq_emod_of_nonneg (by omega)]; rfl
  have a2 : abin .mul (.int .i64 256) (.int .i64 (c : Int)) = some (.int .i64 ((256 * c : Nat) : Int)) := by rw [abin_mul, i64_id (by omega) (by omega)]; rfl
  have a3 : abin .add (.int .i64 ((256 * c : Nat) : Int)) (.int .i64 (f : Int)) = some (.int .i64 ((256 * c + f : Nat) : Int)) := by rw [abin_add, i64_id (by omega) (by omega)]; rfl
  have a4 : ∀ x : Nat, abin .rem (.int .i64 (x : Int)) (.int .i64 31) = some (.int .i64 ((x % 31 : Nat) : Int)) := by
    intro x; rw [abin_rem (by omega), Int.tmod_eq_emod_of_nonneg (by omega)]; rfl
  have a5 : abin .and (.int .i64 (f : Int)) (.int .i64 32) = some (.int .i64 ((f / 32 % 2 * 32 : Nat) : Int)) := by
    rw [abin_and]
    refine congrArg (fun x => some (AVal.int .i64 x)) ?_
    have := and_i64 (a := f) (b := 32) (by omega) (by omega)
    rw [bits_i64]
    refine (Eq.trans (by rfl) this).trans ?_
    have h32 : ∀ x : Fin 256, x.val &&& 32 = x.val / 32 % 2 * 32 := by decide +kernel
    have := h32 ⟨f, hf⟩
    simp only [] at this
    rw [this]
  have j0 := fun x : Nat => i64_nat (n := x)
  by_cases b1 : c % 16 = 8
  · by_cases b2 : 128 ≤ c
    · rw [if_pos (show zbad c f from .inr (.inl b2))]
      simp (config := {contextual := true, implicitDefEqProofs := false}) (disch := omega) [show ¬ (s.length : Int) < 2 by omega, i0, i1, i64_nat, a1, b1, show (128 : Int) ≤ c by omega, -Int.natCast_emod]
    · by_cases b3 : (256 * c + f) % 31 = 0
      · by_cases b4 : f / 32 % 2 = 0
        · have hz : ¬ zbad c f := by rintro (h | h | h | h) <;> omega
          rw [if_neg hz]
          have hin := inflate_ok (H := H) (fp := fun r => fp r ∨ H.length ≤ r) (s := s.drop 2) (n := n) (F := F) (by simp; omega) (by simp; omega)
          have hu := (inflM_used (s.drop 2) n F).1
          have ho := (inflM_used (s.drop 2) n F).2
          have hcl : clampN n ≤ 1048576 := by unfold clampN; omega
          simp only [List.length_drop] at hu
          generalize inflM (s.drop 2) n F = r at *
          have hsl : vSlStr (.str s) (some (.int .i64 2)) none = some (.str (s.drop 2)) := vSlStr_lo (l := 2) (by omega) (by omega)
          simp (config := {contextual := true, implicitDefEqProofs := false}) (disch := omega) [show ¬ (s.length : Int) < 2 by omega, i0, i1, i64_nat, a1, b1, show ¬ (128 : Int) ≤ c by omega, a2, a3, a4, b3, a5, b4, hsl, -Int.natCast_emod, -Int.natCast_add, -Int.natCast_mul, -abin_add, -abin_mul, -abin_and]
          refine call1_eq hin ?_
          by_cases c2 : r.2.2 = 0
          · rw [zrest, if_neg (show ¬ r.2.2 ≠ 0 by simp [c2])]
            have a6 : abin .add (.int .i64 2) (.int .i64 (r.2.1 : Int)) = some (.int .i64 ((2 + r.2.1 : Nat) : Int)) := by rw [abin_add, i64_id (by omega) (by omega)]; rfl
            have hsl2 : vSlStr (.str s) (some (.int .i64 ((2 + r.2.1 : Nat) : Int))) none = some (.str (s.drop (2 + r.2.1))) := by
              have := vSlStr_lo (s := s) (k := .i64) (l := ((2 + r.2.1 : Nat) : Int)) (by omega) (by omega)
              rwa [Int.toNat_natCast] at this
            generalize s.drop (2 + r.2.1) = rest at *
            by_cases d1 : rest.length < 4
            · rw [ztail, if_pos d1]
              simp (config := {contextual := true, implicitDefEqProofs := false}) (disch := omega) [c2, a6, hsl2, -Int.natCast_add, -abin_add, show (rest.length : Int) < 4 by omega]
            · have k0 : vIdxStr (.str rest) (.int .i64 0) = some (.int .u8 (chr rest 0).toNat) := vIdxStr_nat (n := 0) (by omega)
              have k1 : vIdxStr (.str rest) (.int .i64 1) = some (.int .u8 (chr rest 1).toNat) := vIdxStr_nat (n := 1) (by omega)
              have k2 : vIdxStr (.str rest) (.int .i64 2) = some (.int .u8 (chr rest 2).toNat) := vIdxStr_nat (n := 2) (by omega)
              have k3 : vIdxStr (.str rest) (.int .i64 3) = some (.int .u8 (chr rest 3).toNat) := vIdxStr_nat (n := 3) (by omega)
              have y0 := UInt8.toNat_lt (chr rest 0)
              have y1 := UInt8.toNat_lt (chr rest 1)
              have y2 := UInt8.toNat_lt (chr rest 2)
              have y3 := UInt8.toNat_lt (chr rest 3)
              have hbe : be32 rest = (((chr rest 0).toNat * 256 + (chr rest 1).toNat) * 256 + (chr rest 2).toNat) * 256 + (chr rest 3).toNat := rfl
              have hal := adlerN_lt r.1
              generalize (chr rest 0).toNat = c0 at *
              generalize (chr rest 1).toNat = c1' at *
              generalize (chr rest 2).toNat = c2' at *
              generalize (chr rest 3).toNat = c3 at *
              have q : ∀ x : Nat, x < 2 ^ 32 → IntKind.u32.wrap (x : Int) = x := fun x h => u32_nat h
              have t0 : abin .shl (.int .u32 (c0 : Int)) (.int .u64 24) = some (.int .u32 ((c0 * 16777216 : Nat) : Int)) := by
                rw [abin_shl (by omega)]
                simp only [bits_u32, show min (24 : Int).toNat 32 = 24 by decide]
                rw [show (c0 : Int) * 2 ^ 24 = ((c0 * 16777216 : Nat) : Int) by simp, u32_nat (by omega)]
              have t1 : abin .shl (.int .u32 (c1' : Int)) (.int .u64 16) = some (.int .u32 ((c1' * 65536 : Nat) : Int)) := by
                rw [abin_shl (by omega)]
                simp only [bits_u32, show min (16 : Int).toNat 32 = 16 by decide]
                rw [show (c1' : Int) * 2 ^ 16 = ((c1' * 65536 : Nat) : Int) by simp, u32_nat (by omega)]
              have t2 : abin .shl (.int .u32 (c2' : Int)) (.int .u64 8) = some (.int .u32 ((c2' * 256 : Nat) : Int)) := by
                rw [abin_shl (by omega)]
                simp only [bits_u32, show min (8 : Int).toNat 32 = 8 by decide]
                rw [show (c2' : Int) * 2 ^ 8 = ((c2' * 256 : Nat) : Int) by simp, u32_nat (by omega)]
              have o1 : abin .or (.int .u32 ((c0 * 16777216 : Nat) : Int)) (.int .u32 ((c1' * 65536 : Nat) : Int)) = some (.int .u32 (((c0 * 256 + c1') * 65536 : Nat) : Int)) := by
                rw [or_u32 (by omega) (by omega)]
                have := or_add2 (a := c1' * 65536) (b := c0) (i := 24) (by omega)
                rw [show (2 : Nat) ^ 24 = 16777216 by rfl] at this
                rw [this]; exact congrArg (fun x : Nat => some (AVal.int .u32 (x : Int))) (by omega)
              have o2 : abin .or (.int .u32 (((c0 * 256 + c1') * 65536 : Nat) : Int)) (.int .u32 ((c2' * 256 : Nat) : Int)) = some (.int .u32 ((((c0 * 256 + c1') * 256 + c2') * 256 : Nat) : Int)) := by
                rw [or_u32 (by omega) (by omega)]
                have := or_add2 (a := c2' * 256) (b := c0 * 256 + c1') (i := 16) (by omega)
                rw [show (2 : Nat) ^ 16 = 65536 by rfl] at this
                rw [this]; exact congrArg (fun x : Nat => some (AVal.int .u32 (x : Int))) (by omega)
              have o3 : abin .or (.int .u32 ((((c0 * 256 + c1') * 256 + c2') * 256 : Nat) : Int)) (.int .u32 (c3 : Int)) = some (.int .u32 ((be32 rest : Nat) : Int)) := by
                rw [or_u32 (by omega) (by omega)]
                have := or_add2 (a := c3) (b := (c0 * 256 + c1') * 256 + c2') (i := 8) (by omega)
                rw [show (2 : Nat) ^ 8 = 256 by rfl] at this
                rw [this, hbe]
              simp (config := {contextual := true, implicitDefEqProofs := false}) (disch := omega) [c2, a6, hsl2, -abin_add, show ¬ (rest.length : Int) < 4 by omega, k0, k1, k2, k3, q, t0, t1, t2, o1, o2, o3, -abin_or, -Int.natCast_add, -Int.natCast_mul]
              refine call1_eq (adler_ok (by omega)) ?_
              by_cases d2 : be32 rest = adlerN r.1
              · by_cases d3 : 4 < rest.length
                · rw [ztail, if_neg d1, if_neg (by simp [d2]), if_pos d3]
                  simp (config := {contextual := true, implicitDefEqProofs := false}) (disch := omega) [d2, show (4 : Int) < rest.length by omega]
                · rw [ztail, if_neg d1, if_neg (by simp [d2]), if_neg d3]
                  simp (config := {contextual := true, implicitDefEqProofs := false}) (disch := omega) [d2, show ¬ (4 : Int) < rest.length by omega]
              · rw [ztail, if_neg d1, if_pos d2]
                simp (config := {contextual := true, implicitDefEqProofs := false}) (disch := omega) [show ¬ ((be32 rest : Nat) : Int) = ((adlerN r.1 : Nat) : Int) by omega]
          · rw [zrest, if_pos c2]
            simp (config := {contextual := true, implicitDefEqProofs := false}) (disch := omega) [c2]
        · rw [if_pos (show zbad c f from .inr (.inr (.inr b4)))]
          simp (config := {contextual := true, implicitDefEqProofs := false}) (disch := omega) [show ¬ (s.length : Int) < 2 by omega, i0, i1, i64_nat, a1, b1, show ¬ (128 : Int) ≤ c by omega, a2, a3, a4, b3, a5, show ¬ ((f / 32 % 2 * 32 : Nat) : Int) = 0 by omega, show ¬ f / 32 % 2 * 32 = 0 by omega, -Int.natCast_emod, -Int.natCast_add, -Int.natCast_mul, -abin_add, -abin_mul, -abin_and]
      · rw [if_pos (show zbad c f from .inr (.inr (.inl b3)))]
        simp (config := {contextual := true, implicitDefEqProofs := false}) (disch := omega) [show ¬ (s.length : Int) < 2 by omega, i0, i1, i64_nat, a1, b1, show ¬ (128 : Int) ≤ c by omega, a2, a3, a4, show ¬ (((256 * c + f) % 31 : Nat) : Int) = 0 by omega, b3, -Int.natCast_emod, -Int.natCast_add, -Int.natCast_mul, -abin_add, -abin_mul]
  · rw [if_pos (show zbad c f from .inl b1)]
    simp (config := {contextual := true, implicitDefEqProofs := false}) (disch := omega) [show ¬ (s.length : Int) < 2 by omega, i0, i1, i64_nat, a1, show ¬ ((c % 16 : Nat) : Int) = 8 by omega, -Int.natCast_emod]
end
end Go.Proofs.Ytdknddicpdhkcaa.Ab

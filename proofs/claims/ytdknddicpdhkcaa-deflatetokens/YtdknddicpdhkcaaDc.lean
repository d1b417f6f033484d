/- Deflate: how long two places agree, the longest match by the specification, and the symbols of lengths and distances. Conditions: none; for the statements about layer 47. -/
import Derived.Test.YtdknddicpdhkcaaDb
namespace Go.Proofs.Ytdknddicpdhkcaa.Ab
set_option linter.unusedVariables false
set_option linter.unusedSimpArgs false

def comF (s : List UInt8) (p q : Nat) : Nat → Nat → Nat
  | 0, n => n
  | f + 1, n => if p + n < s.length ∧ chr s (p + n) = chr s (q + n) then comF s p q f (n + 1) else n
/-- How many bytes from p on are those from q on, at most 258. -/
def com (s : List UInt8) (p q : Nat) : Nat := comF s p q 258 0
theorem comF_le (s : List UInt8) (p q : Nat) : ∀ f n, comF s p q f n ≤ n + f ∧ n ≤ comF s p q f n
  | 0, n => by simp [comF]
  | f + 1, n => by
    rw [comF]; split
    · have := comF_le s p q f (n + 1); omega
    · omega
theorem com_le (s : List UInt8) (p q : Nat) : com s p q ≤ 258 := by have := (comF_le s p q 258 0).1; simpa [com] using this

def refScan (s : List UInt8) (p : Nat) : Nat → Nat × Nat
  | 0 => (0, 0)
  | D + 1 => if (refScan s p D).1 < com s p (p - (D + 1)) then (com s p (p - (D + 1)), D + 1) else refScan s p D
def matchR (s : List UInt8) (p : Nat) : Nat × Nat := if (refScan s p (min 4096 p)).1 < 3 then (0, 0) else refScan s p (min 4096 p)
theorem refScan_le (s : List UInt8) (p : Nat) : ∀ D, (refScan s p D).1 ≤ 258 ∧ (refScan s p D).2 ≤ D
  | 0 => by simp [refScan]
  | D + 1 => by
    have := refScan_le s p D
    have h2 := com_le s p (p - (D + 1))
    rw [refScan]; split
    · exact ⟨h2, Nat.le_refl _⟩
    · omega

def lenL (n : Nat) : Nat → Nat → Nat → Nat → Nat × Nat × Nat
  | 0, y, b, e => (y, b, e)
  | f + 1, y, b, e => if y < 284 ∧ b + 2 ^ e ≤ n then lenL n f (y + 1) (b + 2 ^ e) (if 265 ≤ y + 1 then (y + 1 - 261) / 4 else e) else (y, b, e)
def lenR (n : Nat) : Nat × Nat × Nat := if n = 258 then (285, 258, 0) else lenL n 27 257 3 0
def distL (d : Nat) : Nat → Nat → Nat → Nat → Nat × Nat × Nat
  | 0, y, b, e => (y, b, e)
  | f + 1, y, b, e => if y < 29 ∧ b + 2 ^ e ≤ d then distL d f (y + 1) (b + 2 ^ e) (if 4 ≤ y + 1 then (y + 1 - 2) / 2 else e) else (y, b, e)
def distR (d : Nat) : Nat × Nat × Nat := distL d 29 0 1 0
def rkX (plain group y : Nat) : Nat := if y < plain then 0 else (y - plain) / group + 1
def rankL (x plain group : Nat) : Nat → Nat → Nat → Nat × Nat × Nat
  | 0, y, b => (y, b, rkX plain group y)
  | f + 1, y, b => if x < b + 2 ^ rkX plain group y then (y, b, rkX plain group y) else rankL x plain group f (y + 1) (b + 2 ^ rkX plain group y)

section
variable {s : List UInt8} {H : AHeap} {fp : Nat → Prop}

def inv39 (H : AHeap) (s : List UInt8) (p d R : Nat) (n : Nat) (env : Env) (H' : AHeap) : Prop :=
  ∃ k, k + n = 258 ∧ H' = H ∧ R = comF s p (p - d) n k ∧ env 0 = .str s ∧ env 1 = .int .i64 p ∧ env 2 = .int .i64 d ∧ env 7 = .int .i64 k

theorem u8_eq {a b : UInt8} : ((a.toNat : Nat) : Int) = ((b.toNat : Nat) : Int) ↔ a = b := by
  constructor
  · intro h; exact UInt8.toNat_inj.1 (by omega)
  · intro h; rw [h]

theorem common_ok {p d : Nat} (hs : s.length ≤ 2 ^ 40) (hp : p ≤ 2 ^ 40) (hd : d ≤ p) : ACall Try.prog 39 [.str s, .int .i64 p, .int .i64 d] H fp fun v H' => v = .int .i64 (com s p (p - d)) ∧ H' = H := by
  refine acall_of hmix Try.func39 x39_ok (by simp) ?_
  simp
  refine vc_loop (inv39 H s p d (com s p (p - d))) 258 ⟨0, rfl, rfl, rfl, by simp, by simp, by simp, by simp⟩ ?_
  rintro n env H1 ⟨k, hk, rfl, hR, e0, e1', e2, e7⟩
  have a1 : abin .add (.int .i64 (p : Int)) (.int .i64 (k : Int)) = some (.int .i64 ((p + k : Nat) : Int)) := by rw [abin_add, i64_id (by omega) (by omega)]; rfl
  have a2 : abin .sub (.int .i64 ((p + k : Nat) : Int)) (.int .i64 (d : Int)) = some (.int .i64 ((p - d + k : Nat) : Int)) := by rw [abin_sub, i64_id (by omega) (by omega)]; congr 2; omega
  have a3 : abin .add (.int .i64 (k : Int)) (.int .i64 1) = some (.int .i64 ((k + 1 : Nat) : Int)) := by rw [abin_add, i64_id (by omega) (by omega)]; rfl
  cases n with
  | zero =>
    rw [comF] at hR
    simp (config := {contextual := true, implicitDefEqProofs := false}) (disch := omega) [e0, e1', e2, e7, show ¬ (k : Int) < 258 by omega]
    rw [hR]
  | succ n =>
    rw [comF] at hR
    by_cases c1 : p + k < s.length
    · have i1 := vIdxStr_nat (s := s) (k := .i64) (n := p + k) c1
      have i2 := vIdxStr_nat (s := s) (k := .i64) (n := p - d + k) (by omega)
      by_cases c2 : chr s (p + k) = chr s (p - d + k)
      · rw [if_pos ⟨c1, c2⟩] at hR
        have c3 := u8_eq.2 c2
        simp (config := {contextual := true, implicitDefEqProofs := false}) (disch := omega) [e0, e1', e2, e7, show (k : Int) < 258 by omega, a1, a2, a3, i1, i2, show ((p + k : Nat) : Int) < s.length by omega, c3, -abin_add, -abin_sub, -Int.natCast_add]
        exact again_iff n (by omega) ⟨k + 1, by omega, rfl, hR, by simp [e0], by simp [e1'], by simp [e2], by simp⟩
      · rw [if_neg (fun h => c2 h.2)] at hR
        have c3 : ¬ ((chr s (p + k)).toNat : Int) = ((chr s (p - d + k)).toNat : Int) := fun h => c2 (u8_eq.1 h)
        simp (config := {contextual := true, implicitDefEqProofs := false}) (disch := omega) [e0, e1', e2, e7, show (k : Int) < 258 by omega, a1, a2, i1, i2, show ((p + k : Nat) : Int) < s.length by omega, c3, -abin_add, -abin_sub, -Int.natCast_add]
        rw [hR]
    · rw [if_neg (fun h => c1 h.1)] at hR
      simp (config := {contextual := true, implicitDefEqProofs := false}) (disch := omega) [e0, e1', e2, e7, show (k : Int) < 258 by omega, a1, show ¬ ((p + k : Nat) : Int) < s.length by omega, -abin_add, -Int.natCast_add]
      rw [hR]

def inv69 (H : AHeap) (r : Nat) (p q R : Nat) (s : List UInt8) (n : Nat) (env : Env) (H' : AHeap) : Prop :=
  ∃ k, k + n = 258 ∧ H' = H ∧ R = comF s p q n k ∧ env 0 = .ptr r 0 0 ∧ env 1 = .int .i64 p ∧ env 2 = .int .i64 q ∧ env 7 = .int .i64 k

theorem flen_ok {p q r : Nat} (hs : s.length ≤ 2 ^ 40) (hp : p ≤ 2 ^ 40) (hq : q ≤ p) (hr : ageOk H r 0 = true) (hl : aload H r 0 0 = some (.str s)) : ACall Try.prog 69 [.ptr r 0 0, .int .i64 p, .int .i64 q] H fp fun v H' => v = .int .i64 (com s p q) ∧ H' = H := by
  refine acall_of hmix Try.func69 x69_ok (by simp) ?_
  simp
  refine vc_loop (inv69 H r p q (com s p q) s) 258 ⟨0, rfl, rfl, rfl, by simp, by simp, by simp, by simp⟩ ?_
  rintro n env H1 ⟨k, hk, rfl, hR, e0, e1', e2, e7⟩
  have a1 : abin .add (.int .i64 (p : Int)) (.int .i64 (k : Int)) = some (.int .i64 ((p + k : Nat) : Int)) := by rw [abin_add, i64_id (by omega) (by omega)]; rfl
  have a2 : abin .add (.int .i64 (q : Int)) (.int .i64 (k : Int)) = some (.int .i64 ((q + k : Nat) : Int)) := by rw [abin_add, i64_id (by omega) (by omega)]; rfl
  have a3 : abin .add (.int .i64 (k : Int)) (.int .i64 1) = some (.int .i64 ((k + 1 : Nat) : Int)) := by rw [abin_add, i64_id (by omega) (by omega)]; rfl
  cases n with
  | zero =>
    rw [comF] at hR
    simp (config := {contextual := true, implicitDefEqProofs := false}) (disch := omega) [e0, e1', e2, e7, show ¬ (k : Int) < 258 by omega]
    rw [hR]
  | succ n =>
    rw [comF] at hR
    by_cases c1 : p + k < s.length
    · have i1 := vIdxStr_nat (s := s) (k := .i64) (n := p + k) c1
      have i2 := vIdxStr_nat (s := s) (k := .i64) (n := q + k) (by omega)
      by_cases c2 : chr s (p + k) = chr s (q + k)
      · rw [if_pos ⟨c1, c2⟩] at hR
        have c3 := u8_eq.2 c2
        simp (config := {contextual := true, implicitDefEqProofs := false}) (disch := omega) [e0, e1', e2, e7, hr, hl, show (k : Int) < 258 by omega, a1, a2, a3, i1, i2, show ((p + k : Nat) : Int) < s.length by omega, c3, -abin_add, -abin_sub, -Int.natCast_add]
        exact again_iff n (by omega) ⟨k + 1, by omega, rfl, hR, by simp [e0], by simp [e1'], by simp [e2], by simp⟩
      · rw [if_neg (fun h => c2 h.2)] at hR
        have c3 : ¬ ((chr s (p + k)).toNat : Int) = ((chr s (q + k)).toNat : Int) := fun h => c2 (u8_eq.1 h)
        simp (config := {contextual := true, implicitDefEqProofs := false}) (disch := omega) [e0, e1', e2, e7, hr, hl, show (k : Int) < 258 by omega, a1, a2, i1, i2, show ((p + k : Nat) : Int) < s.length by omega, c3, -abin_add, -abin_sub, -Int.natCast_add]
        rw [hR]
    · rw [if_neg (fun h => c1 h.1)] at hR
      simp (config := {contextual := true, implicitDefEqProofs := false}) (disch := omega) [e0, e1', e2, e7, hr, hl, show (k : Int) < 258 by omega, a1, show ¬ ((p + k : Nat) : Int) < s.length by omega, -abin_add, -Int.natCast_add]
      rw [hR]

def inv15 (H : AHeap) (s : List UInt8) (p : Nat) (n : Nat) (env : Env) (H' : AHeap) : Prop :=
  ∃ D, D ≤ min 4096 p ∧ n = min 4096 p - D ∧ H' = H ∧ env 0 = .str s ∧ env 1 = .int .i64 p ∧ env 6 = .int .i64 (refScan s p D).1 ∧ env 7 = .int .i64 (refScan s p D).2 ∧ env 8 = .int .i64 ((D + 1 : Nat) : Int)

theorem match15_ok {p : Nat} (hs : s.length ≤ 2 ^ 40) (hp : p ≤ 2 ^ 40) : ACall Try.prog 15 [.str s, .int .i64 p] H fp fun v H' => v = .tuple [.int .i64 (matchR s p).1, .int .i64 (matchR s p).2] ∧ H' = H := by
  refine acall_of hmix Try.func15 x15_ok (by simp) ?_
  simp
  refine vc_loop (inv15 H s p) (min 4096 p) ⟨0, by omega, by omega, rfl, by simp, by simp, by simp [refScan], by simp [refScan], by simp⟩ ?_
  rintro n env H1 ⟨D, hD, rfl, rfl, e0, e1', e6, e7, e8⟩
  by_cases hlt : D < min 4096 p
  · have a3 : abin .add (.int .i64 ((D + 1 : Nat) : Int)) (.int .i64 1) = some (.int .i64 ((D + 1 + 1 : Nat) : Int)) := by rw [abin_add, i64_id (by omega) (by omega)]; rfl
    simp (config := {contextual := true, implicitDefEqProofs := false}) (disch := omega) [e0, e1', e6, e7, e8, show ((D + 1 : Nat) : Int) ≤ 4096 by omega, show ((D + 1 : Nat) : Int) ≤ p by omega, show D + 1 ≤ p by omega, -Int.natCast_add]
    refine call1_eq (common_ok hs hp (d := D + 1) (by omega)) ?_
    by_cases c : (refScan s p D).1 < com s p (p - (D + 1))
    · simp (config := {contextual := true, implicitDefEqProofs := false}) (disch := omega) [e0, e1', e6, e7, e8, show ((refScan s p D).1 : Int) < com s p (p - (D + 1)) by omega, c, a3, -abin_add, -Int.natCast_add]
      exact again_iff (min 4096 p - (D + 1)) (by omega) ⟨D + 1, by omega, rfl, rfl, by simp [e0], by simp [e1'], by simp [refScan, c], by rw [refScan, if_pos c]; simp, by simp⟩
    · simp (config := {contextual := true, implicitDefEqProofs := false}) (disch := omega) [e0, e1', e6, e7, e8, show ¬ ((refScan s p D).1 : Int) < com s p (p - (D + 1)) by omega, c, a3, -abin_add, -Int.natCast_add]
      exact again_iff (min 4096 p - (D + 1)) (by omega) ⟨D + 1, by omega, rfl, rfl, by simp [e0], by simp [e1'], by simp [refScan, c, e6], by rw [refScan, if_neg c]; simp [e7], by simp⟩
  · have hD2 : D = min 4096 p := by omega
    have hl := refScan_le s p D
    have hf : ((refScan s p D).1 < 3 → matchR s p = (0, 0)) ∧ (¬ (refScan s p D).1 < 3 → matchR s p = refScan s p D) := by
      unfold matchR; rw [← hD2]
      exact ⟨fun h => if_pos h, fun h => if_neg h⟩
    by_cases c0 : D + 1 ≤ 4096
    · by_cases c : (refScan s p D).1 < 3
      · simp (config := {contextual := true, implicitDefEqProofs := false}) (disch := omega) [e0, e1', e6, e7, e8, show ((D + 1 : Nat) : Int) ≤ 4096 by omega, show ¬ ((D + 1 : Nat) : Int) ≤ p by omega, show ¬ D + 1 ≤ p by omega, c0, show ((refScan s p D).1 : Int) < 3 by omega, c, hf.1 c, -Int.natCast_add]
      · simp (config := {contextual := true, implicitDefEqProofs := false}) (disch := omega) [e0, e1', e6, e7, e8, show ((D + 1 : Nat) : Int) ≤ 4096 by omega, show ¬ ((D + 1 : Nat) : Int) ≤ p by omega, show ¬ D + 1 ≤ p by omega, c0, show ¬ ((refScan s p D).1 : Int) < 3 by omega, c, hf.2 c, -Int.natCast_add]
    · by_cases c : (refScan s p D).1 < 3
      · simp (config := {contextual := true, implicitDefEqProofs := false}) (disch := omega) [e0, e1', e6, e7, e8, show ¬ ((D + 1 : Nat) : Int) ≤ 4096 by omega, c0, show ((refScan s p D).1 : Int) < 3 by omega, c, hf.1 c, -Int.natCast_add]
      · simp (config := {contextual := true, implicitDefEqProofs := false}) (disch := omega) [e0, e1', e6, e7, e8, show ¬ ((D + 1 : Nat) : Int) ≤ 4096 by omega, c0, show ¬ ((refScan s p D).1 : Int) < 3 by omega, c, hf.2 c, -Int.natCast_add]

theorem addN {a b : Nat} (h : a + b < 2 ^ 62) : abin .add (.int .i64 (a : Int)) (.int .i64 (b : Int)) = some (.int .i64 ((a + b : Nat) : Int)) := by rw [abin_add, ← Int.natCast_add, i64_nat (by omega)]
theorem shl1 {e : Nat} (h : e ≤ 60) : abin .shl (.int .i64 1) (.int .i64 (e : Int)) = some (.int .i64 ((2 ^ e : Nat) : Int)) := by
  have hp : 2 ^ e ≤ 2 ^ 60 := Nat.pow_le_pow_right (by omega) h
  rw [abin_shl (by omega)]
  simp only [bits_i64, Int.toNat_natCast, show min e 64 = e by omega]
  rw [show (1 : Int) * 2 ^ e = ((2 ^ e : Nat) : Int) by simp, i64_nat (by omega)]

def inv17 (H : AHeap) (x : Nat) (R : Nat × Nat × Nat) (n : Nat) (env : Env) (H' : AHeap) : Prop :=
  ∃ y b e, y + n = 284 ∧ b ≤ 10000 ∧ e ≤ 5 ∧ H' = H ∧ R = lenL x n y b e ∧ env 0 = .int .i64 x ∧ env 5 = .int .i64 y ∧ env 6 = .int .i64 b ∧ env 7 = .int .i64 e
theorem length_ok {x : Nat} (hx : x ≤ 300) : ACall Try.prog 17 [.int .i64 x] H fp fun v H' => v = .tuple [.int .i64 (lenR x).1, .int .i64 (lenR x).2.1, .int .i64 (lenR x).2.2] ∧ H' = H := by
  refine acall_of hmix Try.func17 x17_ok (by simp) ?_
  unfold lenR
  by_cases c : x = 258
  · subst c; simp
  · rw [if_neg c]
    simp (config := {contextual := true, implicitDefEqProofs := false}) (disch := omega) [show ¬ (x : Int) = 258 by omega, c]
    generalize hR : lenL x 27 257 3 0 = R
    refine vc_loop (inv17 H x R) 27 ⟨257, 3, 0, rfl, by omega, by omega, rfl, hR.symm, by simp, by simp, by simp, by simp⟩ ?_
    rintro n env H1 ⟨y, b, e, hy, hb, he, rfl, hL, e0, e5, e6, e7⟩
    have hp : 2 ^ e ≤ 2 ^ 5 := Nat.pow_le_pow_right (by omega) he
    have s1 := shl1 (e := e) (by omega)
    have a1 : abin .add (.int .i64 (b : Int)) (.int .i64 ((2 ^ e : Nat) : Int)) = some (.int .i64 ((b + 2 ^ e : Nat) : Int)) := addN (by omega)
    cases n with
    | zero =>
      rw [lenL] at hL
      simp (config := {contextual := true, implicitDefEqProofs := false}) (disch := omega) [e0, e5, e6, e7, show ¬ (y : Int) < 284 by omega]
      rw [hL]; simp
    | succ n =>
      rw [lenL] at hL
      have a2 : abin .add (.int .i64 (y : Int)) (.int .i64 1) = some (.int .i64 ((y + 1 : Nat) : Int)) := by rw [abin_add, i64_id (by omega) (by omega)]; rfl
      by_cases c2 : b + 2 ^ e ≤ x
      · rw [if_pos ⟨by omega, c2⟩] at hL
        by_cases c3 : 265 ≤ y + 1
        · rw [if_pos c3] at hL
          have a3 : abin .sub (.int .i64 ((y + 1 : Nat) : Int)) (.int .i64 261) = some (.int .i64 ((y + 1 - 261 : Nat) : Int)) := by rw [abin_sub, i64_id (by omega) (by omega)]; congr 2; omega
          have a4 : ∀ z : Nat, z ≤ 1000 → abin .quo (.int .i64 (z : Int)) (.int .i64 4) = some (.int .i64 ((z / 4 : Nat) : Int)) := by
            intro z hz; rw [abin_quo (by omega), Int.tdiv_eq_ediv_of_nonneg (by omega), i64_id (by omega) (by omega)]; rfl
          simp (config := {contextual := true, implicitDefEqProofs := false}) (disch := omega) [e0, e5, e6, e7, show (y : Int) < 284 by omega, s1, a1, show ((b + 2 ^ e : Nat) : Int) ≤ x by omega, c2, a2, show (265 : Int) ≤ ((y + 1 : Nat) : Int) by omega, c3, a3, a4, -abin_add, -abin_sub, -Int.natCast_add, -Int.natCast_ediv, -Int.natCast_pow]
          exact again_iff n (by omega) ⟨y + 1, b + 2 ^ e, (y + 1 - 261) / 4, by omega, by omega, by omega, rfl, hL, by simp [e0], by simp, by simp, by simp⟩
        · rw [if_neg c3] at hL
          simp (config := {contextual := true, implicitDefEqProofs := false}) (disch := omega) [e0, e5, e6, e7, show (y : Int) < 284 by omega, s1, a1, show ((b + 2 ^ e : Nat) : Int) ≤ x by omega, c2, a2, show ¬ (265 : Int) ≤ ((y + 1 : Nat) : Int) by omega, show ¬ 264 ≤ y by omega, c3, -abin_add, -abin_sub, -Int.natCast_add, -Int.natCast_ediv, -Int.natCast_pow]
          exact again_iff n (by omega) ⟨y + 1, b + 2 ^ e, e, by omega, by omega, by omega, rfl, hL, by simp [e0], by simp, by simp, by simp [e7]⟩
      · rw [if_neg (fun h => c2 h.2)] at hL
        simp (config := {contextual := true, implicitDefEqProofs := false}) (disch := omega) [e0, e5, e6, e7, show (y : Int) < 284 by omega, s1, a1, show ¬ ((b + 2 ^ e : Nat) : Int) ≤ x by omega, c2, -abin_add, -Int.natCast_add, -Int.natCast_pow]
        rw [hL]; simp

def inv18 (H : AHeap) (x : Nat) (R : Nat × Nat × Nat) (n : Nat) (env : Env) (H' : AHeap) : Prop :=
  ∃ y b e, y + n = 29 ∧ b ≤ 10000000 ∧ (y = 0 ∨ b ≤ x) ∧ e ≤ 13 ∧ H' = H ∧ R = distL x n y b e ∧ env 0 = .int .i64 x ∧ env 5 = .int .i64 y ∧ env 6 = .int .i64 b ∧ env 7 = .int .i64 e
theorem distance_ok {x : Nat} (hx : x ≤ 100000) : ACall Try.prog 18 [.int .i64 x] H fp fun v H' => v = .tuple [.int .i64 (distR x).1, .int .i64 (distR x).2.1, .int .i64 (distR x).2.2] ∧ H' = H := by
  refine acall_of hmix Try.func18 x18_ok (by simp) ?_
  unfold distR
  simp
  generalize hR : distL x 29 0 1 0 = R
  refine vc_loop (inv18 H x R) 29 ⟨0, 1, 0, rfl, by omega, .inl rfl, by omega, rfl, hR.symm, by simp, by simp, by simp, by simp⟩ ?_
  rintro n env H1 ⟨y, b, e, hy, hb, hb2, he, rfl, hL, e0, e5, e6, e7⟩
  have hp : 2 ^ e ≤ 2 ^ 13 := Nat.pow_le_pow_right (by omega) he
  have s1 := shl1 (e := e) (by omega)
  have a1 : abin .add (.int .i64 (b : Int)) (.int .i64 ((2 ^ e : Nat) : Int)) = some (.int .i64 ((b + 2 ^ e : Nat) : Int)) := addN (by omega)
  cases n with
  | zero =>
    rw [distL] at hL
    simp (config := {contextual := true, implicitDefEqProofs := false}) (disch := omega) [e0, e5, e6, e7, show ¬ (y : Int) < 29 by omega]
    rw [hL]; simp
  | succ n =>
    rw [distL] at hL
    have a2 : abin .add (.int .i64 (y : Int)) (.int .i64 1) = some (.int .i64 ((y + 1 : Nat) : Int)) := by rw [abin_add, i64_id (by omega) (by omega)]; rfl
    by_cases c2 : b + 2 ^ e ≤ x
    · rw [if_pos ⟨by omega, c2⟩] at hL
      by_cases c3 : 4 ≤ y + 1
      · rw [if_pos c3] at hL
        have a3 : abin .sub (.int .i64 ((y + 1 : Nat) : Int)) (.int .i64 2) = some (.int .i64 ((y + 1 - 2 : Nat) : Int)) := by rw [abin_sub, i64_id (by omega) (by omega)]; congr 2; omega
        have a4 : ∀ z : Nat, z ≤ 1000 → abin .quo (.int .i64 (z : Int)) (.int .i64 2) = some (.int .i64 ((z / 2 : Nat) : Int)) := by
          intro z hz; rw [abin_quo (by omega), Int.tdiv_eq_ediv_of_nonneg (by omega), i64_id (by omega) (by omega)]; rfl
        simp (config := {contextual := true, implicitDefEqProofs := false}) (disch := omega) [e0, e5, e6, e7, show (y : Int) < 29 by omega, s1, a1, show ((b + 2 ^ e : Nat) : Int) ≤ x by omega, c2, a2, show (4 : Int) ≤ ((y + 1 : Nat) : Int) by omega, c3, a3, a4, -abin_add, -abin_sub, -Int.natCast_add, -Int.natCast_ediv, -Int.natCast_pow]
        exact again_iff n (by omega) ⟨y + 1, b + 2 ^ e, (y + 1 - 2) / 2, by omega, by omega, .inr c2, by omega, rfl, hL, by simp [e0], by simp, by simp, by simp⟩
      · rw [if_neg c3] at hL
        simp (config := {contextual := true, implicitDefEqProofs := false}) (disch := omega) [e0, e5, e6, e7, show (y : Int) < 29 by omega, s1, a1, show ((b + 2 ^ e : Nat) : Int) ≤ x by omega, c2, a2, show ¬ (4 : Int) ≤ ((y + 1 : Nat) : Int) by omega, show ¬ 3 ≤ y by omega, c3, -abin_add, -abin_sub, -Int.natCast_add, -Int.natCast_ediv, -Int.natCast_pow]
        exact again_iff n (by omega) ⟨y + 1, b + 2 ^ e, e, by omega, by omega, .inr c2, by omega, rfl, hL, by simp [e0], by simp, by simp, by simp [e7]⟩
    · rw [if_neg (fun h => c2 h.2)] at hL
      simp (config := {contextual := true, implicitDefEqProofs := false}) (disch := omega) [e0, e5, e6, e7, show (y : Int) < 29 by omega, s1, a1, show ¬ ((b + 2 ^ e : Nat) : Int) ≤ x by omega, c2, -abin_add, -Int.natCast_add, -Int.natCast_pow]
      rw [hL]; simp

def inv70 (H : AHeap) (x plain group : Nat) (R : Nat × Nat × Nat) (n : Nat) (env : Env) (H' : AHeap) : Prop :=
  ∃ y b, b ≤ x ∧ x + 1 - b ≤ n ∧ y ≤ b ∧ rkX plain group y ≤ 25 ∧ H' = H ∧ R = rankL x plain group n y b ∧ env 0 = .int .i64 x ∧ env 2 = .int .i64 plain ∧ env 3 = .int .i64 group ∧ env 8 = .int .i64 y ∧ env 9 = .int .i64 b
theorem rank_ok {x first plain group : Nat} (hx : x ≤ 100000) (hf : first ≤ x) (hg : group = 4 ∨ group = 2) (hpl : plain ≤ 10) : ACall Try.prog 70 [.int .i64 x, .int .i64 first, .int .i64 plain, .int .i64 group] H fp fun v H' =>
    v = .tuple [.int .i64 (rankL x plain group (x + 1) 0 first).1, .int .i64 (rankL x plain group (x + 1) 0 first).2.1, .int .i64 (rankL x plain group (x + 1) 0 first).2.2] ∧ H' = H := by
  refine acall_of hmix Try.func70 x70_ok (by simp) ?_
  simp
  generalize hR : rankL x plain group (x + 1) 0 first = R
  have hk0 : rkX plain group 0 ≤ 25 := by unfold rkX; split <;> simp
  refine vc_loop (inv70 H x plain group R) (x + 1) ⟨0, first, hf, by omega, by omega, hk0, rfl, hR.symm, by simp, by simp, by simp, by simp, by simp⟩ ?_
  rintro n env H1 ⟨y, b, hb, hn, hyb, hk, rfl, hL, e0, e2, e3, e8, e9⟩
  obtain ⟨n', rfl⟩ : ∃ n', n = n' + 1 := ⟨n - 1, by omega⟩
  rw [rankL] at hL
  have hknext : rkX plain group (y + 1) ≤ rkX plain group y + 1 := by
    unfold rkX
    rcases hg with rfl | rfl
    · split
      · split <;> omega
      · split <;> omega
    · split
      · split <;> omega
      · split <;> omega
  have hp : 2 ^ rkX plain group y ≤ 2 ^ 25 := Nat.pow_le_pow_right (by omega) hk
  have hp0 : 0 < 2 ^ rkX plain group y := Nat.two_pow_pos _
  have s1 := shl1 (e := rkX plain group y) (by omega)
  have a1 : abin .add (.int .i64 (b : Int)) (.int .i64 ((2 ^ rkX plain group y : Nat) : Int)) = some (.int .i64 ((b + 2 ^ rkX plain group y : Nat) : Int)) := addN (by omega)
  have a2 : abin .add (.int .i64 (y : Int)) (.int .i64 1) = some (.int .i64 ((y + 1 : Nat) : Int)) := by rw [abin_add, i64_id (by omega) (by omega)]; rfl
  have hgi : (group : Int) ≠ 0 := by omega
  have more : b + 2 ^ rkX plain group y ≤ x → rkX plain group (y + 1) ≤ 25 := by
    intro h
    have : rkX plain group y ≤ 20 := by
      by_cases c : rkX plain group y ≤ 20
      · exact c
      · have : 2 ^ 21 ≤ 2 ^ rkX plain group y := Nat.pow_le_pow_right (by omega) (by omega)
        omega
    omega
  by_cases c1 : y < plain
  · have hk1 : rkX plain group y = 0 := by unfold rkX; rw [if_pos c1]
    rw [hk1] at s1 a1 hL more
    simp only [Nat.pow_zero] at s1 a1 hL more
    by_cases c2 : x < b + 1
    · rw [if_pos c2] at hL
      simp (config := {contextual := true, implicitDefEqProofs := false}) (disch := omega) [e0, e2, e3, e8, e9, abin_quo, hgi, show (y : Int) < plain by omega, c1, show abin .shl (.int .i64 1) (.int .i64 0) = some (.int .i64 1) from s1, show abin .add (.int .i64 (b : Int)) (.int .i64 1) = some (.int .i64 ((b + 1 : Nat) : Int)) from a1, show (x : Int) < ((b + 1 : Nat) : Int) by omega, c2, -Int.natCast_add]
      rw [hL]; simp
    · rw [if_neg c2] at hL
      simp (config := {contextual := true, implicitDefEqProofs := false}) (disch := omega) [e0, e2, e3, e8, e9, abin_quo, hgi, show (y : Int) < plain by omega, c1, show abin .shl (.int .i64 1) (.int .i64 0) = some (.int .i64 1) from s1, show abin .add (.int .i64 (b : Int)) (.int .i64 1) = some (.int .i64 ((b + 1 : Nat) : Int)) from a1, show ¬ (x : Int) < ((b + 1 : Nat) : Int) by omega, c2, a2, -Int.natCast_add]
      exact again_iff n' (by omega) ⟨y + 1, b + 1, by omega, by omega, by omega, more (by omega), rfl, hL, by simp [e0], by simp [e2], by simp [e3], by simp, by simp⟩
  · have hk1 : rkX plain group y = (y - plain) / group + 1 := by unfold rkX; rw [if_neg c1]
    have b1 : abin .sub (.int .i64 (y : Int)) (.int .i64 (plain : Int)) = some (.int .i64 ((y - plain : Nat) : Int)) := by rw [abin_sub, i64_id (by omega) (by omega)]; congr 2; omega
    have b2 : abin .quo (.int .i64 ((y - plain : Nat) : Int)) (.int .i64 (group : Int)) = some (.int .i64 (((y - plain) / group : Nat) : Int)) := by
      have hle : (y - plain) / group ≤ y - plain := Nat.div_le_self _ _
      rw [abin_quo hgi, Int.tdiv_eq_ediv_of_nonneg (by omega), show ((y - plain : Nat) : Int) / (group : Int) = (((y - plain) / group : Nat) : Int) from rfl, i64_nat (by omega)]
    have hle := Nat.div_le_self (y - plain) group
    have b3 : abin .add (.int .i64 (((y - plain) / group : Nat) : Int)) (.int .i64 1) = some (.int .i64 ((rkX plain group y : Nat) : Int)) := by rw [hk1]; exact addN (b := 1) (by omega)
    have hkpos : 1 ≤ rkX plain group y := by rw [hk1]; exact Nat.le_add_left 1 _
    have b4 : vMax (.int .i64 0) (.int .i64 ((rkX plain group y : Nat) : Int)) = some (.int .i64 ((rkX plain group y : Nat) : Int)) := by
      simp only [vMax_int]; rw [if_pos (by omega)]
    generalize hkk : rkX plain group y = k at *
    by_cases c2 : x < b + 2 ^ k
    · rw [if_pos c2] at hL
      simp (config := {contextual := true, implicitDefEqProofs := false}) (disch := omega) [e0, e2, e3, e8, e9, b1, b2, b3, b4, show ¬ (y : Int) < plain by omega, c1, s1, a1, show (x : Int) < ((b + 2 ^ k : Nat) : Int) by omega, c2, -abin_add, -abin_sub, -vMax_int, -Int.natCast_add, -Int.natCast_pow, -Int.natCast_ediv]
      rw [hL]; simp
    · rw [if_neg c2] at hL
      simp (config := {contextual := true, implicitDefEqProofs := false}) (disch := omega) [e0, e2, e3, e8, e9, b1, b2, b3, b4, show ¬ (y : Int) < plain by omega, c1, s1, a1, show ¬ (x : Int) < ((b + 2 ^ k : Nat) : Int) by omega, c2, a2, -abin_add, -abin_sub, -vMax_int, -Int.natCast_add, -Int.natCast_pow, -Int.natCast_ediv]
      exact again_iff n' (by omega) ⟨y + 1, b + 2 ^ k, by omega, by omega, by omega, more (by omega), rfl, hL, by simp [e0], by simp [e2], by simp [e3], by simp, by simp⟩
end
end Go.Proofs.Ytdknddicpdhkcaa.Ab

/- The law InflateSums over the abstract layer. Conditions: none; for the statements about layers 46 and 47. -/
import Derived.Test.YtdknddicpdhkcaaTl
namespace Go.Proofs.Ytdknddicpdhkcaa.Ab
set_option linter.unusedVariables false
set_option linter.unusedSimpArgs false

/-- One last stored block, and whatever comes behind. -/
theorem infl_last {a rest : List UInt8} (ha : a.length ≤ 65535) {F : Nat} (hF : 1 ≤ F) : inflM (blkB a true ++ rest) 1048576 F = (a, 5 + a.length, 0) := by
  have hM : clampN 1048576 = 1048576 := rfl
  obtain ⟨F', rfl⟩ : ∃ F', F = F' + 1 := ⟨F - 1, by omega⟩
  have h1 := stored_step [] a rest true ⟨0, [], 0⟩ 1048576 (F' + 1) F' rfl rfl ha (by simp; omega)
  rw [if_pos rfl] at h1
  simp only [List.nil_append, List.length_nil] at h1
  rw [inflM, hM, h1]
  simp
  omega
def zpre (a : List UInt8) : List UInt8 := [120, 1] ++ blkB a true
theorem zlib_stored {a rest : List UInt8} (ha : a.length ≤ 65535) {F : Nat} (hF : 1 ≤ F) : zlibM (zpre a ++ rest) 1048576 F = ztail rest a := by
  have h0 : chr (zpre a ++ rest) 0 = 120 := rfl
  have h1 : chr (zpre a ++ rest) 1 = 1 := rfl
  have h2 : (zpre a ++ rest).drop 2 = blkB a true ++ rest := rfl
  have h3 : (zpre a ++ rest).drop (2 + (5 + a.length)) = rest := by
    rw [← List.drop_drop, h2, List.drop_append, List.drop_of_length_le (by simp)]; simp
  unfold zlibM
  rw [if_neg (by simp [zpre]), h0, h1, if_neg (by decide), h2, infl_last ha hF, zrest, if_neg (by simp)]
  simp only [h3]
def b4 (x0 x1 x2 x3 : Nat) : List UInt8 := [UInt8.ofNat x0, UInt8.ofNat x1, UInt8.ofNat x2, UInt8.ofNat x3]
theorem be32_b4 {x0 x1 x2 x3 : Nat} (h0 : x0 < 256) (h1 : x1 < 256) (h2 : x2 < 256) (h3 : x3 < 256) (l : List UInt8) : be32 (b4 x0 x1 x2 x3 ++ l) = ((x0 * 256 + x1) * 256 + x2) * 256 + x3 := by
  simp [be32, b4, chr]
  rw [Nat.mod_eq_of_lt h0, Nat.mod_eq_of_lt h1, Nat.mod_eq_of_lt h2, Nat.mod_eq_of_lt h3]
theorem ztail_ok {a : List UInt8} {x0 x1 x2 x3 : Nat} (h0 : x0 < 256) (h1 : x1 < 256) (h2 : x2 < 256) (h3 : x3 < 256) (hk : adlerN a = ((x0 * 256 + x1) * 256 + x2) * 256 + x3) : ztail (b4 x0 x1 x2 x3) a = (a, 0) := by
  have := be32_b4 h0 h1 h2 h3 []
  rw [List.append_nil] at this
  unfold ztail
  rw [if_neg (by simp [b4]), if_neg (by rw [this, hk]; simp), if_neg (by simp [b4])]
theorem ztail_more {a : List UInt8} {x0 x1 x2 x3 : Nat} {c : UInt8} (h0 : x0 < 256) (h1 : x1 < 256) (h2 : x2 < 256) (h3 : x3 < 256) (hk : adlerN a = ((x0 * 256 + x1) * 256 + x2) * 256 + x3) : ztail (b4 x0 x1 x2 x3 ++ [c]) a = ([], 6) := by
  unfold ztail
  rw [if_neg (by simp [b4]), if_neg (by rw [be32_b4 h0 h1 h2 h3, hk]; simp), if_pos (by simp [b4])]
theorem ztail_bad {a : List UInt8} {x0 x1 x2 x3 : Nat} (h0 : x0 < 256) (h1 : x1 < 256) (h2 : x2 < 256) (h3 : x3 < 256) (hk : adlerN a ≠ ((x0 * 256 + x1) * 256 + x2) * 256 + x3) : ztail (b4 x0 x1 x2 x3) a = ([], 7) := by
  have := be32_b4 h0 h1 h2 h3 []
  rw [List.append_nil] at this
  unfold ztail
  rw [if_neg (by simp [b4]), if_pos (by rw [this]; exact fun h => hk h.symm)]

@[simp] theorem get_first {a : AVal} {l : List AVal} : (a :: l)[0]? = some a := by simp

section
variable {H : AHeap} {fp : Nat → Prop}
theorem conv4 (K : AHeap) {x0 x1 x2 x3 : Nat} (h0 : x0 < 256) (h1 : x1 < 256) (h2 : x2 < 256) (h3 : x3 < 256) : vConvBS (H ++ .cells 0 false 5 [.int .u8 (x0 : Nat), .int .u8 (x1 : Nat), .int .u8 (x2 : Nat), .int .u8 (x3 : Nat)] :: K) (.slice H.length 0 0 4 1) = some (.str (b4 x0 x1 x2 x3)) := by
  refine Sl.toStr (.inr (.inr ⟨H.length, 0, 0, by simp [b4], ?_⟩))
  simp [bytesOf, b4]
  exact ⟨by omega, by omega, by omega, by omega⟩
theorem conv1 (S : ABlk) {c : Nat} (h0 : c < 256) : vConvBS (H ++ [S, .cells 0 false 5 [.int .u8 (c : Nat)]]) (.slice (H.length + 1) 0 0 1 1) = some (.str [UInt8.ofNat c]) := by
  refine Sl.toStr (.inr (.inr ⟨H.length + 1, 0, 0, by simp, ?_⟩))
  simp [bytesOf]
  omega

theorem law9_all {a : List UInt8} {at' c : Int} (hla : a.length ≤ 2 ^ 48) (hc : 0 ≤ c ∧ c < 256) (awake : ∀ (H : AHeap) (fp : Nat → Prop), ACall Try.prog 26 [] H fp fun v' H' => v' = .bool true ∧ H' = H) :
    ACall Try.prog 9 [.str a, .int .i64 at', .int .u8 c] H fp fun v' H' => v' = .bool true ∧ H' = H := by
  refine (ACall.drop (R := fun v' _ => v' = .bool true) ?_ (by rintro v' H' rfl; rfl)).mono fun v' H' q => ⟨q.2.elim fun _ q => q.1, q.1⟩
  refine acall_of hmix Try.func9 x9_ok (by simp) ?_
  obtain ⟨c', hcc⟩ : ∃ c' : Nat, c = c' := ⟨c.toNat, by omega⟩
  subst hcc
  by_cases hl : a.length ≤ 65535
  · have hk := adlerN_lt a
    have adler := adler_ok (s := a) (H := H) (fp := fun r => H.length ≤ r) (by omega)
    have hkey : adlerN a = ((adlerN a / 16777216 * 256 + adlerN a / 65536 % 256) * 256 + adlerN a / 256 % 256) * 256 + adlerN a % 256 := by omega
    have w0 : adlerN a / 16777216 % 256 = adlerN a / 16777216 := by omega
    generalize hkk : adlerN a = k at *
    have a1 : abin .shr (.int .u32 (k : Int)) (.int .u64 24) = some (.int .u32 ((k / 16777216 : Nat) : Int)) := by
      rw [abin_shr (by omega)]
      have := fdiv_nat k 24
      simp only [bits_u32, show min (24 : Int).toNat 32 = 24 by decide] at this ⊢
      rw [this]
    have a2 : abin .shr (.int .u32 (k : Int)) (.int .u64 16) = some (.int .u32 ((k / 65536 : Nat) : Int)) := by
      rw [abin_shr (by omega)]
      have := fdiv_nat k 16
      simp only [bits_u32, show min (16 : Int).toNat 32 = 16 by decide] at this ⊢
      rw [this]
    have a3 : abin .shr (.int .u32 (k : Int)) (.int .u64 8) = some (.int .u32 ((k / 256 : Nat) : Int)) := by
      rw [abin_shr (by omega)]
      have := fdiv_nat k 8
      simp only [bits_u32, show min (8 : Int).toNat 32 = 8 by decide] at this ⊢
      rw [this]
    have a4 : abin .add (.str [120, 1]) (.str (blkB a true)) = some (.str (zpre a)) := abin_sadd (by simp; omega)
    have y0 : k / 16777216 < 256 := by omega
    have y1 : k / 65536 % 256 < 256 := by omega
    have y2 : k / 256 % 256 < 256 := by omega
    have y3 : k % 256 < 256 := by omega
    have q0 := u8_wrap (k / 16777216)
    rw [w0] at q0
    have q1 := u8_wrap (k / 65536)
    have q2 := u8_wrap (k / 256)
    have q3 := u8_wrap k
    generalize k / 16777216 = x0 at *
    generalize k / 65536 % 256 = x1 at *
    generalize k / 256 % 256 = x2 at *
    generalize k % 256 = x3 at *
    have hz : (zpre a).length = 7 + a.length := by simp [zpre]; omega
    have zcall : ∀ (H' : AHeap) (rest : List UInt8), rest.length ≤ 10 → ACall Try.prog 30 [.str (zpre a ++ rest), .int .i64 1048576] H' (fun r => H.length ≤ r) fun v H'' => v = .tuple [.str (ztail rest a).1, .int .i64 (ztail rest a).2] ∧ H'' = H' := by
      intro H' rest hr
      have := zlib_ok (H := H') (fp := fun r => H.length ≤ r) (s := zpre a ++ rest) (n := 1048576) (F := 8 * (zpre a ++ rest).length + 1) (by simp; omega) (by omega)
      rwa [zlib_stored hl (by omega)] at this
    have s1 : ∀ rest : List UInt8, rest.length ≤ 10 → abin .add (.str (zpre a)) (.str rest) = some (.str (zpre a ++ rest)) := fun rest h => abin_sadd (by omega)
    have s2 : abin .add (.str (zpre a ++ b4 x0 x1 x2 x3)) (.str [UInt8.ofNat c']) = some (.str (zpre a ++ (b4 x0 x1 x2 x3 ++ [UInt8.ofNat c']))) := by
      rw [← List.append_assoc]; exact abin_sadd (by simp [b4]; omega)
    have l4 : (b4 x0 x1 x2 x3).length ≤ 10 := by simp [b4]
    have z1 := zcall (H ++ [.cells 0 false 5 [.int .u8 (x0 : Nat), .int .u8 (x1 : Nat), .int .u8 (x2 : Nat), .int .u8 (x3 : Nat)]]) (b4 x0 x1 x2 x3) l4
    rw [ztail_ok y0 y1 y2 y3 (by rw [hkk]; exact hkey)] at z1
    have z2 := zcall (H ++ [.cells 0 false 5 [.int .u8 (x0 : Nat), .int .u8 (x1 : Nat), .int .u8 (x2 : Nat), .int .u8 (x3 : Nat)], .cells 0 false 5 [.int .u8 (c' : Nat)]]) (b4 x0 x1 x2 x3 ++ [UInt8.ofNat c']) (by simp [b4])
    rw [ztail_more y0 y1 y2 y3 (by rw [hkk]; exact hkey)] at z2
    have v1 := conv4 (H := H) [] y0 y1 y2 y3
    have v2 := conv4 (H := H) [.cells 0 false 5 [.int .u8 (c' : Nat)]] y0 y1 y2 y3
    have v3 := conv1 (H := H) (.cells 0 false 5 [.int .u8 (x0 : Nat), .int .u8 (x1 : Nat), .int .u8 (x2 : Nat), .int .u8 (x3 : Nat)]) (c := c') (by omega)
    simp (config := {contextual := true, implicitDefEqProofs := false}) (disch := omega) [show ¬ (65535 : Int) < a.length by omega]
    refine call1_eq adler ?_
    simp (config := {contextual := true, implicitDefEqProofs := false}) (disch := omega)
    refine call1_eq (block_ok hl) ?_
    simp (config := {contextual := true, implicitDefEqProofs := false}) (disch := omega) [a4, a1, a2, a3, q0, q1, q2, q3, afill, zrep, v1, s1, l4, -Int.natCast_ediv, -Int.natCast_emod]
    refine call1_eq z1 ?_
    simp (config := {contextual := true, implicitDefEqProofs := false}) (disch := omega) [v1, s1, l4, afill, zrep, v2, v3, s2]
    refine call1_eq z2 ?_
    simp (config := {contextual := true, implicitDefEqProofs := false}) (disch := omega)
    refine call1_eq (awake _ _) ?_
    by_cases c1 : at' < 0
    · simp (config := {contextual := true, implicitDefEqProofs := false}) (disch := omega) [c1]
    by_cases c2 : 3 < at'
    · simp (config := {contextual := true, implicitDefEqProofs := false}) (disch := omega) [c1, c2]
    rcases (by omega : at' = 0 ∨ at' = 1 ∨ at' = 2 ∨ at' = 3) with rfl | rfl | rfl | rfl
    · by_cases c3 : (x0 : Int) = c'
      · simp (config := {contextual := true, implicitDefEqProofs := false}) (disch := omega) [c3]
      · have v4 := conv4 (H := H) [.cells 0 false 5 [.int .u8 (c' : Nat)]] (x0 := c') (by omega) y1 y2 y3
        have z3 := zcall (H ++ [.cells 0 false 5 [.int .u8 (c' : Nat), .int .u8 (x1 : Nat), .int .u8 (x2 : Nat), .int .u8 (x3 : Nat)], .cells 0 false 5 [.int .u8 (c' : Nat)]]) (b4 c' x1 x2 x3) (by simp [b4])
        rw [ztail_bad (by omega) y1 y2 y3 (by omega)] at z3
        have l5 : (b4 c' x1 x2 x3).length ≤ 10 := by simp [b4]
        simp (config := {contextual := true, implicitDefEqProofs := false}) (disch := omega) [c3, v4, s1, l5]
        refine call1_eq z3 ?_
        simp
    · by_cases c3 : (x1 : Int) = c'
      · simp (config := {contextual := true, implicitDefEqProofs := false}) (disch := omega) [c3]
      · have v4 := conv4 (H := H) [.cells 0 false 5 [.int .u8 (c' : Nat)]] (x1 := c') y0 (by omega) y2 y3
        have z3 := zcall (H ++ [.cells 0 false 5 [.int .u8 (x0 : Nat), .int .u8 (c' : Nat), .int .u8 (x2 : Nat), .int .u8 (x3 : Nat)], .cells 0 false 5 [.int .u8 (c' : Nat)]]) (b4 x0 c' x2 x3) (by simp [b4])
        rw [ztail_bad y0 (by omega) y2 y3 (by omega)] at z3
        have l5 : (b4 x0 c' x2 x3).length ≤ 10 := by simp [b4]
        simp (config := {contextual := true, implicitDefEqProofs := false}) (disch := omega) [c3, v4, s1, l5]
        refine call1_eq z3 ?_
        simp
    · by_cases c3 : (x2 : Int) = c'
      · simp (config := {contextual := true, implicitDefEqProofs := false}) (disch := omega) [c3]
      · have v4 := conv4 (H := H) [.cells 0 false 5 [.int .u8 (c' : Nat)]] (x2 := c') y0 y1 (by omega) y3
        have z3 := zcall (H ++ [.cells 0 false 5 [.int .u8 (x0 : Nat), .int .u8 (x1 : Nat), .int .u8 (c' : Nat), .int .u8 (x3 : Nat)], .cells 0 false 5 [.int .u8 (c' : Nat)]]) (b4 x0 x1 c' x3) (by simp [b4])
        rw [ztail_bad y0 y1 (by omega) y3 (by omega)] at z3
        have l5 : (b4 x0 x1 c' x3).length ≤ 10 := by simp [b4]
        simp (config := {contextual := true, implicitDefEqProofs := false}) (disch := omega) [c3, v4, s1, l5]
        refine call1_eq z3 ?_
        simp
    · by_cases c3 : (x3 : Int) = c'
      · simp (config := {contextual := true, implicitDefEqProofs := false}) (disch := omega) [c3]
      · have v4 := conv4 (H := H) [.cells 0 false 5 [.int .u8 (c' : Nat)]] (x3 := c') y0 y1 y2 (by omega)
        have z3 := zcall (H ++ [.cells 0 false 5 [.int .u8 (x0 : Nat), .int .u8 (x1 : Nat), .int .u8 (x2 : Nat), .int .u8 (c' : Nat)], .cells 0 false 5 [.int .u8 (c' : Nat)]]) (b4 x0 x1 x2 c') (by simp [b4])
        rw [ztail_bad y0 y1 y2 (by omega) (by omega)] at z3
        have l5 : (b4 x0 x1 x2 c').length ≤ 10 := by simp [b4]
        simp (config := {contextual := true, implicitDefEqProofs := false}) (disch := omega) [c3, v4, s1, l5]
        refine call1_eq z3 ?_
        simp
  · simp (config := {contextual := true, implicitDefEqProofs := false}) (disch := omega) [show (65535 : Int) < a.length by omega]
    refine call1_eq (awake _ _) ?_
    simp
end
end Go.Proofs.Ytdknddicpdhkcaa.Ab

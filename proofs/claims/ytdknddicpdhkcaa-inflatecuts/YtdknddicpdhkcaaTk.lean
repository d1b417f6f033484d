/- Inflate: stored blocks. Conditions: none; for the statements about layers 46 and 47. -/
import Derived.Test.YtdknddicpdhkcaaTj
namespace Go.Proofs.Ytdknddicpdhkcaa.Ab
set_option linter.unusedVariables false
set_option linter.unusedSimpArgs false

def hdrB (n : Nat) (last : Bool) : List UInt8 := [if last then 1 else 0, UInt8.ofNat (n % 256), UInt8.ofNat (n / 256), UInt8.ofNat ((65535 - n) % 256), UInt8.ofNat ((65535 - n) / 256)]
def blkB (s : List UInt8) (last : Bool) : List UInt8 := hdrB s.length last ++ s
@[simp] theorem hdrB_len (n : Nat) (last : Bool) : (hdrB n last).length = 5 := rfl
@[simp] theorem blkB_len (s : List UInt8) (last : Bool) : (blkB s last).length = 5 + s.length := by simp [blkB]

theorem chr_app (pre x : List UInt8) (i : Nat) : chr (pre ++ x) (pre.length + i) = chr x i := by
  simp [chr, List.getD_eq_getElem?_getD, List.getElem?_append_right]
theorem chr_left {x y : List UInt8} {i : Nat} (h : i < x.length) : chr (x ++ y) i = chr x i := by
  simp [chr, List.getD_eq_getElem?_getD, List.getElem?_append_left h]

theorem stored_step (pre a post : List UInt8) (f : Bool) (t : St) (M F G : Nat) (ht : t.at' = 8 * pre.length) (he : t.err = 0) (hl : a.length ≤ 65535) (ho : t.out.length + a.length ≤ M) :
    loopM (pre ++ (blkB a f ++ post)) M F (G + 1) t = if f = true then ⟨8 * (pre.length + 5 + a.length), t.out ++ a, 0⟩ else loopM (pre ++ (blkB a f ++ post)) M F G ⟨8 * (pre.length + 5 + a.length), t.out ++ a, 0⟩ := by
  have hc : ∀ i, i < 5 → chr (pre ++ (blkB a f ++ post)) (pre.length + i) = chr (hdrB a.length f) i := by
    intro i hi
    rw [chr_app, chr_left (by simp; omega), blkB, chr_left (by simpa using hi)]
  have hlen : (pre ++ (blkB a f ++ post)).length = pre.length + (5 + a.length + post.length) := by simp
  have hdrop : ((pre ++ (blkB a f ++ post)).drop (pre.length + 5)).take a.length = a := by
    rw [List.drop_append, List.drop_of_length_le (by omega), List.nil_append, show pre.length + 5 - pre.length = 5 by omega, blkB, List.append_assoc, List.drop_append, List.drop_of_length_le (by simp), List.nil_append, hdrB_len, Nat.sub_self, List.drop_zero]
    simp
  generalize pre ++ (blkB a f ++ post) = s at *
  have c0 : chr s pre.length = if f then 1 else 0 := by have := hc 0 (by omega); simpa [chr, hdrB] using this
  have c1 : (chr s (pre.length + 1)).toNat = a.length % 256 := by rw [hc 1 (by omega)]; simp [chr, hdrB]
  have c2 : (chr s (pre.length + 1 + 1)).toNat = a.length / 256 := by rw [show pre.length + 1 + 1 = pre.length + 2 by omega, hc 2 (by omega)]; simp [chr, hdrB]; omega
  have c3 : (chr s (pre.length + 1 + 2)).toNat = (65535 - a.length) % 256 := by rw [show pre.length + 1 + 2 = pre.length + 3 by omega, hc 3 (by omega)]; simp [chr, hdrB]
  have c4 : (chr s (pre.length + 1 + 2 + 1)).toNat = (65535 - a.length) / 256 := by rw [show pre.length + 1 + 2 + 1 = pre.length + 4 by omega, hc 4 (by omega)]; simp [chr, hdrB]; omega
  have b0 : bitAt s (8 * pre.length) = if f then 1 else 0 := by
    unfold bitAt
    rw [show 8 * pre.length / 8 = pre.length by omega, show 8 * pre.length % 8 = 0 by omega, c0]
    cases f <;> rfl
  have b1 : bitAt s (8 * pre.length + 1) = 0 := by
    unfold bitAt
    rw [show (8 * pre.length + 1) / 8 = pre.length by omega, show (8 * pre.length + 1) % 8 = 1 by omega, c0]
    cases f <;> rfl
  have b2 : bitAt s (8 * pre.length + 2) = 0 := by
    unfold bitAt
    rw [show (8 * pre.length + 2) / 8 = pre.length by omega, show (8 * pre.length + 2) % 8 = 2 by omega, c0]
    cases f <;> rfl
  have m1 : bitsM s 1 t = (if f then 1 else 0, { t with at' := 8 * pre.length + 1 }) := by
    unfold bitsM
    rw [if_neg (by simp [he]), if_neg (by omega), ht]
    simp [bitsV, b0]
  have m2 : bitsM s 2 { t with at' := 8 * pre.length + 1 } = (0, { t with at' := 8 * pre.length + 3 }) := by
    unfold bitsM
    rw [if_neg (by simp [he]), if_neg (by simp only []; omega)]
    simp [bitsV, b1, b2]
  have hst : storedM s M { t with at' := 8 * pre.length + 3 } = ⟨8 * (pre.length + 5 + a.length), t.out ++ a, 0⟩ := by
    unfold storedM n16
    simp only []
    rw [show (8 * pre.length + 3 + 7) / 8 = pre.length + 1 by omega, c1, c2, c3, c4]
    rw [if_neg (by omega), if_neg (by omega), if_neg (by omega), if_neg (by omega)]
    rw [show a.length % 256 + a.length / 256 * 256 = a.length by omega, show pre.length + 1 + 4 = pre.length + 5 by omega, hdrop, he]
  rw [loopM, m1]
  simp only [m2]
  rw [if_neg (by simp [he]), if_neg (by simp [he]), kindM, if_pos rfl, hst]
  cases f <;> simp

/-- Two stored blocks, and whatever comes behind. -/
theorem infl_two {a b rest : List UInt8} (ha : a.length ≤ 65535) (hb : b.length ≤ 65535) {F : Nat} (hF : 2 ≤ F) :
    inflM (blkB a false ++ blkB b true ++ rest) 1048576 F = (a ++ b, (blkB a false ++ blkB b true).length, 0) := by
  have hM : clampN 1048576 = 1048576 := rfl
  obtain ⟨F', rfl⟩ : ∃ F', F = F' + 1 + 1 := ⟨F - 2, by omega⟩
  have h1 := stored_step [] a (blkB b true ++ rest) false ⟨0, [], 0⟩ 1048576 (F' + 1 + 1) (F' + 1) rfl rfl ha (by simp; omega)
  have h2 := stored_step (blkB a false) b rest true ⟨8 * (0 + 5 + a.length), a, 0⟩ 1048576 (F' + 1 + 1) F' (by simp) rfl hb (by simp only []; omega)
  simp only [List.nil_append, List.length_nil, Bool.false_eq_true, if_false] at h1
  rw [if_pos rfl] at h2
  rw [List.append_assoc, inflM, hM, h1, h2]
  simp
  omega

/-- One stored block that is not the last one, and nothing behind it. -/
theorem infl_one {a : List UInt8} (ha : a.length ≤ 65535) {F : Nat} (hF : 2 ≤ F) : inflM (blkB a false) 1048576 F = ([], 0, 5) := by
  have hM : clampN 1048576 = 1048576 := rfl
  obtain ⟨F', rfl⟩ : ∃ F', F = F' + 1 + 1 := ⟨F - 2, by omega⟩
  have h1 := stored_step [] a [] false ⟨0, [], 0⟩ 1048576 (F' + 1 + 1) (F' + 1) rfl rfl ha (by simp; omega)
  simp only [List.nil_append, List.length_nil, Bool.false_eq_true, if_false, List.append_nil] at h1
  have m1 : bitsM (blkB a false) 1 ⟨8 * (0 + 5 + a.length), a, 0⟩ = (0, ⟨8 * (0 + 5 + a.length), a, 5⟩) := by
    unfold bitsM
    rw [if_neg (by simp), if_pos (by simp)]
  have m2 : bitsM (blkB a false) 2 ⟨8 * (0 + 5 + a.length), a, 5⟩ = (0, ⟨8 * (0 + 5 + a.length), a, 5⟩) := by
    unfold bitsM
    rw [if_pos (by simp)]
  have h2 : loopM (blkB a false) 1048576 (F' + 1 + 1) (F' + 1) ⟨8 * (0 + 5 + a.length), a, 0⟩ = ⟨8 * (0 + 5 + a.length), a, 5⟩ := by
    rw [loopM, m1]
    simp only [m2]
    simp
  rw [inflM, hM, h1, h2]
  simp

section
variable {H : AHeap} {fp : Nat → Prop}
theorem u8_wrap (n : Nat) : IntKind.u8.wrap (n : Int) = ((n % 256 : Nat) : Int) := by
  rw [show (n : Int) = ((n : Nat) : Int) from rfl]
  simp [IntKind.wrap, IntKind.bits, IntKind.signed]

theorem block_ok {s : List UInt8} {last : Bool} (hl : s.length ≤ 65535) : ACall Try.prog 27 [.str s, .bool last] H fp fun v H' => v = .str (blkB s last) ∧ H' = H := by
  refine (ACall.drop (R := fun v' _ => v' = .str (blkB s last)) ?_ (by rintro v' H' rfl; rfl)).mono fun v' H' q => ⟨q.2.elim fun _ q => q.1, q.1⟩
  refine acall_of hmix Try.func27 x27_ok (by simp) ?_
  have a1 : abin .sub (.int .i64 65535) (.int .i64 (s.length : Int)) = some (.int .i64 ((65535 - s.length : Nat) : Int)) := by rw [abin_sub, i64_id (by omega) (by omega)]; congr 2; omega
  have a2 : ∀ n : Nat, abin .shr (.int .i64 (n : Int)) (.int .u64 8) = some (.int .i64 ((n / 256 : Nat) : Int)) := by
    intro n
    rw [abin_shr (by omega)]
    have := fdiv_nat n 8
    simp only [bits_i64, show min (8 : Int).toNat 64 = 8 by decide] at this ⊢
    rw [this]
  have hb : ∀ x : UInt8, IntKind.u8.wrap ((x.toNat : Nat) : Int) = x.toNat := fun x => u8_nat (by have := UInt8.toNat_lt x; omega)
  have key : ∀ b : Int, b = (if last then 1 else 0) → vConvBS (H ++ [.cells 0 false 5 [.int .u8 b, .int .u8 ((s.length % 256 : Nat) : Int), .int .u8 ((s.length / 256 % 256 : Nat) : Int), .int .u8 (((65535 - s.length) % 256 : Nat) : Int), .int .u8 (((65535 - s.length) / 256 % 256 : Nat) : Int)]]) (.slice H.length 0 0 5 1) = some (.str (hdrB s.length last)) := by
    intro b hb2
    refine Sl.toStr (.inr (.inr ⟨H.length, 0, 0, by simp, ?_⟩))
    subst hb2
    cases last <;> simp [bytesOf, hdrB]
  cases last
  · have k := key 0 rfl
    simp (config := {contextual := true, implicitDefEqProofs := false}) (disch := (simp; omega)) [a1, a2, u8_wrap, afill, zrep, -Int.natCast_ediv, -Int.natCast_emod, k, abin_sadd, blkB]
  · have k := key 1 rfl
    simp (config := {contextual := true, implicitDefEqProofs := false}) (disch := (simp; omega)) [a1, a2, u8_wrap, afill, zrep, -Int.natCast_ediv, -Int.natCast_emod, k, abin_sadd, blkB]

/-- The law InflateStored, over the abstract layer. -/
theorem law7_all {a b rest : List UInt8} (hr : rest.length ≤ 2 ^ 48) (hla : a.length ≤ 2 ^ 48) (hlb : b.length ≤ 2 ^ 48) (awake : ∀ (H : AHeap) (fp : Nat → Prop), ACall Try.prog 26 [] H fp fun v' H' => v' = .bool true ∧ H' = H) :
    ACall Try.prog 7 [.str a, .str b, .str rest] H fp fun v' H' => v' = .bool true ∧ H' = H := by
  refine acall_of hmix Try.func7 x7_ok (by simp) ?_
  by_cases c : a.length ≤ 65535 ∧ b.length ≤ 65535
  · obtain ⟨ha, hb⟩ := c
    have l1 : abin .add (.str (blkB a false)) (.str (blkB b true)) = some (.str (blkB a false ++ blkB b true)) := abin_sadd (by simp; omega)
    have l2 : abin .add (.str (blkB a false ++ blkB b true)) (.str rest) = some (.str (blkB a false ++ blkB b true ++ rest)) := abin_sadd (by simp; omega)
    have l3 : abin .add (.str a) (.str b) = some (.str (a ++ b)) := abin_sadd (by omega)
    have i1 := inflate_ok (H := H) (fp := fun r => fp r ∨ H.length ≤ r) (s := blkB a false ++ blkB b true ++ rest) (n := 1048576) (F := 8 * (blkB a false ++ blkB b true ++ rest).length + 2) (by simp; omega) (by omega)
    rw [infl_two ha hb (by omega)] at i1
    have i2 := inflate_ok (H := H) (fp := fun r => fp r ∨ H.length ≤ r) (s := blkB a false) (n := 1048576) (F := 8 * (blkB a false).length + 2) (by simp; omega) (by omega)
    rw [infl_one ha (by omega)] at i2
    have hsl : aLenS (.str (blkB a false ++ blkB b true)) = some (.int .i64 (((blkB a false ++ blkB b true).length : Nat) : Int)) := rfl
    generalize hS : blkB a false ++ blkB b true = S at *
    simp (config := {contextual := true, implicitDefEqProofs := false}) (disch := omega) [show ¬ (65535 : Int) < a.length by omega, show ¬ (65535 : Int) < b.length by omega]
    refine call1_eq (block_ok ha) ?_
    simp (config := {contextual := true, implicitDefEqProofs := false}) (disch := omega)
    refine call1_eq (block_ok hb) ?_
    simp (config := {contextual := true, implicitDefEqProofs := false}) (disch := omega) [l1, l2]
    refine call1_eq i1 ?_
    simp (config := {contextual := true, implicitDefEqProofs := false}) (disch := omega)
    refine call1_eq (block_ok ha) ?_
    simp (config := {contextual := true, implicitDefEqProofs := false}) (disch := omega)
    refine call1_eq i2 ?_
    simp (config := {contextual := true, implicitDefEqProofs := false}) (disch := omega) [l3, hsl, -aLenS_str]
    refine call1_eq (awake _ _) ?_
    simp
  · by_cases c1 : a.length ≤ 65535
    · simp (config := {contextual := true, implicitDefEqProofs := false}) (disch := omega) [show ¬ (65535 : Int) < a.length by omega, show (65535 : Int) < b.length by omega]
      refine call1_eq (awake _ _) ?_
      simp
    · simp (config := {contextual := true, implicitDefEqProofs := false}) (disch := omega) [show (65535 : Int) < a.length by omega]
      refine call1_eq (awake _ _) ?_
      simp
end
end Go.Proofs.Ytdknddicpdhkcaa.Ab

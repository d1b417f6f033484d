/- Inflate: single bytes and matches. Conditions: none; for the statements about layers 46 and 47. -/
import Derived.Test.YtdknddicpdhkcaaTc
namespace Go.Proofs.Ytdknddicpdhkcaa.Ab
set_option linter.unusedVariables false
set_option linter.unusedSimpArgs false

def putM (most : Nat) (c : UInt8) (t : St) : St := if most ≤ t.out.length then failM 3 t else { t with out := t.out ++ [c] }
def spanG (k : Nat) : Nat × Nat := if k = 285 then (258, 0) else if k - 257 < 8 then (3 + (k - 257), 0) else (3 + (4 + (k - 257) % 4) * 2 ^ ((k - 257) / 4 - 1), (k - 257) / 4 - 1)
def reachG (d : Nat) : Nat × Nat := if d < 4 then (1 + d, 0) else (1 + (2 + d % 2) * 2 ^ (d / 2 - 1), d / 2 - 1)
def copyN (out : List UInt8) (d : Nat) : Nat → List UInt8
  | 0 => out
  | n + 1 => copyN (out ++ [chr out (out.length - d)]) d n
def late (d : Int × St) : St := if 29 < d.1 then failM 4 d.2 else d.2
def matchE (most : Nat) (len dist : Nat) (t : St) : St :=
  if t.err ≠ 0 then t
  else if t.out.length < dist then failM 4 t
  else if most < t.out.length + len then failM 3 t
  else { t with out := copyN t.out dist len }
def matchD (s : List UInt8) (most len : Nat) (d : Int) (t : St) : St :=
  if t.err ≠ 0 then t else matchE most len ((reachG d.toNat).1 + (bitsM s (reachG d.toNat).2 t).1) (bitsM s (reachG d.toNat).2 t).2
def matchM (s : List UInt8) (most k : Nat) (dl : List Int) (t : St) : St :=
  matchD s most ((spanG k).1 + (bitsM s (spanG k).2 t).1) (symG s dl (bitsM s (spanG k).2 t).2).1 (late (symG s dl (bitsM s (spanG k).2 t).2))

section
variable {B : Nat → Prop} {s : List UInt8} {t : St} {w bw : AVal} {most p : Nat} {H : AHeap} {l : List Int} {fp : Nat → Prop}

theorem span_ok {k : Nat} (h : 257 ≤ k) (h2 : k ≤ 285) : ACall Try.prog 72 [.int .i64 k] H fp fun v H' => v = .tuple [.int .i64 (spanG k).1, .int .i64 (spanG k).2] ∧ H' = H := by
  refine acall_of hmix Try.func72 x72_ok (by simp) ?_
  unfold spanG
  by_cases c : k = 285
  · subst c; simp
  · by_cases c2 : k - 257 < 8
    · simp (config := {contextual := true, implicitDefEqProofs := false}) (disch := omega) [show ¬ (k : Int) = 285 by omega, i64_id, show (k : Int) - 257 < 8 by omega, c, c2]
      omega
    · have a1 : abin .quo (.int .i64 ((k : Int) - 257)) (.int .i64 4) = some (.int .i64 (((k - 257) / 4 : Nat) : Int)) := by
        rw [abin_quo (by omega), Int.tdiv_eq_ediv_of_nonneg (by omega), i64_id (by omega) (by omega)]; congr 2; omega
      have a2 : abin .rem (.int .i64 ((k : Int) - 257)) (.int .i64 4) = some (.int .i64 (((k - 257) % 4 : Nat) : Int)) := by
        rw [abin_rem (by omega), Int.tmod_eq_emod_of_nonneg (by omega)]; congr 2; omega
      have a3 : IntKind.i64.wrap ((((k - 257) / 4 : Nat) : Int) - 1) = (((k - 257) / 4 - 1 : Nat) : Int) := by
        rw [i64_id (by omega) (by omega)]; omega
      have hp : 2 ^ ((k - 257) / 4 - 1) ≤ 2 ^ 6 := Nat.pow_le_pow_right (by omega) (by omega)
      generalize hq : (k - 257) % 4 = q at *
      generalize hr : (k - 257) / 4 - 1 = r at *
      have hmul : (4 + q) * 2 ^ r ≤ (4 + q) * 2 ^ 6 := Nat.mul_le_mul_left _ hp
      have a4 : abin .shl (.int .i64 (4 + (q : Int))) (.int .i64 (r : Int)) = some (.int .i64 (((4 + q) * 2 ^ r : Nat) : Int)) := by
        rw [abin_shl (by omega)]
        simp only [bits_i64, Int.toNat_natCast, show min r 64 = r by omega]
        rw [show (4 + (q : Int)) * 2 ^ r = (((4 + q) * 2 ^ r : Nat) : Int) by simp, i64_nat (by omega)]
      have a5 : IntKind.i64.wrap (3 + (((4 + q) * 2 ^ r : Nat) : Int)) = ((3 + (4 + q) * 2 ^ r : Nat) : Int) := by
        rw [i64_id (by omega) (by omega)]; rfl
      simp (config := {contextual := true, implicitDefEqProofs := false}) (disch := omega) [show ¬ (k : Int) = 285 by omega, show IntKind.i64.wrap ((k : Int) - 257) = (k : Int) - 257 from i64_id (by omega) (by omega), show ¬ (k : Int) - 257 < 8 by omega, c, c2, a1, a2, a3, i64_id, a4, a5, -Int.natCast_add, -Int.natCast_mul, -Int.natCast_ediv]
theorem reach_ok {d : Nat} (h2 : d ≤ 29) : ACall Try.prog 73 [.int .i64 d] H fp fun v H' => v = .tuple [.int .i64 (reachG d).1, .int .i64 (reachG d).2] ∧ H' = H := by
  refine acall_of hmix Try.func73 x73_ok (by simp) ?_
  unfold reachG
  by_cases c2 : d < 4
  · simp (config := {contextual := true, implicitDefEqProofs := false}) (disch := omega) [i64_id, show (d : Int) < 4 by omega, c2]
  · have a1 : abin .quo (.int .i64 (d : Int)) (.int .i64 2) = some (.int .i64 ((d / 2 : Nat) : Int)) := by
      rw [abin_quo (by omega), Int.tdiv_eq_ediv_of_nonneg (by omega), i64_id (by omega) (by omega)]; rfl
    have a2 : abin .rem (.int .i64 (d : Int)) (.int .i64 2) = some (.int .i64 ((d % 2 : Nat) : Int)) := by
      rw [abin_rem (by omega), Int.tmod_eq_emod_of_nonneg (by omega)]; rfl
    have a3 : IntKind.i64.wrap (((d / 2 : Nat) : Int) - 1) = ((d / 2 - 1 : Nat) : Int) := by
      rw [i64_id (by omega) (by omega)]; omega
    have hp : 2 ^ (d / 2 - 1) ≤ 2 ^ 14 := Nat.pow_le_pow_right (by omega) (by omega)
    generalize hq : d % 2 = q at *
    generalize hr : d / 2 - 1 = r at *
    have hmul : (2 + q) * 2 ^ r ≤ (2 + q) * 2 ^ 14 := Nat.mul_le_mul_left _ hp
    have a4 : abin .shl (.int .i64 (2 + (q : Int))) (.int .i64 (r : Int)) = some (.int .i64 (((2 + q) * 2 ^ r : Nat) : Int)) := by
      rw [abin_shl (by omega)]
      simp only [bits_i64, Int.toNat_natCast, show min r 64 = r by omega]
      rw [show (2 + (q : Int)) * 2 ^ r = (((2 + q) * 2 ^ r : Nat) : Int) by simp, i64_nat (by omega)]
    have a5 : IntKind.i64.wrap (1 + (((2 + q) * 2 ^ r : Nat) : Int)) = ((1 + (2 + q) * 2 ^ r : Nat) : Int) := by
      rw [i64_id (by omega) (by omega)]; rfl
    simp (config := {contextual := true, implicitDefEqProofs := false}) (disch := omega) [show ¬ (d : Int) < 4 by omega, c2, a1, a2, a3, i64_id, a4, a5, -Int.natCast_add, -Int.natCast_mul, -Int.natCast_ediv]

theorem put_ok (hB : ∀ r, B r → r < H.length) (hBp : B p) (h : Rd B p H s t most) (he : t.err = 0) (hmost : most ≤ 2 ^ 40) {c : UInt8} :
    ACall Try.prog 61 [.ptr p 0 0, .int .u8 c.toNat] H (fun r => r = p ∨ ¬ B r) fun v H' => v = .tuple [] ∧ Rd B p H' s (putM most c t) most := by
  have h0 := h
  obtain ⟨w, hp, hw⟩ := h
  refine acall_of hmix Try.func61 x61_ok (by simp) ?_
  have h1 := ageOk_at hp
  have hpl := hB _ hBp
  have hlen := hw.sl.len
  rw [bytesOf_len] at hlen
  unfold putM
  by_cases c1 : most ≤ t.out.length
  · simp (config := {contextual := true, implicitDefEqProofs := false}) (disch := omega) [he, h1, rd2 hp, rd3 hp, hlen, i64_id, show (most : Int) ≤ t.out.length by omega, c1]
    refine call1_eq ((fail_ok hp).use (fun r h => .inl (.inl (.inl h))) fun v H' q _ _ => q) ?_
    have hpl2 : p < (H.set p (rdBlk s (failM 3 t) w most)).length := by simpa using hpl
    have hp2 : (H.set p (rdBlk s (failM 3 t) w most))[p]? = some (rdBlk s (failM 3 t) w most) := List.getElem?_set_self hpl
    simp
    refine call1_eq (ok_ok hp2) ?_
    simp [failM, he]
    exact Rd.set (t' := { t with err := 3 }) hw hBp hpl
  · have hw1 : OwnX B (H ++ [.cells 0 false 5 [.int .u8 c.toNat]]) 5 w (bytesOf t.out) := hw.keep fun k _ hk => List.getElem?_append_left hk
    have hp1 : (H ++ [.cells 0 false 5 [.int .u8 c.toNat]])[p]? = some (rdBlk s t w most) := by rw [List.getElem?_append_left hpl]; exact hp
    obtain ⟨w', H2, ha, hw2, hlen2, hfr2⟩ := hw1.append (fun r hr => by have := hB r hr; rw [List.length_append]; omega) (x := .slice H.length 0 0 1 1) (new := bytesOf [c]) (n := 1) (bytes := 1) (by simp [asrc, bytesOf]) (by simp) (by simp) (by rw [bytesOf_len]; simp [roomLim]; omega)
    rw [← bytesOf_app] at hw2
    have hp2 : H2[p]? = some (rdBlk s t w most) := by rw [hfr2 p hBp]; exact hp1
    have hpl2 : p < H2.length := (List.getElem?_eq_some_iff.1 hp2).1
    have s1 := wr2 hp2 hw2.one
    have g1 := ageOk_at hp1
    have g2 := ageOk_at hp2
    simp (config := {contextual := true, implicitDefEqProofs := false}) (disch := omega) [he, h1, rd2 hp, rd3 hp, hlen, i64_id, show ¬ (most : Int) ≤ t.out.length by omega, c1]
    refine call1_eq (ok_ok hp) ?_
    simp (config := {contextual := true, implicitDefEqProofs := false}) (disch := omega) [he, h1, rd2 hp, rd3 hp, hlen, i64_id, afill, zrep]
    refine e1_of ha ?_ ?_
    · intro r ht
      have ht2 : appTarget w r := by simpa using ht
      exact .inl (.inr (hw.target ht2))
    simp (config := {contextual := true, implicitDefEqProofs := false}) (disch := omega) [g2, s1, hw2.known, hw2.cells]
    rw [← he]
    exact Rd.set (t' := { t with out := t.out ++ [c] }) hw2 hBp hpl2
end
end Go.Proofs.Ytdknddicpdhkcaa.Ab

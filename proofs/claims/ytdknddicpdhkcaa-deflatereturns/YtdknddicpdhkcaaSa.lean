/- Code lengths: the program's and the specification's sums and counts, gone through. Conditions: none; for the statements about layers 46 and 47. -/
import Derived.Test.YtdknddicpdhkcaaXa
import Derived.Test.YtdknddicpdhkcaaAr
namespace Go.Proofs.Ytdknddicpdhkcaa.Ab
set_option linter.unusedVariables false
set_option linter.unusedSimpArgs false
theorem hmix : Try.prog.follows .mixedOrders = true := by kernel_rfl

/-- The sum of code lengths; none where one is not from 0 to 15. -/
def sumG : List Int → Int → Option Int
  | [], acc => some acc
  | k :: l, acc => if k < 0 ∨ 15 < k then none else sumG l (if 0 < k then acc + Int.fdiv 32768 (2 ^ k.toNat) else acc)

def sumR (l : List Int) : AVal := match sumG l 0 with
  | some n => .tuple [.int .i64 n, .bool true]
  | none => .tuple [.int .i64 0, .bool false]

theorem fdiv_le (k : Nat) : 0 ≤ Int.fdiv 32768 (2 ^ k) ∧ Int.fdiv 32768 (2 ^ k) ≤ 32768 := by
  have h2 : (0 : Int) < 2 ^ k := Int.pow_pos (by omega)
  rw [Int.fdiv_eq_ediv_of_nonneg _ (by omega)]
  exact ⟨Int.ediv_nonneg (by omega) (by omega), Int.ediv_le_self _ (by omega)⟩

def inv43 (H : AHeap) (v : AVal) (l : List Int) (n : Nat) (env : Env) (H' : AHeap) : Prop :=
  ∃ (i : Nat) (acc : Int), i ≤ l.length ∧ n = l.length - i ∧ H' = H ∧ env 7 = v ∧ env 8 = .int .i64 l.length ∧ env 9 = .int .i64 i ∧ env 4 = .int .i64 acc ∧ sumG l 0 = sumG (l.drop i) acc ∧ 0 ≤ acc ∧ acc ≤ 32768 * i

theorem sum_ok (l : List Int) (v : AVal) (H : AHeap) (fp : Nat → Prop) (h : Ints H v l) (hlen : l.length < 2 ^ 40) :
    ACall Try.prog 43 [v] H fp fun v' H' => v' = sumR l ∧ H' = H := by
  refine acall_of hmix Try.func43 x43_ok (by simp) ?_
  simp [h.len]
  refine vc_loop (inv43 H v l) l.length ?_ ?_
  · exact ⟨0, 0, by simp⟩
  · rintro n env H' ⟨i, acc, hi, rfl, rfl, e7, e8, e9, e4, hs, h0, h1⟩
    simp (config := {contextual := true, implicitDefEqProofs := false}) (disch := omega) [e7, e8, e9, e4, h.idx, h.load, abin_shr, i64_id]
    constructor
    · intro hlt
      have hd : l.drop i = l[i] :: l.drop (i + 1) := List.drop_eq_getElem_cons hlt
      rw [hd] at hs
      simp only [sumG] at hs
      obtain ⟨f0, f1⟩ := fdiv_le l[i].toNat
      refine ⟨fun g1 => ?_, fun g1 => ⟨fun g2 => ?_, fun g2 => ⟨fun g3 => ?_, fun g3 => ?_⟩⟩⟩
      · rw [if_pos (.inl g1)] at hs; simp [sumR, hs]
      · rw [if_pos (.inr g2)] at hs; simp [sumR, hs]
      · rw [if_neg (by omega), if_pos g3] at hs
        rw [i64_id (by omega) (by omega)]
        refine again_iff (l.length - (i + 1)) (by omega) ⟨i + 1, _, hlt, rfl, rfl, by simp [e7], by simp [e8], by simp, by simp, hs, by omega, by omega⟩
      · rw [if_neg (by omega), if_neg (by omega)] at hs
        refine again_iff (l.length - (i + 1)) (by omega) ⟨i + 1, acc, hlt, rfl, rfl, by simp [e7], by simp [e8], by simp, by simp [e4], hs, by omega, by omega⟩
    · intro hge
      rw [List.drop_eq_nil_of_le hge] at hs
      simp [sumR, hs, sumG]

/-- The same by shifts to the left. -/
def sumS : List Int → Int → Int
  | [], acc => acc
  | k :: l, acc => sumS l (if 0 < k then acc + 2 ^ (15 - k).toNat else acc)

def inv45 (H : AHeap) (v : AVal) (l : List Int) (n : Nat) (env : Env) (H' : AHeap) : Prop :=
  ∃ (i : Nat) (acc : Int), i ≤ l.length ∧ n = l.length - i ∧ H' = H ∧ env 0 = v ∧ env 5 = v ∧ env 6 = .int .i64 l.length ∧ env 7 = .int .i64 i ∧ env 3 = .int .i64 acc ∧ sumS l 0 = sumS (l.drop i) acc ∧ 0 ≤ acc ∧ acc ≤ 32768 * i

theorem pow15_le (k : Int) (h0 : 0 < k) (h : k ≤ 15) : 0 ≤ (2 : Int) ^ (15 - k).toNat ∧ (2 : Int) ^ (15 - k).toNat ≤ 32768 := by
  have h2 : (0 : Int) < 2 ^ (15 - k).toNat := Int.pow_pos (by omega)
  refine ⟨by omega, ?_⟩
  have : (2 : Int) ^ (15 - k).toNat ≤ 2 ^ 15 := by
    have := Nat.pow_le_pow_right (n := 2) (by omega) (show (15 - k).toNat ≤ 15 by omega)
    exact_mod_cast this
  simpa using this

theorem Sum_ok (l : List Int) (v : AVal) (H : AHeap) (fp : Nat → Prop) (h : Ints H v l) (hlen : l.length < 2 ^ 40) (hl : ∀ k ∈ l, 0 ≤ k ∧ k ≤ 15) :
    ACall Try.prog 45 [v] H fp fun v' H' => v' = .int .i64 (sumS l 0) ∧ H' = H := by
  refine acall_of hmix Try.func45 x45_ok (by simp) ?_
  simp [h.len]
  refine vc_loop (inv45 H v l) l.length ?_ ?_
  · exact ⟨0, 0, by simp⟩
  · rintro n env H' ⟨i, acc, hi, rfl, rfl, e0, e5, e6, e7, e3, hs, h0, h1⟩
    by_cases hlt : i < l.length
    · have hk := hl l[i] (List.getElem_mem hlt)
      have hd : l.drop i = l[i] :: l.drop (i + 1) := List.drop_eq_getElem_cons hlt
      rw [hd] at hs
      simp only [sumS] at hs
      have hu : IntKind.u64.wrap (15 - l[i]) = 15 - l[i] := IntWalk.u64_in _ (by omega)
      simp (config := {contextual := true, implicitDefEqProofs := false}) (disch := omega) [e0, e5, e6, e7, e3, h.idx, h.load, abin_shl, i64_id, hlt, hu]
      have hmin : min (15 - l[i]).toNat 64 = (15 - l[i]).toNat := by omega
      refine ⟨fun g1 => ?_, fun g1 => ?_⟩
      · rw [if_pos g1] at hs
        obtain ⟨f0, f1⟩ := pow15_le l[i] g1 hk.2
        try rw [hmin]
        rw [i64_id (n := 2 ^ (15 - l[i]).toNat) (by omega) (by omega), i64_id (by omega) (by omega)]
        refine again_iff (l.length - (i + 1)) (by omega) ⟨i + 1, _, hlt, rfl, rfl, by simp [e0], by simp [e5], by simp [e6], by simp, by simp, hs, by omega, by omega⟩
      · rw [if_neg (by omega)] at hs
        refine again_iff (l.length - (i + 1)) (by omega) ⟨i + 1, acc, hlt, rfl, rfl, by simp [e0], by simp [e5], by simp [e6], by simp, by simp [e3], hs, by omega, by omega⟩
    · simp (config := {contextual := true, implicitDefEqProofs := false}) (disch := omega) [e0, e5, e6, e7, e3, hlt]
      rw [List.drop_eq_nil_of_le (by omega)] at hs
      simp [hs, sumS]
end Go.Proofs.Ytdknddicpdhkcaa.Ab

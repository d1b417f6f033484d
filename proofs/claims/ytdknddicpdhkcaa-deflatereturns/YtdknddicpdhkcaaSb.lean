/- Code lengths: how many codes there are of each length. Conditions: none; for the statements about layers 46 and 47. -/
import Derived.Test.YtdknddicpdhkcaaSa
namespace Go.Proofs.Ytdknddicpdhkcaa.Ab
set_option linter.unusedVariables false
set_option linter.unusedSimpArgs false

/-- How often a length occurs. -/
def cntOf (l : List Int) (k : Nat) : Int := ((l.count (k : Int) : Nat) : Int)
/-- The same; of no bits there is no code. -/
def cnts (l : List Int) (k : Nat) : Int := if k = 0 then 0 else cntOf l k

theorem cntOf_nonneg (l : List Int) (k : Nat) : 0 ≤ cntOf l k := by simp [cntOf]
theorem cntOf_le (l : List Int) (k : Nat) : cntOf l k ≤ l.length := by
  have := List.count_le_length (a := (k : Int)) (l := l)
  simp only [cntOf]; omega
theorem cntOf_take (l : List Int) (i : Nat) (h : i < l.length) (k : Nat) : cntOf (l.take (i + 1)) k = if l[i] = (k : Int) then cntOf (l.take i) k + 1 else cntOf (l.take i) k := by
  simp only [cntOf]
  rw [List.take_succ_eq_append_getElem h, List.count_append]
  by_cases e : l[i] = (k : Int)
  · simp [e]
  · simp [e]
theorem cntOf_nil (k : Nat) : cntOf [] k = 0 := rfl

def inv44 (H : AHeap) (v : AVal) (l : List Int) (n : Nat) (env : Env) (H' : AHeap) : Prop :=
  ∃ (i : Nat), i ≤ l.length ∧ n = l.length - i ∧ H' = H ++ [.cells 0 false 61 (Arr 16 fun _ => 0), .cells 0 false 61 (Arr 16 (cntOf (l.take i)))] ∧
    env 2 = .ptr H.length 0 0 ∧ env 3 = .ptr (H.length + 1) 0 0 ∧ env 6 = v ∧ env 7 = .int .i64 l.length ∧ env 8 = .int .i64 i

theorem counts_ok (l : List Int) (v : AVal) (H : AHeap) (fp : Nat → Prop) (h : Ints H v l) (hlen : l.length < 2 ^ 40) (hl : ∀ k ∈ l, 0 ≤ k ∧ k ≤ 15) :
    ACall Try.prog 44 [v] H fp fun v' H' => v' = .agg (Arr 16 (cnts l)) ∧ H' = H := by
  refine (ACall.drop (R := fun v' _ => v' = .agg (Arr 16 (cnts l))) ?_ (by rintro v' H' rfl; exact Arr_flats _ _)).mono fun v' H' q => ⟨q.2.elim fun _ q => q.1, q.1⟩
  refine acall_of hmix Try.func44 x44_ok (by simp) ?_
  have hz : [.int .i64 0, .int .i64 0, .int .i64 0, .int .i64 0, .int .i64 0, .int .i64 0, .int .i64 0, .int .i64 0, .int .i64 0, .int .i64 0, .int .i64 0, .int .i64 0, .int .i64 0, .int .i64 0, .int .i64 0, .int .i64 0] = Arr 16 fun _ => 0 := rfl
  rw [hz]
  have h2 : ∀ L, vLen (H ++ L) v = some (.int .i64 l.length) := fun L => (h.app (L := L)).len
  simp [h2]
  refine vc_loop (inv44 H v l) l.length ?_ ?_
  · exact ⟨0, by simp, by simp, by simp [Arr, cntOf], by simp, by simp, by simp, by simp, by simp⟩
  · rintro n env H' ⟨i, hi, rfl, rfl, e2, e3, e6, e7, e8⟩
    by_cases hlt : i < l.length
    · have hk := hl l[i] (List.getElem_mem hlt)
      have hk2 : l[i].toNat < 16 := by omega
      have hc := cntOf_le (l.take i) l[i].toNat
      have hc0 := cntOf_nonneg (l.take i) l[i].toNat
      have hlt2 : (l.take i).length ≤ i := by simp; omega
      simp (config := {contextual := true, implicitDefEqProofs := false}) (disch := omega) [e2, e3, e6, e7, e8, h.app.idx, h.app.load, hlt, vIdxA, hk.1, show l[i] < 16 by omega, Arr_get hk2, i64_id, vStore, astores_one, hk2]
      refine again_iff (l.length - (i + 1)) (by omega) ⟨i + 1, hlt, rfl, ?_, by simp [e2], by simp [e3], by simp [e6], by simp [e7], by simp⟩
      rw [Arr_set]
      congr 4
      apply Arr_congr
      intro k _
      rw [cntOf_take l i hlt]
      by_cases e : k = l[i].toNat
      · subst e; rw [if_pos rfl, if_pos (by omega)]
      · rw [if_neg e, if_neg (by omega)]
    · have hi2 : i = l.length := by omega
      simp (config := {contextual := true, implicitDefEqProofs := false}) (disch := simp) [e2, e3, e6, e7, e8, hlt, vIdxA, vStore, astores_one, astores_all, Arr_set, resVal]
      rw [hi2, List.take_length]
      rfl
end Go.Proofs.Ytdknddicpdhkcaa.Ab

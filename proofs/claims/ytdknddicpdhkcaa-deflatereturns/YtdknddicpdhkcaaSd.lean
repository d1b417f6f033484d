/- Code lengths: the specification's codes. Conditions: none; for the statements about layers 46 and 47. -/
import Derived.Test.YtdknddicpdhkcaaSc
namespace Go.Proofs.Ytdknddicpdhkcaa.Ab
set_option linter.unusedVariables false
set_option linter.unusedSimpArgs false

theorem fdiv_pow (k : Int) (h0 : 0 < k) (h : k ≤ 15) : Int.fdiv 32768 (2 ^ k.toNat) = 2 ^ (15 - k).toNat := by
  have h2 : (0 : Int) < 2 ^ k.toNat := Int.pow_pos (by omega)
  rw [Int.fdiv_eq_ediv_of_nonneg _ (by omega)]
  have e : (32768 : Int) = 2 ^ (15 - k).toNat * 2 ^ k.toNat := by
    rw [← Int.pow_add, show (15 - k).toNat + k.toNat = 15 by omega]; rfl
  rw [e, Int.mul_ediv_cancel _ (by omega)]

theorem sumG_sumS : ∀ (l : List Int) (acc : Int), (∀ k ∈ l, 0 ≤ k ∧ k ≤ 15) → sumG l acc = some (sumS l acc)
  | [], acc, _ => rfl
  | k :: l, acc, h => by
    have hk := h k (by simp)
    simp only [sumG, sumS]
    rw [if_neg (by omega)]
    by_cases hp : 0 < k
    · rw [if_pos hp, if_pos hp, fdiv_pow k hp hk.2]
      exact sumG_sumS l _ fun x hx => h x (by simp [hx])
    · rw [if_neg hp, if_neg hp]
      exact sumG_sumS l _ fun x hx => h x (by simp [hx])

section
variable {l : List Int} {v : AVal} {H : AHeap} {fp : Nat → Prop}

theorem rLengths_long (h : Ints H v l) (hl : 288 < l.length) : ACall Try.prog 25 [v] H fp fun v' H' => v' = .tuple [.nilslice, .int .i64 3] ∧ H' = H := by
  refine acall_of hmix Try.func25 x25_ok (by simp) ?_
  simp (disch := omega) [h.len]
  intro; omega

def inv25a (H : AHeap) (v : AVal) (l : List Int) (n : Nat) (env : Env) (H' : AHeap) : Prop :=
  ∃ (i : Nat), i ≤ l.length ∧ n = l.length - i ∧ H' = H ∧ (∀ k ∈ l.take i, 0 ≤ k ∧ k ≤ 15) ∧ env 0 = v ∧ env 12 = v ∧ env 13 = .int .i64 l.length ∧ env 14 = .int .i64 i

theorem take_in {l : List Int} {i : Nat} (hlt : i < l.length) (ht : ∀ k ∈ l.take i, 0 ≤ k ∧ k ≤ 15) (h0 : 0 ≤ l[i]) (h1 : l[i] ≤ 15) : ∀ k ∈ l.take (i + 1), 0 ≤ k ∧ k ≤ 15 := by
  intro k hk
  rw [List.take_succ_eq_append_getElem hlt] at hk
  rcases List.mem_append.1 hk with hk | hk
  · exact ht k hk
  · simp at hk; subst hk; exact ⟨h0, h1⟩

theorem rLengths_bad (h : Ints H v l) (hl : l.length ≤ 288) (hb : ¬ good l) : ACall Try.prog 25 [v] H fp fun v' H' => v' = .tuple [.nilslice, .int .i64 4] ∧ H' = H := by
  refine acall_of hmix Try.func25 x25_ok (by simp) ?_
  simp (disch := omega) [h.len]
  refine ⟨by omega, fun _ => vc_loop (inv25a H v l) l.length ⟨0, by simp, by simp, by simp, by simp, by simp, by simp, by simp, by simp⟩ ?_⟩
  rintro n env H' ⟨i, hi, rfl, rfl, ht, e0, e12, e13, e14⟩
  by_cases hlt : i < l.length
  · simp (config := {contextual := true, implicitDefEqProofs := false}) (disch := omega) [e0, e12, e13, e14, hlt, h.idx, h.load, i64_id]
    intro g1 g2
    refine again_iff (l.length - (i + 1)) (by omega) ⟨i + 1, hlt, rfl, rfl, take_in hlt ht g1 g2, by simp [e0], by simp [e12], by simp [e13], by simp⟩
  · have hi2 : i = l.length := by omega
    rw [hi2, List.take_length] at ht
    simp (config := {contextual := true, implicitDefEqProofs := false}) (disch := omega) [e0, e12, e13, e14, hlt]
    refine call1_eq (Sum_ok l v _ _ h (by omega) ht) ?_
    have hn : 32768 < sumS l 0 := Int.not_le.1 fun hle => hb ⟨ht, _, sumG_sumS l 0 ht, hle⟩
    simp [hn]

/-- What is laid when the codes of at most j bits are, and of j + 1 bits those of the first i symbols. -/
def outF (l : List Int) (j i q : Nat) : Int := if l.getD q 0 ≤ j ∨ (l.getD q 0 = j + 1 ∧ q < i) then code l q else 0

def inv25b (H : AHeap) (v : AVal) (l : List Int) (n : Nat) (env : Env) (H' : AHeap) : Prop :=
  ∃ (j : Nat), j ≤ 15 ∧ n = 15 - j ∧ H' = H ++ [.cells 0 false 3 (Arr l.length (outF l j 0))] ∧ env 0 = v ∧ env 5 = .slice H.length 0 0 l.length 1 ∧ env 6 = .int .i64 (base l j + cnts l j) ∧ env 7 = .int .i64 (j + 1)
def inv25c (H : AHeap) (v : AVal) (l : List Int) (j : Nat) (n : Nat) (env : Env) (H' : AHeap) : Prop :=
  ∃ (i : Nat), i ≤ l.length ∧ n = l.length - i ∧ H' = H ++ [.cells 0 false 3 (Arr l.length (outF l j i))] ∧ env 0 = v ∧ env 5 = .slice H.length 0 0 l.length 1 ∧ env 6 = .int .i64 (base l (j + 1) + cntOf (l.take i) (j + 1)) ∧ env 7 = .int .i64 (j + 1) ∧
    env 42 = v ∧ env 43 = .int .i64 l.length ∧ env 44 = .int .i64 i

theorem heap1 {H : AHeap} {g e : Nat} {ro : Bool} {A A' : List AVal} (h1 : A = A') : H ++ [.cells g ro e A] = H ++ [.cells g ro e A'] := by rw [h1]
theorem getD_at {l : List Int} {i : Nat} (h : i < l.length) : l.getD i 0 = l[i] := by simp [h]
theorem code_at {l : List Int} {i : Nat} (h : i < l.length) (hp : 0 < l[i]) : code l i = base l l[i].toNat + cntOf (l.take i) l[i].toNat := by simp [code, h, hp]

theorem rLengths_good (h : Ints H v l) (hl : l.length ≤ 288) (hg : good l) :
    ACall Try.prog 25 [v] H fp fun v' H' => v' = .tuple [.slice H.length 0 0 l.length 1, .int .i64 0] ∧ H' = H ++ [.cells 0 false 3 (Arr l.length (code l))] := by
  obtain ⟨hin, n, hn, hle⟩ := hg
  rw [sumG_sumS l 0 hin] at hn
  cases hn
  refine acall_of hmix Try.func25 x25_ok (by simp) ?_
  simp (disch := omega) [h.len]
  refine ⟨by omega, fun _ => vc_loop (inv25a H v l) l.length ⟨0, by simp, by simp, by simp, by simp, by simp, by simp, by simp, by simp⟩ ?_⟩
  rintro n env H' ⟨i, hi, rfl, rfl, ht, e0, e12, e13, e14⟩
  by_cases hlt : i < l.length
  · have hk := hin l[i] (List.getElem_mem hlt)
    simp (config := {contextual := true, implicitDefEqProofs := false}) (disch := omega) [e0, e12, e13, e14, hlt, h.idx, h.load, i64_id]
    refine ⟨by omega, fun g1 => ⟨by omega, fun g2 => ?_⟩⟩
    refine again_iff (l.length - (i + 1)) (by omega) ⟨i + 1, hlt, rfl, rfl, take_in hlt ht hk.1 hk.2, by simp [e0], by simp [e12], by simp [e13], by simp⟩
  · have hi2 : i = l.length := by omega
    simp (config := {contextual := true, implicitDefEqProofs := false}) (disch := omega) [e0, e12, e13, e14, hlt]
    refine call1_eq (Sum_ok l v _ _ h (by omega) hin) ?_
    simp (disch := omega) [e0, h.len, roomLim, show l.length * 8 ≤ 140737488355328 by omega, show (l.length : Int) ≤ 9223372036854775807 by omega, zrep_one, Arr_zeros]
    refine ⟨by omega, fun _ => vc_loop (inv25b H' v l) 15 ⟨0, by simp, by simp, ?_, by simp [e0], by simp, by simp [base, cnts], by simp⟩ ?_⟩
    · congr 3
      apply Arr_congr
      intro q hq
      simp [outF, code, hq]
      omega
    clear e0 e12 e13 e14 ht hlt hi2 hi
    rintro n env H2 ⟨j, hj, rfl, rfl, e0, e5, e6, e7⟩
    obtain ⟨b0, b1⟩ := base_small hl hj
    have c0 := cnts_nonneg l j
    have c1 := cnts_le l j
    have hb := fun L => (h.app (L := L)).len
    by_cases hlt : j < 15
    · simp (config := {contextual := true, implicitDefEqProofs := false}) (disch := omega) [e0, e5, e6, e7, i64_id, hb, show (j : Int) + 1 ≤ 15 by omega]
      refine vc_loop (inv25c H' v l j) l.length ⟨0, by simp, by simp, by simp, by simp [e0], by simp [e5], ?_, by simp [e7], by simp, by simp, by simp⟩ ?_
      · simp [base_succ, cntOf]; omega
      clear e0 e5 e6 e7
      rintro n env H2 ⟨i, hi, rfl, rfl, e0, e5, e6, e7, e42, e43, e44⟩
      have ha := fun L => h.app (L := L)
      obtain ⟨b0, b1⟩ := base_small hl (k := j + 1) (by omega)
      have c0 := cntOf_nonneg (l.take i) (j + 1)
      have c1 := cntOf_le (l.take i) (j + 1)
      have c2 : (l.take i).length ≤ i := by simp; omega
      by_cases hlt2 : i < l.length
      · simp (config := {contextual := true, implicitDefEqProofs := false}) (disch := omega) [e0, e5, e6, e7, e42, e43, e44, (ha _).idx, (ha _).load, hlt2, i64_id, Arr_set]
        refine ⟨fun g => again_iff (l.length - (i + 1)) (by omega) ⟨i + 1, hlt2, rfl, heap1 (Arr_congr fun k hk => ?_), by simp [e0], by simp [e5], ?_, by simp [e7], by simp [e42], by simp [e43], by simp⟩,
          fun g => again_iff (l.length - (i + 1)) (by omega) ⟨i + 1, hlt2, rfl, heap1 (Arr_congr fun k hk => ?_), by simp [e0], by simp [e5], ?_, by simp [e7], by simp [e42], by simp [e43], by simp⟩⟩
        · by_cases e : k = i
          · subst e
            rw [if_pos rfl]
            unfold outF
            rw [getD_at hlt2, if_pos (.inr ⟨g, by omega⟩), code_at hlt2 (by omega), show l[k].toNat = j + 1 by omega]
          · rw [if_neg e]
            unfold outF
            simp only [show k < i ↔ k < i + 1 by omega]
        · rw [cntOf_take l i hlt2, if_pos (by omega)]; simp; omega
        · unfold outF
          by_cases e : k = i
          · subst e
            rw [getD_at hlt2]
            simp [g]
          · simp only [show k < i ↔ k < i + 1 by omega]
        · rw [cntOf_take l i hlt2, if_neg (by omega)]; simp [e6]
      · have hi2 : i = l.length := by omega
        simp (config := {contextual := true, implicitDefEqProofs := false}) (disch := omega) [e0, e5, e6, e7, e42, e43, e44, hlt2, i64_id]
        refine again_iff (15 - (j + 1)) (by omega) ⟨j + 1, by omega, rfl, heap1 (Arr_congr fun k hk => ?_), by simp [e0], by simp [e5], ?_, by simp⟩
        · unfold outF
          have hin2 := hin l[k] (List.getElem_mem hk)
          rw [getD_at hk]
          by_cases e : l[k] ≤ (j : Int) + 1
          · rw [if_pos (by omega), if_pos (by omega)]
          · rw [if_neg (by omega), if_neg (by omega)]
        · simp [cnts, e6, hi2]
    · have hj2 : j = 15 := by omega
      simp (config := {contextual := true, implicitDefEqProofs := false}) (disch := omega) [e0, e5, e6, e7, i64_id, hb, show ¬ (j : Int) + 1 ≤ 15 by omega]
      apply Arr_congr
      intro k hk
      have hin2 := hin l[k] (List.getElem_mem hk)
      unfold outF
      rw [getD_at hk, if_pos (by omega)]
end
end Go.Proofs.Ytdknddicpdhkcaa.Ab

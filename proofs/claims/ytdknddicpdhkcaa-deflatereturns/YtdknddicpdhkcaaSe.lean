/- Code lengths: no code is a beginning of another one; the law InflateCodes, but for the examples. Conditions: none; for the statements about layer 46. -/
import Derived.Test.YtdknddicpdhkcaaSd
namespace Go.Proofs.Ytdknddicpdhkcaa.Ab
set_option linter.unusedVariables false
set_option linter.unusedSimpArgs false

theorem base_up (l : List Int) (p : Nat) : ∀ d, (base l p + cnts l p) * 2 ^ (d + 1) ≤ base l (p + (d + 1))
  | 0 => by
    rw [show p + (0 + 1) = p + 1 by omega, base_succ]; simp
  | d + 1 => by
    have ih := base_up l p d
    have c := cnts_nonneg l (p + (d + 1))
    rw [show p + (d + 1 + 1) = (p + (d + 1)) + 1 by omega, base_succ, Int.pow_succ 2 (d + 1), ← Int.mul_assoc]
    omega

theorem cntOf_mono (l : List Int) (k : Nat) {i j : Nat} (h : i ≤ j) : cntOf (l.take i) k ≤ cntOf (l.take j) k := by
  simp only [cntOf]
  have : l.take i = (l.take j).take i := by rw [List.take_take, Nat.min_eq_left h]
  have h2 : List.Sublist (l.take i) (l.take j) := by rw [this]; exact List.take_sublist _ _
  exact_mod_cast h2.count_le _

theorem code_lt {l : List Int} {i j : Nat} (h : i < l.length) (hp : 0 < l[i]) (hij : i < j) : cntOf (l.take i) l[i].toNat < cntOf (l.take j) l[i].toNat := by
  have h1 := cntOf_mono l l[i].toNat (i := i + 1) (j := j) hij
  rw [cntOf_take l i h, if_pos (by omega)] at h1
  omega

theorem code_free {l : List Int} (hin : ∀ k ∈ l, 0 ≤ k ∧ k ≤ 15) {i j : Nat} (hi : i < l.length) (hj : j < l.length) (hne : i ≠ j) (hp : 0 < l[i]) (hle : l[i] ≤ l[j]) :
    (code l j).fdiv (2 ^ (l[j] - l[i]).toNat) ≠ code l i := by
  rw [code_at hi hp, code_at hj (by omega)]
  have h2 : (0 : Int) < 2 ^ (l[j] - l[i]).toNat := Int.pow_pos (by omega)
  rw [Int.fdiv_eq_ediv_of_nonneg _ (by omega)]
  by_cases e : l[i] = l[j]
  · rw [show (l[j] - l[i]).toNat = 0 by omega]
    simp only [Int.pow_zero, Int.ediv_one]
    intro he
    rcases Nat.lt_or_gt_of_ne hne with h | h
    · have := code_lt hi hp h
      rw [show l[j].toNat = l[i].toNat by omega] at he
      omega
    · have := code_lt hj (by omega) h
      rw [show l[j].toNat = l[i].toNat by omega] at he this
      omega
  · obtain ⟨d, hd⟩ : ∃ d : Nat, (l[j] - l[i]).toNat = d + 1 := ⟨(l[j] - l[i]).toNat - 1, by omega⟩
    have hb := base_up l l[i].toNat d
    rw [show l[i].toNat + (d + 1) = l[j].toNat by omega] at hb
    have hc := code_lt hi hp (j := l.length) hi
    rw [List.take_length] at hc
    have hc2 : cnts l l[i].toNat = cntOf l l[i].toNat := by unfold cnts; rw [if_neg (by omega)]
    have hn := cntOf_nonneg (l.take j) l[j].toNat
    rw [hd] at h2 ⊢
    have hge : base l l[i].toNat + cnts l l[i].toNat ≤ (base l l[j].toNat + cntOf (l.take j) l[j].toNat) / 2 ^ (d + 1) := (Int.le_ediv_iff_mul_le h2).2 (by omega)
    omega

section
variable {l : List Int} {v : AVal} {H : AHeap} {fp : Nat → Prop}

def lawHeap (H : AHeap) (l : List Int) : AHeap := H ++ [.cells 0 false 3 (Arr l.length (code l)), .cells 0 false 3 (Arr l.length (code l))]
def inv6a (H : AHeap) (v : AVal) (l : List Int) (n : Nat) (env : Env) (H' : AHeap) : Prop :=
  ∃ (i : Nat), i ≤ l.length ∧ n = l.length - i ∧ H' = lawHeap H l ∧ env 0 = v ∧ env 3 = .slice H.length 0 0 l.length 1 ∧ env 5 = .slice (H.length + 1) 0 0 l.length 1 ∧ env 35 = .int .i64 l.length ∧ env 36 = .int .i64 i
def inv6b (H : AHeap) (v : AVal) (l : List Int) (n : Nat) (env : Env) (H' : AHeap) : Prop :=
  ∃ (i : Nat), i ≤ l.length ∧ n = l.length - i ∧ H' = lawHeap H l ∧ env 0 = v ∧ env 3 = .slice H.length 0 0 l.length 1 ∧ env 50 = .int .i64 l.length ∧ env 51 = .int .i64 i
def inv6c (H : AHeap) (v : AVal) (l : List Int) (i : Nat) (n : Nat) (env : Env) (H' : AHeap) : Prop :=
  ∃ (j : Nat), j ≤ l.length ∧ n = l.length - j ∧ H' = lawHeap H l ∧ env 0 = v ∧ env 3 = .slice H.length 0 0 l.length 1 ∧ env 50 = .int .i64 l.length ∧ env 51 = .int .i64 i ∧ env 8 = .int .i64 i ∧ env 55 = .int .i64 l.length ∧ env 56 = .int .i64 j

theorem law6_err {e : Int} (h1 : ∀ H fp, Ints H v l → ACall Try.prog 24 [v] H fp fun v' H' => v' = .tuple [.nilslice, .int .i64 e] ∧ H' = H) (h2 : ∀ H fp, Ints H v l → ACall Try.prog 25 [v] H fp fun v' H' => v' = .tuple [.nilslice, .int .i64 e] ∧ H' = H)
    (haw : ∀ H fp, ACall Try.prog 26 [] H fp fun v' H' => v' = .bool true ∧ H' = H) (h : Ints H v l) : ACall Try.prog 6 [v] H fp fun v' H' => v' = .bool true ∧ H' = H := by
  refine acall_of hmix Try.func6 x6_ok (by simp) ?_
  simp
  refine call1_eq (h1 _ _ h) ?_
  simp
  refine call1_eq (h2 _ _ h) ?_
  simp
  refine call1_eq (haw _ _) ?_
  simp
  refine vc_loop (fun n env H' => H' = H ∧ env 3 = .nilslice ∧ env 36 = .int .i64 0 ∧ env 35 = .int .i64 0) 0 ⟨rfl, by simp, by simp, by simp⟩ ?_
  rintro n env H' ⟨rfl, e3, e36, e35⟩
  simp [e3, e36, e35]
  refine vc_loop (fun n env H2 => H2 = H' ∧ env 50 = .int .i64 0 ∧ env 51 = .int .i64 0) 0 ⟨rfl, by simp, by simp⟩ ?_
  rintro n env H' ⟨rfl, e50, e51⟩
  simp [e50, e51]

theorem law6_good (haw : ∀ H fp, ACall Try.prog 26 [] H fp fun v' H' => v' = .bool true ∧ H' = H) (h : Ints H v l) (hl : l.length ≤ 288) (hg : good l) : ACall Try.prog 6 [v] H fp fun v' H' => v' = .bool true ∧ H' = H := by
  refine (ACall.drop (R := fun v' _ => v' = .bool true) ?_ (by rintro v' H' rfl; rfl)).mono fun v' H' q => ⟨q.2.elim fun _ q => q.1, q.1⟩
  have hin := hg.1
  refine acall_of hmix Try.func6 x6_ok (by simp) ?_
  simp
  refine call1_eq (Lengths_good h hl hg) ?_
  simp
  refine call1_eq (rLengths_good h.app hl hg) ?_
  simp
  refine call1_eq (haw _ _) ?_
  simp
  refine vc_loop (inv6a H v l) l.length ⟨0, by simp, by simp, rfl, by simp, by simp, by simp, by simp, by simp⟩ ?_
  rintro n env H' ⟨i, hi, rfl, rfl, e0, e3, e5, e35, e36⟩
  by_cases hlt : i < l.length
  · simp (config := {contextual := true, implicitDefEqProofs := false}) (disch := omega) [lawHeap, e0, e3, e5, e35, e36, hlt, i64_id, Arr_get]
    exact again_iff (l.length - (i + 1)) (by omega) ⟨i + 1, hlt, rfl, rfl, by simp [e0], by simp [e3], by simp [e5], by simp [e35], by simp⟩
  simp (config := {contextual := true, implicitDefEqProofs := false}) (disch := omega) [lawHeap, e0, e3, e5, e35, e36, hlt, i64_id, Arr_get]
  refine vc_loop (inv6b H v l) l.length ⟨0, by simp, by simp, rfl, by simp [e0], by simp [e3], by simp, by simp⟩ ?_
  clear e0 e3 e5 e35 e36 hlt hi
  rintro n env H' ⟨i, hi, rfl, rfl, e0, e3, e50, e51⟩
  by_cases hlt : i < l.length
  · simp (config := {contextual := true, implicitDefEqProofs := false}) (disch := omega) [lawHeap, e0, e3, e50, e51, hlt, i64_id]
    refine vc_loop (inv6c H v l i) l.length ⟨0, by simp, by simp, rfl, by simp [e0], by simp [e3], by simp [e50], by simp [e51], by simp, by simp, by simp⟩ ?_
    clear e0 e3 e50 e51
    rintro n env H' ⟨j, hj, rfl, rfl, e0, e3, e50, e51, e8, e55, e56⟩
    have ha := fun L => h.app (L := L)
    by_cases hlt2 : j < l.length
    · have hk := hin l[i] (List.getElem_mem hlt)
      have hk2 := hin l[j] (List.getElem_mem hlt2)
      have fin : ∀ env' : Env, env' 0 = v → env' 3 = .slice H.length 0 0 l.length 1 → env' 50 = .int .i64 l.length → env' 51 = .int .i64 i → env' 8 = .int .i64 i → env' 55 = .int .i64 l.length → env' 56 = .int .i64 ((j : Int) + 1) →
          again (inv6c H v l i) (l.length - j) env' (lawHeap H l) :=
        fun env' a1 a2 a3 a4 a5 a6 a7 => again_iff (l.length - (j + 1)) (by omega) ⟨j + 1, hlt2, rfl, rfl, a1, a2, a3, a4, a5, a6, by simpa using a7⟩
      unfold lawHeap at fin
      simp (config := {contextual := true, implicitDefEqProofs := false}) (disch := omega) [lawHeap, e0, e3, e50, e51, e8, e55, e56, (ha _).idx, (ha _).load, hlt, hlt2, i64_id, Arr_get, abin_shr, IntWalk.u64_in]
      repeat' first
        | exact code_free hin hlt hlt2 (by omega) (by assumption) (by assumption)
        | exact fin _ (by simp [e0]) (by simp [e3]) (by simp [e50]) (by simp [e51]) (by simp [e8]) (by simp [e55]) (by simp)
        | refine And.intro ?_ ?_
        | (exfalso; omega)
        | intro _
    · simp (config := {contextual := true, implicitDefEqProofs := false}) (disch := omega) [e0, e3, e50, e51, e8, e55, e56, hlt2, i64_id]
      exact again_iff (l.length - (i + 1)) (by omega) ⟨i + 1, hlt, rfl, rfl, by simp [e0], by simp [e3], by simp [e50], by simp⟩
  · simp (config := {contextual := true, implicitDefEqProofs := false}) (disch := omega) [e50, e51, hlt]

/-- The law InflateCodes, where the examples hold. -/
theorem law6_ok (haw : ∀ H fp, ACall Try.prog 26 [] H fp fun v' H' => v' = .bool true ∧ H' = H) (h : Ints H v l) : ACall Try.prog 6 [v] H fp fun v' H' => v' = .bool true ∧ H' = H := by
  by_cases hl : l.length ≤ 288
  · by_cases hg : good l
    · exact law6_good haw h hl hg
    · exact law6_err (fun H fp h => Lengths_bad h hl hg) (fun H fp h => rLengths_bad h hl hg) haw h
  · exact law6_err (fun H fp h => Lengths_long h (by omega)) (fun H fp h => rLengths_long h (by omega)) haw h
end
end Go.Proofs.Ytdknddicpdhkcaa.Ab

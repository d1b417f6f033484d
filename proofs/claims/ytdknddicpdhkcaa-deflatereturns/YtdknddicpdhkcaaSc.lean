/- Code lengths: the program's codes. Conditions: none; for the statements about layers 46 and 47. -/
import Derived.Test.YtdknddicpdhkcaaSb
namespace Go.Proofs.Ytdknddicpdhkcaa.Ab
set_option linter.unusedVariables false
set_option linter.unusedSimpArgs false

/-- The first code of each length. -/
def base (l : List Int) : Nat → Int
  | 0 => 0
  | k + 1 => (base l k + cnts l k) * 2

theorem cnts_nonneg (l : List Int) (k : Nat) : 0 ≤ cnts l k := by
  have := cntOf_nonneg l k
  unfold cnts; split <;> omega
theorem cnts_le (l : List Int) (k : Nat) : cnts l k ≤ l.length := by
  have := cntOf_le l k
  unfold cnts; split <;> omega
theorem base_le (l : List Int) : ∀ k, 0 ≤ base l k ∧ base l k ≤ l.length * (2 ^ (k + 1) - 2)
  | 0 => by simp [base]
  | k + 1 => by
    obtain ⟨h0, h1⟩ := base_le l k
    have c0 := cnts_nonneg l k
    have c1 := cnts_le l k
    refine ⟨by simp only [base]; omega, ?_⟩
    have e : ((l.length : Int)) * (2 ^ (k + 1 + 1) - 2) = (l.length * (2 ^ (k + 1) - 2) + l.length) * 2 := by rw [Int.pow_succ 2 (k + 1)]; grind
    simp only [base]
    rw [e]; omega

theorem base_small {l : List Int} (h : l.length ≤ 288) {k : Nat} (hk : k ≤ 15) : 0 ≤ base l k ∧ base l k ≤ 18874368 := by
  obtain ⟨h0, h1⟩ := base_le l k
  refine ⟨h0, Int.le_trans h1 ?_⟩
  have : (2 : Int) ^ (k + 1) ≤ 2 ^ 16 := by
    have := Nat.pow_le_pow_right (n := 2) (by omega) (show k + 1 ≤ 16 by omega)
    exact_mod_cast this
  have h2 : (0 : Int) < 2 ^ (k + 1) := Int.pow_pos (by omega)
  have h3 : (2 : Int) ^ (k + 1) - 2 ≤ 65536 := by
    have e : (2 : Int) ^ 16 = 65536 := rfl
    omega
  calc (l.length : Int) * (2 ^ (k + 1) - 2) ≤ l.length * 65536 := Int.mul_le_mul_of_nonneg_left h3 (by omega)
    _ ≤ 18874368 := by omega

/-- The code of symbol j. -/
def code (l : List Int) (j : Nat) : Int := match l[j]? with
  | some k => if 0 < k then base l k.toNat + cntOf (l.take j) k.toNat else 0
  | none => 0

def good (l : List Int) : Prop := (∀ k ∈ l, 0 ≤ k ∧ k ≤ 15) ∧ ∃ n, sumG l 0 = some n ∧ n ≤ 32768

theorem sumG_in : ∀ (l : List Int) (acc n : Int), sumG l acc = some n → ∀ k ∈ l, 0 ≤ k ∧ k ≤ 15
  | [], _, _, _, k, h => by simp at h
  | a :: l, acc, n, h, k, hk => by
    simp only [sumG] at h
    split at h
    · cases h
    · rename_i hc
      rcases List.mem_cons.1 hk with rfl | hk
      · omega
      · exact sumG_in l _ _ h k hk

section
variable {l : List Int} {v : AVal} {H : AHeap} {fp : Nat → Prop}

theorem cnts_take (l : List Int) (i : Nat) (h : i < l.length) (h0 : 0 ≤ l[i]) (k : Nat) : cnts (l.take (i + 1)) k = if k = l[i].toNat ∧ k ≠ 0 then cnts (l.take i) k + 1 else cnts (l.take i) k := by
  unfold cnts
  rw [cntOf_take l i h]
  by_cases e : k = 0
  · simp [e]
  · by_cases e2 : k = l[i].toNat
    · rw [if_neg e, if_neg e, if_pos (show l[i] = (k : Int) by omega), if_pos (show k = l[i].toNat ∧ k ≠ 0 from ⟨e2, e⟩)]
    · rw [if_neg e, if_neg e, if_neg (show ¬ l[i] = (k : Int) by omega), if_neg (show ¬ (k = l[i].toNat ∧ k ≠ 0) from fun h => e2 h.1)]

theorem heap3 {H : AHeap} {b : ABlk} {g g2 e e2 : Nat} {ro ro2 : Bool} {A A' B B' : List AVal} (h1 : A = A') (h2 : B = B') : H ++ [b, .cells g ro e A, .cells g2 ro2 e2 B] = H ++ [b, .cells g ro e A', .cells g2 ro2 e2 B'] := by
  rw [h1, h2]

theorem base_succ (l : List Int) (k : Nat) : base l (k + 1) = (base l k + cnts l k) * 2 := rfl

def inv24a (H : AHeap) (v : AVal) (l : List Int) (n : Nat) (env : Env) (H' : AHeap) : Prop :=
  ∃ (j : Nat), j ≤ 15 ∧ n = 15 - j ∧ H' = H ++ [.cells 0 false 61 (Arr 16 (cnts l)), .cells 0 false 61 (Arr 16 fun k => if k ≤ j then base l k else 0)] ∧
    env 0 = v ∧ env 6 = .ptr H.length 0 0 ∧ env 7 = .ptr (H.length + 1) 0 0 ∧ env 8 = .int .i64 (j + 1)
def inv24b (H : AHeap) (v : AVal) (l : List Int) (n : Nat) (env : Env) (H' : AHeap) : Prop :=
  ∃ (i : Nat), i ≤ l.length ∧ n = l.length - i ∧ H' = H ++ [.cells 0 false 61 (Arr 16 (cnts l)), .cells 0 false 61 (Arr 16 fun k => base l k + cnts (l.take i) k), .cells 0 false 3 (Arr l.length fun j => if j < i then code l j else 0)] ∧
    env 7 = .ptr (H.length + 1) 0 0 ∧ env 9 = .slice (H.length + 2) 0 0 l.length 1 ∧ env 47 = v ∧ env 48 = .int .i64 l.length ∧ env 49 = .int .i64 i

theorem Lengths_long (h : Ints H v l) (hl : 288 < l.length) : ACall Try.prog 24 [v] H fp fun v' H' => v' = .tuple [.nilslice, .int .i64 3] ∧ H' = H := by
  refine acall_of hmix Try.func24 x24_ok (by simp) ?_
  simp (disch := omega) [h.len]
  intro; omega

theorem Lengths_bad (h : Ints H v l) (hl : l.length ≤ 288) (hb : ¬ good l) : ACall Try.prog 24 [v] H fp fun v' H' => v' = .tuple [.nilslice, .int .i64 4] ∧ H' = H := by
  refine acall_of hmix Try.func24 x24_ok (by simp) ?_
  simp (disch := omega) [h.len]
  refine ⟨by omega, fun _ => call1_eq (sum_ok l v H _ h (by omega)) ?_⟩
  unfold sumR
  split
  · rename_i n hn
    simp (config := {contextual := true, implicitDefEqProofs := false}) [good, hn]
    intro hle
    exact absurd ⟨sumG_in _ _ _ hn, n, hn, hle⟩ hb
  · simp

theorem Lengths_good (h : Ints H v l) (hl : l.length ≤ 288) (hg : good l) :
    ACall Try.prog 24 [v] H fp fun v' H' => v' = .tuple [.slice H.length 0 0 l.length 1, .int .i64 0] ∧ H' = H ++ [.cells 0 false 3 (Arr l.length (code l))] := by
  refine ACall.use (fp := fun _ => False) (ACall.keep1 (R := fun v' H' => v' = .tuple [.slice (H.length + 2) 0 0 l.length 1, .int .i64 0] ∧ H'[H.length + 2]? = some (.cells 0 false 3 (Arr l.length (code l)))) ?_ ?_) (fun r h => h.elim) fun v H' q _ _ => q
  rotate_left
  · rintro v' H' ⟨rfl, hq⟩ _ _
    exact ⟨_, H.length + 2, .tuple [.slice H.length 0 0 l.length 1, .int .i64 0], by simp [ABlk.flat, Arr_flats], by omega, hq, by simp [AVal.ren, AVal.rens], rfl, rfl⟩
  obtain ⟨hin, n, hn, hle⟩ := hg
  refine acall_of hmix Try.func24 x24_ok (by simp) ?_
  have hz : [.int .i64 0, .int .i64 0, .int .i64 0, .int .i64 0, .int .i64 0, .int .i64 0, .int .i64 0, .int .i64 0, .int .i64 0, .int .i64 0, .int .i64 0, .int .i64 0, .int .i64 0, .int .i64 0, .int .i64 0, .int .i64 0] = Arr 16 fun _ => 0 := rfl
  rw [hz]
  simp (disch := omega) [h.len]
  refine ⟨by omega, fun _ => call1_eq (sum_ok l v H _ h (by omega)) ?_⟩
  simp [sumR, hn]
  refine ⟨by omega, fun _ => call1_eq (counts_ok l v H _ h (by omega) hin) ?_⟩
  simp [vStore, astores_all]
  refine vc_loop (inv24a H v l) 15 ⟨0, by simp, by simp, ?_, by simp, by simp, by simp, by simp⟩ ?_
  · congr 4
  rintro n env H' ⟨j, hj, rfl, rfl, e0, e6, e7, e8⟩
  obtain ⟨b0, b1⟩ := base_small hl hj
  have c0 := cnts_nonneg l j
  have c1 := cnts_le l j
  have ha := h.app (L := [.cells 0 false 61 (Arr 16 (cnts l)), .cells 0 false 61 (Arr 16 fun k => if k ≤ j then base l k else 0)])
  by_cases hlt : j < 15
  · simp (config := {contextual := true, implicitDefEqProofs := false}) (disch := omega) [e0, e6, e7, e8, vIdxA, vStore, astores_one, i64_id, Arr_get, Arr_set, show (j : Int) + 1 ≤ 15 by omega, show (j : Int) < 16 by omega, show (j : Int) + 1 < 16 by omega, show (0 : Int) ≤ (j : Int) + 1 by omega, show j + 1 < 16 by omega]
    refine again_iff (15 - (j + 1)) (by omega) ⟨j + 1, by omega, rfl, ?_, by simp [e0], by simp [e6], by simp [e7], by simp⟩
    congr 4
    apply Arr_congr
    intro k _
    by_cases e : k = j + 1
    · subst e; simp [base_succ]
    · rw [if_neg e]
      by_cases e2 : k ≤ j
      · rw [if_pos e2, if_pos (by omega)]
      · rw [if_neg e2, if_neg (by omega)]
  · have hj2 : j = 15 := by omega
    have hnx : (Arr 16 fun k => if k ≤ j then base l k else 0) = Arr 16 fun k => base l k + cnts (l.take 0) k := by
      apply Arr_congr
      intro k hk
      rw [if_pos (by omega)]
      simp [cnts, cntOf]
    rw [hnx]
    have hb := fun L => (h.app (L := L)).len
    simp (config := {contextual := true, implicitDefEqProofs := false}) (disch := omega) [e0, e6, e7, e8, hb, show ¬ (j : Int) + 1 ≤ 15 by omega, vMake, roomLim, show l.length * 8 ≤ 140737488355328 by omega, show (l.length : Int) ≤ 9223372036854775807 by omega, zrep_one, Arr_zeros]
    refine vc_loop (inv24b H v l) l.length ⟨0, by simp, by simp, by simp, by simp [e7], by simp, by simp, by simp, by simp⟩ ?_
    rintro n env H' ⟨i, hi, rfl, rfl, e7, e9, e47, e48, e49⟩
    have ha := fun L => h.app (L := L)
    by_cases hlt : i < l.length
    · have hk := hin l[i] (List.getElem_mem hlt)
      have hk2 : l[i].toNat < 16 := by omega
      obtain ⟨b0, b1⟩ := base_small hl (k := l[i].toNat) (by omega)
      have c0 := cnts_nonneg (l.take i) l[i].toNat
      have c1 := cnts_le (l.take i) l[i].toNat
      have c2 : (l.take i).length ≤ i := by simp; omega
      have hcode : code l i = if 0 < l[i] then base l l[i].toNat + cntOf (l.take i) l[i].toNat else 0 := by simp [code, hlt]
      simp (config := {contextual := true, implicitDefEqProofs := false}) (disch := omega) [e7, e9, e47, e48, e49, hlt, (ha _).idx, (ha _).load, hk.1, show l[i] < 16 by omega, Arr_get, Arr_set, i64_id, hk2]
      have hc2 : l[i].toNat ≠ 0 → cnts (l.take i) l[i].toNat = cntOf (l.take i) l[i].toNat := fun h => by simp [cnts, h]
      refine ⟨fun g => again_iff (l.length - (i + 1)) (by omega) ⟨i + 1, hlt, rfl, ?_, by simp [e7], by simp [e9], by simp [e47], by simp [e48], by simp⟩,
        fun g => again_iff (l.length - (i + 1)) (by omega) ⟨i + 1, hlt, rfl, ?_, by simp [e7], by simp [e9], by simp [e47], by simp [e48], by simp⟩⟩
      · refine heap3 (Arr_congr fun k _ => ?_) (Arr_congr fun k _ => ?_)
        · rw [cnts_take l i hlt hk.1]
          by_cases e : k = l[i].toNat
          · rw [if_pos e, if_pos ⟨e, by omega⟩, e]; omega
          · rw [if_neg e, if_neg (fun h => e h.1)]
        · by_cases e : k = i
          · subst e; rw [if_pos rfl, if_pos (by omega), hcode, if_pos g, hc2 (by omega)]
          · rw [if_neg e]
            by_cases e2 : k < i
            · rw [if_pos e2, if_pos (by omega)]
            · rw [if_neg e2, if_neg (by omega)]
      · refine heap3 (Arr_congr fun k _ => ?_) (Arr_congr fun k _ => ?_)
        · rw [cnts_take l i hlt hk.1, if_neg (by omega)]
        · by_cases e : k = i
          · subst e; rw [if_neg (by omega), if_pos (by omega), hcode, if_neg (by omega)]
          · by_cases e2 : k < i
            · rw [if_pos e2, if_pos (by omega)]
            · rw [if_neg e2, if_neg (by omega)]
    · have hi2 : i = l.length := by omega
      simp (config := {contextual := true, implicitDefEqProofs := false}) (disch := omega) [e7, e9, e47, e48, e49, hlt]
      show some (ABlk.cells 0 false 3 _) = _
      congr 2
      apply Arr_congr
      intro k hk
      rw [if_pos (by omega)]
end
end Go.Proofs.Ytdknddicpdhkcaa.Ab

/- Inflate: the reading of a code. Conditions: none; for the statements about layers 46 and 47. -/
import Derived.Test.YtdknddicpdhkcaaTa
namespace Go.Proofs.Ytdknddicpdhkcaa.Ab
set_option linter.unusedVariables false
set_option linter.unusedSimpArgs false

/-- A code is read bit by bit: m more bits may come, this is bit k. -/
def symM (s : List UInt8) (l : List Int) : Nat → Nat → Nat → Nat → Nat → St → Int × St
  | 0, k, code, first, index, t => (0, failM 4 t)
  | m + 1, k, code, first, index, t =>
    if (bitsM s 1 t).2.err ≠ 0 then (0, (bitsM s 1 t).2)
    else if (code : Int) + (bitsM s 1 t).1 - first < cnts l k then ((ordG l 15).getD (index + (code + (bitsM s 1 t).1) - first) 0, (bitsM s 1 t).2)
    else symM s l m (k + 1) ((code + (bitsM s 1 t).1) * 2) ((first + l.count (k : Int)) * 2) (index + l.count (k : Int)) (bitsM s 1 t).2
def symG (s : List UInt8) (l : List Int) (t : St) : Int × St := symM s l (mostG l 15).toNat 1 0 0 0 t

theorem bookCells_get {l : List Int} {w : AVal} {m : Int} {k : Nat} (h : k < 16) : (bookCells l w m)[k]? = some (.int .i64 (cnts l k)) := by
  rw [bookCells, List.getElem?_append_left (by simpa using h), Arr_get h]

theorem idxs_count (l : List Int) (k : Nat) : (idxs l k l.length).length = l.count (k : Int) := by
  have : ∀ i, i ≤ l.length → (idxs l k i).length = (l.take i).count (k : Int) := by
    intro i
    induction i with
    | zero => intro _; simp [idxs_zero]
    | succ i ih =>
      intro h
      rw [idxs_succ l k i (by omega), List.take_succ_eq_append_getElem (by omega), List.count_append]
      have := ih (by omega)
      by_cases e : l[i] = (k : Int)
      · simp [e, this]
      · simp [e, this]
  simpa using this l.length (Nat.le_refl _)
theorem ordG_le (l : List Int) : ∀ {a b : Nat}, a ≤ b → (ordG l a).length ≤ (ordG l b).length := by
  intro a b h
  induction h with
  | refl => exact Nat.le_refl _
  | step _ ih => simp only [ordG, List.length_append]; omega
theorem ordG_succ_len (l : List Int) (k : Nat) : (ordG l (k + 1)).length = (ordG l k).length + l.count ((k + 1 : Nat) : Int) := by
  simp only [ordG, List.length_append, idxs_count]
theorem mostG_le (l : List Int) : ∀ j, 0 ≤ mostG l j ∧ mostG l j ≤ j
  | 0 => by simp [mostG]
  | j + 1 => by
    have := mostG_le l j
    simp only [mostG]; split <;> omega

theorem bitsM_le (s : List UInt8) (t : St) : (bitsM s 1 t).1 ≤ 1 := by
  unfold bitsM
  split
  · simp
  · split
    · simp
    · have := bitsV_lt s t.at' 1; simp at this ⊢; omega
theorem bitsM_at (s : List UInt8) (n : Nat) (t : St) (h : t.at' ≤ 8 * s.length) : (bitsM s n t).2.at' ≤ 8 * s.length ∧ t.at' ≤ (bitsM s n t).2.at' := by
  unfold bitsM
  split
  · simp [h]
  · split
    · simp [h]
    · simp; omega

section
variable {s : List UInt8} {t : St} {w bw : AVal} {most p : Nat} {H : AHeap} {fp : Nat → Prop} {l : List Int}

def inv60 (H : AHeap) (p : Nat) (s : List UInt8) (t0 : St) (w bw : AVal) (most : Nat) (l : List Int) (n : Nat) (env : Env) (H' : AHeap) : Prop :=
  ∃ (k c first index : Nat) (t : St), 1 ≤ k ∧ k ≤ (mostG l 15).toNat + 1 ∧ n = (mostG l 15).toNat + 1 - k ∧ t.at' ≤ 8 * s.length ∧ H' = H.set p (rdBlk s t w most) ++ [.cells 0 false 69 (bookCells l bw (mostG l 15))] ∧
    first ≤ c * 2 ∧ c < 2 ^ (k - 1) ∧ index = (ordG l (k - 1)).length ∧ symG s l t0 = symM s l ((mostG l 15).toNat + 1 - k) k (c * 2) first index t ∧
    env 0 = .ptr p 0 0 ∧ env 3 = .ptr H.length 0 0 ∧ env 5 = .int .i64 ((c * 2 : Nat) : Int) ∧ env 6 = .int .i64 first ∧ env 7 = .int .i64 index ∧ env 8 = .int .i64 k

theorem sym_ok (hp : H[p]? = some (rdBlk s t w most)) (hs : s.length ≤ 2 ^ 50) (hat : t.at' ≤ 8 * s.length) (hi : Ints H bw (ordG l 15)) (hbp : ¬ appTarget bw p) (hl : l.length ≤ 1000) :
    ACall Try.prog 60 [.ptr p 0 0, .agg (bookCells l bw (mostG l 15))] H (fun r => r = p) fun v H' => v = .int .i64 (symG s l t).1 ∧ H'[p]? = some (rdBlk s (symG s l t).2 w most) := by
  refine acall_of hmix Try.func60 x60_ok (by simp) ?_
  have hpl := (List.getElem?_eq_some_iff.1 hp).1
  obtain ⟨hm0, hm1⟩ := mostG_le l 15
  simp
  refine vc_loop (inv60 H p s t w bw most l) (mostG l 15).toNat ⟨1, 0, 0, 0, t, by omega, by omega, by omega, hat, by rw [set_same hp], by omega, by simp, by simp [ordG], rfl, by simp, by simp, by simp, by simp, by simp, by simp⟩ ?_
  rintro n env H' ⟨k, c, first, index, t1, hk1, hk2, rfl, hat1, rfl, hfc, hc, hidx, hsym, e0, e3, e5, e6, e7, e8⟩
  have hc2 : 2 ^ (k - 1) ≤ 2 ^ 15 := Nat.pow_le_pow_right (by omega) (by omega)
  have hcnt0 := cntOf_nonneg l k
  have hcnt1 := cntOf_le l k
  have hK : ∀ A : ABlk, (H.set p A ++ [ABlk.cells 0 false 69 (bookCells l bw (mostG l 15))])[H.length]? = some (.cells 0 false 69 (bookCells l bw (mostG l 15))) := by
    intro A; rw [List.getElem?_append_right (by simp)]; simp
  have hP : ∀ A : ABlk, (H.set p A ++ [ABlk.cells 0 false 69 (bookCells l bw (mostG l 15))])[p]? = some A := by
    intro A; rw [List.getElem?_append_left (by simpa using hpl), List.getElem?_set_self hpl]
  have hS : ∀ A B : ABlk, (H.set p A ++ [ABlk.cells 0 false 69 (bookCells l bw (mostG l 15))]).set p B = H.set p B ++ [ABlk.cells 0 false 69 (bookCells l bw (mostG l 15))] := by
    intro A B; rw [List.set_append_left _ _ (by simpa using hpl), List.set_set]
  have g1 := fun A => ageOk_at (hK A)
  have g17 : ∀ A, aload (H.set p A ++ [ABlk.cells 0 false 69 (bookCells l bw (mostG l 15))]) H.length 0 17 = some (.int .i64 (mostG l 15)) := fun A => by rw [aload_at (hK A)]; exact bookCells_17
  have g16 : ∀ A, aload (H.set p A ++ [ABlk.cells 0 false 69 (bookCells l bw (mostG l 15))]) H.length 0 16 = some bw := fun A => by rw [aload_at (hK A)]; exact bookCells_16
  by_cases hlt : (k : Int) ≤ mostG l 15
  · have hcn : cnts l k = (l.count (k : Int) : Nat) := by rw [cnts, if_neg (by omega)]; rfl
    have gk : ∀ A, aload (H.set p A ++ [ABlk.cells 0 false 69 (bookCells l bw (mostG l 15))]) H.length 0 k = some (.int .i64 ((l.count (k : Int) : Nat) : Int)) := fun A => by rw [aload_at (hK A), bookCells_get (by omega), hcn]
    simp only [cntOf] at hcnt0 hcnt1
    have hfuel : (mostG l 15).toNat + 1 - k = ((mostG l 15).toNat - k) + 1 := by omega
    rw [hfuel, symM] at hsym
    have hb := bitsM_le s t1
    have hbat := bitsM_at s 1 t1 hat1
    have hor : abin .or (.int .i64 ((c * 2 : Nat) : Int)) (.int .i64 (((bitsM s 1 t1).1 : Nat) : Int)) = some (.int .i64 ((c * 2 + (bitsM s 1 t1).1 : Nat) : Int)) := by
      rw [abin_or]
      refine congrArg (fun x => some (AVal.int .i64 x)) ?_
      rw [bits_i64, or_i64 (by omega) (by omega), Nat.or_comm]
      have := or_add (a := (bitsM s 1 t1).1) (b := c) (i := 1) (by omega)
      rw [Nat.pow_one] at this
      rw [this, Nat.add_comm]
    simp (config := {contextual := true, implicitDefEqProofs := false}) (disch := omega) [e0, e3, e5, e6, e7, e8, g1, g17, hlt, -Int.natCast_add, -Int.natCast_mul]
    refine call1_eq ((bits_ok (N := 1) (hP _) (by omega) hs hat1).use (fun r h => .inl (.inl h)) fun v H' q _ _ => q) ?_
    simp (config := {contextual := true, implicitDefEqProofs := false}) (disch := omega) [e0, e3, e5, e6, e7, e8, g1, g17, hlt, hS, hor, -abin_or, -Int.natCast_add, -Int.natCast_mul]
    refine call1_eq (ok_ok (hP _)) ?_
    generalize ht2 : (bitsM s 1 t1).2 = t2 at *
    generalize hb2 : (bitsM s 1 t1).1 = b at *
    by_cases he : t2.err = 0
    · rw [if_neg (by simp [he])] at hsym
      have a1 : abin .sub (.int .i64 ((c * 2 + b : Nat) : Int)) (.int .i64 (first : Int)) = some (.int .i64 ((c * 2 + b - first : Nat) : Int)) := by
        rw [abin_sub, i64_id (by omega) (by omega)]; congr 2; omega
      by_cases hin : ((c * 2 + b - first : Nat) : Int) < ((l.count (k : Int) : Nat) : Int)
      · rw [if_pos (by rw [hcn]; omega)] at hsym
        have ho1 := ordG_succ_len l (k - 1)
        rw [show k - 1 + 1 = k by omega] at ho1
        have ho2 := ordG_le l (show k ≤ 15 by omega)
        have hix : index + (c * 2 + b) - first < (ordG l 15).length := by omega
        have a2 : abin .add (.int .i64 (index : Int)) (.int .i64 ((c * 2 + b : Nat) : Int)) = some (.int .i64 ((index + (c * 2 + b) : Nat) : Int)) := by
          rw [abin_add, i64_id (by omega) (by have := ordG_len l 15; omega)]; rfl
        have a3 : abin .sub (.int .i64 ((index + (c * 2 + b) : Nat) : Int)) (.int .i64 (first : Int)) = some (.int .i64 ((index + (c * 2 + b) - first : Nat) : Int)) := by
          rw [abin_sub, i64_id (by omega) (by have := ordG_len l 15; omega)]; congr 2; omega
        have hi2 : Ints (H.set p (rdBlk s t2 w most) ++ [ABlk.cells 0 false 69 (bookCells l bw (mostG l 15))]) bw (ordG l 15) := by
          refine hi.keepAt fun r hr hrl => ?_
          have hne : p ≠ r := fun c => hbp (c ▸ hr)
          rw [List.getElem?_append_left (by simpa using hrl), List.getElem?_set_ne hne]
        simp (config := {contextual := true, implicitDefEqProofs := false}) (disch := omega) [e0, e3, e5, e6, e7, e8, g1, g17, g16, gk, hlt, he, a1, a2, a3, hin, hi2.idx, hi2.load, hix, show (k : Int) < 16 by omega, -abin_or, -Int.natCast_add, -Int.natCast_mul, hP, hsym, -abin_add, -abin_sub]
      · rw [if_neg (by rw [hcn]; omega)] at hsym
        have ho1 := ordG_succ_len l (k - 1)
        rw [show k - 1 + 1 = k by omega] at ho1
        have ho2 := ordG_len l (k - 1)
        have ho3 : (k - 1) * l.length ≤ 15 * l.length := Nat.mul_le_mul_right _ (by omega)
        have a2 : abin .add (.int .i64 (index : Int)) (.int .i64 ((l.count (k : Int) : Nat) : Int)) = some (.int .i64 ((index + l.count (k : Int) : Nat) : Int)) := by
          rw [abin_add, i64_id (by omega) (by omega)]; rfl
        have a3 : abin .add (.int .i64 (first : Int)) (.int .i64 ((l.count (k : Int) : Nat) : Int)) = some (.int .i64 ((first + l.count (k : Int) : Nat) : Int)) := by
          rw [abin_add, i64_id (by omega) (by omega)]; rfl
        have a4 : abin .mul (.int .i64 ((first + l.count (k : Int) : Nat) : Int)) (.int .i64 2) = some (.int .i64 (((first + l.count (k : Int)) * 2 : Nat) : Int)) := by
          rw [abin_mul, i64_id (by omega) (by omega)]; rfl
        have a5 : abin .mul (.int .i64 ((c * 2 + b : Nat) : Int)) (.int .i64 2) = some (.int .i64 (((c * 2 + b) * 2 : Nat) : Int)) := by
          rw [abin_mul, i64_id (by omega) (by omega)]; rfl
        have a6 : abin .add (.int .i64 (k : Int)) (.int .i64 1) = some (.int .i64 ((k + 1 : Nat) : Int)) := by
          rw [abin_add, i64_id (by omega) (by omega)]; rfl
        have hpow : 2 ^ (k - 1) * 2 = 2 ^ (k + 1 - 1) := by rw [← Nat.pow_succ]; congr 1; omega
        simp (config := {contextual := true, implicitDefEqProofs := false}) (disch := omega) [e0, e3, e5, e6, e7, e8, g1, g17, g16, gk, hlt, he, a1, a2, a3, a4, a5, a6, hin, show (k : Int) < 16 by omega, -abin_or, -Int.natCast_add, -Int.natCast_mul, -abin_add, -abin_sub, -abin_mul]
        exact again_iff ((mostG l 15).toNat + 1 - (k + 1)) (by omega) ⟨k + 1, c * 2 + b, (first + l.count (k : Int)) * 2, index + l.count (k : Int), t2, by omega, by omega, rfl, by omega, rfl, by omega, by omega, by rw [show k + 1 - 1 = k by omega]; omega,
          by rw [hsym]; congr 1; omega, by simp [e0], by simp [e3], by simp, by simp, by simp, by simp⟩
    · simp (config := {contextual := true, implicitDefEqProofs := false}) (disch := omega) [he, hP]
      rw [if_pos he] at hsym
      simp [hsym]
  · rw [show (mostG l 15).toNat + 1 - k = 0 by omega, symM] at hsym
    simp (config := {contextual := true, implicitDefEqProofs := false}) (disch := omega) [e0, e3, e5, e6, e7, e8, g1, g17, hlt, -Int.natCast_add, -Int.natCast_mul]
    refine call1_eq ((fail_ok (hP _)).use (fun r h => .inl (.inl h)) fun v H' q _ _ => q) ?_
    simp (config := {contextual := true, implicitDefEqProofs := false}) (disch := omega) [hsym, hS, hP]
end
end Go.Proofs.Ytdknddicpdhkcaa.Ab

/- Several texts of a library in one. Conditions: none. -/
import Derived.Test.YtdknddicpdhkcaaSg
import Derived.Test.YtdknddicpdhkcaaAv
/- Inflate: the reader's state, and the reading of bits. Conditions: none; for the statements about layers 46 and 47. -/
namespace Go.Proofs.Ytdknddicpdhkcaa.Ab
set_option linter.unusedVariables false
set_option linter.unusedSimpArgs false

/-! ### What it computes -/
structure St where
  at' : Nat
  out : List UInt8
  err : Int

def bitAt (s : List UInt8) (i : Nat) : Nat := (chr s (i / 8)).toNat / 2 ^ (i % 8) % 2
def bitsV (s : List UInt8) (a : Nat) : Nat → Nat
  | 0 => 0
  | n + 1 => bitsV s a n + bitAt s (a + n) * 2 ^ n
theorem bitAt_le (s : List UInt8) (i : Nat) : bitAt s i ≤ 1 := by unfold bitAt; omega
theorem bitsV_lt (s : List UInt8) (a : Nat) : ∀ n, bitsV s a n < 2 ^ n
  | 0 => by simp [bitsV]
  | n + 1 => by
    have := bitsV_lt s a n
    have h := bitAt_le s (a + n)
    have h2 : bitAt s (a + n) * 2 ^ n ≤ 1 * 2 ^ n := Nat.mul_le_mul_right _ h
    simp only [bitsV, Nat.pow_succ]; omega
def failM (e : Int) (t : St) : St := if t.err = 0 then { t with err := e } else t
def bitsM (s : List UInt8) (n : Nat) (t : St) : Nat × St :=
  if t.err ≠ 0 then (0, t) else if 8 * s.length < t.at' + n then (0, { t with err := 5 }) else (bitsV s t.at' n, { t with at' := t.at' + n })

def rcs (s : List UInt8) (t : St) (w : AVal) (most : Nat) : List AVal := [.str s, .int .i64 t.at', w, .int .i64 most, .int .i64 t.err]
def rdBlk (s : List UInt8) (t : St) (w : AVal) (most : Nat) : ABlk := .cells 0 false 66 (rcs s t w most)

/-! ### Arithmetic -/
theorem ofInt_nat (k n : Nat) : BitVec.ofInt k (n : Int) = BitVec.ofNat k n := by
  apply BitVec.eq_of_toNat_eq
  simp [BitVec.toNat_ofInt]
  try omega
theorem and_i64 {a b : Nat} (ha : a < 2 ^ 63) (hb : b < 2 ^ 63) : IntKind.i64.wrap (BitVec.ofInt 64 (a : Int) &&& BitVec.ofInt 64 (b : Int)).toNat = ((a &&& b : Nat) : Int) := by
  rw [ofInt_nat, ofInt_nat, BitVec.toNat_and, BitVec.toNat_ofNat, BitVec.toNat_ofNat, Nat.mod_eq_of_lt (by omega), Nat.mod_eq_of_lt (by omega)]
  have : a &&& b ≤ a := Nat.and_le_left
  exact i64_nat (by omega)
theorem or_i64 {a b : Nat} (ha : a < 2 ^ 63) (hb : b < 2 ^ 63) : IntKind.i64.wrap (BitVec.ofInt 64 (a : Int) ||| BitVec.ofInt 64 (b : Int)).toNat = ((a ||| b : Nat) : Int) := by
  rw [ofInt_nat, ofInt_nat, BitVec.toNat_or, BitVec.toNat_ofNat, BitVec.toNat_ofNat, Nat.mod_eq_of_lt (by omega), Nat.mod_eq_of_lt (by omega)]
  have : a ||| b < 2 ^ 63 := Nat.or_lt_two_pow ha hb
  exact i64_nat (by omega)
theorem u8_nat {n : Nat} (h : n ≤ 255) : IntKind.u8.wrap (n : Int) = n := IntWalk.u8_in _ (by omega)
theorem and_u8 {a b : Nat} (ha : a < 256) (hb : b < 256) : IntKind.u8.wrap (BitVec.ofInt 8 (a : Int) &&& BitVec.ofInt 8 (b : Int)).toNat = ((a &&& b : Nat) : Int) := by
  rw [ofInt_nat, ofInt_nat, BitVec.toNat_and, BitVec.toNat_ofNat, BitVec.toNat_ofNat, Nat.mod_eq_of_lt (by omega), Nat.mod_eq_of_lt (by omega)]
  have : a &&& b ≤ a := Nat.and_le_left
  exact u8_nat (by omega)
theorem or_add {a b i : Nat} (h : a < 2 ^ i) : a ||| b * 2 ^ i = a + b * 2 ^ i := by
  rw [Nat.mul_comm b, Nat.or_comm, ← Nat.two_pow_add_eq_or_of_lt h]; omega
theorem fdiv_nat (a b : Nat) : Int.fdiv (a : Int) ((2 : Int) ^ b) = ((a / 2 ^ b : Nat) : Int) := by
  rw [show (2 : Int) ^ b = ((2 ^ b : Nat) : Int) by simp, Int.fdiv_eq_ediv_of_nonneg _ (Int.natCast_nonneg _)]; simp

/-- Bit number a of the text, as the code takes it. -/
theorem shr_i64 {n : Nat} {m : Nat} : abin .shr (.int .i64 (n : Int)) (.int .u64 (m : Int)) = some (.int .i64 ((n / 2 ^ (min m 64) : Nat) : Int)) ∨ ¬ n < 2 ^ 63 := by
  by_cases h : n < 2 ^ 63
  · left
    rw [abin_shr (by omega)]
    simp only [bits_i64, Int.toNat_natCast]
    rw [fdiv_nat]
  · exact .inr h

section
variable {s : List UInt8} {t : St} {w : AVal} {most p : Nat} {H : AHeap} {fp : Nat → Prop}

theorem rd0 (hp : H[p]? = some (rdBlk s t w most)) : aload H p 0 0 = some (.str s) := by rw [aload_at hp]; rfl
theorem rd1 (hp : H[p]? = some (rdBlk s t w most)) : aload H p 0 1 = some (.int .i64 t.at') := by rw [aload_at hp]; rfl
theorem rd2 (hp : H[p]? = some (rdBlk s t w most)) : aload H p 0 2 = some w := by rw [aload_at hp]; rfl
theorem rd3 (hp : H[p]? = some (rdBlk s t w most)) : aload H p 0 3 = some (.int .i64 most) := by rw [aload_at hp]; rfl
theorem rd4 (hp : H[p]? = some (rdBlk s t w most)) : aload H p 0 4 = some (.int .i64 t.err) := by rw [aload_at hp]; rfl
theorem wr1 (hp : H[p]? = some (rdBlk s t w most)) {n : Nat} : astore H p 0 1 (.int .i64 n) = some (H.set p (rdBlk s { t with at' := n } w most)) := by rw [astore_at hp]; simp [rcs, rdBlk]
theorem wr4 (hp : H[p]? = some (rdBlk s t w most)) {e : Int} : astore H p 0 4 (.int .i64 e) = some (H.set p (rdBlk s { t with err := e } w most)) := by rw [astore_at hp]; simp [rcs, rdBlk]
theorem ok_ok (hp : H[p]? = some (rdBlk s t w most)) : ACall Try.prog 46 [.ptr p 0 0] H fp fun v H' => v = .bool (decide (t.err = 0)) ∧ H' = H := by
  refine acall_of hmix Try.func46 x46_ok (by simp) ?_
  have h1 := ageOk_at hp
  simp [h1, rd4 hp]

theorem fail_ok (hp : H[p]? = some (rdBlk s t w most)) {e : Int} : ACall Try.prog 52 [.ptr p 0 0, .int .i64 e] H (fun r => r = p) fun v H' => v = .tuple [] ∧ H' = H.set p (rdBlk s (failM e t) w most) := by
  refine acall_of hmix Try.func52 x52_ok (by simp) ?_
  have h1 := ageOk_at hp
  have h3 := wr4 hp (e := e)
  simp
  refine call1_eq (ok_ok hp) ?_
  simp [h1, h3]
  constructor
  · intro h; simp [failM, h]
  · intro h
    simp [failM, h]
    rw [List.getElem?_eq_some_iff] at hp
    obtain ⟨hl, hp⟩ := hp
    rw [← hp]; simp

def inv47 (H : AHeap) (p : Nat) (s : List UInt8) (t : St) (w : AVal) (most N : Nat) (n : Nat) (env : Env) (H' : AHeap) : Prop :=
  ∃ i, i ≤ N ∧ n = N - i ∧ H' = H.set p (rdBlk s { t with at' := t.at' + i } w most) ∧ env 0 = .ptr p 0 0 ∧ env 25 = .int .i64 N ∧ env 26 = .int .i64 i ∧ env 5 = .int .i64 (bitsV s t.at' i)

theorem set_same {b : ABlk} (h : H[p]? = some b) : H.set p b = H := by
  rw [List.getElem?_eq_some_iff] at h
  obtain ⟨hl, h⟩ := h
  rw [← h]; simp

theorem bits_ok (hp : H[p]? = some (rdBlk s t w most)) {N : Nat} (hN : N ≤ 30) (hs : s.length ≤ 2 ^ 50) (hat : t.at' ≤ 8 * s.length) :
    ACall Try.prog 47 [.ptr p 0 0, .int .i64 N] H (fun r => r = p) fun v H' => v = .int .i64 ((bitsM s N t).1 : Nat) ∧ H' = H.set p (rdBlk s (bitsM s N t).2 w most) := by
  refine acall_of hmix Try.func47 x47_ok (by simp) ?_
  have h1 := ageOk_at hp
  simp
  refine call1_eq (ok_ok hp) ?_
  by_cases he : t.err = 0
  · by_cases hb : 8 * s.length < t.at' + N
    · simp (config := {contextual := true, implicitDefEqProofs := false}) (disch := omega) [he, h1, rd0 hp, rd1 hp, i64_id, show (8 : Int) * s.length < t.at' + N by omega]
      refine call1_eq ((fail_ok hp).use (fun r h => Or.inl (Or.inl h)) fun v H' q _ _ => q) ?_
      simp [bitsM, he, hb, failM]
    · simp (config := {contextual := true, implicitDefEqProofs := false}) (disch := omega) [he, h1, rd0 hp, rd1 hp, i64_id, show ¬ (8 : Int) * s.length < t.at' + N by omega]
      refine vc_loop (inv47 H p s t w most N) N ⟨0, by omega, rfl, by simp [set_same hp], by simp, by simp, by simp, by simp [bitsV]⟩ ?_
      rintro n env H' ⟨i, hi, rfl, rfl, e0, e25, e26, e5⟩
      have hl := (List.getElem?_eq_some_iff.1 hp).1
      have g0 : (H.set p (rdBlk s { t with at' := t.at' + i } w most))[p]? = some (rdBlk s { t with at' := t.at' + i } w most) := List.getElem?_set_self hl
      have g1 := ageOk_at g0
      have g2 := rd0 g0
      have g3 := rd1 g0
      have g4 : astore (H.set p (rdBlk s { t with at' := t.at' + i } w most)) p 0 1 (.int .i64 ((t.at' : Int) + i + 1)) = some (H.set p (rdBlk s { t with at' := t.at' + (i + 1) } w most)) := by
        have := wr1 g0 (n := t.at' + (i + 1))
        rw [List.set_set] at this
        rw [← this]; congr 2
      by_cases hlt : i < N
      · have hv := bitsV_lt s t.at' i
        have hv2 : (2 : Nat) ^ i < 2 ^ 30 := Nat.pow_lt_pow_right (by omega) (by omega)
        have a1 : abin .shr (.int .i64 ((t.at' : Int) + i)) (.int .u64 3) = some (.int .i64 (((t.at' + i) / 8 : Nat) : Int)) := by
          rw [abin_shr (by omega)]
          have := fdiv_nat (t.at' + i) 3
          simp only [bits_i64, show min (3 : Int).toNat 64 = 3 by decide] at this ⊢
          rw [← Int.natCast_add, this]
        have a2 : abin .and (.int .i64 ((t.at' : Int) + i)) (.int .i64 7) = some (.int .i64 (((t.at' + i) % 8 : Nat) : Int)) := by
          have := and_i64 (a := t.at' + i) (b := 7) (by omega) (by omega)
          rw [Nat.and_two_pow_sub_one_eq_mod _ 3] at this
          rw [← Int.natCast_add, abin_and]; exact congrArg (fun x => some (AVal.int .i64 x)) this
        have a3 : ∀ (c : UInt8) (j : Nat), j < 8 → abin .shr (.int .u8 (c.toNat : Int)) (.int .i64 (j : Int)) = some (.int .u8 ((c.toNat / 2 ^ j : Nat) : Int)) := by
          intro c j hj
          rw [abin_shr (by omega)]
          have := fdiv_nat c.toNat j
          simp only [bits_u8, Int.toNat_natCast, show min j 8 = j by omega]
          rw [this]
        have a4 : ∀ c : Nat, c < 256 → abin .and (.int .u8 (c : Int)) (.int .u8 1) = some (.int .u8 ((c % 2 : Nat) : Int)) := by
          intro c hc
          have := and_u8 (a := c) (b := 1) hc (by omega)
          rw [Nat.and_two_pow_sub_one_eq_mod _ 1] at this
          rw [abin_and]; exact congrArg (fun x => some (AVal.int .u8 x)) this
        have hc : (chr s ((t.at' + i) / 8)).toNat < 256 := UInt8.toNat_lt _
        have hd : (chr s ((t.at' + i) / 8)).toNat / 2 ^ ((t.at' + i) % 8) < 256 := Nat.lt_of_le_of_lt (Nat.div_le_self _ _) hc
        have hbit : (chr s ((t.at' + i) / 8)).toNat / 2 ^ ((t.at' + i) % 8) % 2 = bitAt s (t.at' + i) := rfl
        have hble := bitAt_le s (t.at' + i)
        have a5 : abin .shl (.int .i64 ((bitAt s (t.at' + i) : Nat) : Int)) (.int .i64 (i : Int)) = some (.int .i64 ((bitAt s (t.at' + i) * 2 ^ i : Nat) : Int)) := by
          rw [abin_shl (by omega)]
          have h3 : bitAt s (t.at' + i) * 2 ^ i ≤ 1 * 2 ^ i := Nat.mul_le_mul_right _ hble
          simp only [bits_i64, Int.toNat_natCast, show min i 64 = i by omega]
          rw [show ((bitAt s (t.at' + i) : Nat) : Int) * 2 ^ i = ((bitAt s (t.at' + i) * 2 ^ i : Nat) : Int) by simp, i64_nat (by omega)]
        have a6 : abin .or (.int .i64 ((bitsV s t.at' i : Nat) : Int)) (.int .i64 ((bitAt s (t.at' + i) * 2 ^ i : Nat) : Int)) = some (.int .i64 ((bitsV s t.at' (i + 1) : Nat) : Int)) := by
          have h3 : bitAt s (t.at' + i) * 2 ^ i ≤ 1 * 2 ^ i := Nat.mul_le_mul_right _ hble
          rw [abin_or]; exact congrArg (fun x => some (AVal.int .i64 x)) (by rw [bits_i64, or_i64 (by omega) (by omega), or_add hv, bitsV])
        simp (config := {contextual := true, implicitDefEqProofs := false}) (disch := omega) [e0, e25, e26, e5, g1, g2, g3, g4, i64_id, hlt, a1, vIdxStr_nat, a2, a3, a4, hd, hbit, a5, a6, i64_nat, -abin_and, -abin_or, -Int.natCast_ediv, -Int.natCast_mul, -Int.natCast_pow, -Int.natCast_emod]
        exact again_iff (N - (i + 1)) (by omega) ⟨i + 1, hlt, rfl, rfl, by simp [e0], by simp [e25], by simp, by simp⟩
      · simp (config := {contextual := true, implicitDefEqProofs := false}) (disch := omega) [e0, e25, e26, e5, hlt]
        have : i = N := by omega
        subst this
        simp [bitsM, he, hb]
  · simp [he, bitsM, set_same hp]
end
end Go.Proofs.Ytdknddicpdhkcaa.Ab

/- Inflate: the reading of a code. Conditions: none; for the statements about layers 46 and 47. -/
namespace Go.Proofs.Ytdknddicpdhkcaa.Ab
set_option linter.unusedVariables false
set_option linter.unusedSimpArgs false

/-- A code is read bit by bit: m more bits may come, this is bit k. -/
def symM (s : List UInt8) (l : List Int) : Nat → Nat → Nat → Nat → Nat → St → Int × St
  | 0, k, code, first, index, t => (0, failM 4 t)
  | m + 1, k, code, first, index, t =>
    if (bitsM s 1 t).2.err ≠ 0 then (0, (bitsM s 1 t).2)
    else if (code : Int) + (bitsM s 1 t).1 - first < cnts l k then ((ordG l 15).getD (index + (code + (bitsM s 1 t).1) - first) 0, (bitsM s 1 t).2)
    else symM s l m (k + 1) ((code + (bitsM s 1 t).1) * 2) ((first + l.count (k : Int)) * 2) (index + l.count (k : Int)) (bitsM s 1 t).2
def symG (s : List UInt8) (l : List Int) (t : St) : Int × St := symM s l (mostG l 15).toNat 1 0 0 0 t

theorem bookCells_get {l : List Int} {w : AVal} {m : Int} {k : Nat} (h : k < 16) : (bookCells l w m)[k]? = some (.int .i64 (cnts l k)) := by
  rw [bookCells, List.getElem?_append_left (by simpa using h), Arr_get h]

theorem idxs_count (l : List Int) (k : Nat) : (idxs l k l.length).length = l.count (k : Int) := by
  have : ∀ i, i ≤ l.length → (idxs l k i).length = (l.take i).count (k : Int) := by
    intro i
    induction i with
    | zero => intro _; simp [idxs_zero]
    | succ i ih =>
      intro h
      rw [idxs_succ l k i (by omega), List.take_succ_eq_append_getElem (by omega), List.count_append]
      have := ih (by omega)
      by_cases e : l[i] = (k : Int)
      · simp [e, this]
      · simp [e, this]
  simpa using this l.length (Nat.le_refl _)
theorem ordG_le (l : List Int) : ∀ {a b : Nat}, a ≤ b → (ordG l a).length ≤ (ordG l b).length := by
  intro a b h
  induction h with
  | refl => exact Nat.le_refl _
  | step _ ih => simp only [ordG, List.length_append]; omega
theorem ordG_succ_len (l : List Int) (k : Nat) : (ordG l (k + 1)).length = (ordG l k).length + l.count ((k + 1 : Nat) : Int) := by
  simp only [ordG, List.length_append, idxs_count]
theorem mostG_le (l : List Int) : ∀ j, 0 ≤ mostG l j ∧ mostG l j ≤ j
  | 0 => by simp [mostG]
  | j + 1 => by
    have := mostG_le l j
    simp only [mostG]; split <;> omega

theorem bitsM_le (s : List UInt8) (t : St) : (bitsM s 1 t).1 ≤ 1 := by
  unfold bitsM
  split
  · simp
  · split
    · simp
    · have := bitsV_lt s t.at' 1; simp at this ⊢; omega
theorem bitsM_at (s : List UInt8) (n : Nat) (t : St) (h : t.at' ≤ 8 * s.length) : (bitsM s n t).2.at' ≤ 8 * s.length ∧ t.at' ≤ (bitsM s n t).2.at' := by
  unfold bitsM
  split
  · simp [h]
  · split
    · simp [h]
    · simp; omega

section
variable {s : List UInt8} {t : St} {w bw : AVal} {most p : Nat} {H : AHeap} {fp : Nat → Prop} {l : List Int}

def inv60 (H : AHeap) (p : Nat) (s : List UInt8) (t0 : St) (w bw : AVal) (most : Nat) (l : List Int) (n : Nat) (env : Env) (H' : AHeap) : Prop :=
  ∃ (k c first index : Nat) (t : St), 1 ≤ k ∧ k ≤ (mostG l 15).toNat + 1 ∧ n = (mostG l 15).toNat + 1 - k ∧ t.at' ≤ 8 * s.length ∧ H' = H.set p (rdBlk s t w most) ++ [.cells 0 false 69 (bookCells l bw (mostG l 15))] ∧
    first ≤ c * 2 ∧ c < 2 ^ (k - 1) ∧ index = (ordG l (k - 1)).length ∧ symG s l t0 = symM s l ((mostG l 15).toNat + 1 - k) k (c * 2) first index t ∧
    env 0 = .ptr p 0 0 ∧ env 3 = .ptr H.length 0 0 ∧ env 5 = .int .i64 ((c * 2 : Nat) : Int) ∧ env 6 = .int .i64 first ∧ env 7 = .int .i64 index ∧ env 8 = .int .i64 k

theorem sym_ok (hp : H[p]? = some (rdBlk s t w most)) (hs : s.length ≤ 2 ^ 50) (hat : t.at' ≤ 8 * s.length) (hi : Ints H bw (ordG l 15)) (hbp : ¬ appTarget bw p) (hl : l.length ≤ 1000) :
    ACall Try.prog 60 [.ptr p 0 0, .agg (bookCells l bw (mostG l 15))] H (fun r => r = p) fun v H' => v = .int .i64 (symG s l t).1 ∧ H'[p]? = some (rdBlk s (symG s l t).2 w most) := by
  refine acall_of hmix Try.func60 x60_ok (by simp) ?_
  have hpl := (List.getElem?_eq_some_iff.1 hp).1
  obtain ⟨hm0, hm1⟩ := mostG_le l 15
  simp
  refine vc_loop (inv60 H p s t w bw most l) (mostG l 15).toNat ⟨1, 0, 0, 0, t, by omega, by omega, by omega, hat, by rw [set_same hp], by omega, by simp, by simp [ordG], rfl, by simp, by simp, by simp, by simp, by simp, by simp⟩ ?_
  rintro n env H' ⟨k, c, first, index, t1, hk1, hk2, rfl, hat1, rfl, hfc, hc, hidx, hsym, e0, e3, e5, e6, e7, e8⟩
  have hc2 : 2 ^ (k - 1) ≤ 2 ^ 15 := Nat.pow_le_pow_right (by omega) (by omega)
  have hcnt0 := cntOf_nonneg l k
  have hcnt1 := cntOf_le l k
  have hK : ∀ A : ABlk, (H.set p A ++ [ABlk.cells 0 false 69 (bookCells l bw (mostG l 15))])[H.length]? = some (.cells 0 false 69 (bookCells l bw (mostG l 15))) := by
    intro A; rw [List.getElem?_append_right (by simp)]; simp
  have hP : ∀ A : ABlk, (H.set p A ++ [ABlk.cells 0 false 69 (bookCells l bw (mostG l 15))])[p]? = some A := by
    intro A; rw [List.getElem?_append_left (by simpa using hpl), List.getElem?_set_self hpl]
  have hS : ∀ A B : ABlk, (H.set p A ++ [ABlk.cells 0 false 69 (bookCells l bw (mostG l 15))]).set p B = H.set p B ++ [ABlk.cells 0 false 69 (bookCells l bw (mostG l 15))] := by
    intro A B; rw [List.set_append_left _ _ (by simpa using hpl), List.set_set]
  have g1 := fun A => ageOk_at (hK A)
  have g17 : ∀ A, aload (H.set p A ++ [ABlk.cells 0 false 69 (bookCells l bw (mostG l 15))]) H.length 0 17 = some (.int .i64 (mostG l 15)) := fun A => by rw [aload_at (hK A)]; exact bookCells_17
  have g16 : ∀ A, aload (H.set p A ++ [ABlk.cells 0 false 69 (bookCells l bw (mostG l 15))]) H.length 0 16 = some bw := fun A => by rw [aload_at (hK A)]; exact bookCells_16
  by_cases hlt : (k : Int) ≤ mostG l 15
  · have hcn : cnts l k = (l.count (k : Int) : Nat) := by rw [cnts, if_neg (by omega)]; rfl
    have gk : ∀ A, aload (H.set p A ++ [ABlk.cells 0 false 69 (bookCells l bw (mostG l 15))]) H.length 0 k = some (.int .i64 ((l.count (k : Int) : Nat) : Int)) := fun A => by rw [aload_at (hK A), bookCells_get (by omega), hcn]
    simp only [cntOf] at hcnt0 hcnt1
    have hfuel : (mostG l 15).toNat + 1 - k = ((mostG l 15).toNat - k) + 1 := by omega
    rw [hfuel, symM] at hsym
    have hb := bitsM_le s t1
    have hbat := bitsM_at s 1 t1 hat1
    have hor : abin .or (.int .i64 ((c * 2 : Nat) : Int)) (.int .i64 (((bitsM s 1 t1).1 : Nat) : Int)) = some (.int .i64 ((c * 2 + (bitsM s 1 t1).1 : Nat) : Int)) := by
      rw [abin_or]
      refine congrArg (fun x => some (AVal.int .i64 x)) ?_
      rw [bits_i64, or_i64 (by omega) (by omega), Nat.or_comm]
      have := or_add (a := (bitsM s 1 t1).1) (b := c) (i := 1) (by omega)
      rw [Nat.pow_one] at this
      rw [this, Nat.add_comm]
    simp (config := {contextual := true, implicitDefEqProofs := false}) (disch := omega) [e0, e3, e5, e6, e7, e8, g1, g17, hlt, -Int.natCast_add, -Int.natCast_mul]
    refine call1_eq ((bits_ok (N := 1) (hP _) (by omega) hs hat1).use (fun r h => .inl (.inl h)) fun v H' q _ _ => q) ?_
    simp (config := {contextual := true, implicitDefEqProofs := false}) (disch := omega) [e0, e3, e5, e6, e7, e8, g1, g17, hlt, hS, hor, -abin_or, -Int.natCast_add, -Int.natCast_mul]
    refine call1_eq (ok_ok (hP _)) ?_
    generalize ht2 : (bitsM s 1 t1).2 = t2 at *
    generalize hb2 : (bitsM s 1 t1).1 = b at *
    by_cases he : t2.err = 0
    · rw [if_neg (by simp [he])] at hsym
      have a1 : abin .sub (.int .i64 ((c * 2 + b : Nat) : Int)) (.int .i64 (first : Int)) = some (.int .i64 ((c * 2 + b - first : Nat) : Int)) := by
        rw [abin_sub, i64_id (by omega) (by omega)]; congr 2; omega
      by_cases hin : ((c * 2 + b - first : Nat) : Int) < ((l.count (k : Int) : Nat) : Int)
      · rw [if_pos (by rw [hcn]; omega)] at hsym
        have ho1 := ordG_succ_len l (k - 1)
        rw [show k - 1 + 1 = k by omega] at ho1
        have ho2 := ordG_le l (show k ≤ 15 by omega)
        have hix : index + (c * 2 + b) - first < (ordG l 15).length := by omega
        have a2 : abin .add (.int .i64 (index : Int)) (.int .i64 ((c * 2 + b : Nat) : Int)) = some (.int .i64 ((index + (c * 2 + b) : Nat) : Int)) := by
          rw [abin_add, i64_id (by omega) (by have := ordG_len l 15; omega)]; rfl
        have a3 : abin .sub (.int .i64 ((index + (c * 2 + b) : Nat) : Int)) (.int .i64 (first : Int)) = some (.int .i64 ((index + (c * 2 + b) - first : Nat) : Int)) := by
          rw [abin_sub, i64_id (by omega) (by have := ordG_len l 15; omega)]; congr 2; omega
        have hi2 : Ints (H.set p (rdBlk s t2 w most) ++ [ABlk.cells 0 false 69 (bookCells l bw (mostG l 15))]) bw (ordG l 15) := by
          refine hi.keepAt fun r hr hrl => ?_
          have hne : p ≠ r := fun c => hbp (c ▸ hr)
          rw [List.getElem?_append_left (by simpa using hrl), List.getElem?_set_ne hne]
        simp (config := {contextual := true, implicitDefEqProofs := false}) (disch := omega) [e0, e3, e5, e6, e7, e8, g1, g17, g16, gk, hlt, he, a1, a2, a3, hin, hi2.idx, hi2.load, hix, show (k : Int) < 16 by omega, -abin_or, -Int.natCast_add, -Int.natCast_mul, hP, hsym, -abin_add, -abin_sub]
      · rw [if_neg (by rw [hcn]; omega)] at hsym
        have ho1 := ordG_succ_len l (k - 1)
        rw [show k - 1 + 1 = k by omega] at ho1
        have ho2 := ordG_len l (k - 1)
        have ho3 : (k - 1) * l.length ≤ 15 * l.length := Nat.mul_le_mul_right _ (by omega)
        have a2 : abin .add (.int .i64 (index : Int)) (.int .i64 ((l.count (k : Int) : Nat) : Int)) = some (.int .i64 ((index + l.count (k : Int) : Nat) : Int)) := by
          rw [abin_add, i64_id (by omega) (by omega)]; rfl
        have a3 : abin .add (.int .i64 (first : Int)) (.int .i64 ((l.count (k : Int) : Nat) : Int)) = some (.int .i64 ((first + l.count (k : Int) : Nat) : Int)) := by
          rw [abin_add, i64_id (by omega) (by omega)]; rfl
        have a4 : abin .mul (.int .i64 ((first + l.count (k : Int) : Nat) : Int)) (.int .i64 2) = some (.int .i64 (((first + l.count (k : Int)) * 2 : Nat) : Int)) := by
          rw [abin_mul, i64_id (by omega) (by omega)]; rfl
        have a5 : abin .mul (.int .i64 ((c * 2 + b : Nat) : Int)) (.int .i64 2) = some (.int .i64 (((c * 2 + b) * 2 : Nat) : Int)) := by
          rw [abin_mul, i64_id (by omega) (by omega)]; rfl
        have a6 : abin .add (.int .i64 (k : Int)) (.int .i64 1) = some (.int .i64 ((k + 1 : Nat) : Int)) := by
          rw [abin_add, i64_id (by omega) (by omega)]; rfl
        have hpow : 2 ^ (k - 1) * 2 = 2 ^ (k + 1 - 1) := by rw [← Nat.pow_succ]; congr 1; omega
        simp (config := {contextual := true, implicitDefEqProofs := false}) (disch := omega) [e0, e3, e5, e6, e7, e8, g1, g17, g16, gk, hlt, he, a1, a2, a3, a4, a5, a6, hin, show (k : Int) < 16 by omega, -abin_or, -Int.natCast_add, -Int.natCast_mul, -abin_add, -abin_sub, -abin_mul]
        exact again_iff ((mostG l 15).toNat + 1 - (k + 1)) (by omega) ⟨k + 1, c * 2 + b, (first + l.count (k : Int)) * 2, index + l.count (k : Int), t2, by omega, by omega, rfl, by omega, rfl, by omega, by omega, by rw [show k + 1 - 1 = k by omega]; omega,
          by rw [hsym]; congr 1; omega, by simp [e0], by simp [e3], by simp, by simp, by simp, by simp⟩
    · simp (config := {contextual := true, implicitDefEqProofs := false}) (disch := omega) [he, hP]
      rw [if_pos he] at hsym
      simp [hsym]
  · rw [show (mostG l 15).toNat + 1 - k = 0 by omega, symM] at hsym
    simp (config := {contextual := true, implicitDefEqProofs := false}) (disch := omega) [e0, e3, e5, e6, e7, e8, g1, g17, hlt, -Int.natCast_add, -Int.natCast_mul]
    refine call1_eq ((fail_ok (hP _)).use (fun r h => .inl (.inl h)) fun v H' q _ _ => q) ?_
    simp (config := {contextual := true, implicitDefEqProofs := false}) (disch := omega) [hsym, hS, hP]
end
end Go.Proofs.Ytdknddicpdhkcaa.Ab

/- Inflate: stored blocks, single bytes, matches. Conditions: none; for the statements about layers 46 and 47. -/
namespace Go.Proofs.Ytdknddicpdhkcaa.Ab
set_option linter.unusedVariables false
set_option linter.unusedSimpArgs false

theorem de1_of {Φ : Trans} {Wr : Nat → Prop} {K : Env → AHeap → Prop} {env : Env} {ov : Option (AVal × AHeap)} {o : EOp} {u : List Nat} {d : Option Nat} {l : List DIns} {B : List (Nat × List Nat)} {v : AVal} {H' : AHeap} (h : ov = some (v, H'))
    (ht : ∀ r, o.target env r → unoOk Wr u B r) (hk : vcD Φ Wr l (B.filter fun p => u.contains p.1) K (env.put d v) H') : de1 Φ Wr ov o u d l B K env := ⟨v, H', h, ht, hk⟩

/-- The reader at p: its output lies in no block of B. -/
def Rd (B : Nat → Prop) (p : Nat) (H : AHeap) (s : List UInt8) (t : St) (most : Nat) : Prop := ∃ w, H[p]? = some (rdBlk s t w most) ∧ OwnX B H 5 w (bytesOf t.out)

def n16 (s : List UInt8) (a : Nat) : Nat := (chr s a).toNat + (chr s (a + 1)).toNat * 256
def storedM (s : List UInt8) (most : Nat) (t : St) : St :=
  if s.length < (t.at' + 7) / 8 + 4 then failM 5 t
  else if n16 s ((t.at' + 7) / 8) + n16 s ((t.at' + 7) / 8 + 2) ≠ 65535 then failM 4 t
  else if s.length < (t.at' + 7) / 8 + 4 + n16 s ((t.at' + 7) / 8) then failM 5 t
  else if most < t.out.length + n16 s ((t.at' + 7) / 8) then failM 3 t
  else { t with out := t.out ++ (s.drop ((t.at' + 7) / 8 + 4)).take (n16 s ((t.at' + 7) / 8)), at' := 8 * ((t.at' + 7) / 8 + 4 + n16 s ((t.at' + 7) / 8)) }

section
variable {B : Nat → Prop} {s : List UInt8} {t : St} {w bw : AVal} {most p : Nat} {H : AHeap} {l : List Int}
theorem wr2 (hp : H[p]? = some (rdBlk s t w most)) {w' : AVal} (h : w'.one = true) : astore H p 0 2 w' = some (H.set p (rdBlk s t w' most)) := by rw [astore_at hp]; simp [rcs, rdBlk, h]

theorem Rd.set {t' : St} (h : OwnX B H 5 w (bytesOf t'.out)) (hB : B p) (hpl : p < H.length) : Rd B p (H.set p (rdBlk s t' w most)) s t' most :=
  ⟨w, List.getElem?_set_self hpl, h.keep fun k hk _ => List.getElem?_set_ne (by intro c; subst c; exact hk hB)⟩

theorem fail_rd (hB : ∀ r, B r → r < H.length) (hBp : B p) (h : Rd B p H s t most) {e : Int} : ACall Try.prog 52 [.ptr p 0 0, .int .i64 e] H (fun r => r = p ∨ ¬ B r) fun v H' => v = .tuple [] ∧ Rd B p H' s (failM e t) most := by
  obtain ⟨w, hp, hw⟩ := h
  refine ((fail_ok hp).mono fun v H' q => ?_).use (fun r h => .inl (.inl h)) fun v H' q _ _ => q
  obtain ⟨rfl, rfl⟩ := q
  have : (failM e t).out = t.out := by unfold failM; split <;> rfl
  exact ⟨rfl, Rd.set (by rw [this]; exact hw) hBp (hB _ hBp)⟩

theorem stored_ok (hB : ∀ r, B r → r < H.length) (hBp : B p) (h : Rd B p H s t most) (he : t.err = 0) (hs : s.length ≤ 2 ^ 50) (hat : t.at' ≤ 8 * s.length) (hmost : most ≤ 2 ^ 40) (hout : t.out.length ≤ most) :
    ACall Try.prog 48 [.ptr p 0 0] H (fun r => r = p ∨ ¬ B r) fun v H' => v = .tuple [] ∧ Rd B p H' s (storedM s most t) most := by
  have h0 := h
  obtain ⟨w, hp, hw⟩ := h
  refine acall_of hmix Try.func48 x48_ok (by simp) ?_
  have h1 := ageOk_at hp
  have hpl := hB _ hBp
  have hfail : ∀ {e : Int}, ACall Try.prog 52 [.ptr p 0 0, .int .i64 e] H (fun r => (r = p ∨ ¬ B r) ∨ H.length ≤ r) fun v H' => v = .tuple [] ∧ Rd B p H' s (failM e t) most := fun {e} => (fail_rd hB hBp h0).use (fun r h => .inl (.inl h)) fun v H' q _ _ => q
  have hlen := hw.sl.len
  rw [bytesOf_len] at hlen
  have a0 : abin .add (.int .i64 (t.at' : Int)) (.int .i64 7) = some (.int .i64 ((t.at' : Int) + 7)) := by rw [abin_add, i64_id (by omega) (by omega)]
  have a1 : abin .quo (.int .i64 ((t.at' : Int) + 7)) (.int .i64 8) = some (.int .i64 (((t.at' + 7) / 8 : Nat) : Int)) := by
    rw [abin_quo (by omega), Int.tdiv_eq_ediv_of_nonneg (by omega), i64_id (by omega) (by omega)]; rfl
  have a2 : abin .sub (.int .i64 (s.length : Int)) (.int .i64 (((t.at' + 7) / 8 : Nat) : Int)) = some (.int .i64 ((s.length - (t.at' + 7) / 8 : Nat) : Int)) := by
    rw [abin_sub, i64_id (by omega) (by omega)]; congr 2; omega
  unfold storedM
  generalize ha : (t.at' + 7) / 8 = a at *
  have ha2 : a ≤ s.length := by omega
  by_cases c1 : s.length < a + 4
  · simp (config := {contextual := true, implicitDefEqProofs := false}) (disch := omega) [he, h1, rd0 hp, rd1 hp, i64_id, a0, a1, a2, show ((s.length - a : Nat) : Int) < 4 by omega, -abin_sub, c1]
    refine call1_of hfail (fun r h => .inl h) fun v H' q hl hf => ?_
    obtain ⟨rfl, q⟩ := q
    simpa using q
  · have b1 : ∀ k, k < 4 → a + k < s.length := by intro k hk; omega
    have hc : ∀ i, (chr s i).toNat < 256 := fun i => UInt8.toNat_lt _
    have a3 : ∀ c : UInt8, abin .shl (.int .i64 (c.toNat : Int)) (.int .u64 8) = some (.int .i64 ((c.toNat * 256 : Nat) : Int)) := by
      intro c
      have := UInt8.toNat_lt c
      rw [abin_shl (by omega)]
      simp only [bits_i64, show min (8 : Int).toNat 64 = 8 by decide]
      rw [i64_id (by omega) (by omega)]; simp
    have a4 : ∀ x y : Nat, x < 256 → y < 256 → abin .or (.int .i64 (x : Int)) (.int .i64 ((y * 256 : Nat) : Int)) = some (.int .i64 ((x + y * 256 : Nat) : Int)) := by
      intro x y hx hy
      rw [abin_or]
      refine congrArg (fun x => some (AVal.int .i64 x)) ?_
      rw [bits_i64, or_i64 (by omega) (by omega)]
      have := or_add (a := x) (b := y) (i := 8) (by omega)
      rw [show (2 : Nat) ^ 8 = 256 by rfl] at this
      rw [this]
    have hn := hc a
    have hn1 := hc (a + 1)
    have hm := hc (a + 2)
    have hm1 := hc (a + 3)
    have a5 : ∀ (k : Nat) (z : Int), z = k → k ≤ 4 → abin .add (.int .i64 (a : Int)) (.int .i64 z) = some (.int .i64 ((a + k : Nat) : Int)) := by
      rintro k z rfl hk; rw [abin_add, i64_id (by omega) (by omega)]; rfl
    have a51 := a5 1 1 rfl (by omega)
    have a52 := a5 2 2 rfl (by omega)
    have a53 := a5 3 3 rfl (by omega)
    have a54 := a5 4 4 rfl (by omega)
    have hn16 : n16 s a = (chr s a).toNat + (chr s (a + 1)).toNat * 256 := rfl
    have hm16 : n16 s (a + 2) = (chr s (a + 2)).toNat + (chr s (a + 3)).toNat * 256 := rfl
    simp (config := {contextual := true, implicitDefEqProofs := false}) (disch := omega) [he, h1, rd0 hp, rd1 hp, i64_id, a0, a1, a2, a51, a52, a53, a54, a3, a4, show ¬ ((s.length - a : Nat) : Int) < 4 by omega, -abin_sub, -abin_add, -abin_or, c1, vIdxStr_nat, b1, hc, -Int.natCast_add, -Int.natCast_mul, ← hn16, ← hm16]
    have hx : n16 s a < 65536 := by omega
    have hy : n16 s (a + 2) < 65536 := by omega
    generalize hnn : n16 s a = n at *
    generalize hmm : n16 s (a + 2) = m at *
    have a6 : abin .add (.int .i64 (n : Int)) (.int .i64 (m : Int)) = some (.int .i64 ((n + m : Nat) : Int)) := by
      rw [abin_add, i64_id (by omega) (by omega)]; rfl
    by_cases c2 : n + m = 65535
    · have a7 : abin .sub (.int .i64 (s.length : Int)) (.int .i64 ((a + 4 : Nat) : Int)) = some (.int .i64 ((s.length - (a + 4) : Nat) : Int)) := by
        rw [abin_sub, i64_id (by omega) (by omega)]; congr 2; omega
      by_cases c3 : s.length < a + 4 + n
      · simp (config := {contextual := true, implicitDefEqProofs := false}) (disch := omega) [he, h1, rd0 hp, rd1 hp, i64_id, a6, a7, -abin_sub, -abin_add, -Int.natCast_add, -Int.natCast_mul, show ((n + m : Nat) : Int) = 65535 by omega, show ((s.length - (a + 4) : Nat) : Int) < n by omega, c2, c3]
        refine call1_of hfail (fun r h => .inl h) fun v H' q hl hf => ?_
        obtain ⟨rfl, q⟩ := q
        simpa using q
      · have a8 : abin .sub (.int .i64 (most : Int)) (.int .i64 (t.out.length : Int)) = some (.int .i64 ((most - t.out.length : Nat) : Int)) := by
          rw [abin_sub, i64_id (by omega) (by omega)]; congr 2; omega
        by_cases c4 : most < t.out.length + n
        · simp (config := {contextual := true, implicitDefEqProofs := false}) (disch := omega) [he, h1, rd0 hp, rd1 hp, rd2 hp, rd3 hp, hlen, i64_id, a6, a7, a8, -abin_sub, -abin_add, -Int.natCast_add, -Int.natCast_mul, show ((n + m : Nat) : Int) = 65535 by omega, show ¬ ((s.length - (a + 4) : Nat) : Int) < n by omega, show ((most - t.out.length : Nat) : Int) < n by omega, c2, c3, c4]
          refine call1_of hfail (fun r h => .inl h) fun v H' q hl hf => ?_
          obtain ⟨rfl, q⟩ := q
          simpa using q
        · have a9 : abin .add (.int .i64 ((a + 4 : Nat) : Int)) (.int .i64 (n : Int)) = some (.int .i64 ((a + 4 + n : Nat) : Int)) := by
            rw [abin_add, i64_id (by omega) (by omega)]; rfl
          have a10 : vSlStr (.str s) (some (.int .i64 ((a + 4 : Nat) : Int))) (some (.int .i64 ((a + 4 + n : Nat) : Int))) = some (.str ((s.drop (a + 4)).take n)) := by
            rw [vSlStr_both (by omega) (by omega) (by omega)]; congr 3; omega
          have hnl : ((s.drop (a + 4)).take n).length = n := by simp; omega
          obtain ⟨w', H2, ha, hw2, hlen2, hfr2⟩ := hw.append hB (x := .str ((s.drop (a + 4)).take n)) (bytes := 1) asrc_str (by simp) (by simp) (by rw [bytesOf_len, hnl]; simp [roomLim]; omega)
          rw [← bytesOf_app] at hw2
          simp (config := {contextual := true, implicitDefEqProofs := false}) (disch := omega) [he, h1, rd0 hp, rd1 hp, rd2 hp, rd3 hp, hlen, i64_id, a6, a7, a8, a9, a10, -abin_sub, -abin_add, -Int.natCast_add, -Int.natCast_mul, show ((n + m : Nat) : Int) = 65535 by omega, show ¬ ((s.length - (a + 4) : Nat) : Int) < n by omega, show ¬ ((most - t.out.length : Nat) : Int) < n by omega, c2, c3, c4]
          refine de1_of ha ?_ ?_
          · intro r ht
            have ht2 : appTarget w r := by simpa using ht
            exact ⟨.inl (.inr (hw.target ht2)), by simp [SOp.reads]⟩
          have hp2 : H2[p]? = some (rdBlk s t w most) := by rw [hfr2 p hBp]; exact hp
          have hpl2 : p < H2.length := by omega
          have hp3 : (H2.set p (rdBlk s t w' most))[p]? = some (rdBlk s t w' most) := List.getElem?_set_self hpl2
          have g2 := ageOk_at hp2
          have g3 := ageOk_at hp3
          have a11 : abin .mul (.int .i64 8) (.int .i64 ((a + 4 + n : Nat) : Int)) = some (.int .i64 ((8 * (a + 4 + n) : Nat) : Int)) := by
            rw [abin_mul, i64_id (by omega) (by omega)]; rfl
          have s1 := wr2 hp2 hw2.one
          have s2 := wr1 hp3 (n := 8 * (a + 4 + n))
          rw [List.set_set] at s2
          simp (config := {contextual := true, implicitDefEqProofs := false}) (disch := omega) [g2, g3, s1, s2, hw2.known, hw2.cells, a9, a11, -abin_sub, -abin_add, -abin_mul, -Int.natCast_add, -Int.natCast_mul]
          rw [he]
          exact Rd.set (t' := { at' := 8 * (a + 4 + n), out := t.out ++ (s.drop (a + 4)).take n, err := 0 }) hw2 hBp hpl2
    · simp (config := {contextual := true, implicitDefEqProofs := false}) (disch := omega) [he, h1, rd0 hp, rd1 hp, i64_id, a6, -abin_sub, -abin_add, -Int.natCast_add, -Int.natCast_mul, show ¬ ((n + m : Nat) : Int) = 65535 by omega, c2]
      refine call1_of hfail (fun r h => .inl h) fun v H' q hl hf => ?_
      obtain ⟨rfl, q⟩ := q
      simpa using q
end
end Go.Proofs.Ytdknddicpdhkcaa.Ab

/- Inflate: single bytes and matches. Conditions: none; for the statements about layers 46 and 47. -/
namespace Go.Proofs.Ytdknddicpdhkcaa.Ab
set_option linter.unusedVariables false
set_option linter.unusedSimpArgs false

def putM (most : Nat) (c : UInt8) (t : St) : St := if most ≤ t.out.length then failM 3 t else { t with out := t.out ++ [c] }
def spanG (k : Nat) : Nat × Nat := if k = 285 then (258, 0) else if k - 257 < 8 then (3 + (k - 257), 0) else (3 + (4 + (k - 257) % 4) * 2 ^ ((k - 257) / 4 - 1), (k - 257) / 4 - 1)
def reachG (d : Nat) : Nat × Nat := if d < 4 then (1 + d, 0) else (1 + (2 + d % 2) * 2 ^ (d / 2 - 1), d / 2 - 1)
def copyN (out : List UInt8) (d : Nat) : Nat → List UInt8
  | 0 => out
  | n + 1 => copyN (out ++ [chr out (out.length - d)]) d n
def late (d : Int × St) : St := if 29 < d.1 then failM 4 d.2 else d.2
def matchE (most : Nat) (len dist : Nat) (t : St) : St :=
  if t.err ≠ 0 then t
  else if t.out.length < dist then failM 4 t
  else if most < t.out.length + len then failM 3 t
  else { t with out := copyN t.out dist len }
def matchD (s : List UInt8) (most len : Nat) (d : Int) (t : St) : St :=
  if t.err ≠ 0 then t else matchE most len ((reachG d.toNat).1 + (bitsM s (reachG d.toNat).2 t).1) (bitsM s (reachG d.toNat).2 t).2
def matchM (s : List UInt8) (most k : Nat) (dl : List Int) (t : St) : St :=
  matchD s most ((spanG k).1 + (bitsM s (spanG k).2 t).1) (symG s dl (bitsM s (spanG k).2 t).2).1 (late (symG s dl (bitsM s (spanG k).2 t).2))

section
variable {B : Nat → Prop} {s : List UInt8} {t : St} {w bw : AVal} {most p : Nat} {H : AHeap} {l : List Int} {fp : Nat → Prop}

theorem span_ok {k : Nat} (h : 257 ≤ k) (h2 : k ≤ 285) : ACall Try.prog 72 [.int .i64 k] H fp fun v H' => v = .tuple [.int .i64 (spanG k).1, .int .i64 (spanG k).2] ∧ H' = H := by
  refine acall_of hmix Try.func72 x72_ok (by simp) ?_
  unfold spanG
  by_cases c : k = 285
  · subst c; simp
  · by_cases c2 : k - 257 < 8
    · simp (config := {contextual := true, implicitDefEqProofs := false}) (disch := omega) [show ¬ (k : Int) = 285 by omega, i64_id, show (k : Int) - 257 < 8 by omega, c, c2]
      omega
    · have a1 : abin .quo (.int .i64 ((k : Int) - 257)) (.int .i64 4) = some (.int .i64 (((k - 257) / 4 : Nat) : Int)) := by
        rw [abin_quo (by omega), Int.tdiv_eq_ediv_of_nonneg (by omega), i64_id (by omega) (by omega)]; congr 2; omega
      have a2 : abin .rem (.int .i64 ((k : Int) - 257)) (.int .i64 4) = some (.int .i64 (((k - 257) % 4 : Nat) : Int)) := by
        rw [abin_rem (by omega), Int.tmod_eq_emod_of_nonneg (by omega)]; congr 2; omega
      have a3 : IntKind.i64.wrap ((((k - 257) / 4 : Nat) : Int) - 1) = (((k - 257) / 4 - 1 : Nat) : Int) := by
        rw [i64_id (by omega) (by omega)]; omega
      have hp : 2 ^ ((k - 257) / 4 - 1) ≤ 2 ^ 6 := Nat.pow_le_pow_right (by omega) (by omega)
      generalize hq : (k - 257) % 4 = q at *
      generalize hr : (k - 257) / 4 - 1 = r at *
      have hmul : (4 + q) * 2 ^ r ≤ (4 + q) * 2 ^ 6 := Nat.mul_le_mul_left _ hp
      have a4 : abin .shl (.int .i64 (4 + (q : Int))) (.int .i64 (r : Int)) = some (.int .i64 (((4 + q) * 2 ^ r : Nat) : Int)) := by
        rw [abin_shl (by omega)]
        simp only [bits_i64, Int.toNat_natCast, show min r 64 = r by omega]
        rw [show (4 + (q : Int)) * 2 ^ r = (((4 + q) * 2 ^ r : Nat) : Int) by simp, i64_nat (by omega)]
      have a5 : IntKind.i64.wrap (3 + (((4 + q) * 2 ^ r : Nat) : Int)) = ((3 + (4 + q) * 2 ^ r : Nat) : Int) := by
        rw [i64_id (by omega) (by omega)]; rfl
      simp (config := {contextual := true, implicitDefEqProofs := false}) (disch := omega) [show ¬ (k : Int) = 285 by omega, show IntKind.i64.wrap ((k : Int) - 257) = (k : Int) - 257 from i64_id (by omega) (by omega), show ¬ (k : Int) - 257 < 8 by omega, c, c2, a1, a2, a3, i64_id, a4, a5, -Int.natCast_add, -Int.natCast_mul, -Int.natCast_ediv]
theorem reach_ok {d : Nat} (h2 : d ≤ 29) : ACall Try.prog 73 [.int .i64 d] H fp fun v H' => v = .tuple [.int .i64 (reachG d).1, .int .i64 (reachG d).2] ∧ H' = H := by
  refine acall_of hmix Try.func73 x73_ok (by simp) ?_
  unfold reachG
  by_cases c2 : d < 4
  · simp (config := {contextual := true, implicitDefEqProofs := false}) (disch := omega) [i64_id, show (d : Int) < 4 by omega, c2]
  · have a1 : abin .quo (.int .i64 (d : Int)) (.int .i64 2) = some (.int .i64 ((d / 2 : Nat) : Int)) := by
      rw [abin_quo (by omega), Int.tdiv_eq_ediv_of_nonneg (by omega), i64_id (by omega) (by omega)]; rfl
    have a2 : abin .rem (.int .i64 (d : Int)) (.int .i64 2) = some (.int .i64 ((d % 2 : Nat) : Int)) := by
      rw [abin_rem (by omega), Int.tmod_eq_emod_of_nonneg (by omega)]; rfl
    have a3 : IntKind.i64.wrap (((d / 2 : Nat) : Int) - 1) = ((d / 2 - 1 : Nat) : Int) := by
      rw [i64_id (by omega) (by omega)]; omega
    have hp : 2 ^ (d / 2 - 1) ≤ 2 ^ 14 := Nat.pow_le_pow_right (by omega) (by omega)
    generalize hq : d % 2 = q at *
    generalize hr : d / 2 - 1 = r at *
    have hmul : (2 + q) * 2 ^ r ≤ (2 + q) * 2 ^ 14 := Nat.mul_le_mul_left _ hp
    have a4 : abin .shl (.int .i64 (2 + (q : Int))) (.int .i64 (r : Int)) = some (.int .i64 (((2 + q) * 2 ^ r : Nat) : Int)) := by
      rw [abin_shl (by omega)]
      simp only [bits_i64, Int.toNat_natCast, show min r 64 = r by omega]
      rw [show (2 + (q : Int)) * 2 ^ r = (((2 + q) * 2 ^ r : Nat) : Int) by simp, i64_nat (by omega)]
    have a5 : IntKind.i64.wrap (1 + (((2 + q) * 2 ^ r : Nat) : Int)) = ((1 + (2 + q) * 2 ^ r : Nat) : Int) := by
      rw [i64_id (by omega) (by omega)]; rfl
    simp (config := {contextual := true, implicitDefEqProofs := false}) (disch := omega) [show ¬ (d : Int) < 4 by omega, c2, a1, a2, a3, i64_id, a4, a5, -Int.natCast_add, -Int.natCast_mul, -Int.natCast_ediv]

theorem put_ok (hB : ∀ r, B r → r < H.length) (hBp : B p) (h : Rd B p H s t most) (he : t.err = 0) (hmost : most ≤ 2 ^ 40) {c : UInt8} :
    ACall Try.prog 61 [.ptr p 0 0, .int .u8 c.toNat] H (fun r => r = p ∨ ¬ B r) fun v H' => v = .tuple [] ∧ Rd B p H' s (putM most c t) most := by
  have h0 := h
  obtain ⟨w, hp, hw⟩ := h
  refine acall_of hmix Try.func61 x61_ok (by simp) ?_
  have h1 := ageOk_at hp
  have hpl := hB _ hBp
  have hlen := hw.sl.len
  rw [bytesOf_len] at hlen
  unfold putM
  by_cases c1 : most ≤ t.out.length
  · simp (config := {contextual := true, implicitDefEqProofs := false}) (disch := omega) [he, h1, rd2 hp, rd3 hp, hlen, i64_id, show (most : Int) ≤ t.out.length by omega, c1]
    refine call1_eq ((fail_ok hp).use (fun r h => .inl (.inl (.inl h))) fun v H' q _ _ => q) ?_
    have hpl2 : p < (H.set p (rdBlk s (failM 3 t) w most)).length := by simpa using hpl
    have hp2 : (H.set p (rdBlk s (failM 3 t) w most))[p]? = some (rdBlk s (failM 3 t) w most) := List.getElem?_set_self hpl
    simp
    refine call1_eq (ok_ok hp2) ?_
    simp [failM, he]
    exact Rd.set (t' := { t with err := 3 }) hw hBp hpl
  · have hw1 : OwnX B (H ++ [.cells 0 false 5 [.int .u8 c.toNat]]) 5 w (bytesOf t.out) := hw.keep fun k _ hk => List.getElem?_append_left hk
    have hp1 : (H ++ [.cells 0 false 5 [.int .u8 c.toNat]])[p]? = some (rdBlk s t w most) := by rw [List.getElem?_append_left hpl]; exact hp
    obtain ⟨w', H2, ha, hw2, hlen2, hfr2⟩ := hw1.append (fun r hr => by have := hB r hr; rw [List.length_append]; omega) (x := .slice H.length 0 0 1 1) (new := bytesOf [c]) (n := 1) (bytes := 1) (by simp [asrc, bytesOf]) (by simp) (by simp) (by rw [bytesOf_len]; simp [roomLim]; omega)
    rw [← bytesOf_app] at hw2
    have hp2 : H2[p]? = some (rdBlk s t w most) := by rw [hfr2 p hBp]; exact hp1
    have hpl2 : p < H2.length := (List.getElem?_eq_some_iff.1 hp2).1
    have s1 := wr2 hp2 hw2.one
    have g1 := ageOk_at hp1
    have g2 := ageOk_at hp2
    simp (config := {contextual := true, implicitDefEqProofs := false}) (disch := omega) [he, h1, rd2 hp, rd3 hp, hlen, i64_id, show ¬ (most : Int) ≤ t.out.length by omega, c1]
    refine call1_eq (ok_ok hp) ?_
    simp (config := {contextual := true, implicitDefEqProofs := false}) (disch := omega) [he, h1, rd2 hp, rd3 hp, hlen, i64_id, afill, zrep]
    refine e1_of ha ?_ ?_
    · intro r ht
      have ht2 : appTarget w r := by simpa using ht
      exact .inl (.inr (hw.target ht2))
    simp (config := {contextual := true, implicitDefEqProofs := false}) (disch := omega) [g2, s1, hw2.known, hw2.cells]
    rw [← he]
    exact Rd.set (t' := { t with out := t.out ++ [c] }) hw2 hBp hpl2
end
end Go.Proofs.Ytdknddicpdhkcaa.Ab

/- Inflate: matches. Conditions: none; for the statements about layers 46 and 47. -/
namespace Go.Proofs.Ytdknddicpdhkcaa.Ab
set_option linter.unusedVariables false
set_option linter.unusedSimpArgs false

theorem Sl.loadB {H : AHeap} {v : AVal} {s : List UInt8} (h : Sl H v (bytesOf s)) {i : Nat} (hi : i < s.length) : vLoad H (v.at i) = some (.int .u8 (chr s i).toNat) := by
  have := h.load (i := i) (by simpa using hi)
  rw [this]
  simp [bytesOf, chr, List.getD_eq_getElem?_getD, hi]
theorem Sl.idxB {H : AHeap} {v : AVal} {s : List UInt8} (h : Sl H v (bytesOf s)) {k : IntKind} {n : Nat} (hi : n < s.length) : vIdx H 1 v (.int k (n : Int)) = some (v.at n) := h.idxN (by simpa using hi)
theorem Sl.lenB {H : AHeap} {v : AVal} {s : List UInt8} (h : Sl H v (bytesOf s)) : vLen H v = some (.int .i64 s.length) := by
  have := h.len; simpa using this

theorem mem_ordG {l : List Int} {x : Int} : ∀ {j : Nat}, x ∈ ordG l j → 0 ≤ x ∧ x < l.length
  | 0, h => by simp [ordG] at h
  | j + 1, h => by
    simp only [ordG, List.mem_append] at h
    rcases h with h | h
    · exact mem_ordG h
    · simp only [idxs, List.mem_map, List.mem_filter, List.mem_range] at h
      obtain ⟨q, ⟨hq, _⟩, rfl⟩ := h
      omega
@[simp] theorem failM_out {e : Int} {t : St} : (failM e t).out = t.out := by unfold failM; split <;> rfl
@[simp] theorem failM_at {e : Int} {t : St} : (failM e t).at' = t.at' := by unfold failM; split <;> rfl
@[simp] theorem bitsM_out {s : List UInt8} {n : Nat} {t : St} : (bitsM s n t).2.out = t.out := by
  unfold bitsM
  split
  · rfl
  · split <;> rfl
theorem bitsM_at2 (s : List UInt8) {n : Nat} {t : St} (he : (bitsM s n t).2.err = 0) : (bitsM s n t).2.at' = t.at' + n ∧ t.err = 0 ∧ t.at' + n ≤ 8 * s.length := by
  unfold bitsM at he ⊢
  split
  · rename_i h; rw [if_pos h] at he; exact absurd he h
  · rename_i h
    rw [if_neg h] at he
    split
    · rename_i h2; rw [if_pos h2] at he; simp at he
    · rename_i h2; exact ⟨rfl, by simpa using h, by omega⟩
theorem symM_facts (s : List UInt8) (l : List Int) : ∀ (m k code first index : Nat) (t : St), t.at' ≤ 8 * s.length → (0 ≤ (symM s l m k code first index t).1 ∧ ((symM s l m k code first index t).1 < l.length ∨ (symM s l m k code first index t).1 = 0)) ∧ (symM s l m k code first index t).2.out = t.out ∧
    (symM s l m k code first index t).2.at' ≤ 8 * s.length ∧ t.at' ≤ (symM s l m k code first index t).2.at' ∧ ((symM s l m k code first index t).2.err = 0 → t.err = 0 ∧ t.at' < (symM s l m k code first index t).2.at')
  | 0, k, code, first, index, t, hat => by
    refine ⟨by simp [symM], by simp [symM], by simpa [symM] using hat, by simp [symM], ?_⟩
    intro h
    simp only [symM, failM] at h
    split at h
    · cases h
    · rename_i h2; exact absurd h h2
  | m + 1, k, code, first, index, t, hat => by
    have hb := bitsM_at s 1 t hat
    simp only [symM]
    split
    · rename_i h; exact ⟨by simp, by simp, hb.1, hb.2, fun h2 => absurd h2 h⟩
    · rename_i h
      have he : (bitsM s 1 t).2.err = 0 := by simpa using h
      have ha := bitsM_at2 s he
      split
      · refine ⟨?_, by simp, hb.1, hb.2, fun _ => ⟨ha.2.1, by simp only []; omega⟩⟩
        simp only []
        rw [List.getD_eq_getElem?_getD]
        cases hg : (ordG l 15)[index + (code + (bitsM s 1 t).1) - first]? with
        | none => simp
        | some x =>
          have := mem_ordG (List.mem_of_getElem? hg)
          simp; omega
      · have ih := symM_facts s l m (k + 1) ((code + (bitsM s 1 t).1) * 2) ((first + l.count (k : Int)) * 2) (index + l.count (k : Int)) (bitsM s 1 t).2 hb.1
        refine ⟨ih.1, by rw [ih.2.1]; simp, ih.2.2.1, by omega, fun h2 => ?_⟩
        have := ih.2.2.2.2 h2
        exact ⟨ha.2.1, by omega⟩
theorem symG_facts (s : List UInt8) (l : List Int) (t : St) (hat : t.at' ≤ 8 * s.length) : (0 ≤ (symG s l t).1 ∧ ((symG s l t).1 < l.length ∨ (symG s l t).1 = 0)) ∧ (symG s l t).2.out = t.out ∧
    (symG s l t).2.at' ≤ 8 * s.length ∧ t.at' ≤ (symG s l t).2.at' ∧ ((symG s l t).2.err = 0 → t.err = 0 ∧ t.at' < (symG s l t).2.at') := symM_facts s l _ _ _ _ _ t hat
theorem spanG_le {k : Nat} (h : 257 ≤ k) (h2 : k ≤ 285) : 3 ≤ (spanG k).1 ∧ (spanG k).1 ≤ 1000 ∧ (spanG k).2 ≤ 6 := by
  unfold spanG
  split
  · simp
  · split
    · simp; omega
    · have hp : 2 ^ ((k - 257) / 4 - 1) ≤ 2 ^ 6 := Nat.pow_le_pow_right (by omega) (by omega)
      have hmul : (4 + (k - 257) % 4) * 2 ^ ((k - 257) / 4 - 1) ≤ (4 + (k - 257) % 4) * 2 ^ 6 := Nat.mul_le_mul_left _ hp
      simp only []
      omega
theorem reachG_le {d : Nat} (h2 : d ≤ 29) : 1 ≤ (reachG d).1 ∧ (reachG d).1 ≤ 50000 ∧ (reachG d).2 ≤ 13 := by
  unfold reachG
  split
  · simp; omega
  · have hp : 2 ^ (d / 2 - 1) ≤ 2 ^ 13 := Nat.pow_le_pow_right (by omega) (by omega)
    have hmul : (2 + d % 2) * 2 ^ (d / 2 - 1) ≤ (2 + d % 2) * 2 ^ 13 := Nat.mul_le_mul_left _ hp
    simp only []
    omega
theorem bitsM_lt (s : List UInt8) (n : Nat) (t : St) : (bitsM s n t).1 < 2 ^ n := by
  unfold bitsM
  have : 0 < 2 ^ n := Nat.two_pow_pos n
  split
  · simpa
  · split
    · simpa
    · exact bitsV_lt _ _ _

section
variable {B : Nat → Prop} {s : List UInt8} {t : St} {w bw : AVal} {most p : Nat} {H : AHeap} {l : List Int} {fp : Nat → Prop}

def inv62 (B : Nat → Prop) (p : Nat) (s : List UInt8) (most : Nat) (y : St) (dist len hl : Nat) (n : Nat) (env : Env) (H' : AHeap) : Prop :=
  ∃ (i : Nat) (o : List UInt8), i ≤ len ∧ n = len - i ∧ Rd B p H' s { y with out := o } most ∧ o.length = y.out.length + i ∧ copyN y.out dist len = copyN o dist (len - i) ∧ hl ≤ H'.length ∧ env 0 = .ptr p 0 0 ∧ env 10 = .int .i64 dist ∧ env 70 = .int .i64 len ∧ env 71 = .int .i64 i

theorem Rd.keep {H' : AHeap} {t' : St} (hw : OwnX B H 5 w (bytesOf t.out)) (hp : H'[p]? = some (rdBlk s t' w most)) (ho : t'.out = t.out) (hk : ∀ k, k ≠ p → k < H.length → H'[k]? = H[k]?) (hBp : B p) : Rd B p H' s t' most :=
  ⟨w, hp, by rw [ho]; exact hw.keep fun k h1 h2 => hk k (by intro c; subst c; exact h1 hBp) h2⟩

theorem match_ok (hB : ∀ r, B r → r < H.length) (hBp : B p) (h : Rd B p H s t most) (he : t.err = 0) (hs : s.length ≤ 2 ^ 50) (hat : t.at' ≤ 8 * s.length) (hmost : most ≤ 2 ^ 40) (hout : t.out.length ≤ most) {k : Nat} (hk : 257 ≤ k) (hk2 : k ≤ 285)
    (hi : Ints H bw (ordG l 15)) (hbw : ∀ r, appTarget bw r → B r ∧ r ≠ p) (hl : l.length ≤ 1000) :
    ACall Try.prog 62 [.ptr p 0 0, .int .i64 k, .agg (bookCells l bw (mostG l 15))] H (fun r => r = p ∨ ¬ B r) fun v H' => v = .tuple [] ∧ Rd B p H' s (matchM s most k l t) most := by
  obtain ⟨w, hp, hw⟩ := h
  refine acall_of hmix Try.func62 x62_ok (by simp) ?_
  have hpl := hB _ hBp
  obtain ⟨sp1, sp2, sp3⟩ := spanG_le hk hk2
  have hp1 : (H ++ [ABlk.cells 0 false 69 (bookCells l bw (mostG l 15))])[p]? = some (rdBlk s t w most) := by rw [List.getElem?_append_left hpl]; exact hp
  simp
  refine call1_eq (span_ok hk hk2) ?_
  unfold matchM
  generalize hb1 : (spanG k).1 = b1 at *
  generalize hb2 : (spanG k).2 = b2 at *
  simp
  have hbt := bitsM_at s b2 t hat
  have hbl := bitsM_lt s b2 t
  have hbp : 2 ^ b2 ≤ 2 ^ 6 := Nat.pow_le_pow_right (by omega) sp3
  refine call1_eq ((bits_ok (N := b2) hp1 (by omega) hs hat).use (fun r h => .inl (.inl (.inl h))) fun v H' q _ _ => q) ?_
  have hbo : (bitsM s b2 t).2.out = t.out := bitsM_out
  generalize hx1 : (bitsM s b2 t).1 = x1 at *
  generalize hx2 : (bitsM s b2 t).2 = t2 at *
  have a1 : abin .add (.int .i64 (b1 : Int)) (.int .i64 (x1 : Int)) = some (.int .i64 ((b1 + x1 : Nat) : Int)) := by
    rw [abin_add, i64_id (by omega) (by omega)]; rfl
  have hlle : b1 + x1 ≤ 2000 := by omega
  generalize hlength : b1 + x1 = len at *
  have hset : (H ++ [ABlk.cells 0 false 69 (bookCells l bw (mostG l 15))]).set p (rdBlk s t2 w most) = H.set p (rdBlk s t2 w most) ++ [ABlk.cells 0 false 69 (bookCells l bw (mostG l 15))] := List.set_append_left _ _ hpl
  rw [hset]
  have hK : (H.set p (rdBlk s t2 w most) ++ [ABlk.cells 0 false 69 (bookCells l bw (mostG l 15))])[H.length]? = some (.cells 0 false 69 (bookCells l bw (mostG l 15))) := by
    rw [List.getElem?_append_right (by simp)]; simp
  have hP : (H.set p (rdBlk s t2 w most) ++ [ABlk.cells 0 false 69 (bookCells l bw (mostG l 15))])[p]? = some (rdBlk s t2 w most) := by
    rw [List.getElem?_append_left (by simpa using hpl), List.getElem?_set_self hpl]
  have hF : ∀ r, r ≠ p → r < H.length → (H.set p (rdBlk s t2 w most) ++ [ABlk.cells 0 false 69 (bookCells l bw (mostG l 15))])[r]? = H[r]? := by
    intro r h1 h2
    rw [List.getElem?_append_left (by simpa using h2), List.getElem?_set_ne (by omega)]
  have hHl : (H.set p (rdBlk s t2 w most) ++ [ABlk.cells 0 false 69 (bookCells l bw (mostG l 15))]).length = H.length + 1 := by simp
  generalize hH2 : (H.set p (rdBlk s t2 w most) ++ [ABlk.cells 0 false 69 (bookCells l bw (mostG l 15))]) = H2 at *
  have hL := aloads_at hK (o := 0) (n := 18)
  simp at hL
  have gK := ageOk_at hK
  simp (config := {contextual := true, implicitDefEqProofs := false}) (disch := omega) [a1, hL, -abin_add, -Int.natCast_add]
  have hi2 : Ints H2 bw (ordG l 15) := hi.keepAt fun r hr hrl => hF r (hbw r hr).2 hrl
  refine call1_of (sym_ok hP hs hbt.1 hi2 (fun c => (hbw p c).2 rfl) hl) (fun r h => .inl (.inl (.inl h))) ?_
  rintro v H3 ⟨rfl, hP3⟩ hlen3 hF3
  have hsf := symG_facts s l t2 hbt.1
  generalize hd1 : (symG s l t2).1 = d at *
  generalize hd2 : symG s l t2 = dd at *
  obtain ⟨d', t3⟩ := dd
  subst hd1
  simp only [] at *
  have hF3' : ∀ r, r ≠ p → r < H.length → H3[r]? = H[r]? := fun r h1 h2 => by rw [hF3 r (by omega) h1, hF r h1 h2]
  have ho3 : t3.out = t.out := by rw [hsf.2.1, hbo]
  have hpl3 : p < H3.length := by omega
  by_cases c1 : (29 : Int) < d'
  · have hlate : late (d', t3) = failM 4 t3 := by simp [late, c1]
    have hne : ¬ (failM 4 t3).err = 0 := by
      unfold failM; split
      · simp
      · assumption
    have hP4 : (H3.set p (rdBlk s (failM 4 t3) w most))[p]? = some (rdBlk s (failM 4 t3) w most) := List.getElem?_set_self hpl3
    rw [hlate, matchD, if_pos hne]
    simp (config := {contextual := true, implicitDefEqProofs := false}) (disch := omega) [c1]
    refine call1_eq ((fail_ok hP3).use (fun r h => .inl (.inl (.inl h))) fun v H' q _ _ => q) ?_
    simp (config := {contextual := true, implicitDefEqProofs := false}) (disch := omega) [c1]
    refine call1_eq (ok_ok hP4) ?_
    simp (config := {contextual := true, implicitDefEqProofs := false}) (disch := omega) [hne]
    exact Rd.keep hw hP4 (by rw [failM_out, ho3]) (fun r h1 h2 => by rw [List.getElem?_set_ne (by omega), hF3' r h1 h2]) hBp
  · have hlate : late (d', t3) = t3 := by simp [late, c1]
    rw [hlate]
    simp (config := {contextual := true, implicitDefEqProofs := false}) (disch := omega) [c1]
    refine call1_eq (ok_ok hP3) ?_
    by_cases c2 : t3.err = 0
    · rw [matchD, if_neg (by simp [c2])]
      have hdn : d' = (d'.toNat : Int) := by omega
      generalize hdd : d'.toNat = dn at *
      subst hdn
      obtain ⟨r1, r2, r3⟩ := reachG_le (d := dn) (by omega)
      simp (config := {contextual := true, implicitDefEqProofs := false}) (disch := omega) [c2]
      refine call1_eq (reach_ok (d := dn) (by omega)) ?_
      generalize hc1 : (reachG dn).1 = e1' at *
      generalize hc2 : (reachG dn).2 = e2' at *
      simp (config := {contextual := true, implicitDefEqProofs := false}) (disch := omega) [c2]
      have hyt := bitsM_at s e2' t3 hsf.2.2.1
      have hyl := bitsM_lt s e2' t3
      have hyp : 2 ^ e2' ≤ 2 ^ 13 := Nat.pow_le_pow_right (by omega) r3
      refine call1_eq ((bits_ok (N := e2') hP3 (by omega) hs hsf.2.2.1).use (fun r h => .inl (.inl (.inl h))) fun v H' q _ _ => q) ?_
      have hyo : (bitsM s e2' t3).2.out = t3.out := bitsM_out
      generalize hy1 : (bitsM s e2' t3).1 = y1 at *
      generalize hy2 : (bitsM s e2' t3).2 = y at *
      have hP4 : (H3.set p (rdBlk s y w most))[p]? = some (rdBlk s y w most) := List.getElem?_set_self hpl3
      have hF4 : ∀ r, r ≠ p → r < H.length → (H3.set p (rdBlk s y w most))[r]? = H[r]? := fun r h1 h2 => by rw [List.getElem?_set_ne (by omega), hF3' r h1 h2]
      have hyo2 : y.out = t.out := by rw [hyo, ho3]
      have hyo3 : y.out.length = t.out.length := by rw [hyo2]
      have hR4 : Rd B p (H3.set p (rdBlk s y w most)) s y most := Rd.keep hw hP4 hyo2 hF4 hBp
      have hB4 : ∀ r, B r → r < (H3.set p (rdBlk s y w most)).length := fun r hr => by have := hB r hr; rw [List.length_set]; omega
      have hl4 : H3.length = (H3.set p (rdBlk s y w most)).length := by simp
      generalize hH4 : H3.set p (rdBlk s y w most) = H4 at *
      have a2 : abin .add (.int .i64 (e1' : Int)) (.int .i64 (y1 : Int)) = some (.int .i64 ((e1' + y1 : Nat) : Int)) := by
        rw [abin_add, i64_id (by omega) (by omega)]; rfl
      simp (config := {contextual := true, implicitDefEqProofs := false}) (disch := omega) [a2, -abin_add, -Int.natCast_add]
      refine call1_eq (ok_ok hP4) ?_
      have hfail : ∀ {e : Int}, ACall Try.prog 52 [.ptr p 0 0, .int .i64 e] H4 (fun r => (r = p ∨ ¬ B r) ∨ H.length ≤ r) fun v H' => v = .tuple [] ∧ Rd B p H' s (failM e y) most := fun {e} => (fail_rd hB4 hBp hR4).use (fun r h => .inl (.inl h)) fun v H' q _ _ => q
      unfold matchE
      by_cases c3 : y.err = 0
      · have g1 := ageOk_at hP4
        obtain ⟨w4, hw4a, hw4⟩ := hR4
        have hww : w4 = w := by
          rw [hP4] at hw4a
          simp only [rdBlk, rcs, Option.some.injEq, ABlk.cells.injEq, List.cons.injEq] at hw4a
          exact hw4a.2.2.2.2.2.1.symm
        subst hww
        have hlen := hw4.sl.lenB
        have a3 : abin .sub (.int .i64 (most : Int)) (.int .i64 (y.out.length : Int)) = some (.int .i64 ((most - y.out.length : Nat) : Int)) := by
          rw [abin_sub, i64_id (by omega) (by omega)]; congr 2; omega
        rw [if_neg (by simp [c3])]
        by_cases c4 : y.out.length < e1' + y1
        · simp (config := {contextual := true, implicitDefEqProofs := false}) (disch := omega) [c3, g1, rd2 hP4, hlen, c4, show (y.out.length : Int) < ((e1' + y1 : Nat) : Int) by omega, -abin_add, -abin_sub, -Int.natCast_add]
          refine call1_of hfail (fun r h => .inl h) fun v H' q hl hf => ?_
          obtain ⟨rfl, q⟩ := q
          simpa using q
        · by_cases c5 : most < y.out.length + len
          · simp (config := {contextual := true, implicitDefEqProofs := false}) (disch := omega) [c3, g1, rd2 hP4, rd3 hP4, hlen, c4, c5, a3, show ¬ (y.out.length : Int) < ((e1' + y1 : Nat) : Int) by omega, show ((most - y.out.length : Nat) : Int) < (len : Int) by omega, -abin_add, -abin_sub, -Int.natCast_add]
            refine call1_of hfail (fun r h => .inl h) fun v H' q hl hf => ?_
            obtain ⟨rfl, q⟩ := q
            simpa using q
          · simp (config := {contextual := true, implicitDefEqProofs := false}) (disch := omega) [c3, g1, rd2 hP4, rd3 hP4, hlen, c4, c5, a3, show ¬ (y.out.length : Int) < ((e1' + y1 : Nat) : Int) by omega, show ¬ ((most - y.out.length : Nat) : Int) < (len : Int) by omega, -abin_add, -abin_sub, -Int.natCast_add]
            generalize hdist : e1' + y1 = dist at *
            refine vc_loop (inv62 B p s most y dist len H.length) len ⟨0, y.out, by omega, by omega, ⟨_, hP4, hw4⟩, by simp, by simp, by omega, by simp, by simp, by simp, by simp⟩ ?_
            rintro n env H5 ⟨i, o, hi5, rfl, ⟨w5, hP5, hw5⟩, ho5, hc5, hl5, e0, e10, e70, e71⟩
            by_cases hlt : i < len
            · have g5 := ageOk_at hP5
              have hlen5 := hw5.sl.lenB
              simp only [] at hlen5
              have a4 : abin .sub (.int .i64 (o.length : Int)) (.int .i64 (dist : Int)) = some (.int .i64 ((o.length - dist : Nat) : Int)) := by
                rw [abin_sub, i64_id (by omega) (by omega)]; congr 2; omega
              have hix := hw5.sl.idxB (k := .i64) (n := o.length - dist) (by simp only []; omega)
              have hld := hw5.sl.loadB (i := o.length - dist) (by simp only []; omega)
              simp only [] at hix hld
              have hB5 : ∀ r, B r → r < H5.length := fun r hr => by have := hB r hr; omega
              have hpl5 := hB5 p hBp
              have hw6 : OwnX B (H5 ++ [.cells 0 false 5 [.int .u8 (chr o (o.length - dist)).toNat]]) 5 w5 (bytesOf o) := hw5.keep fun k _ hk => List.getElem?_append_left hk
              have hp6 : (H5 ++ [.cells 0 false 5 [.int .u8 (chr o (o.length - dist)).toNat]])[p]? = some (rdBlk s { y with out := o } w5 most) := by rw [List.getElem?_append_left hpl5]; exact hP5
              obtain ⟨w', H7, ha, hw7, hlen7, hfr7⟩ := hw6.append (fun r hr => by have := hB5 r hr; rw [List.length_append]; omega) (x := .slice H5.length 0 0 1 1) (new := bytesOf [chr o (o.length - dist)]) (n := 1) (bytes := 1) (by simp [asrc, bytesOf]) (by simp) (by simp) (by rw [bytesOf_len]; simp [roomLim]; omega)
              rw [← bytesOf_app] at hw7
              rw [List.length_append] at hlen7
              have hp7 : H7[p]? = some (rdBlk s { y with out := o } w5 most) := by rw [hfr7 p hBp]; exact hp6
              have hpl7 : p < H7.length := (List.getElem?_eq_some_iff.1 hp7).1
              have s1 := wr2 hp7 hw7.one
              have g7 := ageOk_at hp7
              simp (config := {contextual := true, implicitDefEqProofs := false}) (disch := omega) [e0, e10, e70, e71, hlt, g5, rd2 hP5, hlen5, a4, hix, hld, afill, zrep, -abin_sub]
              refine de1_of ha ?_ ?_
              · intro r ht
                have ht2 : appTarget w5 r := by simpa using ht
                exact ⟨.inl (.inr (hw5.target ht2)), by simp [SOp.reads]⟩
              simp (config := {contextual := true, implicitDefEqProofs := false}) (disch := omega) [e0, e10, e70, e71, g7, s1, hw7.known, hw7.cells, i64_id, unoOk]
              refine again_iff (len - (i + 1)) (by omega) ⟨i + 1, o ++ [chr o (o.length - dist)], hlt, rfl, Rd.set (t' := { y with out := o ++ [chr o (o.length - dist)] }) hw7 hBp hpl7, by simp; omega, ?_, by rw [List.length_set]; omega, by simp [e0], by simp [e10], by simp [e70], by simp⟩
              rw [hc5, show len - i = (len - (i + 1)) + 1 by omega, copyN]
            · simp (config := {contextual := true, implicitDefEqProofs := false}) (disch := omega) [e0, e10, e70, e71, hlt]
              rw [hc5, show len - i = 0 by omega, copyN, ← c3]
              exact ⟨w5, hP5, hw5⟩
      · simp (config := {contextual := true, implicitDefEqProofs := false}) (disch := omega) [c3]
        exact hR4
    · rw [matchD, if_pos c2]
      simp (config := {contextual := true, implicitDefEqProofs := false}) (disch := omega) [c2]
      exact Rd.keep hw hP3 ho3 hF3' hBp
end
end Go.Proofs.Ytdknddicpdhkcaa.Ab

/- Inflate: the data of a block. Conditions: none; for the statements about layers 46 and 47. -/
namespace Go.Proofs.Ytdknddicpdhkcaa.Ab
set_option linter.unusedVariables false
set_option linter.unusedSimpArgs false

theorem copyN_len : ∀ (n : Nat) (o : List UInt8) (d : Nat), (copyN o d n).length = o.length + n
  | 0, o, d => rfl
  | n + 1, o, d => by rw [copyN, copyN_len n]; simp; omega
def dataM (s : List UInt8) (most : Nat) (ll dl : List Int) : Nat → St → St
  | 0, t => t
  | F + 1, t =>
    if t.err ≠ 0 then t
    else if (symG s ll t).2.err ≠ 0 ∨ (symG s ll t).1 = 256 then (symG s ll t).2
    else dataM s most ll dl F (if (symG s ll t).1 < 256 then putM most (UInt8.ofNat (symG s ll t).1.toNat) (symG s ll t).2
      else if 285 < (symG s ll t).1 then failM 4 (symG s ll t).2
      else matchM s most (symG s ll t).1.toNat dl (symG s ll t).2)

theorem putM_facts (s : List UInt8) {most : Nat} {c : UInt8} {t : St} (ho : t.out.length ≤ most) : (putM most c t).at' = t.at' ∧ (putM most c t).out.length ≤ most := by
  unfold putM; split
  · simp [ho]
  · simp; omega
theorem matchE_facts {most len dist : Nat} {t : St} (ho : t.out.length ≤ most) : (matchE most len dist t).at' = t.at' ∧ (matchE most len dist t).out.length ≤ most := by
  unfold matchE; split
  · simp [ho]
  · split
    · simp [ho]
    · split
      · simp [ho]
      · simp [copyN_len]; omega
theorem late_facts (d : Int × St) : (late d).at' = d.2.at' ∧ (late d).out = d.2.out := by
  unfold late; split <;> simp
theorem matchM_facts (s : List UInt8) {most k : Nat} {dl : List Int} {t : St} (ho : t.out.length ≤ most) (hat : t.at' ≤ 8 * s.length) : t.at' ≤ (matchM s most k dl t).at' ∧ (matchM s most k dl t).at' ≤ 8 * s.length ∧ (matchM s most k dl t).out.length ≤ most := by
  have h1 := bitsM_at s (spanG k).2 t hat
  have h2 := symG_facts s dl (bitsM s (spanG k).2 t).2 h1.1
  have h3 := late_facts (symG s dl (bitsM s (spanG k).2 t).2)
  have ho3 : (late (symG s dl (bitsM s (spanG k).2 t).2)).out.length ≤ most := by rw [h3.2, h2.2.1, bitsM_out]; exact ho
  unfold matchM matchD
  split
  · exact ⟨by omega, by omega, ho3⟩
  · have h4 := bitsM_at s (reachG (symG s dl (bitsM s (spanG k).2 t).2).1.toNat).2 (late (symG s dl (bitsM s (spanG k).2 t).2)) (by omega)
    have h5 := matchE_facts (most := most) (len := (spanG k).1 + (bitsM s (spanG k).2 t).1) (dist := (reachG (symG s dl (bitsM s (spanG k).2 t).2).1.toNat).1 + (bitsM s (reachG (symG s dl (bitsM s (spanG k).2 t).2).1.toNat).2 (late (symG s dl (bitsM s (spanG k).2 t).2))).1)
      (t := (bitsM s (reachG (symG s dl (bitsM s (spanG k).2 t).2).1.toNat).2 (late (symG s dl (bitsM s (spanG k).2 t).2))).2) (by rw [bitsM_out]; exact ho3)
    exact ⟨by omega, by omega, h5.2⟩

section
variable {B : Nat → Prop} {s : List UInt8} {t : St} {w lw dw : AVal} {most p : Nat} {H : AHeap} {ll dl : List Int} {fp : Nat → Prop}

def inv49 (B : Nat → Prop) (p : Nat) (s : List UInt8) (most : Nat) (ll dl : List Int) (R : St) (H : AHeap) (K1 K2 : ABlk) (n : Nat) (env : Env) (H' : AHeap) : Prop :=
  ∃ (t : St), Rd (fun r => B r ∨ r = H.length ∨ r = H.length + 1) p H' s t most ∧ t.at' ≤ 8 * s.length ∧ t.out.length ≤ most ∧ R = dataM s most ll dl n t ∧ 8 * s.length - t.at' < n ∧ env 0 = .ptr p 0 0 ∧ env 4 = .ptr H.length 0 0 ∧ env 5 = .ptr (H.length + 1) 0 0 ∧
    H'[H.length]? = some K1 ∧ H'[H.length + 1]? = some K2 ∧ H.length + 2 ≤ H'.length ∧ ∀ r, B r → r ≠ p → H'[r]? = H[r]?

theorem data_ok (hB : ∀ r, B r → r < H.length) (hBp : B p) (h : Rd B p H s t most) (hs : s.length ≤ 2 ^ 50) (hat : t.at' ≤ 8 * s.length) (hmost : most ≤ 2 ^ 40) (hout : t.out.length ≤ most) {F : Nat} (hF : 8 * s.length - t.at' < F)
    (hi : Ints H lw (ordG ll 15)) (hlw : ∀ r, appTarget lw r → B r ∧ r ≠ p) (hl : ll.length ≤ 1000) (hid : Ints H dw (ordG dl 15)) (hdw : ∀ r, appTarget dw r → B r ∧ r ≠ p) (hdl : dl.length ≤ 1000) :
    ACall Try.prog 49 [.ptr p 0 0, .agg (bookCells ll lw (mostG ll 15)), .agg (bookCells dl dw (mostG dl 15))] H (fun r => r = p ∨ ¬ B r) fun v H' => v = .tuple [] ∧ Rd B p H' s (dataM s most ll dl F t) most := by
  obtain ⟨w, hp, hw⟩ := h
  refine acall_of hmix Try.func49 x49_ok (by simp) ?_
  have hpl := hB _ hBp
  simp
  have hw1 : OwnX (fun r => B r ∨ r = H.length ∨ r = H.length + 1) (H ++ [.cells 0 false 69 (bookCells ll lw (mostG ll 15)), .cells 0 false 69 (bookCells dl dw (mostG dl 15))]) 5 w (bytesOf t.out) := by
    have : OwnX (fun r => B r ∨ r = H.length ∨ r = H.length + 1) H 5 w (bytesOf t.out) := hw.sub fun r h1 h2 => by rcases h2 with h2 | h2 | h2 <;> first | exact h2 | omega
    exact this.keep fun k _ hk => List.getElem?_append_left hk
  refine vc_loop (inv49 B p s most ll dl (dataM s most ll dl F t) H (.cells 0 false 69 (bookCells ll lw (mostG ll 15))) (.cells 0 false 69 (bookCells dl dw (mostG dl 15)))) F
    ⟨t, ⟨w, by rw [List.getElem?_append_left hpl]; exact hp, hw1⟩, hat, hout, rfl, hF, by simp, by simp, by simp, by simp, by simp, by simp, fun r hr _ => List.getElem?_append_left (hB r hr)⟩ ?_
  rintro n env H1 ⟨t1, hR1, hat1, hout1, hdat, hn, e0, e4, e5, hK1, hK2, hl1, hF1⟩
  have hB1 : ∀ r, (B r ∨ r = H.length ∨ r = H.length + 1) → r < H1.length := by
    rintro r (h | h | h)
    · have := hB r h; omega
    · omega
    · omega
  have hw2B : ∀ {H2 : AHeap} {t2 : St}, Rd (fun r => B r ∨ r = H.length ∨ r = H.length + 1) p H2 s t2 most → Rd B p H2 s t2 most := by
    rintro H2 t2 ⟨w2, h1, h2⟩
    exact ⟨w2, h1, h2.sub fun r _ h => .inl h⟩
  have hne1 : H.length ≠ p := by omega
  have hne2 : H.length + 1 ≠ p := by omega
  obtain ⟨w1, hp1, hw1⟩ := id hR1
  have hL1 := aloads_at hK1 (o := 0) (n := 18)
  simp at hL1
  have hL2 := aloads_at hK2 (o := 0) (n := 18)
  simp at hL2
  have gK1 := ageOk_at hK1
  have gK2 := ageOk_at hK2
  obtain ⟨n', rfl⟩ : ∃ n', n = n' + 1 := ⟨n - 1, by omega⟩
  rw [dataM] at hdat
  simp (config := {contextual := true, implicitDefEqProofs := false}) (disch := omega) [e0, e4, e5]
  refine call1_eq (ok_ok hp1) ?_
  by_cases c1 : t1.err = 0
  · rw [if_neg (by simp [c1])] at hdat
    simp (config := {contextual := true, implicitDefEqProofs := false}) (disch := omega) [e0, e4, e5, c1, hL1]
    have hi1 : Ints H1 lw (ordG ll 15) := hi.keepAt fun r hr _ => hF1 r (hlw r hr).1 (hlw r hr).2
    have hid1 : Ints H1 dw (ordG dl 15) := hid.keepAt fun r hr _ => hF1 r (hdw r hr).1 (hdw r hr).2
    refine call1_of (sym_ok hp1 hs hat1 hi1 (fun c => (hlw p c).2 rfl) hl) (fun r h => .inl (.inl (.inl h))) ?_
    rintro v H2 ⟨rfl, hp2⟩ hl2 hF2
    have hsf := symG_facts s ll t1 hat1
    generalize hd2 : symG s ll t1 = dd at *
    obtain ⟨k, t2⟩ := dd
    simp only [] at *
    have hR2 : Rd (fun r => B r ∨ r = H.length ∨ r = H.length + 1) p H2 s t2 most := Rd.keep hw1 hp2 hsf.2.1 (fun r h1 h2 => hF2 r h2 h1) (.inl hBp)
    have hB2 : ∀ r, (B r ∨ r = H.length ∨ r = H.length + 1) → r < H2.length := fun r hr => by have := hB1 r hr; omega
    have hK12 : H2[H.length]? = some (.cells 0 false 69 (bookCells ll lw (mostG ll 15))) := by rw [hF2 _ (by omega) hne1]; exact hK1
    have hK22 : H2[H.length + 1]? = some (.cells 0 false 69 (bookCells dl dw (mostG dl 15))) := by rw [hF2 _ (by omega) hne2]; exact hK2
    have hF2' : ∀ r, B r → r ≠ p → H2[r]? = H[r]? := fun r h1 h2 => by rw [hF2 r (hB1 r (.inl h1)) h2, hF1 r h1 h2]
    have ho2 : t2.out.length ≤ most := by rw [hsf.2.1]; exact hout1
    have hL22 := aloads_at hK22 (o := 0) (n := 18)
    simp at hL22
    simp (config := {contextual := true, implicitDefEqProofs := false}) (disch := omega) [e0, e4, e5, c1]
    refine call1_eq (ok_ok hp2) ?_
    by_cases c2 : t2.err = 0
    · have hsa := hsf.2.2.2.2 c2
      by_cases c3 : k = 256
      · rw [if_pos (.inr c3)] at hdat
        simp (config := {contextual := true, implicitDefEqProofs := false}) (disch := omega) [e0, e4, e5, c1, c2, c3]
        rw [hdat]; exact hw2B hR2
      · rw [if_neg (by simp [c2, c3])] at hdat
        -- the state behind the call
        have fin : ∀ (t3 : St) (H3 : AHeap), Rd (fun r => B r ∨ r = H.length ∨ r = H.length + 1) p H3 s t3 most → t2.at' ≤ t3.at' → t3.at' ≤ 8 * s.length → t3.out.length ≤ most → dataM s most ll dl (n' + 1) t = dataM s most ll dl (n' + 1) t →
            dataM s most ll dl F t = dataM s most ll dl n' t3 → H2.length ≤ H3.length → (∀ r, r < H2.length → ¬ (r = p ∨ ¬ (B r ∨ r = H.length ∨ r = H.length + 1)) → H3[r]? = H2[r]?) → ∀ env' : Env, env' 0 = .ptr p 0 0 → env' 4 = .ptr H.length 0 0 → env' 5 = .ptr (H.length + 1) 0 0 →
            again (inv49 B p s most ll dl (dataM s most ll dl F t) H (.cells 0 false 69 (bookCells ll lw (mostG ll 15))) (.cells 0 false 69 (bookCells dl dw (mostG dl 15)))) (n' + 1) env' H3 := by
          intro t3 H3 hR3 h1 h2 h3 _ h4 h5 h6 env' f0 f4 f5
          refine again_iff n' (by omega) ⟨t3, hR3, h2, h3, h4, by omega, f0, f4, f5, ?_, ?_, by omega, ?_⟩
          · rw [h6 _ (by omega) (by simp [hne1])]; exact hK12
          · rw [h6 _ (by omega) (by simp [hne2])]; exact hK22
          · intro r hr hrp
            rw [h6 r (hB2 r (.inl hr)) (by simp [hrp, hr])]; exact hF2' r hr hrp
        have hfp : ∀ r, (r = p ∨ ¬ (B r ∨ r = H.length ∨ r = H.length + 1)) → ((r = p ∨ ¬ B r) ∨ H.length ≤ r) ∨ H2.length ≤ r := by
          rintro r (h | h)
          · exact .inl (.inl (.inl h))
          · exact .inl (.inl (.inr fun c => h (.inl c)))
        have hkn : k = (k.toNat : Int) := by omega
        by_cases c4 : k < 256
        · rw [if_pos c4] at hdat
          have hc : ((UInt8.ofNat k.toNat).toNat : Int) = IntKind.u8.wrap k := by
            have h2 : k.toNat < 256 := by omega
            have h3 : (UInt8.ofNat k.toNat).toNat = k.toNat := by simp [Nat.mod_eq_of_lt h2]
            rw [h3]
            have h5 := u8_nat (n := k.toNat) (by omega)
            rw [← hkn] at h5
            rw [h5]; omega
          have hpf := putM_facts s (c := UInt8.ofNat k.toNat) ho2
          simp (config := {contextual := true, implicitDefEqProofs := false}) (disch := omega) [e0, e4, e5, c1, c2, c3, c4]
          have hput := put_ok hB2 (.inl hBp) hR2 c2 hmost (c := UInt8.ofNat k.toNat)
          rw [hc] at hput
          refine call1_of hput hfp ?_
          rintro v H3 ⟨rfl, hR3⟩ hl3 hF3
          simp (config := {contextual := true, implicitDefEqProofs := false}) (disch := omega) [e0, e4, e5]
          exact fin _ H3 hR3 (by omega) (by omega) hpf.2 rfl hdat hl3 hF3 _ (by simp [e0]) (by simp [e4]) (by simp [e5])
        · rw [if_neg c4] at hdat
          by_cases c5 : 285 < k
          · rw [if_pos c5] at hdat
            simp (config := {contextual := true, implicitDefEqProofs := false}) (disch := omega) [e0, e4, e5, c1, c2, c3, c4, c5]
            refine call1_of (fail_rd hB2 (.inl hBp) hR2) hfp ?_
            rintro v H3 ⟨rfl, hR3⟩ hl3 hF3
            simp (config := {contextual := true, implicitDefEqProofs := false}) (disch := omega) [e0, e4, e5]
            exact fin _ H3 hR3 (by simp) (by simp; omega) (by simpa using ho2) rfl hdat hl3 hF3 _ (by simp [e0]) (by simp [e4]) (by simp [e5])
          · rw [if_neg c5] at hdat
            have hmf := matchM_facts s (k := k.toNat) (dl := dl) ho2 hsf.2.2.1
            simp (config := {contextual := true, implicitDefEqProofs := false}) (disch := omega) [e0, e4, e5, c1, c2, c3, c4, c5, hL22]
            have hid2 : Ints H2 dw (ordG dl 15) := hid.keepAt fun r hr _ => hF2' r (hdw r hr).1 (hdw r hr).2
            have hm := match_ok hB2 (.inl hBp) hR2 c2 hs hsf.2.2.1 hmost ho2 (k := k.toNat) (by omega) (by omega) hid2 (fun r hr => ⟨.inl (hdw r hr).1, (hdw r hr).2⟩) hdl
            rw [← hkn] at hm
            refine call1_of hm hfp ?_
            rintro v H3 ⟨rfl, hR3⟩ hl3 hF3
            simp (config := {contextual := true, implicitDefEqProofs := false}) (disch := omega) [e0, e4, e5]
            exact fin _ H3 hR3 hmf.1 hmf.2.1 hmf.2.2 rfl hdat hl3 hF3 _ (by simp [e0]) (by simp [e4]) (by simp [e5])
    · rw [if_pos (.inl c2)] at hdat
      simp (config := {contextual := true, implicitDefEqProofs := false}) (disch := omega) [e0, e4, e5, c1, c2]
      rw [hdat]; exact hw2B hR2
  · rw [if_pos c1] at hdat
    simp (config := {contextual := true, implicitDefEqProofs := false}) (disch := omega) [e0, e4, e5, c1]
    rw [hdat]; exact hw2B hR1
end
end Go.Proofs.Ytdknddicpdhkcaa.Ab

/- Inflate: the reading of code lengths. Conditions: none; for the statements about layers 46 and 47. -/
namespace Go.Proofs.Ytdknddicpdhkcaa.Ab
set_option linter.unusedVariables false
set_option linter.unusedSimpArgs false

def lenM (s : List UInt8) (bl : List Int) (n : Nat) : Nat → List Int → St → List Int × St
  | 0, l, t => (l, t)
  | F + 1, l, t =>
    if l.length < n ∧ t.err = 0 then
      if (symG s bl t).1 = 16 then
        if l = [] then ([], failM 4 (symG s bl t).2)
        else lenM s bl n F (l ++ List.replicate (3 + (bitsM s 2 (symG s bl t).2).1) (l.getD (l.length - 1) 0)) (bitsM s 2 (symG s bl t).2).2
      else if (symG s bl t).1 = 17 then lenM s bl n F (l ++ List.replicate (3 + (bitsM s 3 (symG s bl t).2).1) 0) (bitsM s 3 (symG s bl t).2).2
      else if (symG s bl t).1 = 18 then lenM s bl n F (l ++ List.replicate (11 + (bitsM s 7 (symG s bl t).2).1) 0) (bitsM s 7 (symG s bl t).2).2
      else lenM s bl n F (l ++ [(symG s bl t).1]) (symG s bl t).2
    else (l, t)
def lenF (s : List UInt8) (bl : List Int) (n : Nat) (t : St) : List Int × St :=
  ((lenM s bl n (n + 1) [] t).1, if n < (lenM s bl n (n + 1) [] t).1.length then failM 4 (lenM s bl n (n + 1) [] t).2 else (lenM s bl n (n + 1) [] t).2)

def complG (l : List Int) : Prop := sumG l 0 = some 32768
instance (l : List Int) : Decidable (complG l) := inferInstanceAs (Decidable (_ = _))
def fewG (l : List Int) : Prop := sumG l 0 = some 0 ∨ sumG l 0 = some 16384 ∧ cnts l 1 = 1
instance (l : List Int) : Decidable (fewG l) := inferInstanceAs (Decidable (_ ∨ _))

section
variable {B : Nat → Prop} {s : List UInt8} {t : St} {w bw v : AVal} {most p : Nat} {H : AHeap} {l bl : List Int} {fp : Nat → Prop}

theorem compl_raw (h : Ints H v l) (hl : l.length ≤ 1000) {o : Option Int} (hs : sumG l 0 = o) : ACall Try.prog 64 [v] H fp fun v' H' => v' = .bool (decide (o = some 32768)) ∧ H' = H := by
  have hsum := sum_ok l v H (fun r => fp r ∨ H.length ≤ r) h (by omega)
  cases o with
  | none =>
    have hr : sumR l = .tuple [.int .i64 0, .bool false] := by simp [sumR, hs]
    rw [hr] at hsum
    refine acall_of hmix Try.func64 x64_ok (by simp) ?_
    simp
    refine call1_eq hsum ?_
    simp
  | some n =>
    have hr : sumR l = .tuple [.int .i64 n, .bool true] := by simp [sumR, hs]
    rw [hr] at hsum
    refine acall_of hmix Try.func64 x64_ok (by simp) ?_
    simp
    refine call1_eq hsum ?_
    simp
theorem compl_ok (h : Ints H v l) (hl : l.length ≤ 1000) : ACall Try.prog 64 [v] H fp fun v' H' => v' = .bool (decide (complG l)) ∧ H' = H :=
  (compl_raw h hl rfl).mono fun v' H' q => ⟨q.1, q.2⟩
theorem few_raw (h : Ints H v l) (hl : l.length ≤ 1000) (hin : ∀ k ∈ l, 0 ≤ k ∧ k ≤ 15) {o : Option Int} (hs : sumG l 0 = o) : ACall Try.prog 66 [v] H fp fun v' H' => v' = .bool (decide (o = some 0 ∨ o = some 16384 ∧ cnts l 1 = 1)) ∧ H' = H := by
  have hsum := sum_ok l v H (fun r => fp r ∨ H.length ≤ r) h (by omega)
  cases o with
  | none =>
    have hr : sumR l = .tuple [.int .i64 0, .bool false] := by simp [sumR, hs]
    rw [hr] at hsum
    refine acall_of hmix Try.func66 x66_ok (by simp) ?_
    simp
    refine call1_eq hsum ?_
    simp
  | some n =>
    have hr : sumR l = .tuple [.int .i64 n, .bool true] := by simp [sumR, hs]
    rw [hr] at hsum
    refine acall_of hmix Try.func66 x66_ok (by simp) ?_
    simp
    refine call1_eq hsum ?_
    by_cases c1 : n = 0
    · simp [c1]
    · by_cases c2 : n = 16384
      · simp [c2]
        refine call1_eq (counts_ok l v H _ h (by omega) hin) ?_
        by_cases c3 : cnts l 1 = 1 <;> simp [c3]
      · simp [c1, c2]
theorem few_ok (h : Ints H v l) (hl : l.length ≤ 1000) (hin : ∀ k ∈ l, 0 ≤ k ∧ k ≤ 15) : ACall Try.prog 66 [v] H fp fun v' H' => v' = .bool (decide (fewG l)) ∧ H' = H :=
  (few_raw h hl hin rfl).mono fun v' H' q => ⟨q.1, q.2⟩

abbrev lp65 : XCode := (.seq (.ops [⟨some 52, none, (.s (.bin .lss (.t 51) (.t 50)))⟩]) (.seq (.cond (.t 52) .skip (.exit 3)) (.seq (.block 4 (.ops [⟨some 53, none, (.s (.move (.t 7)))⟩, ⟨some 54, none, (.s (.move (.t 9)))⟩, ⟨some 55, none, (.e (.buildSlice 3 1 1 [(.int .i64 0)] [(0, 1, (.t 54))]))⟩, ⟨some 56, none, (.e (.append 1 8 3 (.t 53) (.t 55)))⟩, ⟨some 7, none, (.s (.move (.t 56)))⟩])) (.ops [⟨some 57, none, (.s (.bin .add (.t 51) (.c (.int .i64 1))))⟩, ⟨some 51, none, (.s (.move (.t 57)))⟩]))))

def inv65b (m : Nat) (H : AHeap) (l : List Int) (value : Int) (times : Nat) (env : Env) (n : Nat) (env' : Env) (H' : AHeap) : Prop :=
  ∃ (i : Nat) (lv : AVal), i ≤ times ∧ n = times - i ∧ Own1 m H' 3 lv ((l ++ List.replicate i value).map (.int .i64)) ∧ (∀ k, k < m → H'[k]? = H[k]?) ∧ H.length ≤ H'.length ∧ env' 7 = lv ∧ env' 9 = .int .i64 value ∧ env' 50 = .int .i64 times ∧ env' 51 = .int .i64 i ∧ ∀ j, j < 7 → env' j = env j

theorem inner65 {Wr : Nat → Prop} {Q : XExit → Env → AHeap → Prop} {env : Env} {m : Nat} {lv : AVal} {value : Int} {times : Nat} (hW : ∀ r, m ≤ r → Wr r) (hm : m ≤ H.length) (hlv : Own1 m H 3 lv (l.map (.int .i64))) (hl : l.length ≤ 2000) (ht : times ≤ 2000)
    (e7 : env 7 = lv) (e9 : env 9 = .int .i64 value) (e50 : env 50 = .int .i64 times) (e51 : env 51 = .int .i64 0)
    (hk : ∀ env' H' lv', Own1 m H' 3 lv' ((l ++ List.replicate times value).map (.int .i64)) → (∀ k, k < m → H'[k]? = H[k]?) → H.length ≤ H'.length → env' 7 = lv' → (∀ j, j < 7 → env' j = env j) → Q (.exit 3) env' H') :
    vc (ACall Try.prog) Wr (.loop lp65) Q env H := by
  refine vc_loop (inv65b m H l value times env) times ⟨0, lv, by omega, by omega, by simpa using hlv, fun k _ => rfl, Nat.le_refl _, e7, e9, e50, by simpa using e51, fun j _ => rfl⟩ ?_
  rintro n env1 H1 ⟨i, lv1, hi, rfl, hlv1, hf1, hl1, f7, f9, f50, f51, fj⟩
  by_cases hlt : i < times
  · obtain ⟨w', H2, ha, hw2, hlen2, hfr2⟩ := (hlv1.app [.cells 0 false 3 [.int .i64 value]]).append (x := .slice H1.length 0 0 1 1) (a := .int .i64 value) (bytes := 8) (by rw [List.length_append]; omega) (by simp [asrc]) rfl (by simp [roomLim]; omega)
    rw [List.length_append] at hlen2
    simp (config := {contextual := true, implicitDefEqProofs := false}) (disch := omega) [f7, f9, f50, f51, hlt, afill, zrep]
    refine e1_of ha ?_ ?_
    · intro r ht2
      exact hW r (hlv1.own.target (by simpa [f7] using ht2))
    simp (config := {contextual := true, implicitDefEqProofs := false}) (disch := omega) [f7, f9, f50, f51, i64_id]
    refine again_iff (times - (i + 1)) (by omega) ⟨i + 1, w', hlt, rfl, ?_, ?_, by omega, by simp, by simp [f9], by simp [f50], by simp, ?_⟩
    · rw [List.replicate_succ', ← List.append_assoc]; simpa using hw2
    · intro k hk2
      rw [hfr2 k hk2, List.getElem?_append_left (by omega)]; exact hf1 k hk2
    · intro j hj
      have h1 : ¬ j = 52 := by omega
      have h2 : ¬ j = 53 := by omega
      have h3 : ¬ j = 54 := by omega
      have h4 : ¬ j = 55 := by omega
      have h5 : ¬ j = 56 := by omega
      have h6 : ¬ j = 57 := by omega
      have h7 : ¬ j = 7 := by omega
      have h8 : ¬ j = 51 := by omega
      simp [h1, h2, h3, h4, h5, h6, h7, h8, fj j hj]
  · have hi2 : i = times := by omega
    subst hi2
    simp (config := {contextual := true, implicitDefEqProofs := false}) (disch := omega) [f7, f9, f50, f51]
    refine hk _ _ lv1 hlv1 hf1 hl1 (by simp [f7]) ?_
    intro j hj
    have h1 : ¬ j = 52 := by omega
    simp [h1, fj j hj]

def inv65 (p : Nat) (s : List UInt8) (bl : List Int) (N : Nat) (R : List Int × St) (H : AHeap) (K : ABlk) (w : AVal) (most : Nat) (n : Nat) (env : Env) (H' : AHeap) : Prop :=
  ∃ (l : List Int) (t : St) (lv : AVal), Own1 (H.length + 1) H' 3 lv (l.map (.int .i64)) ∧ l.length ≤ N + 200 ∧ t.at' ≤ 8 * s.length ∧ R = lenM s bl N n l t ∧ N - l.length < n ∧ env 0 = .ptr p 0 0 ∧ env 2 = .int .i64 N ∧ env 4 = .ptr H.length 0 0 ∧ env 7 = lv ∧
    H'[H.length]? = some K ∧ H'[p]? = some (rdBlk s t w most) ∧ H.length + 1 ≤ H'.length ∧ ∀ r, r < H.length → r ≠ p → H'[r]? = H[r]?

theorem lens_ok (hp : H[p]? = some (rdBlk s t w most)) (hs : s.length ≤ 2 ^ 50) (hat : t.at' ≤ 8 * s.length) (hi : Ints H bw (ordG bl 15)) (hbp : ¬ appTarget bw p) (hbl : bl.length ≤ 19) {N : Nat} (hN : N ≤ 400) :
    ACall Try.prog 65 [.ptr p 0 0, .agg (bookCells bl bw (mostG bl 15)), .int .i64 N] H (fun r => r = p) fun v H' => Ints H' v (lenF s bl N t).1 ∧ (∀ r, appTarget v r → H.length ≤ r) ∧ H'[p]? = some (rdBlk s (lenF s bl N t).2 w most) := by
  refine acall_of hmix Try.func65 x65_ok (by simp) ?_
  have hpl := (List.getElem?_eq_some_iff.1 hp).1
  generalize hRR : lenM s bl N (N + 1) [] t = R
  have hFF : lenF s bl N t = (R.1, if N < R.1.length then failM 4 R.2 else R.2) := by rw [lenF, hRR]
  rw [hFF]
  simp
  refine vc_loop (inv65 p s bl N R H (.cells 0 false 69 (bookCells bl bw (mostG bl 15))) w most) (N + 1) ⟨[], t, .nilslice, .inl ⟨rfl, rfl⟩, by simp, hat, hRR.symm, by simp, by simp, by simp, by simp, by simp, by simp, by rw [List.getElem?_append_left hpl]; exact hp, by simp, fun r hr _ => List.getElem?_append_left hr⟩ ?_
  rintro n env H1 ⟨l, t1, lv, hlv, hll, hat1, hR, hn, e0, e2, e4, e7, hK, hp1, hl1, hF1⟩
  obtain ⟨n', rfl⟩ : ∃ n', n = n' + 1 := ⟨n - 1, by omega⟩
  rw [lenM] at hR
  have hlen := hlv.own.sl.len
  simp at hlen
  have gK := ageOk_at hK
  have hL := aloads_at hK (o := 0) (n := 18)
  simp at hL
  have hne : H.length ≠ p := by omega
  by_cases c1 : l.length < N
  · by_cases c2 : t1.err = 0
    · rw [if_pos ⟨c1, c2⟩] at hR
      simp (config := {contextual := true, implicitDefEqProofs := false}) (disch := omega) [e0, e2, e4, e7, hlen, c1]
      refine call1_eq (ok_ok hp1) ?_
      simp (config := {contextual := true, implicitDefEqProofs := false}) (disch := omega) [e0, e2, e4, e7, c1, c2, hL]
      have hi1 : Ints H1 bw (ordG bl 15) := hi.keepAt fun r hr hrl => hF1 r hrl (fun c => hbp (c ▸ hr))
      refine call1_of (sym_ok hp1 hs hat1 hi1 hbp (by omega)) (fun r h => .inl (.inl h)) ?_
      rintro v H2 ⟨rfl, hp2⟩ hl2 hF2
      have hsf := symG_facts s bl t1 hat1
      generalize hd2 : symG s bl t1 = dd at *
      obtain ⟨k, t2⟩ := dd
      simp only [] at *
      have hlv2 : Own1 (H.length + 1) H2 3 lv (l.map (.int .i64)) := hlv.keep fun k h1 h2 => hF2 k h2 (by omega)
      have hK2 : H2[H.length]? = some (.cells 0 false 69 (bookCells bl bw (mostG bl 15))) := by rw [hF2 _ (by omega) hne]; exact hK
      have hF2' : ∀ r, r < H.length → r ≠ p → H2[r]? = H[r]? := fun r h1 h2 => by rw [hF2 r (by omega) h2, hF1 r h1 h2]
      -- behind the choice: the values are appended
      have fin : ∀ (t3 : St) (value : Int) (times : Nat), t3.at' ≤ 8 * s.length → 1 ≤ times → times ≤ 150 → R = lenM s bl N n' (l ++ List.replicate times value) t3 →
          ∀ (env' : Env) (H4 : AHeap) (lv' : AVal), Own1 (H.length + 1) H4 3 lv' ((l ++ List.replicate times value).map (.int .i64)) → (∀ k, k < H.length + 1 → H4[k]? = (H2.set p (rdBlk s t3 w most))[k]?) → (H2.set p (rdBlk s t3 w most)).length ≤ H4.length → env' 7 = lv' → env' 0 = .ptr p 0 0 → env' 2 = .int .i64 N → env' 4 = .ptr H.length 0 0 →
          again (inv65 p s bl N R H (.cells 0 false 69 (bookCells bl bw (mostG bl 15))) w most) (n' + 1) env' H4 := by
        intro t3 value times h1 ht0 ht1 h2 env' H4 lv' h3 h4 h5 f7 f0 f2 f4
        rw [List.length_set] at h5
        refine again_iff n' (by omega) ⟨l ++ List.replicate times value, t3, lv', h3, by simp; omega, h1, h2, by simp; omega, f0, f2, f4, f7, ?_, ?_, by omega, ?_⟩
        · rw [h4 _ (by omega), List.getElem?_set_ne (by omega)]; exact hK2
        · rw [h4 _ (by omega), List.getElem?_set_self (by omega)]
        · intro r h6 h7
          rw [h4 r (by omega), List.getElem?_set_ne (by omega)]; exact hF2' r h6 h7
      have hbits : ∀ (N' : Nat), N' ≤ 30 → ACall Try.prog 47 [.ptr p 0 0, .int .i64 N'] H2 (fun r => r = p ∨ H.length ≤ r) fun v H' => v = .int .i64 ((bitsM s N' t2).1 : Nat) ∧ H' = H2.set p (rdBlk s (bitsM s N' t2).2 w most) := fun N' h =>
        (bits_ok hp2 h hs hsf.2.2.1).use (fun r h => .inl (.inl h)) fun v H' q _ _ => q
      have hlv3 : ∀ t3, Own1 (H.length + 1) (H2.set p (rdBlk s t3 w most)) 3 lv (l.map (.int .i64)) := fun t3 => hlv2.keep fun k h1 h2 => List.getElem?_set_ne (by omega)
      have hlen2 := hlv2.own.sl.len
      simp at hlen2
      by_cases c3 : k = 16
      · rw [if_pos c3] at hR
        by_cases c4 : l = []
        · rw [if_pos c4] at hR
          have hp3 : ∀ A : ABlk, (H2.set p A)[p]? = some A := fun A => List.getElem?_set_self (by omega)
          simp (config := {contextual := true, implicitDefEqProofs := false}) (disch := omega) [e0, e2, e4, e7, c3, hlen2, c4]
          refine call1_eq ((fail_ok hp2).use (fun r h => Or.inl (Or.inl h)) fun v H' q _ _ => q) ?_
          simp (config := {contextual := true, implicitDefEqProofs := false}) (disch := omega) [hp3, hR]
          exact ⟨.inl ⟨rfl, rfl⟩, fun r h => h.elim⟩
        · rw [if_neg c4] at hR
          have hlp : 0 < l.length := List.length_pos_iff.2 c4
          have hbl2 := bitsM_lt s 2 t2
          have hba := bitsM_at s 2 t2 hsf.2.2.1
          have hix := hlv2.own.sl.idxN (k := .i64) (n := l.length - 1) (by simp; omega)
          have hld := hlv2.own.sl.load (i := l.length - 1) (by simp; omega)
          simp only [List.getElem_map] at hld
          have a1 : abin .sub (.int .i64 (l.length : Int)) (.int .i64 1) = some (.int .i64 ((l.length - 1 : Nat) : Int)) := by
            rw [abin_sub, i64_id (by omega) (by omega)]; congr 2; omega
          have hgd : l[l.length - 1] = l.getD (l.length - 1) 0 := by
            rw [List.getD_eq_getElem?_getD, List.getElem?_eq_getElem (by omega)]; rfl
          have a2 : abin .add (.int .i64 3) (.int .i64 (((bitsM s 2 t2).1 : Nat) : Int)) = some (.int .i64 ((3 + (bitsM s 2 t2).1 : Nat) : Int)) := by
            rw [abin_add, i64_id (by omega) (by omega)]; rfl
          simp (config := {contextual := true, implicitDefEqProofs := false}) (disch := omega) [e0, e2, e4, e7, c3, hlen2, show ¬ (l.length : Int) = 0 by omega, a1, hix, hld, c4, -abin_sub]
          refine dcall1_eq ((bits_ok hp2 (N := 2) (by omega) hs hsf.2.2.1).use (fun r h => ?_) fun v H' q _ _ => q) ?_
          · left
            subst h
            refine ⟨.inl rfl, ?_⟩
            rcases hlv2 with ⟨_, hc⟩ | ⟨r', hr', _, rfl, _⟩
            · exact absurd (List.map_eq_nil_iff.1 hc) c4
            · simp [SOp.reads, AVal.at, e7]
              omega
          simp (config := {contextual := true, implicitDefEqProofs := false}) (disch := omega) [e0, e2, e4, e7, a2, -abin_add, -Int.natCast_add]
          refine inner65 (m := H.length + 1) (fun r h => .inr (by omega)) (by rw [List.length_set]; omega) (hlv3 _) (by omega) (times := 3 + (bitsM s 2 t2).1) (value := l[l.length - 1]) (by omega) (by simp [e7]) (by simp) (by simp) (by simp) ?_
          intro env' H4 lv' g1 g2 g3 g4 g5
          simp
          refine fin _ _ _ hba.1 (by omega) (by omega) (by rw [hgd]; exact hR) _ _ _ g1 g2 g3 g4 ?_ ?_ ?_
          · rw [g5 0 (by omega)]; simp [e0]
          · rw [g5 2 (by omega)]; simp [e2]
          · rw [g5 4 (by omega)]; simp [e4]
      · rw [if_neg c3] at hR
        have tail : ∀ (A : Nat) (z : Int) (N' : Nat), N' ≤ 7 → A ≤ 11 → 1 ≤ A → R = lenM s bl N n' (l ++ List.replicate (A + (bitsM s N' t2).1) 0) (bitsM s N' t2).2 → ∀ (Q : XExit → Env → AHeap → Prop) (env' : Env), env' 0 = .ptr p 0 0 → env' 2 = .int .i64 N → env' 4 = .ptr H.length 0 0 → env' 7 = lv → env' 9 = .int .i64 0 →
            env' 50 = .int .i64 ((A + (bitsM s N' t2).1 : Nat) : Int) → env' 51 = .int .i64 0 → Q (.exit 3) = again (inv65 p s bl N R H (.cells 0 false 69 (bookCells bl bw (mostG bl 15))) w most) (n' + 1) → vc (ACall Try.prog) (fun r => r = p ∨ H.length ≤ r) (.loop lp65) Q env' (H2.set p (rdBlk s (bitsM s N' t2).2 w most)) := by
          intro A z N' h1 h2 h3 h4 Q env' f0 f2 f4 f7 f9 f50 f51 hQ
          have hbl2 := bitsM_lt s N' t2
          have hpw : 2 ^ N' ≤ 2 ^ 7 := Nat.pow_le_pow_right (by omega) h1
          have hba := bitsM_at s N' t2 hsf.2.2.1
          refine inner65 (m := H.length + 1) (fun r h => .inr (by omega)) (by rw [List.length_set]; omega) (hlv3 _) (by omega) (times := A + (bitsM s N' t2).1) (by omega) f7 f9 f50 f51 ?_
          intro env'' H4 lv' g1 g2 g3 g4 g5
          rw [hQ]
          exact fin _ _ _ hba.1 (by omega) (by omega) h4 _ _ _ g1 g2 g3 g4 (by rw [g5 0 (by omega), f0]) (by rw [g5 2 (by omega), f2]) (by rw [g5 4 (by omega), f4])
        by_cases c5 : k = 17
        · rw [if_pos c5] at hR
          have hbl2 := bitsM_lt s 3 t2
          have a2 : abin .add (.int .i64 3) (.int .i64 (((bitsM s 3 t2).1 : Nat) : Int)) = some (.int .i64 ((3 + (bitsM s 3 t2).1 : Nat) : Int)) := by
            rw [abin_add, i64_id (by omega) (by omega)]; rfl
          simp (config := {contextual := true, implicitDefEqProofs := false}) (disch := omega) [e0, e2, e4, e7, c3, c5]
          refine call1_eq ((bits_ok hp2 (N := 3) (by omega) hs hsf.2.2.1).use (fun r h => .inl (.inl h)) fun v H' q _ _ => q) ?_
          simp (config := {contextual := true, implicitDefEqProofs := false}) (disch := omega) [e0, e2, e4, e7, a2, -abin_add, -Int.natCast_add]
          exact tail 3 3 3 (by omega) (by omega) (by omega) hR _ _ (by simp [e0]) (by simp [e2]) (by simp [e4]) (by simp [e7]) (by simp) (by simp) (by simp) (by simp)
        · rw [if_neg c5] at hR
          by_cases c6 : k = 18
          · rw [if_pos c6] at hR
            have hbl2 := bitsM_lt s 7 t2
            have a2 : abin .add (.int .i64 11) (.int .i64 (((bitsM s 7 t2).1 : Nat) : Int)) = some (.int .i64 ((11 + (bitsM s 7 t2).1 : Nat) : Int)) := by
              rw [abin_add, i64_id (by omega) (by omega)]; rfl
            simp (config := {contextual := true, implicitDefEqProofs := false}) (disch := omega) [e0, e2, e4, e7, c3, c5, c6]
            refine call1_eq ((bits_ok hp2 (N := 7) (by omega) hs hsf.2.2.1).use (fun r h => .inl (.inl h)) fun v H' q _ _ => q) ?_
            simp (config := {contextual := true, implicitDefEqProofs := false}) (disch := omega) [e0, e2, e4, e7, a2, -abin_add, -Int.natCast_add]
            exact tail 11 11 7 (by omega) (by omega) (by omega) hR _ _ (by simp [e0]) (by simp [e2]) (by simp [e4]) (by simp [e7]) (by simp) (by simp) (by simp) (by simp)
          · rw [if_neg c6] at hR
            simp (config := {contextual := true, implicitDefEqProofs := false}) (disch := omega) [e0, e2, e4, e7, c3, c5, c6]
            rw [← set_same hp2]
            refine inner65 (m := H.length + 1) (fun r h => .inr (by omega)) (by rw [List.length_set]; omega) (hlv3 _) (by omega) (times := 1) (value := k) (by omega) (by simp [e7]) (by simp) (by simp) (by simp) ?_
            intro env' H4 lv' g1 g2 g3 g4 g5
            simp
            refine fin t2 k 1 hsf.2.2.1 (by omega) (by omega) hR _ _ _ g1 g2 g3 g4 ?_ ?_ ?_
            · rw [g5 0 (by omega)]; simp [e0]
            · rw [g5 2 (by omega)]; simp [e2]
            · rw [g5 4 (by omega)]; simp [e4]
    · rw [if_neg (by simp [c2])] at hR
      simp (config := {contextual := true, implicitDefEqProofs := false}) (disch := omega) [e0, e2, e4, e7, hlen, c1]
      refine call1_eq (ok_ok hp1) ?_
      simp (config := {contextual := true, implicitDefEqProofs := false}) (disch := omega) [e0, e2, e4, e7, c1, c2, hlen, hR, show ¬ (N : Int) < l.length by omega, show ¬ N < l.length by omega]
      first | exact ⟨hlv.own.sl, fun r h => by have := hlv.own.target h; omega, hp1⟩ | exact ⟨hlv.own.sl, fun r h => by have := hlv.own.target h; omega, (List.getElem?_eq_some_iff.1 hp1).2⟩ | exact fun _ => ⟨hlv.own.sl, fun r h => by have := hlv.own.target h; omega, (List.getElem?_eq_some_iff.1 hp1).2⟩
  · rw [if_neg (by simp [c1])] at hR
    by_cases c3 : N < l.length
    · simp (config := {contextual := true, implicitDefEqProofs := false}) (disch := omega) [e0, e2, e4, e7, c1, hlen, hR, show (N : Int) < l.length by omega, c3]
      refine call1_eq ((fail_ok hp1).use (fun r h => Or.inl (Or.inl h)) fun v H' q _ _ => q) ?_
      simp (config := {contextual := true, implicitDefEqProofs := false}) (disch := omega) [e0, e2, e4, e7, c1]
      first | exact ⟨(hlv.keep fun k h1 h2 => List.getElem?_set_ne (by omega)).own.sl, fun r h => by have := hlv.own.target h; omega, List.getElem?_set_self (by omega)⟩ | exact ⟨(hlv.keep fun k h1 h2 => List.getElem?_set_ne (by omega)).own.sl, fun r h => by have := hlv.own.target h; omega⟩
    · simp (config := {contextual := true, implicitDefEqProofs := false}) (disch := omega) [e0, e2, e4, e7, c1, hlen, hR, show ¬ (N : Int) < l.length by omega, c3]
      first | exact ⟨hlv.own.sl, fun r h => by have := hlv.own.target h; omega, hp1⟩ | exact ⟨hlv.own.sl, fun r h => by have := hlv.own.target h; omega, (List.getElem?_eq_some_iff.1 hp1).2⟩ | exact fun _ => ⟨hlv.own.sl, fun r h => by have := hlv.own.target h; omega, (List.getElem?_eq_some_iff.1 hp1).2⟩
end
end Go.Proofs.Ytdknddicpdhkcaa.Ab

/- Inflate: the codes of a dynamic block: what is computed, and lemmas. Conditions: none; for the statements about layers 46 and 47. -/
namespace Go.Proofs.Ytdknddicpdhkcaa.Ab
set_option linter.unusedVariables false
set_option linter.unusedSimpArgs false

def ord19 : List Nat := [16, 17, 18, 0, 8, 7, 9, 6, 10, 5, 11, 4, 12, 3, 13, 2, 14, 1, 15]
def shM (s : List UInt8) (t : St) : Nat → List Int × St
  | 0 => (List.replicate 19 0, t)
  | i + 1 => ((shM s t i).1.set (ord19.getD i 0) (bitsM s 3 (shM s t i).2).1, (bitsM s 3 (shM s t i).2).2)
def dynBad (a b : List Int) : Prop := ¬ complG a ∨ a.getD 256 0 = 0 ∨ (¬ complG b ∧ ¬ fewG b)
instance (a b : List Int) : Decidable (dynBad a b) := inferInstanceAs (Decidable (_ ∨ _))
def dynD (lit : Nat) (r : List Int × St) : (List Int × List Int) × St :=
  if r.2.err ≠ 0 then (([], []), r.2) else ((r.1.take lit, r.1.drop lit), if dynBad (r.1.take lit) (r.1.drop lit) then failM 4 r.2 else r.2)
def dynC (s : List UInt8) (lit dist : Nat) (short : List Int) (t : St) : (List Int × List Int) × St :=
  if t.err ≠ 0 then (([], []), t) else dynD lit (lenF s short (lit + dist) t)
def dynB (s : List UInt8) (lit dist : Nat) (sh : List Int × St) : (List Int × List Int) × St := dynC s lit dist sh.1 (if complG sh.1 then sh.2 else failM 4 sh.2)
def dynM (s : List UInt8) (t : St) : (List Int × List Int) × St :=
  dynB s ((bitsM s 5 t).1 + 257) ((bitsM s 5 (bitsM s 5 t).2).1 + 1) (shM s (if 286 < (bitsM s 5 t).1 + 257 ∨ 30 < (bitsM s 5 (bitsM s 5 t).2).1 + 1 then failM 4 (bitsM s 4 (bitsM s 5 (bitsM s 5 t).2).2).2 else (bitsM s 4 (bitsM s 5 (bitsM s 5 t).2).2).2)
    ((bitsM s 4 (bitsM s 5 (bitsM s 5 t).2).2).1 + 4))

theorem shM_facts (s : List UInt8) (t : St) (hat : t.at' ≤ 8 * s.length) : ∀ i, (shM s t i).1.length = 19 ∧ (∀ k ∈ (shM s t i).1, 0 ≤ k ∧ k ≤ 15) ∧ (shM s t i).2.at' ≤ 8 * s.length ∧ t.at' ≤ (shM s t i).2.at' ∧ (shM s t i).2.out = t.out
  | 0 => by refine ⟨by simp [shM], ?_, by simpa [shM] using hat, by simp [shM], rfl⟩; intro k hk; have := List.eq_of_mem_replicate hk; omega
  | i + 1 => by
    obtain ⟨h1, h2, h3, h4, h5⟩ := shM_facts s t hat i
    have hb := bitsM_at s 3 (shM s t i).2 h3
    have hl := bitsM_lt s 3 (shM s t i).2
    refine ⟨by simp [shM, h1], ?_, hb.1, by simp only [shM]; omega, by simp [shM, h5]⟩
    intro k hk
    rcases List.mem_or_eq_of_mem_set hk with h | h
    · exact h2 k h
    · omega

theorem lenM_facts (s : List UInt8) (bl : List Int) (hbl : bl.length ≤ 19) (N : Nat) : ∀ (F : Nat) (l : List Int) (t : St), N - l.length < F → t.at' ≤ 8 * s.length → (∀ k ∈ l, 0 ≤ k ∧ k ≤ 15) → l.length ≤ N + 200 →
    (∀ k ∈ (lenM s bl N F l t).1, 0 ≤ k ∧ k ≤ 15) ∧ (lenM s bl N F l t).1.length ≤ N + 200 ∧ (lenM s bl N F l t).2.at' ≤ 8 * s.length ∧ t.at' ≤ (lenM s bl N F l t).2.at' ∧ (lenM s bl N F l t).2.out = t.out ∧ ((lenM s bl N F l t).2.err = 0 → N ≤ (lenM s bl N F l t).1.length ∧ t.err = 0)
  | 0, l, t, hF, _, _, _ => by omega
  | F + 1, l, t, hF, hat, hin, hll => by
    have hs := symG_facts s bl t hat
    have hrep : ∀ (v : Int) (n : Nat), 0 ≤ v ∧ v ≤ 15 → ∀ k ∈ l ++ List.replicate n v, 0 ≤ k ∧ k ≤ 15 := by
      intro v n hv k hk
      rcases List.mem_append.1 hk with h | h
      · exact hin k h
      · have := List.eq_of_mem_replicate h; omega
    rw [lenM]
    split
    · rename_i hc
      have more : ∀ (v : Int) (A n b : Nat), 0 ≤ v ∧ v ≤ 15 → 1 ≤ A → A ≤ 11 → b ≤ 7 → n = A + (bitsM s b (symG s bl t).2).1 →
          (∀ k ∈ (lenM s bl N F (l ++ List.replicate n v) (bitsM s b (symG s bl t).2).2).1, 0 ≤ k ∧ k ≤ 15) ∧ (lenM s bl N F (l ++ List.replicate n v) (bitsM s b (symG s bl t).2).2).1.length ≤ N + 200 ∧ (lenM s bl N F (l ++ List.replicate n v) (bitsM s b (symG s bl t).2).2).2.at' ≤ 8 * s.length ∧
          t.at' ≤ (lenM s bl N F (l ++ List.replicate n v) (bitsM s b (symG s bl t).2).2).2.at' ∧ (lenM s bl N F (l ++ List.replicate n v) (bitsM s b (symG s bl t).2).2).2.out = t.out ∧ ((lenM s bl N F (l ++ List.replicate n v) (bitsM s b (symG s bl t).2).2).2.err = 0 → N ≤ (lenM s bl N F (l ++ List.replicate n v) (bitsM s b (symG s bl t).2).2).1.length ∧ t.err = 0) := by
        intro v A n b hv h1 h2 h3 hn
        have hb := bitsM_at s b (symG s bl t).2 hs.2.2.1
        have hl := bitsM_lt s b (symG s bl t).2
        have hp : 2 ^ b ≤ 2 ^ 7 := Nat.pow_le_pow_right (by omega) h3
        have ih := lenM_facts s bl hbl N F (l ++ List.replicate n v) (bitsM s b (symG s bl t).2).2 (by simp; omega) hb.1 (hrep v n hv) (by simp; omega)
        exact ⟨ih.1, ih.2.1, ih.2.2.1, by omega, by rw [ih.2.2.2.2.1, bitsM_out, hs.2.1], fun h => ⟨(ih.2.2.2.2.2 h).1, hc.2⟩⟩
      split
      · split
        · refine ⟨by simp, by simp, by simpa using hs.2.2.1, by simpa using hs.2.2.2.1, by simpa using hs.2.1, ?_⟩
          intro h
          unfold failM at h
          split at h
          · cases h
          · rename_i h2; exact absurd h h2
        · rename_i hne
          have hl0 : 0 < l.length := List.length_pos_iff.2 hne
          refine more _ 3 _ 2 ?_ (by omega) (by omega) (by omega) rfl
          rw [List.getD_eq_getElem?_getD, List.getElem?_eq_getElem (by omega)]
          exact hin _ (List.getElem_mem _)
      · split
        · exact more _ 3 _ 3 (by omega) (by omega) (by omega) (by omega) rfl
        · split
          · exact more _ 11 _ 7 (by omega) (by omega) (by omega) (by omega) rfl
          · have ih := lenM_facts s bl hbl N F (l ++ [(symG s bl t).1]) (symG s bl t).2 (by simp; omega) hs.2.2.1 (hrep _ 1 (by omega)) (by simp; omega)
            exact ⟨ih.1, ih.2.1, ih.2.2.1, by omega, by rw [ih.2.2.2.2.1, hs.2.1], fun h => ⟨(ih.2.2.2.2.2 h).1, hc.2⟩⟩
    · rename_i hc
      exact ⟨hin, hll, hat, Nat.le_refl _, rfl, fun (h : t.err = 0) => ⟨by show N ≤ l.length; have h2 : ¬ l.length < N := fun c => hc ⟨c, h⟩; omega, h⟩⟩
theorem lenF_facts (s : List UInt8) {bl : List Int} (hbl : bl.length ≤ 19) {N : Nat} {t : St} (hat : t.at' ≤ 8 * s.length) :
    (∀ k ∈ (lenF s bl N t).1, 0 ≤ k ∧ k ≤ 15) ∧ (lenF s bl N t).1.length ≤ N + 200 ∧ (lenF s bl N t).2.at' ≤ 8 * s.length ∧ t.at' ≤ (lenF s bl N t).2.at' ∧ (lenF s bl N t).2.out = t.out ∧ ((lenF s bl N t).2.err = 0 → (lenF s bl N t).1.length = N ∧ t.err = 0) := by
  have h := lenM_facts s bl hbl N (N + 1) [] t (by simp) hat (by simp) (by simp)
  unfold lenF
  simp only []
  split
  · rename_i hc
    refine ⟨h.1, h.2.1, by simpa using h.2.2.1, by simpa using h.2.2.2.1, by simpa using h.2.2.2.2.1, ?_⟩
    intro h2
    unfold failM at h2
    split at h2
    · cases h2
    · rename_i h3; exact absurd h2 h3
  · exact ⟨h.1, h.2.1, h.2.2.1, h.2.2.2.1, h.2.2.2.2.1, fun h2 => ⟨by have := (h.2.2.2.2.2 h2).1; omega, (h.2.2.2.2.2 h2).2⟩⟩

theorem dynM_facts (s : List UInt8) {t : St} (hat : t.at' ≤ 8 * s.length) : (dynM s t).1.1.length ≤ 1000 ∧ (dynM s t).1.2.length ≤ 1000 ∧ (∀ k ∈ (dynM s t).1.1, 0 ≤ k ∧ k ≤ 15) ∧ (∀ k ∈ (dynM s t).1.2, 0 ≤ k ∧ k ≤ 15) ∧
    (dynM s t).2.at' ≤ 8 * s.length ∧ t.at' ≤ (dynM s t).2.at' ∧ (dynM s t).2.out = t.out := by
  have h1 := bitsM_at s 5 t hat
  have h2 := bitsM_at s 5 (bitsM s 5 t).2 h1.1
  have h3 := bitsM_at s 4 (bitsM s 5 (bitsM s 5 t).2).2 h2.1
  have l1 := bitsM_lt s 5 t
  have l2 := bitsM_lt s 5 (bitsM s 5 t).2
  have o3 : (bitsM s 4 (bitsM s 5 (bitsM s 5 t).2).2).2.out = t.out := by simp
  unfold dynM
  generalize (bitsM s 4 (bitsM s 5 (bitsM s 5 t).2).2).1 + 4 = n
  generalize (bitsM s 4 (bitsM s 5 (bitsM s 5 t).2).2).2 = t3 at *
  generalize hlit : (bitsM s 5 t).1 + 257 = lit at *
  generalize hdist : (bitsM s 5 (bitsM s 5 t).2).1 + 1 = dist at *
  have h4 : (if 286 < lit ∨ 30 < dist then failM 4 t3 else t3).at' = t3.at' ∧ (if 286 < lit ∨ 30 < dist then failM 4 t3 else t3).out = t3.out := by split <;> simp
  generalize (if 286 < lit ∨ 30 < dist then failM 4 t3 else t3) = t4 at *
  have h5 := shM_facts s t4 (by omega) n
  generalize shM s t4 n = sh at *
  unfold dynB
  have h6 : (if complG sh.1 then sh.2 else failM 4 sh.2).at' = sh.2.at' ∧ (if complG sh.1 then sh.2 else failM 4 sh.2).out = sh.2.out := by split <;> simp
  generalize (if complG sh.1 then sh.2 else failM 4 sh.2) = t5 at *
  unfold dynC
  split
  · exact ⟨by simp, by simp, by simp, by simp, by simp only []; omega, by simp only []; omega, by simp only []; rw [h6.2, h5.2.2.2.2, h4.2, o3]⟩
  · have h7 := lenF_facts s (bl := sh.1) (N := lit + dist) (t := t5) (by omega) (by omega)
    generalize lenF s sh.1 (lit + dist) t5 = r at *
    unfold dynD
    split
    · exact ⟨by simp, by simp, by simp, by simp, by simp only []; omega, by simp only []; omega, by simp only []; rw [h7.2.2.2.2.1, h6.2, h5.2.2.2.2, h4.2, o3]⟩
    · have h8 : (if dynBad (r.1.take lit) (r.1.drop lit) then failM 4 r.2 else r.2).at' = r.2.at' ∧ (if dynBad (r.1.take lit) (r.1.drop lit) then failM 4 r.2 else r.2).out = r.2.out := by split <;> simp
      refine ⟨by simp; omega, by simp; omega, fun k hk => h7.1 k (List.mem_of_mem_take hk), fun k hk => h7.1 k (List.mem_of_mem_drop hk), by simp only []; omega, by simp only []; omega, by simp only []; rw [h8.2, h7.2.2.2.2.1, h6.2, h5.2.2.2.2, h4.2, o3]⟩

/-! ### Slices of slices and arrays -/
section
variable {env : Env} {H : AHeap}
def vSlArr (H : AHeap) (n z : Nat) : AVal → Option AVal → Option AVal → Option AVal
  | .ptr r g o, lo, hi => match bnd lo 0, bnd hi n with
      | some l, some h => match H[r]? with
        | some (.cells g' _ _ cs) => if g = g' ∧ cs.length = o + n * z ∧ 0 ≤ l ∧ l ≤ h ∧ h ≤ n then some (.slice r g (o + l.toNat * z) (h.toNat - l.toNat) z) else none
        | _ => none
      | _, _ => none
  | _, _, _ => none
@[simp ↓] theorem val_slArr {n z : Nat} {x : XOpd} {lo hi : Option XOpd} : SOp.val env H (.slice (.arr n z) x lo hi) = vSlArr H n z (x.ev env) (lo.map (XOpd.ev env)) (hi.map (XOpd.ev env)) := by
  simp only [SOp.val]; generalize XOpd.ev env x = u; cases u <;> rfl
theorem vSlArr_hi {r g e n : Nat} {ro : Bool} {cs : List AVal} {k : IntKind} {h : Nat} (hb : H[r]? = some (.cells g ro e cs)) (hl : cs.length = n) (hh : h ≤ n) : vSlArr H n 1 (.ptr r g 0) none (some (.int k h)) = some (.slice r g 0 h 1) := by
  simp only [vSlArr, bnd, hb]
  rw [if_pos ⟨trivial, by omega, by omega, by omega, by omega⟩]; simp
def vSlSl (H : AHeap) (z : Nat) : AVal → Option AVal → Option AVal → Option AVal
  | .nilslice, lo, hi => match bnd lo 0, bnd hi 0 with
      | some l, some h => if l = 0 ∧ h = 0 then some .nilslice else none
      | _, _ => none
  | .eslice, lo, hi => match bnd lo 0, bnd hi 0 with
      | some l, some h => if l = 0 ∧ h = 0 then some .eslice else none
      | _, _ => none
  | .slice r g o len z', lo, hi => match bnd lo 0, bnd hi len with
      | some l, some h =>
        if ageOk H r g = true ∧ z' = z ∧ 0 ≤ l ∧ l ≤ h ∧ (h ≤ len ∨ ((aloads H r g o (h.toNat * z)).isSome = true ∧ 0 < z)) then some (.slice r g (o + l.toNat * z) (h.toNat - l.toNat) z) else none
      | _, _ => none
  | _, _, _ => none
@[simp ↓] theorem val_slSl {z : Nat} {x : XOpd} {lo hi : Option XOpd} : SOp.val env H (.slice (.sl z) x lo hi) = vSlSl H z (x.ev env) (lo.map (XOpd.ev env)) (hi.map (XOpd.ev env)) := by
  simp only [SOp.val]; generalize XOpd.ev env x = u; cases u <;> rfl

theorem aloads_sub {r g o n a b : Nat} {xs : List AVal} (h : aloads H r g o n = some xs) (hab : a + b ≤ n) : aloads H r g (o + a) b = some ((xs.drop a).take b) := by
  unfold aloads at h ⊢
  split at h
  · rename_i g' ro e cs hb
    split at h
    · rename_i hc
      cases h
      rw [if_pos ⟨hc.1, by omega⟩]
      congr 1
      apply List.ext_getElem?
      intro i
      simp only [List.getElem?_take, List.getElem?_drop]
      by_cases hi : i < b
      · rw [if_pos hi, if_pos hi, if_pos (by omega)]; congr 1; omega
      · rw [if_neg hi, if_neg hi]
    · cases h
  · cases h
theorem Sl.take {v : AVal} {xs : List AVal} (h : Sl H v xs) {k : IntKind} {n : Nat} (hn : n ≤ xs.length) : ∃ w, vSlSl H 1 v none (some (.int k n)) = some w ∧ Sl H w (xs.take n) ∧ ∀ r, appTarget w r → appTarget v r := by
  rcases h with ⟨rfl, rfl⟩ | ⟨rfl, rfl⟩ | ⟨r, g, o, rfl, h⟩
  · have h0 : n = 0 := by simpa using hn
    subst h0
    exact ⟨.nilslice, rfl, .inl ⟨rfl, rfl⟩, fun r h => h⟩
  · have h0 : n = 0 := by simpa using hn
    subst h0
    exact ⟨.eslice, rfl, .inr (.inl ⟨rfl, rfl⟩), fun r h => h⟩
  · refine ⟨.slice r g o n 1, ?_, .inr (.inr ⟨r, g, o, by simp; omega, ?_⟩), fun r h => h⟩
    · simp only [vSlSl, bnd]
      rw [if_pos ⟨aloads_age h, trivial, by omega, by omega, .inl (by omega)⟩]; simp
    · have := aloads_sub h (a := 0) (b := n) (by omega)
      simpa [show min n xs.length = n by omega] using this
theorem Sl.drop {v : AVal} {xs : List AVal} (h : Sl H v xs) {k : IntKind} {n : Nat} (hn : n ≤ xs.length) : ∃ w, vSlSl H 1 v (some (.int k n)) none = some w ∧ Sl H w (xs.drop n) ∧ ∀ r, appTarget w r → appTarget v r := by
  rcases h with ⟨rfl, rfl⟩ | ⟨rfl, rfl⟩ | ⟨r, g, o, rfl, h⟩
  · have h0 : n = 0 := by simpa using hn
    subst h0
    exact ⟨.nilslice, rfl, .inl ⟨rfl, rfl⟩, fun r h => h⟩
  · have h0 : n = 0 := by simpa using hn
    subst h0
    exact ⟨.eslice, rfl, .inr (.inl ⟨rfl, rfl⟩), fun r h => h⟩
  · refine ⟨.slice r g (o + n) (xs.length - n) 1, ?_, .inr (.inr ⟨r, g, o + n, by simp, ?_⟩), fun r h => h⟩
    · simp only [vSlSl, bnd]
      rw [if_pos ⟨aloads_age h, trivial, by omega, by omega, .inl (by omega)⟩]; simp
    · have := aloads_sub h (a := n) (b := xs.length - n) (by omega)
      rw [List.length_drop, this, List.take_of_length_le (by simp)]

/-- Two books are laid into their places. -/
theorem stores2 {q0 q1 e : Nat} {z y B1 B2 : List AVal} (h0 : H[q0]? = some (.cells 0 false e z)) (hz : z.length = 18) (h1 : H[q1]? = some (.cells 0 false e y)) (hy : y.length = 18) (hne : q0 ≠ q1) (l1 : B1.length = 18) (l2 : B2.length = 18) (a1 : B1.all AVal.one = true) (a2 : B2.all AVal.one = true) :
    ∃ H3 H4, vStore H 18 (.agg B1) (.ptr q0 0 0) = some (.tuple [], H3) ∧ vStore H3 18 (.agg B2) (.ptr q1 0 0) = some (.tuple [], H4) ∧ aloads H4 q0 0 0 18 = some B1 ∧ aloads H4 q1 0 0 18 = some B2 ∧ H4.length = H.length ∧ ∀ r, r ≠ q0 → r ≠ q1 → H4[r]? = H[r]? := by
  have hl0 := (List.getElem?_eq_some_iff.1 h0).1
  have hl1 := (List.getElem?_eq_some_iff.1 h1).1
  have f2 : (H.set q0 (.cells 0 false e B1))[q1]? = some (.cells 0 false e y) := by rw [List.getElem?_set_ne hne]; exact h1
  have f3 : ((H.set q0 (.cells 0 false e B1)).set q1 (.cells 0 false e B2))[q0]? = some (.cells 0 false e B1) := by
    rw [List.getElem?_set_ne (Ne.symm hne), List.getElem?_set_self hl0]
  have f4 : ((H.set q0 (.cells 0 false e B1)).set q1 (.cells 0 false e B2))[q1]? = some (.cells 0 false e B2) := by
    rw [List.getElem?_set_self (by simpa using hl1)]
  refine ⟨H.set q0 (.cells 0 false e B1), (H.set q0 (.cells 0 false e B1)).set q1 (.cells 0 false e B2), ?_, ?_, ?_, ?_, by simp, fun r h2 h3 => by rw [List.getElem?_set_ne (Ne.symm h3), List.getElem?_set_ne (Ne.symm h2)]⟩
  · rw [vStore_ptr, if_pos ⟨rfl, l1, ageOk_at h0⟩]; simp only [cells_agg]; rw [astores_at_all h0 (hz.trans l1.symm) a1]; rfl
  · rw [vStore_ptr, if_pos ⟨rfl, l2, ageOk_at f2⟩]; simp only [cells_agg]; rw [astores_at_all f2 (hy.trans l2.symm) a2]; rfl
  · rw [aloads_at f3, if_pos (by omega), List.drop_zero, List.take_of_length_le (by omega)]
  · rw [aloads_at f4, if_pos (by omega), List.drop_zero, List.take_of_length_le (by omega)]
end
end Go.Proofs.Ytdknddicpdhkcaa.Ab

/- Inflate: the codes of a dynamic block. Conditions: none; for the statements about layers 46 and 47. -/
namespace Go.Proofs.Ytdknddicpdhkcaa.Ab
set_option linter.unusedVariables false
set_option linter.unusedSimpArgs false

def rest51c : XCode := (.seq (.ops [⟨some 95, none, (.s (.move (.t 12)))⟩, ⟨some 96, none, (.call 63 [(.t 95)])⟩, ⟨some 97, none, (.s (.move (.t 13)))⟩, ⟨some 98, none, (.call 63 [(.t 97)])⟩, ⟨none, none, (.e (.store 18 (.t 2) (.t 96)))⟩, ⟨none, none, (.e (.store 18 (.t 3) (.t 98)))⟩]) .ret)
def rest51f : XCode := (.seq (.draw [⟨⟨some 68, none, (.s (.move (.t 11)))⟩, 0, []⟩, ⟨⟨some 69, none, (.s (.move (.t 4)))⟩, 1, []⟩, ⟨⟨some 70, none, (.s (.slice (.sl 1) (.t 68) none (some (.t 69))))⟩, 2, []⟩, ⟨⟨some 71, none, (.s (.move (.t 11)))⟩, 3, []⟩, ⟨⟨some 72, none, (.s (.move (.t 4)))⟩, 4, []⟩, ⟨⟨some 73, none, (.s (.slice (.sl 1) (.t 71) (some (.t 72)) none))⟩, 5, []⟩, ⟨⟨some 12, none, (.s (.move (.t 70)))⟩, 6, []⟩, ⟨⟨some 13, none, (.s (.move (.t 73)))⟩, 7, []⟩]) (.seq (.seq (.ops [⟨some 74, none, (.s (.move (.t 12)))⟩, ⟨some 75, none, (.call 64 [(.t 74)])⟩, ⟨some 76, none, (.s (.un .not (.t 75)))⟩, ⟨some 77, none, (.s (.move (.t 76)))⟩, ⟨some 78, some (77, false), (.s (.move (.t 12)))⟩, ⟨some 79, some (77, false), (.s (.idxS 1 (.t 78) (.c (.int .i64 256))))⟩, ⟨some 80, some (77, false), (.s (.load1 (.t 79)))⟩, ⟨some 81, some (77, false), (.s (.bin .eql (.t 80) (.c (.int .i64 0))))⟩, ⟨some 82, none, (.s (.pick (.t 77) (.c (.bool true)) (.t 81)))⟩, ⟨some 83, none, (.s (.move (.t 82)))⟩, ⟨some 84, some (83, false), (.s (.move (.t 13)))⟩, ⟨some 85, some (83, false), (.call 64 [(.t 84)])⟩, ⟨some 86, some (83, false), (.s (.un .not (.t 85)))⟩, ⟨some 87, some (83, false), (.s (.move (.t 86)))⟩, ⟨some 88, some (87, true), (.s (.move (.t 13)))⟩, ⟨some 89, some (87, true), (.call 66 [(.t 88)])⟩, ⟨some 90, some (87, true), (.s (.un .not (.t 89)))⟩, ⟨some 91, some (83, false), (.s (.pick (.t 87) (.t 90) (.c (.bool false))))⟩, ⟨some 92, none, (.s (.pick (.t 83) (.c (.bool true)) (.t 91)))⟩]) (.cond (.t 92) (.ops [⟨some 93, none, (.s (.move (.t 0)))⟩, ⟨some 94, none, (.call 52 [(.t 93), (.c (.int .i64 4))])⟩]) .skip)) rest51c))
def rest51e : XCode := (.seq (.ops [⟨some 56, none, (.s (.move (.t 0)))⟩, ⟨some 57, none, (.s (.move (.t 8)))⟩, ⟨some 58, none, (.call 63 [(.t 57)])⟩, ⟨some 59, none, (.s (.move (.t 4)))⟩, ⟨some 60, none, (.s (.move (.t 5)))⟩, ⟨some 61, none, (.s (.bin .add (.t 59) (.t 60)))⟩, ⟨some 62, none, (.call 65 [(.t 56), (.t 58), (.t 61)])⟩, ⟨some 11, none, (.s (.move (.t 62)))⟩]) (.seq (.seq (.ops [⟨some 63, none, (.s (.move (.t 0)))⟩, ⟨some 64, none, (.call 46 [(.t 63)])⟩, ⟨some 65, none, (.s (.un .not (.t 64)))⟩]) (.cond (.t 65) (.seq (.ops [⟨some 66, none, (.s (.build [(.int .i64 0), (.int .i64 0), (.int .i64 0), (.int .i64 0), (.int .i64 0), (.int .i64 0), (.int .i64 0), (.int .i64 0), (.int .i64 0), (.int .i64 0), (.int .i64 0), (.int .i64 0), (.int .i64 0), (.int .i64 0), (.int .i64 0), (.int .i64 0), .nilslice, (.int .i64 0)] []))⟩, ⟨some 67, none, (.s (.build [(.int .i64 0), (.int .i64 0), (.int .i64 0), (.int .i64 0), (.int .i64 0), (.int .i64 0), (.int .i64 0), (.int .i64 0), (.int .i64 0), (.int .i64 0), (.int .i64 0), (.int .i64 0), (.int .i64 0), (.int .i64 0), (.int .i64 0), (.int .i64 0), .nilslice, (.int .i64 0)] []))⟩, ⟨none, none, (.e (.store 18 (.t 2) (.t 66)))⟩, ⟨none, none, (.e (.store 18 (.t 3) (.t 67)))⟩]) .ret) .skip)) rest51f))
def rest51d : XCode := (.seq (.seq (.ops [⟨some 51, none, (.s (.move (.t 0)))⟩, ⟨some 52, none, (.call 46 [(.t 51)])⟩, ⟨some 53, none, (.s (.un .not (.t 52)))⟩]) (.cond (.t 53) (.seq (.ops [⟨some 54, none, (.s (.build [(.int .i64 0), (.int .i64 0), (.int .i64 0), (.int .i64 0), (.int .i64 0), (.int .i64 0), (.int .i64 0), (.int .i64 0), (.int .i64 0), (.int .i64 0), (.int .i64 0), (.int .i64 0), (.int .i64 0), (.int .i64 0), (.int .i64 0), (.int .i64 0), .nilslice, (.int .i64 0)] []))⟩, ⟨some 55, none, (.s (.build [(.int .i64 0), (.int .i64 0), (.int .i64 0), (.int .i64 0), (.int .i64 0), (.int .i64 0), (.int .i64 0), (.int .i64 0), (.int .i64 0), (.int .i64 0), (.int .i64 0), (.int .i64 0), (.int .i64 0), (.int .i64 0), (.int .i64 0), (.int .i64 0), .nilslice, (.int .i64 0)] []))⟩, ⟨none, none, (.e (.store 18 (.t 2) (.t 54)))⟩, ⟨none, none, (.e (.store 18 (.t 3) (.t 55)))⟩]) .ret) .skip)) rest51e)
def rest51b : XCode := (.seq (.seq (.ops [⟨some 46, none, (.s (.move (.t 8)))⟩, ⟨some 47, none, (.call 64 [(.t 46)])⟩, ⟨some 48, none, (.s (.un .not (.t 47)))⟩]) (.cond (.t 48) (.ops [⟨some 49, none, (.s (.move (.t 0)))⟩, ⟨some 50, none, (.call 52 [(.t 49), (.c (.int .i64 4))])⟩]) .skip)) rest51d)
def rest51a : XCode := (.seq (.ops [⟨some 31, none, (.s (.build [(.int .i64 0), (.int .i64 0), (.int .i64 0), (.int .i64 0), (.int .i64 0), (.int .i64 0), (.int .i64 0), (.int .i64 0), (.int .i64 0), (.int .i64 0), (.int .i64 0), (.int .i64 0), (.int .i64 0), (.int .i64 0), (.int .i64 0), (.int .i64 0), (.int .i64 0), (.int .i64 0), (.int .i64 0)] [(0, 1, (.c (.int .i64 16))), (1, 1, (.c (.int .i64 17))), (2, 1, (.c (.int .i64 18))), (3, 1, (.c (.int .i64 0))), (4, 1, (.c (.int .i64 8))), (5, 1, (.c (.int .i64 7))), (6, 1, (.c (.int .i64 9))), (7, 1, (.c (.int .i64 6))), (8, 1, (.c (.int .i64 10))), (9, 1, (.c (.int .i64 5))), (10, 1, (.c (.int .i64 11))), (11, 1, (.c (.int .i64 4))), (12, 1, (.c (.int .i64 12))), (13, 1, (.c (.int .i64 3))), (14, 1, (.c (.int .i64 13))), (15, 1, (.c (.int .i64 2))), (16, 1, (.c (.int .i64 14))), (17, 1, (.c (.int .i64 1))), (18, 1, (.c (.int .i64 15)))]))⟩, ⟨some 7, none, (.e (.new 85 [(.int .i64 0), (.int .i64 0), (.int .i64 0), (.int .i64 0), (.int .i64 0), (.int .i64 0), (.int .i64 0), (.int .i64 0), (.int .i64 0), (.int .i64 0), (.int .i64 0), (.int .i64 0), (.int .i64 0), (.int .i64 0), (.int .i64 0), (.int .i64 0), (.int .i64 0), (.int .i64 0), (.int .i64 0)]))⟩, ⟨none, none, (.e (.store 19 (.t 7) (.t 31)))⟩]) (.seq (.ops [⟨some 32, none, (.e (.makeSlice 3 1 8 [(.int .i64 0)] (.c (.int .i64 19)) (.c (.int .i64 19))))⟩, ⟨some 8, none, (.s (.move (.t 32)))⟩]) (.seq (.seq (.ops [⟨some 33, none, (.s (.move (.t 6)))⟩, ⟨some 34, none, (.s (.slice (.arr 19 1) (.t 7) none (some (.t 33))))⟩, ⟨some 35, none, (.s (.lenSl (.t 34)))⟩, ⟨some 36, none, (.s (.move (.c (.int .i64 0))))⟩]) (.block 0 (.loop (.seq (.ops [⟨some 37, none, (.s (.bin .lss (.t 36) (.t 35)))⟩]) (.seq (.cond (.t 37) .skip (.exit 0)) (.seq (.block 1 (.seq (.ops [⟨some 38, none, (.s (.idxS 1 (.t 34) (.t 36)))⟩, ⟨some 39, none, (.s (.load1 (.t 38)))⟩, ⟨some 10, none, (.s (.move (.t 39)))⟩]) (.ops [⟨some 40, none, (.s (.move (.t 8)))⟩, ⟨some 41, none, (.s (.move (.t 10)))⟩, ⟨some 42, none, (.s (.move (.t 0)))⟩, ⟨some 43, none, (.call 47 [(.t 42), (.c (.int .i64 3))])⟩, ⟨some 44, none, (.s (.idxS 1 (.t 40) (.t 41)))⟩, ⟨none, none, (.e (.store 1 (.t 44) (.t 43)))⟩]))) (.ops [⟨some 45, none, (.s (.bin .add (.t 36) (.c (.int .i64 1))))⟩, ⟨some 36, none, (.s (.move (.t 45)))⟩]))))))) rest51b)))
def x51s : XFun := ⟨99, [(.cellN 2 18), (.cellN 3 18)], (.seq (.ops [⟨some 2, none, (.e (.new 69 [(.int .i64 0), (.int .i64 0), (.int .i64 0), (.int .i64 0), (.int .i64 0), (.int .i64 0), (.int .i64 0), (.int .i64 0), (.int .i64 0), (.int .i64 0), (.int .i64 0), (.int .i64 0), (.int .i64 0), (.int .i64 0), (.int .i64 0), (.int .i64 0), .nilslice, (.int .i64 0)]))⟩, ⟨some 3, none, (.e (.new 69 [(.int .i64 0), (.int .i64 0), (.int .i64 0), (.int .i64 0), (.int .i64 0), (.int .i64 0), (.int .i64 0), (.int .i64 0), (.int .i64 0), (.int .i64 0), (.int .i64 0), (.int .i64 0), (.int .i64 0), (.int .i64 0), (.int .i64 0), (.int .i64 0), .nilslice, (.int .i64 0)]))⟩]) (.seq (.ops [⟨some 14, none, (.s (.move (.t 0)))⟩, ⟨some 15, none, (.call 47 [(.t 14), (.c (.int .i64 5))])⟩, ⟨some 16, none, (.s (.bin .add (.t 15) (.c (.int .i64 257))))⟩, ⟨some 4, none, (.s (.move (.t 16)))⟩]) (.seq (.ops [⟨some 17, none, (.s (.move (.t 0)))⟩, ⟨some 18, none, (.call 47 [(.t 17), (.c (.int .i64 5))])⟩, ⟨some 19, none, (.s (.bin .add (.t 18) (.c (.int .i64 1))))⟩, ⟨some 5, none, (.s (.move (.t 19)))⟩]) (.seq (.ops [⟨some 20, none, (.s (.move (.t 0)))⟩, ⟨some 21, none, (.call 47 [(.t 20), (.c (.int .i64 4))])⟩, ⟨some 22, none, (.s (.bin .add (.t 21) (.c (.int .i64 4))))⟩, ⟨some 6, none, (.s (.move (.t 22)))⟩]) (.seq (.seq (.ops [⟨some 23, none, (.s (.move (.t 4)))⟩, ⟨some 24, none, (.s (.bin .gtr (.t 23) (.c (.int .i64 286))))⟩, ⟨some 25, none, (.s (.move (.t 24)))⟩, ⟨some 26, some (25, false), (.s (.move (.t 5)))⟩, ⟨some 27, some (25, false), (.s (.bin .gtr (.t 26) (.c (.int .i64 30))))⟩, ⟨some 28, none, (.s (.pick (.t 25) (.c (.bool true)) (.t 27)))⟩]) (.cond (.t 28) (.ops [⟨some 29, none, (.s (.move (.t 0)))⟩, ⟨some 30, none, (.call 52 [(.t 29), (.c (.int .i64 4))])⟩]) .skip)) rest51a)))))⟩
theorem x51s_ok : xfun Try.prog Try.f51 = some x51s := x51_ok

section
variable {B : Nat → Prop} {s : List UInt8} {t : St} {w bw v : AVal} {most p : Nat} {H : AHeap} {l bl : List Int} {fp : Nat → Prop}

/-- What a call that yields two books comes to. -/
def twoBooks (H : AHeap) (p : Nat) (s : List UInt8) (w : AVal) (most : Nat) (r : (List Int × List Int) × St) (v : AVal) (H' : AHeap) : Prop :=
  ∃ lw dw, v = .tuple [.agg (bookCells r.1.1 lw (mostG r.1.1 15)), .agg (bookCells r.1.2 dw (mostG r.1.2 15))] ∧ Ints H' lw (ordG r.1.1 15) ∧ Ints H' dw (ordG r.1.2 15) ∧
    (∀ r, appTarget lw r → H.length ≤ r) ∧ (∀ r, appTarget dw r → H.length ≤ r) ∧ H'[p]? = some (rdBlk s r.2 w most)

theorem bookCells_one {w : AVal} (h : w.one = true) {m : Int} : (bookCells l w m).all AVal.one = true := by simp [bookCells, h]
theorem zeroBook : [.int .i64 0, .int .i64 0, .int .i64 0, .int .i64 0, .int .i64 0, .int .i64 0, .int .i64 0, .int .i64 0, .int .i64 0, .int .i64 0, .int .i64 0, .int .i64 0, .int .i64 0, .int .i64 0, .int .i64 0, .int .i64 0, .nilslice, .int .i64 0] = bookCells [] .nilslice (mostG [] 15) := by kernel_rfl

def o19 : List AVal := ord19.map fun k : Nat => .int .i64 k

def inv51 (G : AHeap) (p : Nat) (s : List UInt8) (t : St) (w : AVal) (most : Nat) (N lit dist q : Nat) (n : Nat) (env : Env) (H' : AHeap) : Prop :=
  ∃ i, i ≤ N ∧ n = N - i ∧ H' = G.set p (rdBlk s (shM s t i).2 w most) ++ [.cells 0 false 85 o19, .cells 0 false 3 ((shM s t i).1.map (.int .i64))] ∧
    env 0 = .ptr p 0 0 ∧ env 2 = .ptr q 0 0 ∧ env 3 = .ptr (q + 1) 0 0 ∧ env 4 = .int .i64 lit ∧ env 5 = .int .i64 dist ∧ env 8 = .slice (G.length + 1) 0 0 19 1 ∧ env 34 = .slice G.length 0 0 N 1 ∧ env 35 = .int .i64 N ∧ env 36 = .int .i64 i

theorem zeroBook2 : [.int .i64 0, .int .i64 0, .int .i64 0, .int .i64 0, .int .i64 0, .int .i64 0, .int .i64 0, .int .i64 0, .int .i64 0, .int .i64 0, .int .i64 0, .int .i64 0, .int .i64 0, .int .i64 0, .int .i64 0, .int .i64 0, .nilslice, .int .i64 0] = bookCells [] .nilslice 0 := by kernel_rfl

theorem rest51c_ok {res : (List Int × List Int) × St} {H8 : AHeap} {env' : Env} {z0 z1 : List AVal} {av bv : AVal} (hpl : p < H.length) (hp8 : H8[p]? = some (rdBlk s res.2 w most)) (hz0 : H8[H.length]? = some (.cells 0 false 69 z0)) (hl0 : z0.length = 18) (hz1 : H8[H.length + 1]? = some (.cells 0 false 69 z1)) (hl1 : z1.length = 18)
    (ia : Ints H8 av res.1.1) (ib : Ints H8 bv res.1.2) (la : res.1.1.length ≤ 1000) (lb : res.1.2.length ≤ 1000) (ra : ∀ k ∈ res.1.1, 0 ≤ k ∧ k ≤ 15) (rb : ∀ k ∈ res.1.2, 0 ≤ k ∧ k ≤ 15) (e2 : env' 2 = .ptr H.length 0 0) (e3 : env' 3 = .ptr (H.length + 1) 0 0) (e12 : env' 12 = av) (e13 : env' 13 = bv) :
    vc (ACall Try.prog) (fun r => r = p ∨ H.length ≤ r) rest51c (rpost [.cellN 2 18, .cellN 3 18] (twoBooks H p s w most res)) env' H8 := by
  have hl8 := (List.getElem?_eq_some_iff.1 hz1).1
  unfold rest51c
  simp (config := {contextual := true, implicitDefEqProofs := false}) (disch := omega) [e2, e3, e12, e13]
  refine call1_of (newBook_raw ia la ra) (fun r h => h.elim) ?_
  rintro v H9 ⟨w1, rfl, hw1⟩ hl9 hf9
  simp (config := {contextual := true, implicitDefEqProofs := false}) (disch := omega) [e2, e3, e12, e13]
  have ib9 : Ints H9 bv res.1.2 := ib.keepAt fun r _ h => hf9 r h (fun h => h)
  refine call1_of (newBook_raw ib9 lb rb) (fun r h => h.elim) ?_
  rintro v H10 ⟨w2, rfl, hw2⟩ hl10 hf10
  have hz0' : H10[H.length]? = some (.cells 0 false 69 z0) := by rw [hf10 _ (by omega) (fun h => h), hf9 _ (by omega) (fun h => h)]; exact hz0
  have hz1' : H10[H.length + 1]? = some (.cells 0 false 69 z1) := by rw [hf10 _ (by omega) (fun h => h), hf9 _ (by omega) (fun h => h)]; exact hz1
  obtain ⟨H11, H12, g1, g2, f5, f6, hl12, hf12⟩ := stores2 hz0' hl0 hz1' hl1 (by omega) (B1 := bookCells res.1.1 w1 (mostG res.1.1 15)) (B2 := bookCells res.1.2 w2 (mostG res.1.2 15)) (by simp) (by simp) (bookCells_one hw1.own.one) (bookCells_one hw2.own.one)
  simp (config := {contextual := true, implicitDefEqProofs := false}) (disch := omega) [e2, e3, g1, g2, resVal, f5, f6]
  refine ⟨w1, w2, rfl, ?_, ?_, ?_, ?_, ?_⟩
  · refine hw1.own.sl.keepAt fun r hr hrl => ?_
    have h2 := hw1.own.target hr
    rw [hf12 r (by omega) (by omega)]
    exact hf10 r hrl (fun h => h)
  · refine hw2.own.sl.keepAt fun r hr hrl => ?_
    have h2 := hw2.own.target hr
    exact hf12 r (by omega) (by omega)
  · intro r hr; have h2 := hw1.own.target hr; omega
  · intro r hr; have h2 := hw2.own.target hr; omega
  · rw [hf12 p (by omega) (by omega), hf10 p (by omega) (fun h => h), hf9 p (by omega) (fun h => h)]; exact hp8

theorem rest51f_ok {r : List Int × St} {lit : Nat} {H7 : AHeap} {env' : Env} {z0 z1 : List AVal} {lv : AVal} (hpl : p < H.length) (hp7 : H7[p]? = some (rdBlk s r.2 w most)) (hz0 : H7[H.length]? = some (.cells 0 false 69 z0)) (hl0 : z0.length = 18) (hz1 : H7[H.length + 1]? = some (.cells 0 false 69 z1)) (hl1 : z1.length = 18)
    (he : r.2.err = 0) (il : Ints H7 lv r.1) (ll : r.1.length ≤ 900) (rl : ∀ k ∈ r.1, 0 ≤ k ∧ k ≤ 15) (hlv : ∀ r, appTarget lv r → H.length + 2 ≤ r) (hlit : 257 ≤ lit) (hlit2 : lit ≤ r.1.length)
    (e0 : env' 0 = .ptr p 0 0) (e2 : env' 2 = .ptr H.length 0 0) (e3 : env' 3 = .ptr (H.length + 1) 0 0) (e4 : env' 4 = .int .i64 lit) (e11 : env' 11 = lv) :
    vc (ACall Try.prog) (fun r => r = p ∨ H.length ≤ r) rest51f (rpost [.cellN 2 18, .cellN 3 18] (twoBooks H p s w most (dynD lit r))) env' H7 := by
  have hl7 := (List.getElem?_eq_some_iff.1 hz1).1
  rw [dynD, if_neg (by simp [he])]
  obtain ⟨av, ha1, ha2, ha3⟩ := Sl.take il (k := .i64) (n := lit) (by simpa using hlit2)
  obtain ⟨bv, hb1, hb2, hb3⟩ := Sl.drop il (k := .i64) (n := lit) (by simpa using hlit2)
  rw [← List.map_take] at ha2
  rw [← List.map_drop] at hb2
  have ha : Ints H7 av (r.1.take lit) := ha2
  have hb : Ints H7 bv (r.1.drop lit) := hb2
  have hal : (r.1.take lit).length = lit := by simp; omega
  have hbl : (r.1.drop lit).length ≤ 900 := by simp; omega
  have har : ∀ k ∈ r.1.take lit, 0 ≤ k ∧ k ≤ 15 := fun k hk => rl k (List.mem_of_mem_take hk)
  have hbr : ∀ k ∈ r.1.drop lit, 0 ≤ k ∧ k ≤ 15 := fun k hk => rl k (List.mem_of_mem_drop hk)
  have hav : ∀ r, appTarget av r → H.length + 2 ≤ r := fun r h => hlv r (ha3 r h)
  have hbv : ∀ r, appTarget bv r → H.length + 2 ≤ r := fun r h => hlv r (hb3 r h)
  generalize r.1.take lit = la at *
  generalize r.1.drop lit = lb at *
  have hix : vIdx H7 1 av (.int .i64 256) = some (av.at 256) := ha.idx (k := .i64) (n := 256) (by omega)
  have hld := ha.load (n := 256) (by omega)
  have hgd : la[256]'(by omega) = la.getD 256 0 := by rw [List.getD_eq_getElem?_getD, List.getElem?_eq_getElem (by omega)]; rfl
  have tail : ∀ (t8 : St) (env2 : Env), (if dynBad la lb then failM 4 r.2 else r.2) = t8 → env2 2 = .ptr H.length 0 0 → env2 3 = .ptr (H.length + 1) 0 0 → env2 12 = av → env2 13 = bv →
      vc (ACall Try.prog) (fun r => r = p ∨ H.length ≤ r) rest51c (rpost [.cellN 2 18, .cellN 3 18] (twoBooks H p s w most ((la, lb), if dynBad la lb then failM 4 r.2 else r.2))) env2 (H7.set p (rdBlk s t8 w most)) := by
    intro t8 env2 h8 f2 f3 f12 f13
    rw [h8]
    have hk : ∀ k, k ≠ p → (H7.set p (rdBlk s t8 w most))[k]? = H7[k]? := fun k h => List.getElem?_set_ne (Ne.symm h)
    exact rest51c_ok hpl (List.getElem?_set_self (by omega)) (by rw [hk _ (by omega)]; exact hz0) hl0 (by rw [hk _ (by omega)]; exact hz1) hl1
      (ha.keepAt fun r h _ => hk r (by have := hav r h; omega)) (hb.keepAt fun r h _ => hk r (by have := hbv r h; omega)) (by simp only []; omega) (by simp only []; omega) har hbr f2 f3 f12 f13
  have hsame : H7 = H7.set p (rdBlk s r.2 w most) := (set_same hp7).symm
  unfold rest51f
  by_cases c1 : complG la
  · by_cases c2 : la[256]'(by omega) = 0
    · have hbad : dynBad la lb := .inr (.inl (by rw [← hgd]; exact c2))
      simp (config := {contextual := true, implicitDefEqProofs := false}) (disch := omega) [e0, e2, e3, e4, e11, ha1, hb1]
      refine call1_eq (compl_ok ha (by omega)) ?_
      simp (config := {contextual := true, implicitDefEqProofs := false}) (disch := omega) [e0, e2, e3, e4, e11, c1, hix, hld, c2]
      refine call1_eq ((fail_ok hp7).use (fun r h => Or.inl (Or.inl h)) fun v H' q _ _ => q) ?_
      simp (config := {contextual := true, implicitDefEqProofs := false}) (disch := omega) [e0, e2, e3, e4, e11]
      exact tail _ _ (by rw [if_pos hbad]) (by simp [e2]) (by simp [e3]) (by simp) (by simp)
    · by_cases c3 : complG lb
      · have hbad : ¬ dynBad la lb := by
          rintro (h | h | h)
          · exact h c1
          · rw [← hgd] at h; exact c2 h
          · exact h.1 c3
        simp (config := {contextual := true, implicitDefEqProofs := false}) (disch := omega) [e0, e2, e3, e4, e11, ha1, hb1]
        refine call1_eq (compl_ok ha (by omega)) ?_
        simp (config := {contextual := true, implicitDefEqProofs := false}) (disch := omega) [e0, e2, e3, e4, e11, c1, hix, hld, c2]
        refine call1_eq (compl_ok hb (by omega)) ?_
        simp (config := {contextual := true, implicitDefEqProofs := false}) (disch := omega) [e0, e2, e3, e4, e11, c1, hix, hld, c2, c3]
        have := tail r.2
        rw [← hsame] at this
        exact this _ (by rw [if_neg hbad]) (by simp [e2]) (by simp [e3]) (by simp) (by simp)
      · by_cases c4 : fewG lb
        · have hbad : ¬ dynBad la lb := by
            rintro (h | h | h)
            · exact h c1
            · rw [← hgd] at h; exact c2 h
            · exact h.2 c4
          simp (config := {contextual := true, implicitDefEqProofs := false}) (disch := omega) [e0, e2, e3, e4, e11, ha1, hb1]
          refine call1_eq (compl_ok ha (by omega)) ?_
          simp (config := {contextual := true, implicitDefEqProofs := false}) (disch := omega) [e0, e2, e3, e4, e11, c1, hix, hld, c2]
          refine call1_eq (compl_ok hb (by omega)) ?_
          simp (config := {contextual := true, implicitDefEqProofs := false}) (disch := omega) [e0, e2, e3, e4, e11, c1, hix, hld, c2, c3]
          refine call1_eq (few_ok hb (by omega) hbr) ?_
          simp (config := {contextual := true, implicitDefEqProofs := false}) (disch := omega) [e0, e2, e3, e4, e11, c1, hix, hld, c2, c3, c4]
          have := tail r.2
          rw [← hsame] at this
          exact this _ (by rw [if_neg hbad]) (by simp [e2]) (by simp [e3]) (by simp) (by simp)
        · have hbad : dynBad la lb := .inr (.inr ⟨c3, c4⟩)
          simp (config := {contextual := true, implicitDefEqProofs := false}) (disch := omega) [e0, e2, e3, e4, e11, ha1, hb1]
          refine call1_eq (compl_ok ha (by omega)) ?_
          simp (config := {contextual := true, implicitDefEqProofs := false}) (disch := omega) [e0, e2, e3, e4, e11, c1, hix, hld, c2]
          refine call1_eq (compl_ok hb (by omega)) ?_
          simp (config := {contextual := true, implicitDefEqProofs := false}) (disch := omega) [e0, e2, e3, e4, e11, c1, hix, hld, c2, c3]
          refine call1_eq (few_ok hb (by omega) hbr) ?_
          simp (config := {contextual := true, implicitDefEqProofs := false}) (disch := omega) [e0, e2, e3, e4, e11, c1, hix, hld, c2, c3, c4]
          refine call1_eq ((fail_ok hp7).use (fun r h => Or.inl (Or.inl h)) fun v H' q _ _ => q) ?_
          simp (config := {contextual := true, implicitDefEqProofs := false}) (disch := omega) [e0, e2, e3, e4, e11]
          exact tail _ _ (by rw [if_pos hbad]) (by simp [e2]) (by simp [e3]) (by simp) (by simp)
  · have hbad : dynBad la lb := .inl c1
    simp (config := {contextual := true, implicitDefEqProofs := false}) (disch := omega) [e0, e2, e3, e4, e11, ha1, hb1]
    refine call1_eq (compl_ok ha (by omega)) ?_
    simp (config := {contextual := true, implicitDefEqProofs := false}) (disch := omega) [e0, e2, e3, e4, e11, c1]
    refine call1_eq ((fail_ok hp7).use (fun r h => Or.inl (Or.inl h)) fun v H' q _ _ => q) ?_
    simp (config := {contextual := true, implicitDefEqProofs := false}) (disch := omega) [e0, e2, e3, e4, e11]
    exact tail _ _ (by rw [if_pos hbad]) (by simp [e2]) (by simp [e3]) (by simp) (by simp)

/-- No books, for an error. -/
theorem zero_ret {Z : List AVal} (hZ : bookCells [] .nilslice (mostG [] 15) = Z) {H5 : AHeap} {z0 z1 : List AVal} {t5 : St} (hpl : p < H.length) (hp5 : H5[p]? = some (rdBlk s t5 w most)) (hz0 : H5[H.length]? = some (.cells 0 false 69 z0)) (hl0 : z0.length = 18) (hz1 : H5[H.length + 1]? = some (.cells 0 false 69 z1)) (hl1 : z1.length = 18) :
    ∃ H3 H4, vStore H5 18 (.agg Z) (.ptr H.length 0 0) = some (.tuple [], H3) ∧ vStore H3 18 (.agg Z) (.ptr (H.length + 1) 0 0) = some (.tuple [], H4) ∧ aloads H4 H.length 0 0 18 = some Z ∧
      aloads H4 (H.length + 1) 0 0 18 = some Z ∧ twoBooks H p s w most (([], []), t5) (.tuple [.agg Z, .agg Z]) H4 := by
  obtain ⟨H3, H4, g1, g2, f5, f6, hl12, hf12⟩ := stores2 hz0 hl0 hz1 hl1 (by omega) (B1 := Z) (B2 := Z) (by rw [← hZ]; simp) (by rw [← hZ]; simp) (by rw [← hZ]; exact bookCells_one rfl) (by rw [← hZ]; exact bookCells_one rfl)
  refine ⟨H3, H4, g1, g2, f5, f6, .nilslice, .nilslice, ?_, .inl ⟨rfl, ?_⟩, .inl ⟨rfl, ?_⟩, fun r h => h.elim, fun r h => h.elim, by rw [hf12 p (by omega) (by omega)]; exact hp5⟩
  · simp only [hZ]
  · kernel_rfl
  · kernel_rfl

theorem rest51d_ok {short : List Int} {t5 : St} {lit dist : Nat} {H5 : AHeap} {env' : Env} {z0 z1 : List AVal} {sv : AVal} (hs : s.length ≤ 2 ^ 50) (hpl : p < H.length) (hp5 : H5[p]? = some (rdBlk s t5 w most)) (hz0 : H5[H.length]? = some (.cells 0 false 69 z0)) (hl0 : z0.length = 18) (hz1 : H5[H.length + 1]? = some (.cells 0 false 69 z1)) (hl1 : z1.length = 18)
    (hat : t5.at' ≤ 8 * s.length) (is : Ints H5 sv short) (lsh : short.length = 19) (rsh : ∀ k ∈ short, 0 ≤ k ∧ k ≤ 15) (hlit : 257 ≤ lit) (hlit2 : lit ≤ 300) (hdist : 1 ≤ dist) (hdist2 : dist ≤ 50)
    (e0 : env' 0 = .ptr p 0 0) (e2 : env' 2 = .ptr H.length 0 0) (e3 : env' 3 = .ptr (H.length + 1) 0 0) (e4 : env' 4 = .int .i64 lit) (e5 : env' 5 = .int .i64 dist) (e8 : env' 8 = sv) :
    vc (ACall Try.prog) (fun r => r = p ∨ H.length ≤ r) rest51d (rpost [.cellN 2 18, .cellN 3 18] (twoBooks H p s w most (dynC s lit dist short t5))) env' H5 := by
  have hl5 := (List.getElem?_eq_some_iff.1 hz1).1
  unfold rest51d rest51e
  rw [zeroBook]
  generalize hZ : bookCells [] .nilslice (mostG [] 15) = Z
  simp (config := {contextual := true, implicitDefEqProofs := false}) (disch := omega) [e0, e2, e3, e4, e5, e8]
  refine call1_eq (ok_ok hp5) ?_
  by_cases c1 : t5.err = 0
  · rw [dynC, if_neg (show ¬ t5.err ≠ 0 by simp [c1])]
    simp (config := {contextual := true, implicitDefEqProofs := false}) (disch := omega) [e0, e2, e3, e4, e5, e8, c1]
    refine call1_of (newBook_raw is (by omega) rsh) (fun r h => h.elim) ?_
    rintro v H6 ⟨bw, rfl, hbw⟩ hl6 hf6
    have a1 : abin .add (.int .i64 (lit : Int)) (.int .i64 (dist : Int)) = some (.int .i64 ((lit + dist : Nat) : Int)) := by rw [abin_add, i64_id (by omega) (by omega)]; rfl
    simp (config := {contextual := true, implicitDefEqProofs := false}) (disch := omega) [e0, e2, e3, e4, e5, e8, c1, a1, -abin_add, -Int.natCast_add]
    have hp6 : H6[p]? = some (rdBlk s t5 w most) := by rw [hf6 p (by omega) (fun h => h)]; exact hp5
    have hlf := lenF_facts s (bl := short) (N := lit + dist) (t := t5) (by omega) hat
    refine call1_of (lens_ok hp6 hs hat hbw.own.sl (fun c => by have := hbw.own.target c; omega) (by omega) (N := lit + dist) (by omega)) (fun r h => .inl (.inl h)) ?_
    rintro v H7 ⟨il, hlv, hp7⟩ hl7 hf7
    have hz0' : H7[H.length]? = some (.cells 0 false 69 z0) := by rw [hf7 _ (by omega) (by omega), hf6 _ (by omega) (fun h => h)]; exact hz0
    have hz1' : H7[H.length + 1]? = some (.cells 0 false 69 z1) := by rw [hf7 _ (by omega) (by omega), hf6 _ (by omega) (fun h => h)]; exact hz1
    generalize lenF s short (lit + dist) t5 = r at *
    simp (config := {contextual := true, implicitDefEqProofs := false}) (disch := omega) [e0, e2, e3, e4, e5, e8, c1]
    refine call1_eq (ok_ok hp7) ?_
    by_cases c2 : r.2.err = 0
    · simp (config := {contextual := true, implicitDefEqProofs := false}) (disch := omega) [e0, e2, e3, e4, e5, e8, c2]
      have hN := (hlf.2.2.2.2.2 c2).1
      have ll : r.1.length ≤ 900 := by omega
      have hv2 : ∀ r, appTarget v r → H.length + 2 ≤ r := fun r h => by have := hlv r h; omega
      have hN2 : lit ≤ r.1.length := by omega
      refine rest51f_ok (r := r) (lit := lit) (lv := v) hpl hp7 hz0' hl0 hz1' hl1 c2 il ll hlf.1 hv2 hlit hN2 (by simp [e0]) (by simp [e2]) (by simp [e3]) (by simp [e4]) (by simp)
    · obtain ⟨H3, H4, g1, g2, f5, f6, hT⟩ := zero_ret hZ hpl hp7 hz0' hl0 hz1' hl1
      simp (config := {contextual := true, implicitDefEqProofs := false}) (disch := omega) [e0, e2, e3, e4, e5, e8, c2, g1, g2, resVal, f5, f6, afill]
      rw [dynD, if_pos c2]; exact hT
  · rw [dynC, if_pos c1]
    obtain ⟨H3, H4, g1, g2, f5, f6, hT⟩ := zero_ret hZ hpl hp5 hz0 hl0 hz1 hl1
    simp (config := {contextual := true, implicitDefEqProofs := false}) (disch := omega) [e0, e2, e3, e4, e5, e8, c1, g1, g2, resVal, f5, f6, afill]
    exact hT

theorem rest51b_ok {sh : List Int × St} {lit dist : Nat} {H5 : AHeap} {env' : Env} {z0 z1 : List AVal} {sv : AVal} (hs : s.length ≤ 2 ^ 50) (hpl : p < H.length) (hp5 : H5[p]? = some (rdBlk s sh.2 w most)) (hz0 : H5[H.length]? = some (.cells 0 false 69 z0)) (hl0 : z0.length = 18) (hz1 : H5[H.length + 1]? = some (.cells 0 false 69 z1)) (hl1 : z1.length = 18)
    (hat : sh.2.at' ≤ 8 * s.length) (is : Ints H5 sv sh.1) (lsh : sh.1.length = 19) (rsh : ∀ k ∈ sh.1, 0 ≤ k ∧ k ≤ 15) (hsv : ∀ r, appTarget sv r → r ≠ p) (hlit : 257 ≤ lit) (hlit2 : lit ≤ 300) (hdist : 1 ≤ dist) (hdist2 : dist ≤ 50)
    (e0 : env' 0 = .ptr p 0 0) (e2 : env' 2 = .ptr H.length 0 0) (e3 : env' 3 = .ptr (H.length + 1) 0 0) (e4 : env' 4 = .int .i64 lit) (e5 : env' 5 = .int .i64 dist) (e8 : env' 8 = sv) :
    vc (ACall Try.prog) (fun r => r = p ∨ H.length ≤ r) rest51b (rpost [.cellN 2 18, .cellN 3 18] (twoBooks H p s w most (dynB s lit dist sh))) env' H5 := by
  have hl5 := (List.getElem?_eq_some_iff.1 hz1).1
  unfold rest51b
  simp (config := {contextual := true, implicitDefEqProofs := false}) (disch := omega) [e0, e2, e3, e4, e5, e8]
  refine call1_eq (compl_ok is (by omega)) ?_
  by_cases c1 : complG sh.1
  · rw [dynB, if_pos c1]
    simp (config := {contextual := true, implicitDefEqProofs := false}) (disch := omega) [e0, e2, e3, e4, e5, e8, c1]
    exact rest51d_ok hs hpl hp5 hz0 hl0 hz1 hl1 hat is lsh rsh hlit hlit2 hdist hdist2 (by simp [e0]) (by simp [e2]) (by simp [e3]) (by simp [e4]) (by simp [e5]) (by simp [e8])
  · rw [dynB, if_neg c1]
    simp (config := {contextual := true, implicitDefEqProofs := false}) (disch := omega) [e0, e2, e3, e4, e5, e8, c1]
    refine call1_eq ((fail_ok hp5).use (fun r h => Or.inl (Or.inl h)) fun v H' q _ _ => q) ?_
    simp (config := {contextual := true, implicitDefEqProofs := false}) (disch := omega) [e0, e2, e3, e4, e5, e8, c1]
    have hk : ∀ k, k ≠ p → (H5.set p (rdBlk s (failM 4 sh.2) w most))[k]? = H5[k]? := fun k h => List.getElem?_set_ne (Ne.symm h)
    exact rest51d_ok hs hpl (List.getElem?_set_self (by omega)) (by rw [hk _ (by omega)]; exact hz0) hl0 (by rw [hk _ (by omega)]; exact hz1) hl1 (by simpa using hat) (is.keepAt fun r h _ => hk r (hsv r h)) lsh rsh hlit hlit2 hdist hdist2 (by simp [e0]) (by simp [e2]) (by simp [e3]) (by simp [e4]) (by simp [e5]) (by simp [e8])

theorem rest51a_ok {t4 : St} {lit dist N : Nat} {G : AHeap} {env' : Env} {z0 z1 : List AVal} (hs : s.length ≤ 2 ^ 50) (hpl : p < H.length) (hpG : G[p]? = some (rdBlk s t4 w most)) (hGl : G.length = H.length + 2) (hz0 : G[H.length]? = some (.cells 0 false 69 z0)) (hl0 : z0.length = 18) (hz1 : G[H.length + 1]? = some (.cells 0 false 69 z1)) (hl1 : z1.length = 18)
    (hat : t4.at' ≤ 8 * s.length) (hN : N ≤ 19) (hlit : 257 ≤ lit) (hlit2 : lit ≤ 300) (hdist : 1 ≤ dist) (hdist2 : dist ≤ 50)
    (e0 : env' 0 = .ptr p 0 0) (e2 : env' 2 = .ptr H.length 0 0) (e3 : env' 3 = .ptr (H.length + 1) 0 0) (e4 : env' 4 = .int .i64 lit) (e5 : env' 5 = .int .i64 dist) (e6 : env' 6 = .int .i64 N) :
    vc (ACall Try.prog) (fun r => r = p ∨ H.length ≤ r) rest51a (rpost [.cellN 2 18, .cellN 3 18] (twoBooks H p s w most (dynB s lit dist (shM s t4 N)))) env' G := by
  have hst : ∀ (z : List AVal), z.length = 19 → astores (G ++ [.cells 0 false 85 z]) G.length 0 0 o19 = some (G ++ [.cells 0 false 85 o19]) := by
    intro z hz
    rw [astores_new0, astores_all (hz.trans (by rfl)) (by kernel_rfl)]; rfl
  have ho19 : o19 = [.int .i64 16, .int .i64 17, .int .i64 18, .int .i64 0, .int .i64 8, .int .i64 7, .int .i64 9, .int .i64 6, .int .i64 10, .int .i64 5, .int .i64 11, .int .i64 4, .int .i64 12, .int .i64 3, .int .i64 13, .int .i64 2, .int .i64 14, .int .i64 1, .int .i64 15] := rfl
  have hst2 := hst [.int .i64 0, .int .i64 0, .int .i64 0, .int .i64 0, .int .i64 0, .int .i64 0, .int .i64 0, .int .i64 0, .int .i64 0, .int .i64 0, .int .i64 0, .int .i64 0, .int .i64 0, .int .i64 0, .int .i64 0, .int .i64 0, .int .i64 0, .int .i64 0, .int .i64 0] rfl
  rw [ho19] at hst2
  have hO : ∀ (A S : ABlk), (G.set p A ++ [.cells 0 false 85 o19, S])[G.length]? = some (.cells 0 false 85 o19) := by intro A S; rw [List.getElem?_append_right (by simp)]; simp
  have hS : ∀ (A O S : ABlk), (G.set p A ++ [O, S])[G.length + 1]? = some S := by intro A O S; rw [List.getElem?_append_right (by simp)]; simp
  have hP : ∀ (A O S : ABlk), (G.set p A ++ [O, S])[p]? = some A := by intro A O S; rw [List.getElem?_append_left (by simp; omega), List.getElem?_set_self (by omega)]
  have hset1 : ∀ (A A' O S : ABlk), (G.set p A ++ [O, S]).set p A' = G.set p A' ++ [O, S] := by intro A A' O S; rw [List.set_append_left _ _ (by simp; omega), List.set_set]
  have hset2 : ∀ (A O S S' : ABlk), (G.set p A ++ [O, S]).set (G.length + 1) S' = G.set p A ++ [O, S'] := by intro A O S S'; rw [List.set_append_right _ _ (by simp)]; simp
  have hkeep : ∀ (A O S : ABlk) k, k < G.length → k ≠ p → (G.set p A ++ [O, S])[k]? = G[k]? := by intro A O S k h1 h2; rw [List.getElem?_append_left (by simpa using h1), List.getElem?_set_ne (Ne.symm h2)]
  unfold rest51a
  have hsl : ∀ S : ABlk, vSlArr (G ++ [.cells 0 false 85 o19, S]) 19 1 (.ptr G.length 0 0) none (some (.int .i64 N)) = some (.slice G.length 0 0 N 1) := fun S => vSlArr_hi (r := G.length) (cs := o19) (e := 85) (ro := false) (by simp) rfl hN
  rw [ho19] at hsl
  simp (config := {contextual := true, implicitDefEqProofs := false}) (disch := omega) [e0, e2, e3, e4, e5, e6, afill, hst2, roomLim, zrep_one, hsl]
  rw [← ho19]
  refine ⟨by omega, ?_⟩
  refine vc_loop (inv51 G p s t4 w most N lit dist H.length) N ⟨0, by omega, by omega, by simp [shM, set_same hpG], by simp [e0], by simp [e2], by simp [e3], by simp [e4], by simp [e5], by simp, by simp, by simp, by simp⟩ ?_
  rintro n env H1 ⟨i, hi, rfl, rfl, f0, f2, f3, f4, f5, f8, f34, f35, f36⟩
  obtain ⟨g1, g2, g3, g4, g5⟩ := shM_facts s t4 hat i
  by_cases hlt : i < N
  · have hbl := bitsM_lt s 3 (shM s t4 i).2
    have hgO := ageOk_at (hO (rdBlk s (shM s t4 i).2 w most) (.cells 0 false 3 ((shM s t4 i).1.map (.int .i64))))
    have hld : aload (G.set p (rdBlk s (shM s t4 i).2 w most) ++ [.cells 0 false 85 o19, .cells 0 false 3 ((shM s t4 i).1.map (.int .i64))]) G.length 0 i = some (.int .i64 ((ord19.getD i 0 : Nat) : Int)) := by
      rw [aload_at (hO _ _)]
      simp only [o19, List.getElem?_map]
      have h19 : ord19.length = 19 := rfl
      rw [List.getD_eq_getElem?_getD, List.getElem?_eq_getElem (by omega)]; rfl
    have ho : ord19.getD i 0 < 19 := by
      have h19 : ∀ x ∈ ord19, x < 19 := by decide
      have hl19 : ord19.length = 19 := rfl
      rw [List.getD_eq_getElem?_getD, List.getElem?_eq_getElem (by omega)]
      exact h19 _ (List.getElem_mem _)
    have hsh1 : (shM s t4 (i + 1)).1 = (shM s t4 i).1.set (ord19.getD i 0) (bitsM s 3 (shM s t4 i).2).1 := rfl
    have hsh2 : (shM s t4 (i + 1)).2 = (bitsM s 3 (shM s t4 i).2).2 := rfl
    generalize ord19.getD i 0 = o at *
    simp (config := {contextual := true, implicitDefEqProofs := false}) (disch := omega) [f0, f2, f3, f4, f5, f8, f34, f35, f36, hlt, hgO, hld, show (i : Int) < N by omega]
    refine call1_eq ((bits_ok (hP _ _ _) (N := 3) (by omega) hs g3).use (fun r h => Or.inl (Or.inl h)) fun v H' q _ _ => q) ?_
    rw [hset1, ← hsh2]
    have hgS := ageOk_at (hS (rdBlk s (shM s t4 (i + 1)).2 w most) (.cells 0 false 85 o19) (.cells 0 false 3 ((shM s t4 i).1.map (.int .i64))))
    have hsto : astore (G.set p (rdBlk s (shM s t4 (i + 1)).2 w most) ++ [.cells 0 false 85 o19, .cells 0 false 3 ((shM s t4 i).1.map (.int .i64))]) (G.length + 1) 0 o (.int .i64 ((bitsM s 3 (shM s t4 i).2).1 : Nat)) = some (G.set p (rdBlk s (shM s t4 (i + 1)).2 w most) ++ [.cells 0 false 85 o19, .cells 0 false 3 ((shM s t4 (i + 1)).1.map (.int .i64))]) := by
      rw [astore_at (hS _ _ _), if_pos ⟨by simp [g1]; omega, rfl⟩, hset2, hsh1, List.map_set]
    simp (config := {contextual := true, implicitDefEqProofs := false}) (disch := omega) [f0, f2, f3, f4, f5, f8, f34, f35, f36, hgS, hsto, ho, i64_id, show (o : Int) < 19 by omega]
    refine ⟨by omega, ?_⟩
    exact again_iff (N - (i + 1)) (by omega) ⟨i + 1, by omega, rfl, rfl, by simp [f0], by simp [f2], by simp [f3], by simp [f4], by simp [f5], by simp [f8], by simp [f34], by simp [f35], by simp⟩
  · have hiN : i = N := by omega
    subst hiN
    simp (config := {contextual := true, implicitDefEqProofs := false}) (disch := omega) [f0, f2, f3, f4, f5, f8, f34, f35, f36]
    refine rest51b_ok (z0 := z0) (z1 := z1) (sv := .slice (G.length + 1) 0 0 19 1) hs hpl (hP _ _ _) (by rw [hkeep _ _ _ _ (by omega) (by omega)]; exact hz0) hl0 (by rw [hkeep _ _ _ _ (by omega) (by omega)]; exact hz1) hl1 g3 ?_ g1 g2 ?_ hlit hlit2 hdist hdist2 (by simp [f0]) (by simp [f2]) (by simp [f3]) (by simp [f4]) (by simp [f5]) (by simp [f8])
    · refine .inr (.inr ⟨G.length + 1, 0, 0, by simp [g1], ?_⟩)
      rw [aloads_at (hS _ _ _)]
      simp
      exact List.take_of_length_le (by simp)
    · intro r hr
      simp only [appTarget] at hr
      omega

theorem dyn_ok (hp : H[p]? = some (rdBlk s t w most)) (hs : s.length ≤ 2 ^ 50) (hat : t.at' ≤ 8 * s.length) :
    ACall Try.prog 51 [.ptr p 0 0] H (fun r => r = p) fun v H' => twoBooks H p s w most (dynM s t) v H' := by
  refine acall_of hmix Try.func51 x51s_ok (by simp) ?_
  have hpl := (List.getElem?_eq_some_iff.1 hp).1
  rw [zeroBook]
  generalize hZ : bookCells [] .nilslice (mostG [] 15) = Z
  have hZl : Z.length = 18 := by rw [← hZ]; simp
  have h1 := bitsM_at s 5 t hat
  have h2 := bitsM_at s 5 (bitsM s 5 t).2 h1.1
  have h3 := bitsM_at s 4 (bitsM s 5 (bitsM s 5 t).2).2 h2.1
  have l1 := bitsM_lt s 5 t
  have l2 := bitsM_lt s 5 (bitsM s 5 t).2
  have l3 := bitsM_lt s 4 (bitsM s 5 (bitsM s 5 t).2).2
  have hW : ∀ {b : ABlk}, (H ++ [ABlk.cells 0 false 69 Z, ABlk.cells 0 false 69 Z]).set p b = H.set p b ++ [ABlk.cells 0 false 69 Z, ABlk.cells 0 false 69 Z] := fun {b} => List.set_append_left _ _ hpl
  have hW2 : ∀ {a b : ABlk}, (H.set p a ++ [ABlk.cells 0 false 69 Z, ABlk.cells 0 false 69 Z]).set p b = H.set p b ++ [ABlk.cells 0 false 69 Z, ABlk.cells 0 false 69 Z] := fun {a b} => by rw [List.set_append_left _ _ (by simpa using hpl), List.set_set]
  have hP : ∀ {a : ABlk}, (H.set p a ++ [ABlk.cells 0 false 69 Z, ABlk.cells 0 false 69 Z])[p]? = some a := fun {a} => by rw [List.getElem?_append_left (by simpa using hpl), List.getElem?_set_self hpl]
  have hG1 : ∀ {a : ABlk}, (H.set p a ++ [ABlk.cells 0 false 69 Z, ABlk.cells 0 false 69 Z])[H.length]? = some (.cells 0 false 69 Z) := by intro a; rw [List.getElem?_append_right (by simp)]; simp
  have hG2 : ∀ {a : ABlk}, (H.set p a ++ [ABlk.cells 0 false 69 Z, ABlk.cells 0 false 69 Z])[H.length + 1]? = some (.cells 0 false 69 Z) := by intro a; rw [List.getElem?_append_right (by simp)]; simp
  simp
  refine call1_eq ((bits_ok (p := p) (s := s) (t := t) (w := w) (most := most) (N := 5) (by rw [List.getElem?_append_left hpl]; exact hp) (by omega) hs hat).use (fun r h => Or.inl (Or.inl h)) fun v H' q _ _ => q) ?_
  rw [hW]
  have a1 : abin .add (.int .i64 (((bitsM s 5 t).1 : Nat) : Int)) (.int .i64 257) = some (.int .i64 (((bitsM s 5 t).1 + 257 : Nat) : Int)) := by rw [abin_add, i64_id (by omega) (by omega)]; rfl
  have a2 : abin .add (.int .i64 (((bitsM s 5 (bitsM s 5 t).2).1 : Nat) : Int)) (.int .i64 1) = some (.int .i64 (((bitsM s 5 (bitsM s 5 t).2).1 + 1 : Nat) : Int)) := by rw [abin_add, i64_id (by omega) (by omega)]; rfl
  have a3 : abin .add (.int .i64 (((bitsM s 4 (bitsM s 5 (bitsM s 5 t).2).2).1 : Nat) : Int)) (.int .i64 4) = some (.int .i64 (((bitsM s 4 (bitsM s 5 (bitsM s 5 t).2).2).1 + 4 : Nat) : Int)) := by rw [abin_add, i64_id (by omega) (by omega)]; rfl
  simp (config := {contextual := true, implicitDefEqProofs := false}) (disch := omega) [a1, -abin_add, -Int.natCast_add]
  refine call1_eq ((bits_ok (N := 5) hP (by omega) hs h1.1).use (fun r h => Or.inl (Or.inl h)) fun v H' q _ _ => q) ?_
  rw [hW2]
  simp (config := {contextual := true, implicitDefEqProofs := false}) (disch := omega) [a2, -abin_add, -Int.natCast_add]
  refine call1_eq ((bits_ok (N := 4) hP (by omega) hs h2.1).use (fun r h => Or.inl (Or.inl h)) fun v H' q _ _ => q) ?_
  rw [hW2]
  unfold dynM
  generalize hlit : (bitsM s 5 t).1 + 257 = lit at *
  generalize hdist : (bitsM s 5 (bitsM s 5 t).2).1 + 1 = dist at *
  generalize hN : (bitsM s 4 (bitsM s 5 (bitsM s 5 t).2).2).1 + 4 = N at *
  generalize ht3 : (bitsM s 4 (bitsM s 5 (bitsM s 5 t).2).2).2 = t3 at *
  generalize (bitsM s 4 (bitsM s 5 (bitsM s 5 t).2).2).1 = b4 at *
  generalize ht4 : (if 286 < lit ∨ 30 < dist then failM 4 t3 else t3) = t4
  have hat4 : t4.at' ≤ 8 * s.length := by rw [← ht4]; split; (simp; omega); omega
  by_cases hb1 : 286 < lit
  · have e4 : failM 4 t3 = t4 := by rw [← ht4, if_pos (.inl hb1)]
    simp (config := {contextual := true, implicitDefEqProofs := false}) (disch := omega) [a3, show (286 : Int) < lit by omega, -abin_add, -Int.natCast_add]
    refine call1_eq ((fail_ok hP).use (fun r h => Or.inl (Or.inl h)) fun v H' q _ _ => q) ?_
    rw [e4, hW2]
    simp (config := {contextual := true, implicitDefEqProofs := false}) (disch := omega)
    exact rest51a_ok hs hpl hP (by simp) hG1 hZl hG2 hZl hat4 (by omega) (by omega) (by omega) (by omega) (by omega) (by simp) (by simp) (by simp) (by simp) (by simp) (by simp)
  · by_cases hb2 : 30 < dist
    · have e4 : failM 4 t3 = t4 := by rw [← ht4, if_pos (.inr hb2)]
      simp (config := {contextual := true, implicitDefEqProofs := false}) (disch := omega) [a3, show ¬ (286 : Int) < lit by omega, show (30 : Int) < dist by omega, -abin_add, -Int.natCast_add]
      refine call1_eq ((fail_ok hP).use (fun r h => Or.inl (Or.inl h)) fun v H' q _ _ => q) ?_
      rw [e4, hW2]
      simp (config := {contextual := true, implicitDefEqProofs := false}) (disch := omega)
      exact rest51a_ok hs hpl hP (by simp) hG1 hZl hG2 hZl hat4 (by omega) (by omega) (by omega) (by omega) (by omega) (by simp) (by simp) (by simp) (by simp) (by simp) (by simp)
    · have e4 : t3 = t4 := by rw [← ht4, if_neg (by omega)]
      rw [e4]
      simp (config := {contextual := true, implicitDefEqProofs := false}) (disch := omega) [a3, show ¬ (286 : Int) < lit by omega, show ¬ (30 : Int) < dist by omega, -abin_add, -Int.natCast_add]
      exact rest51a_ok hs hpl hP (by simp) hG1 hZl hG2 hZl hat4 (by omega) (by omega) (by omega) (by omega) (by omega) (by simp) (by simp) (by simp) (by simp) (by simp) (by simp)
end
end Go.Proofs.Ytdknddicpdhkcaa.Ab

/- Inflate: whole streams. Conditions: none; for the statements about layers 46 and 47. -/
namespace Go.Proofs.Ytdknddicpdhkcaa.Ab
set_option linter.unusedVariables false
set_option linter.unusedSimpArgs false

def kindM (s : List UInt8) (most F kind : Nat) (t : St) : St :=
  if kind = 0 then storedM s most t
  else if kind = 1 then dataM s most (lits 288) dists F t
  else if kind = 2 then dataM s most (dynM s t).1.1 (dynM s t).1.2 F (dynM s t).2
  else failM 4 t
def loopM (s : List UInt8) (most F : Nat) : Nat → St → St
  | 0, t => t
  | G + 1, t =>
    if t.err ≠ 0 then t
    else if (bitsM s 2 (bitsM s 1 t).2).2.err ≠ 0 then (bitsM s 2 (bitsM s 1 t).2).2
    else if (bitsM s 1 t).1 = 0 then loopM s most F G (kindM s most F (bitsM s 2 (bitsM s 1 t).2).1 (bitsM s 2 (bitsM s 1 t).2).2)
    else kindM s most F (bitsM s 2 (bitsM s 1 t).2).1 (bitsM s 2 (bitsM s 1 t).2).2
def clampN (n : Int) : Nat := min n.toNat 1048576
/-- Inflate: text, how many bytes were used, error. -/
def inflM (s : List UInt8) (n : Int) (F : Nat) : List UInt8 × Nat × Int :=
  if (loopM s (clampN n) F F ⟨0, [], 0⟩).err ≠ 0 then ([], 0, (loopM s (clampN n) F F ⟨0, [], 0⟩).err)
  else ((loopM s (clampN n) F F ⟨0, [], 0⟩).out, ((loopM s (clampN n) F F ⟨0, [], 0⟩).at' + 7) / 8, 0)

theorem storedM_facts (s : List UInt8) {most : Nat} {t : St} (ho : t.out.length ≤ most) (hat : t.at' ≤ 8 * s.length) : t.at' ≤ (storedM s most t).at' ∧ (storedM s most t).at' ≤ 8 * s.length ∧ (storedM s most t).out.length ≤ most := by
  unfold storedM
  split
  · simp [ho, hat]
  · split
    · simp [ho, hat]
    · split
      · simp [ho, hat]
      · split
        · simp [ho, hat]
        · simp; omega
theorem dataM_facts (s : List UInt8) {most : Nat} {ll dl : List Int} : ∀ {F : Nat} {t : St}, t.out.length ≤ most → t.at' ≤ 8 * s.length → t.at' ≤ (dataM s most ll dl F t).at' ∧ (dataM s most ll dl F t).at' ≤ 8 * s.length ∧ (dataM s most ll dl F t).out.length ≤ most
  | 0, t, ho, hat => ⟨Nat.le_refl _, hat, ho⟩
  | F + 1, t, ho, hat => by
    have hs := symG_facts s ll t hat
    have ho2 : (symG s ll t).2.out.length ≤ most := by rw [hs.2.1]; exact ho
    rw [dataM]
    split
    · exact ⟨Nat.le_refl _, hat, ho⟩
    · split
      · exact ⟨hs.2.2.2.1, hs.2.2.1, ho2⟩
      · split
        · have h1 := putM_facts s (c := UInt8.ofNat (symG s ll t).1.toNat) ho2
          have ih := dataM_facts s (ll := ll) (dl := dl) (F := F) (t := putM most (UInt8.ofNat (symG s ll t).1.toNat) (symG s ll t).2) h1.2 (by omega)
          exact ⟨by omega, ih.2.1, ih.2.2⟩
        · split
          · have ih := dataM_facts s (ll := ll) (dl := dl) (F := F) (t := failM 4 (symG s ll t).2) (by simpa using ho2) (by simpa using hs.2.2.1)
            have h1 : (failM 4 (symG s ll t).2).at' = (symG s ll t).2.at' := failM_at
            exact ⟨by omega, ih.2.1, ih.2.2⟩
          · have h1 := matchM_facts s (k := (symG s ll t).1.toNat) (dl := dl) ho2 hs.2.2.1
            have ih := dataM_facts s (ll := ll) (dl := dl) (F := F) (t := matchM s most (symG s ll t).1.toNat dl (symG s ll t).2) h1.2.2 h1.2.1
            exact ⟨by omega, ih.2.1, ih.2.2⟩
theorem kindM_facts (s : List UInt8) {most F kind : Nat} {t : St} (ho : t.out.length ≤ most) (hat : t.at' ≤ 8 * s.length) : t.at' ≤ (kindM s most F kind t).at' ∧ (kindM s most F kind t).at' ≤ 8 * s.length ∧ (kindM s most F kind t).out.length ≤ most := by
  unfold kindM
  split
  · exact storedM_facts s ho hat
  · split
    · exact dataM_facts s ho hat
    · split
      · have h := dynM_facts s hat
        have h2 := dataM_facts s (most := most) (ll := (dynM s t).1.1) (dl := (dynM s t).1.2) (F := F) (t := (dynM s t).2) (by rw [h.2.2.2.2.2.2]; exact ho) h.2.2.2.2.1
        exact ⟨by omega, h2.2.1, h2.2.2⟩
      · simp [ho, hat]

theorem Sl.tlt {H : AHeap} {v : AVal} {xs : List AVal} (h : Sl H v xs) {r : Nat} (ht : appTarget v r) : r < H.length := by
  rcases h with ⟨rfl, _⟩ | ⟨rfl, _⟩ | ⟨r', g, o, rfl, h⟩
  · exact ht.elim
  · exact ht.elim
  · simp only [appTarget] at ht; subst ht; exact aloads_lt h

section
variable {s : List UInt8} {t : St} {w : AVal} {most p : Nat} {H : AHeap} {fp : Nat → Prop}

def inv28 (s : List UInt8) (most F : Nat) (R : St) (p : Nat) (n : Nat) (env : Env) (H' : AHeap) : Prop :=
  ∃ (t : St) (last : Int), Rd (fun r => r ≤ p) p H' s t most ∧ p < H'.length ∧ t.at' ≤ 8 * s.length ∧ t.out.length ≤ most ∧ env 7 = .ptr p 0 0 ∧ env 8 = .int .i64 last ∧ ((last = 0 ∧ R = loopM s most F n t ∧ 8 * s.length - t.at' < n) ∨ (last = 1 ∧ R = t))

theorem inflate_raw {n : Int} {F : Nat} (hs : s.length ≤ 2 ^ 50) (hF : 8 * s.length < F) :
    ACall Try.prog 28 [.str s, .int .i64 n] H (fun _ => False) fun v _ => v = .tuple [.str (inflM s n F).1, .int .i64 (inflM s n F).2.1, .int .i64 (inflM s n F).2.2] := by
  refine acall_of hmix Try.func28 x28_ok (by simp) ?_
  have hmax : vMax (.int .i64 n) (.int .i64 0) = some (.int .i64 ((n.toNat : Nat) : Int)) := by
    simp only [vMax_int]; split <;> (congr 2; omega)
  have hmin : vMin (.int .i64 ((n.toNat : Nat) : Int)) (.int .i64 1048576) = some (.int .i64 ((clampN n : Nat) : Int)) := by
    unfold clampN
    simp only [vMin_int]; split <;> (congr 2; omega)
  have hM : clampN n ≤ 1048576 := by unfold clampN; omega
  unfold inflM
  generalize hR : loopM s (clampN n) F F ⟨0, [], 0⟩ = R
  generalize clampN n = M at *
  generalize n.toNat = n0 at *
  simp (config := {contextual := true, implicitDefEqProofs := false}) (disch := omega) [hmax, hmin, -vMax_int, -vMin_int, afill]
  refine vc_loop (inv28 s M F R H.length) F ⟨⟨0, [], 0⟩, 0, ⟨.nilslice, ?_, .inl ⟨rfl, rfl⟩⟩, by simp, by simp, by simp, by simp, by simp, .inl ⟨rfl, hR.symm, by simpa using hF⟩⟩ ?_
  · simp [rdBlk, rcs]
  rintro n' env H1 ⟨t1, last, hRd, hl1, hat1, ho1, e7, e8, hcase⟩
  obtain ⟨w, hp1, hw⟩ := hRd
  rcases hcase with ⟨rfl, hloop, hn⟩ | ⟨rfl, hloop⟩
  · obtain ⟨n1, rfl⟩ : ∃ n1, n' = n1 + 1 := ⟨n' - 1, by omega⟩
    rw [loopM] at hloop
    simp (config := {contextual := true, implicitDefEqProofs := false}) (disch := omega) [e7, e8]
    refine call1_eq (ok_ok hp1) ?_
    by_cases c1 : t1.err = 0
    · rw [if_neg (show ¬ t1.err ≠ 0 by simp [c1])] at hloop
      simp (config := {contextual := true, implicitDefEqProofs := false}) (disch := omega) [e7, e8, c1]
      have hb1 := bitsM_at s 1 t1 hat1
      have hb1l := bitsM_le s t1
      refine call1_eq ((bits_ok hp1 (N := 1) (by omega) hs hat1).use (fun r h => Or.inl (by omega)) fun v H' q _ _ => q) ?_
      have hp2 : (H1.set H.length (rdBlk s (bitsM s 1 t1).2 w M))[H.length]? = some (rdBlk s (bitsM s 1 t1).2 w M) := List.getElem?_set_self hl1
      simp (config := {contextual := true, implicitDefEqProofs := false}) (disch := omega) [e7, e8, c1]
      refine call1_eq ((bits_ok hp2 (N := 2) (by omega) hs hb1.1).use (fun r h => Or.inl (by omega)) fun v H' q _ _ => q) ?_
      rw [List.set_set]
      have hb2 := bitsM_at s 2 (bitsM s 1 t1).2 hb1.1
      have hb2l := bitsM_lt s 2 (bitsM s 1 t1).2
      have ho2 : (bitsM s 2 (bitsM s 1 t1).2).2.out = t1.out := by simp
      have hba := bitsM_at2 s (n := 2) (t := (bitsM s 1 t1).2)
      generalize hkd : (bitsM s 2 (bitsM s 1 t1).2).1 = kind at *
      generalize ht2 : (bitsM s 2 (bitsM s 1 t1).2).2 = t2 at *
      generalize hla : (bitsM s 1 t1).1 = la at *
      have hp3 : (H1.set H.length (rdBlk s t2 w M))[H.length]? = some (rdBlk s t2 w M) := List.getElem?_set_self hl1
      have hR3 : Rd (fun r => r ≤ H.length) H.length (H1.set H.length (rdBlk s t2 w M)) s t2 M := Rd.set (by rw [ho2]; exact hw) (Nat.le_refl _) hl1
      have hl3 : H.length < (H1.set H.length (rdBlk s t2 w M)).length := by simpa using hl1
      generalize H1.set H.length (rdBlk s t2 w M) = H3 at *
      have ho3 : t2.out.length ≤ M := by rw [ho2]; exact ho1
      simp (config := {contextual := true, implicitDefEqProofs := false}) (disch := omega) [e7, e8, c1]
      refine call1_eq (ok_ok hp3) ?_
      by_cases c2 : t2.err = 0
      · rw [if_neg (show ¬ t2.err ≠ 0 by simp [c2])] at hloop
        have hba2 := hba c2
        have hkf := kindM_facts s (F := F) (kind := kind) ho3 hb2.1
        -- behind the block
        have fin : ∀ (H4 : AHeap) (env' : Env), Rd (fun r => r ≤ H.length) H.length H4 s (kindM s M F kind t2) M → H3.length ≤ H4.length → env' 7 = .ptr H.length 0 0 → env' 8 = .int .i64 la → again (inv28 s M F R H.length) (n1 + 1) env' H4 := by
          intro H4 env' h1 h2 f7 f8
          refine again_iff n1 (by omega) ⟨kindM s M F kind t2, la, h1, by omega, hkf.2.1, hkf.2.2, f7, f8, ?_⟩
          by_cases hl0 : la = 0
          · rw [if_pos hl0] at hloop
            exact .inl ⟨by omega, hloop, by omega⟩
          · rw [if_neg hl0] at hloop
            exact .inr ⟨by omega, hloop⟩
        have hB3 : ∀ r, (fun r => r ≤ H.length) r → r < H3.length := fun r hr => by omega
        have hfp : ∀ r, (r = H.length ∨ ¬ r ≤ H.length) → H.length ≤ r ∨ H3.length ≤ r := fun r h => by omega
        -- a block with codes
        have codes : ∀ (H4 : AHeap) (ll dl : List Int) (lw dw : AVal) (t4 : St) (d : Option Nat) (L : List XIns) (K : Env → AHeap → Prop) (env' : Env), kindM s M F kind t2 = dataM s M ll dl F t4 → H4[H.length]? = some (rdBlk s t4 w M) → H3.length ≤ H4.length → (∀ r, r < H3.length → r ≠ H.length → H4[r]? = H3[r]?) → t4.at' ≤ 8 * s.length → t2.at' ≤ t4.at' → t4.out = t2.out →
            Ints H4 lw (ordG ll 15) → Ints H4 dw (ordG dl 15) → (∀ r, appTarget lw r → H3.length ≤ r ∧ r < H4.length) → (∀ r, appTarget dw r → H3.length ≤ r ∧ r < H4.length) → ll.length ≤ 1000 → dl.length ≤ 1000 →
            (∀ H5, Rd (fun r => r ≤ H.length) H.length H5 s (kindM s M F kind t2) M → H3.length ≤ H5.length → vcOps (ACall Try.prog) (fun r => H.length ≤ r) L K (env'.put d (.tuple [])) H5) →
            call1 (ACall Try.prog) (fun r => H.length ≤ r) 49 [.ptr H.length 0 0, .agg (bookCells ll lw (mostG ll 15)), .agg (bookCells dl dw (mostG dl 15))] d L K env' H4 := by
          intro H4 ll dl lw dw t4 d L K env' h0 h1 h2 h3 h4 h5 h6 h7 h8 h9 h10 h11 h12 hk
          have hw3 : OwnX (fun r => r ≤ H.length) H3 5 w (bytesOf t2.out) := by
            obtain ⟨w', hw1, hw2⟩ := hR3
            have hww : w' = w := by
              rw [hp3] at hw1
              simp only [rdBlk, rcs, Option.some.injEq, ABlk.cells.injEq, List.cons.injEq] at hw1
              exact hw1.2.2.2.2.2.1.symm
            rw [← hww]; exact hw2
          have hw4 : OwnX (fun r => r ≤ H.length ∨ (H3.length ≤ r ∧ r < H4.length)) H4 5 w (bytesOf t4.out) := by
            rw [h6]
            have h13 : OwnX (fun r => r ≤ H.length ∨ (H3.length ≤ r ∧ r < H4.length)) H3 5 w (bytesOf t2.out) := hw3.sub fun r g1 g2 => by omega
            exact h13.keep fun k g1 g2 => h3 k g2 (by omega)
          refine call1_of (data_ok (B := fun r => r ≤ H.length ∨ (H3.length ≤ r ∧ r < H4.length)) (t := t4) (F := F) (fun r h => by omega) (.inl (Nat.le_refl _)) ⟨w, h1, hw4⟩ hs h4 (by omega) (by rw [h6]; exact ho3) (by omega) h7 (fun r hr => by have := h9 r hr; omega) h11 h8 (fun r hr => by have := h10 r hr; omega) h12) (fun r h => by omega) ?_
          rintro v H5 ⟨rfl, w5, hp5, hw5⟩ hl5 _
          refine hk H5 ?_ (by omega)
          rw [h0]
          exact ⟨w5, hp5, hw5.sub fun r _ h => .inl h⟩
        rcases (by omega : kind = 0 ∨ kind = 1 ∨ kind = 2 ∨ kind = 3) with rfl | rfl | rfl | rfl
        · have hk : kindM s M F 0 t2 = storedM s M t2 := by rw [kindM, if_pos rfl]
          simp (config := {contextual := true, implicitDefEqProofs := false}) (disch := omega) [e7, e8, c1, c2]
          refine call1_of (stored_ok hB3 (Nat.le_refl _) hR3 c2 hs hb2.1 (by omega) ho3) hfp ?_
          rintro v H4 ⟨rfl, hR4⟩ hl4 _
          rw [← hk] at hR4
          simp (config := {contextual := true, implicitDefEqProofs := false}) (disch := omega) [e7, e8]
          exact fin H4 _ hR4 hl4 (by simp [e7]) (by simp)
        · have hk : kindM s M F 1 t2 = dataM s M (lits 288) dists F t2 := by rw [kindM, if_neg (by omega), if_pos rfl]
          simp (config := {contextual := true, implicitDefEqProofs := false}) (disch := omega) [e7, e8, c1, c2]
          refine call1_eq (fixed_ok) ?_
          have o1 : (ordVal H3 (ordG (lits 288) 15)) = .slice H3.length ((ordG (lits 288) 15).length - 1) 0 (ordG (lits 288) 15).length 1 := by unfold ordVal; rw [if_neg ord_lits]
          rw [o1]
          have i1 : Ints (H3 ++ [ordBlk (ordG (lits 288) 15), ordBlk (ordG dists 15)]) (.slice H3.length ((ordG (lits 288) 15).length - 1) 0 (ordG (lits 288) 15).length 1) (ordG (lits 288) 15) := by
            refine .inr (.inr ⟨H3.length, (ordG (lits 288) 15).length - 1, 0, by simp, ?_⟩)
            have hb : (H3 ++ [ordBlk (ordG (lits 288) 15), ordBlk (ordG dists 15)])[H3.length]? = some (ordBlk (ordG (lits 288) 15)) := by rw [List.getElem?_append_right (by omega)]; simp
            rw [aloads_at hb, if_pos (by simp)]; simp; exact List.take_of_length_le (by simp)
          have i2 : Ints (H3 ++ [ordBlk (ordG (lits 288) 15), ordBlk (ordG dists 15)]) (.slice (H3.length + 1) ((ordG dists 15).length - 1) 0 (ordG dists 15).length 1) (ordG dists 15) := by
            refine .inr (.inr ⟨H3.length + 1, (ordG dists 15).length - 1, 0, by simp, ?_⟩)
            have hb : (H3 ++ [ordBlk (ordG (lits 288) 15), ordBlk (ordG dists 15)])[H3.length + 1]? = some (ordBlk (ordG dists 15)) := by rw [List.getElem?_append_right (by omega)]; simp
            rw [aloads_at hb, if_pos (by simp)]; simp; exact List.take_of_length_le (by simp)
          have hlen4 : (H3 ++ [ordBlk (ordG (lits 288) 15), ordBlk (ordG dists 15)]).length = H3.length + 2 := by simp
          have hf4 : ∀ r, r < H3.length → (H3 ++ [ordBlk (ordG (lits 288) 15), ordBlk (ordG dists 15)])[r]? = H3[r]? := fun r h => List.getElem?_append_left h
          generalize H3 ++ [ordBlk (ordG (lits 288) 15), ordBlk (ordG dists 15)] = H4 at *
          generalize (ordG (lits 288) 15).length - 1 = g1 at *
          generalize (ordG (lits 288) 15).length = g2 at *
          generalize (ordG dists 15).length - 1 = g3 at *
          generalize (ordG dists 15).length = g4 at *
          simp (config := {contextual := true, implicitDefEqProofs := false}) (disch := omega) [e7, e8, c1, c2]
          refine codes H4 (lits 288) dists _ _ t2 _ _ _ _ hk (by rw [hf4 _ hl3]; exact hp3) (by omega) (fun r h1 _ => hf4 r h1) hb2.1 (Nat.le_refl _) rfl i1 i2 ?_ ?_ (by simp) (by simp [dists]) ?_
          · intro r hr; simp only [appTarget] at hr; omega
          · intro r hr; simp only [appTarget] at hr; omega
          intro H5 hR5 hl5
          simp (config := {contextual := true, implicitDefEqProofs := false}) (disch := omega) [e7, e8]
          exact fin H5 _ hR5 hl5 (by simp [e7]) (by simp)
        · have hk : kindM s M F 2 t2 = dataM s M (dynM s t2).1.1 (dynM s t2).1.2 F (dynM s t2).2 := by rw [kindM, if_neg (by omega), if_neg (by omega), if_pos rfl]
          have hdf := dynM_facts s hb2.1
          simp (config := {contextual := true, implicitDefEqProofs := false}) (disch := omega) [e7, e8, c1, c2]
          refine call1_of (dyn_ok hp3 hs hb2.1) (fun r h => by omega) ?_
          rintro v H4 ⟨lw, dw, rfl, hlw, hdw, hlt, hdt, hp4⟩ hl4 hf4
          simp (config := {contextual := true, implicitDefEqProofs := false}) (disch := omega) [e7, e8, c1, c2]
          refine codes H4 _ _ lw dw (dynM s t2).2 _ _ _ _ hk hp4 hl4 (fun r h1 h2 => hf4 r h1 h2) hdf.2.2.2.2.1 hdf.2.2.2.2.2.1 hdf.2.2.2.2.2.2 hlw hdw ?_ ?_ hdf.1 hdf.2.1 ?_
          · exact fun r h => ⟨hlt r h, Sl.tlt hlw h⟩
          · exact fun r h => ⟨hdt r h, Sl.tlt hdw h⟩
          intro H5 hR5 hl5
          simp (config := {contextual := true, implicitDefEqProofs := false}) (disch := omega) [e7, e8]
          exact fin H5 _ hR5 hl5 (by simp [e7]) (by simp)
        · have hk : kindM s M F 3 t2 = failM 4 t2 := by rw [kindM, if_neg (by omega), if_neg (by omega), if_neg (by omega)]
          simp (config := {contextual := true, implicitDefEqProofs := false}) (disch := omega) [e7, e8, c1, c2]
          refine call1_of (fail_rd hB3 (Nat.le_refl _) hR3) hfp ?_
          rintro v H4 ⟨rfl, hR4⟩ hl4 _
          rw [← hk] at hR4
          simp (config := {contextual := true, implicitDefEqProofs := false}) (disch := omega) [e7, e8]
          exact fin H4 _ hR4 hl4 (by simp [e7]) (by simp)
      · rw [if_pos c2] at hloop
        simp (config := {contextual := true, implicitDefEqProofs := false}) (disch := omega) [e7, e8, c1, c2]
        refine call1_eq (ok_ok hp3) ?_
        have g3 := ageOk_at hp3
        simp (config := {contextual := true, implicitDefEqProofs := false}) (disch := omega) [e7, e8, c1, c2, g3, rd4 hp3, hloop]
    · rw [if_pos c1] at hloop
      have g1 := ageOk_at hp1
      simp (config := {contextual := true, implicitDefEqProofs := false}) (disch := omega) [e7, e8, c1]
      refine call1_eq (ok_ok hp1) ?_
      simp (config := {contextual := true, implicitDefEqProofs := false}) (disch := omega) [e7, e8, c1, g1, rd4 hp1, hloop]
  · have g1 := ageOk_at hp1
    simp (config := {contextual := true, implicitDefEqProofs := false}) (disch := omega) [e7, e8]
    refine call1_eq (ok_ok hp1) ?_
    by_cases c1 : t1.err = 0
    · have a1 : abin .add (.int .i64 (t1.at' : Int)) (.int .i64 7) = some (.int .i64 ((t1.at' : Int) + 7)) := by rw [abin_add, i64_id (by omega) (by omega)]
      have a2 : abin .quo (.int .i64 ((t1.at' : Int) + 7)) (.int .i64 8) = some (.int .i64 (((t1.at' + 7) / 8 : Nat) : Int)) := by
        rw [abin_quo (by omega), Int.tdiv_eq_ediv_of_nonneg (by omega), i64_id (by omega) (by omega)]; rfl
      simp (config := {contextual := true, implicitDefEqProofs := false}) (disch := omega) [e7, e8, c1, g1, rd1 hp1, rd2 hp1, hw.sl.toStr, a1, a2, hloop, -abin_add, -Int.natCast_ediv]
    · simp (config := {contextual := true, implicitDefEqProofs := false}) (disch := omega) [e7, e8, c1, g1, rd4 hp1, hloop]
/-- Inflate, in any state. -/
theorem inflate_ok {n : Int} {F : Nat} (hs : s.length ≤ 2 ^ 50) (hF : 8 * s.length < F) :
    ACall Try.prog 28 [.str s, .int .i64 n] H fp fun v H' => v = .tuple [.str (inflM s n F).1, .int .i64 (inflM s n F).2.1, .int .i64 (inflM s n F).2.2] ∧ H' = H := by
  refine (ACall.drop (inflate_raw hs hF) ?_).mono fun v' H' q => ⟨q.2.elim fun _ q => q.1, q.1⟩
  rintro v' H' rfl
  rfl
end
end Go.Proofs.Ytdknddicpdhkcaa.Ab

/- Inflate: stored blocks. Conditions: none; for the statements about layers 46 and 47. -/
namespace Go.Proofs.Ytdknddicpdhkcaa.Ab
set_option linter.unusedVariables false
set_option linter.unusedSimpArgs false

def hdrB (n : Nat) (last : Bool) : List UInt8 := [if last then 1 else 0, UInt8.ofNat (n % 256), UInt8.ofNat (n / 256), UInt8.ofNat ((65535 - n) % 256), UInt8.ofNat ((65535 - n) / 256)]
def blkB (s : List UInt8) (last : Bool) : List UInt8 := hdrB s.length last ++ s
@[simp] theorem hdrB_len (n : Nat) (last : Bool) : (hdrB n last).length = 5 := rfl
@[simp] theorem blkB_len (s : List UInt8) (last : Bool) : (blkB s last).length = 5 + s.length := by simp [blkB]

theorem chr_app (pre x : List UInt8) (i : Nat) : chr (pre ++ x) (pre.length + i) = chr x i := by
  simp [chr, List.getD_eq_getElem?_getD, List.getElem?_append_right]
theorem chr_left {x y : List UInt8} {i : Nat} (h : i < x.length) : chr (x ++ y) i = chr x i := by
  simp [chr, List.getD_eq_getElem?_getD, List.getElem?_append_left h]

theorem stored_step (pre a post : List UInt8) (f : Bool) (t : St) (M F G : Nat) (ht : t.at' = 8 * pre.length) (he : t.err = 0) (hl : a.length ≤ 65535) (ho : t.out.length + a.length ≤ M) :
    loopM (pre ++ (blkB a f ++ post)) M F (G + 1) t = if f = true then ⟨8 * (pre.length + 5 + a.length), t.out ++ a, 0⟩ else loopM (pre ++ (blkB a f ++ post)) M F G ⟨8 * (pre.length + 5 + a.length), t.out ++ a, 0⟩ := by
  have hc : ∀ i, i < 5 → chr (pre ++ (blkB a f ++ post)) (pre.length + i) = chr (hdrB a.length f) i := by
    intro i hi
    rw [chr_app, chr_left (by simp; omega), blkB, chr_left (by simpa using hi)]
  have hlen : (pre ++ (blkB a f ++ post)).length = pre.length + (5 + a.length + post.length) := by simp
  have hdrop : ((pre ++ (blkB a f ++ post)).drop (pre.length + 5)).take a.length = a := by
    rw [List.drop_append, List.drop_of_length_le (by omega), List.nil_append, show pre.length + 5 - pre.length = 5 by omega, blkB, List.append_assoc, List.drop_append, List.drop_of_length_le (by simp), List.nil_append, hdrB_len, Nat.sub_self, List.drop_zero]
    simp
  generalize pre ++ (blkB a f ++ post) = s at *
  have c0 : chr s pre.length = if f then 1 else 0 := by have := hc 0 (by omega); simpa [chr, hdrB] using this
  have c1 : (chr s (pre.length + 1)).toNat = a.length % 256 := by rw [hc 1 (by omega)]; simp [chr, hdrB]
  have c2 : (chr s (pre.length + 1 + 1)).toNat = a.length / 256 := by rw [show pre.length + 1 + 1 = pre.length + 2 by omega, hc 2 (by omega)]; simp [chr, hdrB]; omega
  have c3 : (chr s (pre.length + 1 + 2)).toNat = (65535 - a.length) % 256 := by rw [show pre.length + 1 + 2 = pre.length + 3 by omega, hc 3 (by omega)]; simp [chr, hdrB]
  have c4 : (chr s (pre.length + 1 + 2 + 1)).toNat = (65535 - a.length) / 256 := by rw [show pre.length + 1 + 2 + 1 = pre.length + 4 by omega, hc 4 (by omega)]; simp [chr, hdrB]; omega
  have b0 : bitAt s (8 * pre.length) = if f then 1 else 0 := by
    unfold bitAt
    rw [show 8 * pre.length / 8 = pre.length by omega, show 8 * pre.length % 8 = 0 by omega, c0]
    cases f <;> rfl
  have b1 : bitAt s (8 * pre.length + 1) = 0 := by
    unfold bitAt
    rw [show (8 * pre.length + 1) / 8 = pre.length by omega, show (8 * pre.length + 1) % 8 = 1 by omega, c0]
    cases f <;> rfl
  have b2 : bitAt s (8 * pre.length + 2) = 0 := by
    unfold bitAt
    rw [show (8 * pre.length + 2) / 8 = pre.length by omega, show (8 * pre.length + 2) % 8 = 2 by omega, c0]
    cases f <;> rfl
  have m1 : bitsM s 1 t = (if f then 1 else 0, { t with at' := 8 * pre.length + 1 }) := by
    unfold bitsM
    rw [if_neg (by simp [he]), if_neg (by omega), ht]
    simp [bitsV, b0]
  have m2 : bitsM s 2 { t with at' := 8 * pre.length + 1 } = (0, { t with at' := 8 * pre.length + 3 }) := by
    unfold bitsM
    rw [if_neg (by simp [he]), if_neg (by simp only []; omega)]
    simp [bitsV, b1, b2]
  have hst : storedM s M { t with at' := 8 * pre.length + 3 } = ⟨8 * (pre.length + 5 + a.length), t.out ++ a, 0⟩ := by
    unfold storedM n16
    simp only []
    rw [show (8 * pre.length + 3 + 7) / 8 = pre.length + 1 by omega, c1, c2, c3, c4]
    rw [if_neg (by omega), if_neg (by omega), if_neg (by omega), if_neg (by omega)]
    rw [show a.length % 256 + a.length / 256 * 256 = a.length by omega, show pre.length + 1 + 4 = pre.length + 5 by omega, hdrop, he]
  rw [loopM, m1]
  simp only [m2]
  rw [if_neg (by simp [he]), if_neg (by simp [he]), kindM, if_pos rfl, hst]
  cases f <;> simp

/-- Two stored blocks, and whatever comes behind. -/
theorem infl_two {a b rest : List UInt8} (ha : a.length ≤ 65535) (hb : b.length ≤ 65535) {F : Nat} (hF : 2 ≤ F) :
    inflM (blkB a false ++ blkB b true ++ rest) 1048576 F = (a ++ b, (blkB a false ++ blkB b true).length, 0) := by
  have hM : clampN 1048576 = 1048576 := rfl
  obtain ⟨F', rfl⟩ : ∃ F', F = F' + 1 + 1 := ⟨F - 2, by omega⟩
  have h1 := stored_step [] a (blkB b true ++ rest) false ⟨0, [], 0⟩ 1048576 (F' + 1 + 1) (F' + 1) rfl rfl ha (by simp; omega)
  have h2 := stored_step (blkB a false) b rest true ⟨8 * (0 + 5 + a.length), a, 0⟩ 1048576 (F' + 1 + 1) F' (by simp) rfl hb (by simp only []; omega)
  simp only [List.nil_append, List.length_nil, Bool.false_eq_true, if_false] at h1
  rw [if_pos rfl] at h2
  rw [List.append_assoc, inflM, hM, h1, h2]
  simp
  omega

/-- One stored block that is not the last one, and nothing behind it. -/
theorem infl_one {a : List UInt8} (ha : a.length ≤ 65535) {F : Nat} (hF : 2 ≤ F) : inflM (blkB a false) 1048576 F = ([], 0, 5) := by
  have hM : clampN 1048576 = 1048576 := rfl
  obtain ⟨F', rfl⟩ : ∃ F', F = F' + 1 + 1 := ⟨F - 2, by omega⟩
  have h1 := stored_step [] a [] false ⟨0, [], 0⟩ 1048576 (F' + 1 + 1) (F' + 1) rfl rfl ha (by simp; omega)
  simp only [List.nil_append, List.length_nil, Bool.false_eq_true, if_false, List.append_nil] at h1
  have m1 : bitsM (blkB a false) 1 ⟨8 * (0 + 5 + a.length), a, 0⟩ = (0, ⟨8 * (0 + 5 + a.length), a, 5⟩) := by
    unfold bitsM
    rw [if_neg (by simp), if_pos (by simp)]
  have m2 : bitsM (blkB a false) 2 ⟨8 * (0 + 5 + a.length), a, 5⟩ = (0, ⟨8 * (0 + 5 + a.length), a, 5⟩) := by
    unfold bitsM
    rw [if_pos (by simp)]
  have h2 : loopM (blkB a false) 1048576 (F' + 1 + 1) (F' + 1) ⟨8 * (0 + 5 + a.length), a, 0⟩ = ⟨8 * (0 + 5 + a.length), a, 5⟩ := by
    rw [loopM, m1]
    simp only [m2]
    simp
  rw [inflM, hM, h1, h2]
  simp

section
variable {H : AHeap} {fp : Nat → Prop}
theorem u8_wrap (n : Nat) : IntKind.u8.wrap (n : Int) = ((n % 256 : Nat) : Int) := by
  rw [show (n : Int) = ((n : Nat) : Int) from rfl]
  simp [IntKind.wrap, IntKind.bits, IntKind.signed]

theorem block_ok {s : List UInt8} {last : Bool} (hl : s.length ≤ 65535) : ACall Try.prog 27 [.str s, .bool last] H fp fun v H' => v = .str (blkB s last) ∧ H' = H := by
  refine (ACall.drop (R := fun v' _ => v' = .str (blkB s last)) ?_ (by rintro v' H' rfl; rfl)).mono fun v' H' q => ⟨q.2.elim fun _ q => q.1, q.1⟩
  refine acall_of hmix Try.func27 x27_ok (by simp) ?_
  have a1 : abin .sub (.int .i64 65535) (.int .i64 (s.length : Int)) = some (.int .i64 ((65535 - s.length : Nat) : Int)) := by rw [abin_sub, i64_id (by omega) (by omega)]; congr 2; omega
  have a2 : ∀ n : Nat, abin .shr (.int .i64 (n : Int)) (.int .u64 8) = some (.int .i64 ((n / 256 : Nat) : Int)) := by
    intro n
    rw [abin_shr (by omega)]
    have := fdiv_nat n 8
    simp only [bits_i64, show min (8 : Int).toNat 64 = 8 by decide] at this ⊢
    rw [this]
  have hb : ∀ x : UInt8, IntKind.u8.wrap ((x.toNat : Nat) : Int) = x.toNat := fun x => u8_nat (by have := UInt8.toNat_lt x; omega)
  have key : ∀ b : Int, b = (if last then 1 else 0) → vConvBS (H ++ [.cells 0 false 5 [.int .u8 b, .int .u8 ((s.length % 256 : Nat) : Int), .int .u8 ((s.length / 256 % 256 : Nat) : Int), .int .u8 (((65535 - s.length) % 256 : Nat) : Int), .int .u8 (((65535 - s.length) / 256 % 256 : Nat) : Int)]]) (.slice H.length 0 0 5 1) = some (.str (hdrB s.length last)) := by
    intro b hb2
    refine Sl.toStr (.inr (.inr ⟨H.length, 0, 0, by simp, ?_⟩))
    subst hb2
    cases last <;> simp [bytesOf, hdrB]
  cases last
  · have k := key 0 rfl
    simp (config := {contextual := true, implicitDefEqProofs := false}) (disch := (simp; omega)) [a1, a2, u8_wrap, afill, zrep, -Int.natCast_ediv, -Int.natCast_emod, k, abin_sadd, blkB]
  · have k := key 1 rfl
    simp (config := {contextual := true, implicitDefEqProofs := false}) (disch := (simp; omega)) [a1, a2, u8_wrap, afill, zrep, -Int.natCast_ediv, -Int.natCast_emod, k, abin_sadd, blkB]

/-- The law InflateStored, over the abstract layer. -/
theorem law7_all {a b rest : List UInt8} (hr : rest.length ≤ 2 ^ 48) (hla : a.length ≤ 2 ^ 48) (hlb : b.length ≤ 2 ^ 48) (awake : ∀ (H : AHeap) (fp : Nat → Prop), ACall Try.prog 26 [] H fp fun v' H' => v' = .bool true ∧ H' = H) :
    ACall Try.prog 7 [.str a, .str b, .str rest] H fp fun v' H' => v' = .bool true ∧ H' = H := by
  refine acall_of hmix Try.func7 x7_ok (by simp) ?_
  by_cases c : a.length ≤ 65535 ∧ b.length ≤ 65535
  · obtain ⟨ha, hb⟩ := c
    have l1 : abin .add (.str (blkB a false)) (.str (blkB b true)) = some (.str (blkB a false ++ blkB b true)) := abin_sadd (by simp; omega)
    have l2 : abin .add (.str (blkB a false ++ blkB b true)) (.str rest) = some (.str (blkB a false ++ blkB b true ++ rest)) := abin_sadd (by simp; omega)
    have l3 : abin .add (.str a) (.str b) = some (.str (a ++ b)) := abin_sadd (by omega)
    have i1 := inflate_ok (H := H) (fp := fun r => fp r ∨ H.length ≤ r) (s := blkB a false ++ blkB b true ++ rest) (n := 1048576) (F := 8 * (blkB a false ++ blkB b true ++ rest).length + 2) (by simp; omega) (by omega)
    rw [infl_two ha hb (by omega)] at i1
    have i2 := inflate_ok (H := H) (fp := fun r => fp r ∨ H.length ≤ r) (s := blkB a false) (n := 1048576) (F := 8 * (blkB a false).length + 2) (by simp; omega) (by omega)
    rw [infl_one ha (by omega)] at i2
    have hsl : aLenS (.str (blkB a false ++ blkB b true)) = some (.int .i64 (((blkB a false ++ blkB b true).length : Nat) : Int)) := rfl
    generalize hS : blkB a false ++ blkB b true = S at *
    simp (config := {contextual := true, implicitDefEqProofs := false}) (disch := omega) [show ¬ (65535 : Int) < a.length by omega, show ¬ (65535 : Int) < b.length by omega]
    refine call1_eq (block_ok ha) ?_
    simp (config := {contextual := true, implicitDefEqProofs := false}) (disch := omega)
    refine call1_eq (block_ok hb) ?_
    simp (config := {contextual := true, implicitDefEqProofs := false}) (disch := omega) [l1, l2]
    refine call1_eq i1 ?_
    simp (config := {contextual := true, implicitDefEqProofs := false}) (disch := omega)
    refine call1_eq (block_ok ha) ?_
    simp (config := {contextual := true, implicitDefEqProofs := false}) (disch := omega)
    refine call1_eq i2 ?_
    simp (config := {contextual := true, implicitDefEqProofs := false}) (disch := omega) [l3, hsl, -aLenS_str]
    refine call1_eq (awake _ _) ?_
    simp
  · by_cases c1 : a.length ≤ 65535
    · simp (config := {contextual := true, implicitDefEqProofs := false}) (disch := omega) [show ¬ (65535 : Int) < a.length by omega, show (65535 : Int) < b.length by omega]
      refine call1_eq (awake _ _) ?_
      simp
    · simp (config := {contextual := true, implicitDefEqProofs := false}) (disch := omega) [show (65535 : Int) < a.length by omega]
      refine call1_eq (awake _ _) ?_
      simp
end
end Go.Proofs.Ytdknddicpdhkcaa.Ab

/- Inflate: zlib streams and their checksums. Conditions: none; for the statements about layers 46 and 47. -/
namespace Go.Proofs.Ytdknddicpdhkcaa.Ab
set_option linter.unusedVariables false
set_option linter.unusedSimpArgs false

/-- The checksum's two halves. -/
def adlG : List UInt8 → Nat → Nat → Nat × Nat
  | [], a, b => (a, b)
  | c :: l, a, b => adlG l ((a + c.toNat) % 65521) ((b + (a + c.toNat) % 65521) % 65521)
def adlerN (s : List UInt8) : Nat := (adlG s 1 0).2 * 65536 + (adlG s 1 0).1
theorem adlG_lt : ∀ (l : List UInt8) (a b : Nat), a < 65521 → b < 65521 → (adlG l a b).1 < 65521 ∧ (adlG l a b).2 < 65521
  | [], a, b, ha, hb => ⟨ha, hb⟩
  | c :: l, a, b, ha, hb => adlG_lt l _ _ (Nat.mod_lt _ (by omega)) (Nat.mod_lt _ (by omega))
theorem adlerN_lt (s : List UInt8) : adlerN s < 2 ^ 32 := by
  have := adlG_lt s 1 0 (by omega) (by omega)
  unfold adlerN; omega

def be32 (s : List UInt8) : Nat := (((chr s 0).toNat * 256 + (chr s 1).toNat) * 256 + (chr s 2).toNat) * 256 + (chr s 3).toNat
def zbad (c f : Nat) : Prop := c % 16 ≠ 8 ∨ 128 ≤ c ∨ (256 * c + f) % 31 ≠ 0 ∨ f / 32 % 2 ≠ 0
instance (c f : Nat) : Decidable (zbad c f) := inferInstanceAs (Decidable (_ ∨ _))
/-- What is made of what the stream came to. -/
def ztail (rest out : List UInt8) : List UInt8 × Int :=
  if rest.length < 4 then ([], 5)
  else if be32 rest ≠ adlerN out then ([], 7)
  else if 4 < rest.length then ([], 6)
  else (out, 0)
def zrest (s : List UInt8) (r : List UInt8 × Nat × Int) : List UInt8 × Int :=
  if r.2.2 ≠ 0 then ([], r.2.2) else ztail (s.drop (2 + r.2.1)) r.1
def zlibM (s : List UInt8) (n : Int) (F : Nat) : List UInt8 × Int :=
  if s.length < 2 then ([], 5)
  else if zbad (chr s 0).toNat (chr s 1).toNat then ([], 4)
  else zrest s (inflM (s.drop 2) n F)

theorem loopM_facts (s : List UInt8) {most F : Nat} : ∀ {G : Nat} {t : St}, t.out.length ≤ most → t.at' ≤ 8 * s.length → t.at' ≤ (loopM s most F G t).at' ∧ (loopM s most F G t).at' ≤ 8 * s.length ∧ (loopM s most F G t).out.length ≤ most
  | 0, t, ho, hat => ⟨Nat.le_refl _, hat, ho⟩
  | G + 1, t, ho, hat => by
    have h1 := bitsM_at s 1 t hat
    have h2 := bitsM_at s 2 (bitsM s 1 t).2 h1.1
    have h3 := kindM_facts s (most := most) (F := F) (kind := (bitsM s 2 (bitsM s 1 t).2).1) (t := (bitsM s 2 (bitsM s 1 t).2).2) (by simpa using ho) h2.1
    rw [loopM]
    split
    · exact ⟨Nat.le_refl _, hat, ho⟩
    · split
      · exact ⟨by omega, h2.1, by simpa using ho⟩
      · split
        · have ih := loopM_facts s (F := F) (G := G) (t := kindM s most F (bitsM s 2 (bitsM s 1 t).2).1 (bitsM s 2 (bitsM s 1 t).2).2) h3.2.2 h3.2.1
          exact ⟨by omega, ih.2.1, ih.2.2⟩
        · exact ⟨by omega, h3.2.1, h3.2.2⟩
theorem inflM_used (s : List UInt8) (n : Int) (F : Nat) : (inflM s n F).2.1 ≤ s.length ∧ (inflM s n F).1.length ≤ clampN n := by
  have h := loopM_facts s (most := clampN n) (F := F) (G := F) (t := ⟨0, [], 0⟩) (by simp) (by simp)
  unfold inflM
  split
  · simp
  · exact ⟨by simp only []; omega, h.2.2⟩

theorem u32_nat {n : Nat} (h : n < 2 ^ 32) : IntKind.u32.wrap (n : Int) = n := IntWalk.u32_in _ (by omega)
theorem or_u32 {a b : Nat} (ha : a < 2 ^ 32) (hb : b < 2 ^ 32) : abin .or (.int .u32 (a : Int)) (.int .u32 (b : Int)) = some (.int .u32 ((a ||| b : Nat) : Int)) := by
  rw [abin_or]
  refine congrArg (fun x => some (AVal.int .u32 x)) ?_
  rw [bits_u32, ofInt_nat, ofInt_nat, BitVec.toNat_or, BitVec.toNat_ofNat, BitVec.toNat_ofNat, Nat.mod_eq_of_lt (by omega), Nat.mod_eq_of_lt (by omega)]
  exact u32_nat (Nat.or_lt_two_pow ha hb)
theorem or_add2 {a b i : Nat} (h : a < 2 ^ i) : b * 2 ^ i ||| a = b * 2 ^ i + a := by rw [Nat.or_comm, or_add h]; omega

section
variable {s : List UInt8} {H : AHeap} {fp : Nat → Prop}

def inv29 (H : AHeap) (s : List UInt8) (n : Nat) (env : Env) (H' : AHeap) : Prop :=
  ∃ i a b, i ≤ s.length ∧ n = s.length - i ∧ H' = H ∧ env 0 = .str s ∧ env 7 = .int .i64 s.length ∧ env 8 = .int .i64 i ∧ env 3 = .int .u32 (a : Nat) ∧ env 4 = .int .u32 (b : Nat) ∧ a < 65521 ∧ b < 65521 ∧ adlG s 1 0 = adlG (s.drop i) a b

theorem adler_ok (hs : s.length ≤ 2 ^ 50) : ACall Try.prog 29 [.str s] H fp fun v H' => v = .int .u32 (adlerN s) ∧ H' = H := by
  refine acall_of hmix Try.func29 x29_ok (by simp) ?_
  simp
  refine vc_loop (inv29 H s) s.length ⟨0, 1, 0, by omega, by omega, rfl, by simp, by simp, by simp, by simp, by simp, by omega, by omega, rfl⟩ ?_
  rintro n env H1 ⟨i, a, b, hi, rfl, rfl, e0, e7, e8, e3, e4, ha, hb, hadl⟩
  by_cases hlt : i < s.length
  · have hc := UInt8.toNat_lt (chr s i)
    have hd : s.drop i = chr s i :: s.drop (i + 1) := by
      rw [List.drop_eq_getElem_cons hlt]; simp [chr, List.getD_eq_getElem?_getD, hlt]
    rw [hd, adlG] at hadl
    have a1 : IntKind.u32.wrap ((chr s i).toNat : Int) = ((chr s i).toNat : Int) := u32_nat (by omega)
    have a2 : abin .add (.int .u32 (a : Int)) (.int .u32 ((chr s i).toNat : Int)) = some (.int .u32 ((a + (chr s i).toNat : Nat) : Int)) := by
      rw [abin_add, ← Int.natCast_add, u32_nat (by omega)]
    have a3 : ∀ x : Nat, abin .rem (.int .u32 (x : Int)) (.int .u32 65521) = some (.int .u32 ((x % 65521 : Nat) : Int)) := by
      intro x; rw [abin_rem (by omega), Int.tmod_eq_emod_of_nonneg (by omega)]; rfl
    have a4 : ∀ y : Nat, y < 65521 → abin .add (.int .u32 (b : Int)) (.int .u32 (y : Int)) = some (.int .u32 ((b + y : Nat) : Int)) := by
      intro y hy; rw [abin_add, ← Int.natCast_add, u32_nat (by omega)]
    have hm := Nat.mod_lt (a + (chr s i).toNat) (show 0 < 65521 by omega)
    simp (config := {contextual := true, implicitDefEqProofs := false}) (disch := omega) [e0, e7, e8, e3, e4, hlt, vIdxStr_nat, a1, a2, a3, a4, i64_id, -abin_add, -Int.natCast_add, -Int.natCast_emod]
    have a5 : abin .add (.int .i64 (i : Int)) (.int .i64 1) = some (.int .i64 ((i + 1 : Nat) : Int)) := by rw [abin_add, i64_id (by omega) (by omega)]; rfl
    simp (config := {contextual := true, implicitDefEqProofs := false}) (disch := omega) [a5, -abin_add, -Int.natCast_add, -Int.natCast_emod]
    exact again_iff (s.length - (i + 1)) (by omega) ⟨i + 1, _, _, hlt, rfl, rfl, by simp [e0], by simp [e7], by simp, by simp, by simp, hm, Nat.mod_lt _ (by omega), hadl⟩
  · have hi2 : i = s.length := by omega
    rw [hi2, List.drop_length, adlG] at hadl
    have a1 : abin .shl (.int .u32 (b : Int)) (.int .u64 16) = some (.int .u32 ((b * 65536 : Nat) : Int)) := by
      rw [abin_shl (by omega)]
      simp only [bits_u32, show min (16 : Int).toNat 32 = 16 by decide]
      rw [show (b : Int) * 2 ^ 16 = ((b * 65536 : Nat) : Int) by simp, u32_nat (by omega)]
    have a2 : abin .or (.int .u32 ((b * 65536 : Nat) : Int)) (.int .u32 (a : Int)) = some (.int .u32 ((b * 65536 + a : Nat) : Int)) := by
      rw [or_u32 (by omega) (by omega)]
      have := or_add2 (a := a) (b := b) (i := 16) (by omega)
      rw [show (2 : Nat) ^ 16 = 65536 by rfl] at this
      rw [this]
    have hN : adlerN s = b * 65536 + a := by rw [adlerN, hadl]
    simp (config := {contextual := true, implicitDefEqProofs := false}) (disch := omega) [e0, e7, e8, e3, e4, hlt, a1, a2, hN, -abin_or, -Int.natCast_add, -Int.natCast_mul]

/-- Zlib, in any state. -/
theorem zlib_ok {n : Int} {F : Nat} (hs : s.length ≤ 2 ^ 49) (hF : 8 * s.length < F) :
    ACall Try.prog 30 [.str s, .int .i64 n] H fp fun v H' => v = .tuple [.str (zlibM s n F).1, .int .i64 (zlibM s n F).2] ∧ H' = H := by
  refine acall_of hmix Try.func30 x30_ok (by simp) ?_
  unfold zlibM
  by_cases c1 : s.length < 2
  · simp (config := {contextual := true, implicitDefEqProofs := false}) (disch := omega) [show (s.length : Int) < 2 by omega, c1]
  have i0 : vIdxStr (.str s) (.int .i64 0) = some (.int .u8 (chr s 0).toNat) := vIdxStr_nat (n := 0) (by omega)
  have i1 : vIdxStr (.str s) (.int .i64 1) = some (.int .u8 (chr s 1).toNat) := vIdxStr_nat (n := 1) (by omega)
  have hc := UInt8.toNat_lt (chr s 0)
  have hf := UInt8.toNat_lt (chr s 1)
  rw [if_neg c1]
  generalize (chr s 0).toNat = c at *
  generalize (chr s 1).toNat = f at *
  have a1 : ∀ x : Nat, abin .rem (.int .i64 (x : Int)) (.int .i64 16) = some (.int .i64 ((x % 16 : Nat) : Int)) := by
    intro x; rw [abin_rem (by omega), Int.tmod_eq_emod_of_nonneg (by omega)]; rfl
  have a2 : abin .mul (.int .i64 256) (.int .i64 (c : Int)) = some (.int .i64 ((256 * c : Nat) : Int)) := by rw [abin_mul, i64_id (by omega) (by omega)]; rfl
  have a3 : abin .add (.int .i64 ((256 * c : Nat) : Int)) (.int .i64 (f : Int)) = some (.int .i64 ((256 * c + f : Nat) : Int)) := by rw [abin_add, i64_id (by omega) (by omega)]; rfl
  have a4 : ∀ x : Nat, abin .rem (.int .i64 (x : Int)) (.int .i64 31) = some (.int .i64 ((x % 31 : Nat) : Int)) := by
    intro x; rw [abin_rem (by omega), Int.tmod_eq_emod_of_nonneg (by omega)]; rfl
  have a5 : abin .and (.int .i64 (f : Int)) (.int .i64 32) = some (.int .i64 ((f / 32 % 2 * 32 : Nat) : Int)) := by
    rw [abin_and]
    refine congrArg (fun x => some (AVal.int .i64 x)) ?_
    have := and_i64 (a := f) (b := 32) (by omega) (by omega)
    rw [bits_i64]
    refine (Eq.trans (by rfl) this).trans ?_
    have h32 : ∀ x : Fin 256, x.val &&& 32 = x.val / 32 % 2 * 32 := by decide +kernel
    have := h32 ⟨f, hf⟩
    simp only [] at this
    rw [this]
  have j0 := fun x : Nat => i64_nat (n := x)
  by_cases b1 : c % 16 = 8
  · by_cases b2 : 128 ≤ c
    · rw [if_pos (show zbad c f from .inr (.inl b2))]
      simp (config := {contextual := true, implicitDefEqProofs := false}) (disch := omega) [show ¬ (s.length : Int) < 2 by omega, i0, i1, i64_nat, a1, b1, show (128 : Int) ≤ c by omega, -Int.natCast_emod]
    · by_cases b3 : (256 * c + f) % 31 = 0
      · by_cases b4 : f / 32 % 2 = 0
        · have hz : ¬ zbad c f := by rintro (h | h | h | h) <;> omega
          rw [if_neg hz]
          have hin := inflate_ok (H := H) (fp := fun r => fp r ∨ H.length ≤ r) (s := s.drop 2) (n := n) (F := F) (by simp; omega) (by simp; omega)
          have hu := (inflM_used (s.drop 2) n F).1
          have ho := (inflM_used (s.drop 2) n F).2
          have hcl : clampN n ≤ 1048576 := by unfold clampN; omega
          simp only [List.length_drop] at hu
          generalize inflM (s.drop 2) n F = r at *
          have hsl : vSlStr (.str s) (some (.int .i64 2)) none = some (.str (s.drop 2)) := vSlStr_lo (l := 2) (by omega) (by omega)
          simp (config := {contextual := true, implicitDefEqProofs := false}) (disch := omega) [show ¬ (s.length : Int) < 2 by omega, i0, i1, i64_nat, a1, b1, show ¬ (128 : Int) ≤ c by omega, a2, a3, a4, b3, a5, b4, hsl, -Int.natCast_emod, -Int.natCast_add, -Int.natCast_mul, -abin_add, -abin_mul, -abin_and]
          refine call1_eq hin ?_
          by_cases c2 : r.2.2 = 0
          · rw [zrest, if_neg (show ¬ r.2.2 ≠ 0 by simp [c2])]
            have a6 : abin .add (.int .i64 2) (.int .i64 (r.2.1 : Int)) = some (.int .i64 ((2 + r.2.1 : Nat) : Int)) := by rw [abin_add, i64_id (by omega) (by omega)]; rfl
            have hsl2 : vSlStr (.str s) (some (.int .i64 ((2 + r.2.1 : Nat) : Int))) none = some (.str (s.drop (2 + r.2.1))) := by
              have := vSlStr_lo (s := s) (k := .i64) (l := ((2 + r.2.1 : Nat) : Int)) (by omega) (by omega)
              rwa [Int.toNat_natCast] at this
            generalize s.drop (2 + r.2.1) = rest at *
            by_cases d1 : rest.length < 4
            · rw [ztail, if_pos d1]
              simp (config := {contextual := true, implicitDefEqProofs := false}) (disch := omega) [c2, a6, hsl2, -Int.natCast_add, -abin_add, show (rest.length : Int) < 4 by omega]
            · have k0 : vIdxStr (.str rest) (.int .i64 0) = some (.int .u8 (chr rest 0).toNat) := vIdxStr_nat (n := 0) (by omega)
              have k1 : vIdxStr (.str rest) (.int .i64 1) = some (.int .u8 (chr rest 1).toNat) := vIdxStr_nat (n := 1) (by omega)
              have k2 : vIdxStr (.str rest) (.int .i64 2) = some (.int .u8 (chr rest 2).toNat) := vIdxStr_nat (n := 2) (by omega)
              have k3 : vIdxStr (.str rest) (.int .i64 3) = some (.int .u8 (chr rest 3).toNat) := vIdxStr_nat (n := 3) (by omega)
              have y0 := UInt8.toNat_lt (chr rest 0)
              have y1 := UInt8.toNat_lt (chr rest 1)
              have y2 := UInt8.toNat_lt (chr rest 2)
              have y3 := UInt8.toNat_lt (chr rest 3)
              have hbe : be32 rest = (((chr rest 0).toNat * 256 + (chr rest 1).toNat) * 256 + (chr rest 2).toNat) * 256 + (chr rest 3).toNat := rfl
              have hal := adlerN_lt r.1
              generalize (chr rest 0).toNat = c0 at *
              generalize (chr rest 1).toNat = c1' at *
              generalize (chr rest 2).toNat = c2' at *
              generalize (chr rest 3).toNat = c3 at *
              have q : ∀ x : Nat, x < 2 ^ 32 → IntKind.u32.wrap (x : Int) = x := fun x h => u32_nat h
              have t0 : abin .shl (.int .u32 (c0 : Int)) (.int .u64 24) = some (.int .u32 ((c0 * 16777216 : Nat) : Int)) := by
                rw [abin_shl (by omega)]
                simp only [bits_u32, show min (24 : Int).toNat 32 = 24 by decide]
                rw [show (c0 : Int) * 2 ^ 24 = ((c0 * 16777216 : Nat) : Int) by simp, u32_nat (by omega)]
              have t1 : abin .shl (.int .u32 (c1' : Int)) (.int .u64 16) = some (.int .u32 ((c1' * 65536 : Nat) : Int)) := by
                rw [abin_shl (by omega)]
                simp only [bits_u32, show min (16 : Int).toNat 32 = 16 by decide]
                rw [show (c1' : Int) * 2 ^ 16 = ((c1' * 65536 : Nat) : Int) by simp, u32_nat (by omega)]
              have t2 : abin .shl (.int .u32 (c2' : Int)) (.int .u64 8) = some (.int .u32 ((c2' * 256 : Nat) : Int)) := by
                rw [abin_shl (by omega)]
                simp only [bits_u32, show min (8 : Int).toNat 32 = 8 by decide]
                rw [show (c2' : Int) * 2 ^ 8 = ((c2' * 256 : Nat) : Int) by simp, u32_nat (by omega)]
              have o1 : abin .or (.int .u32 ((c0 * 16777216 : Nat) : Int)) (.int .u32 ((c1' * 65536 : Nat) : Int)) = some (.int .u32 (((c0 * 256 + c1') * 65536 : Nat) : Int)) := by
                rw [or_u32 (by omega) (by omega)]
                have := or_add2 (a := c1' * 65536) (b := c0) (i := 24) (by omega)
                rw [show (2 : Nat) ^ 24 = 16777216 by rfl] at this
                rw [this]; exact congrArg (fun x : Nat => some (AVal.int .u32 (x : Int))) (by omega)
              have o2 : abin .or (.int .u32 (((c0 * 256 + c1') * 65536 : Nat) : Int)) (.int .u32 ((c2' * 256 : Nat) : Int)) = some (.int .u32 ((((c0 * 256 + c1') * 256 + c2') * 256 : Nat) : Int)) := by
                rw [or_u32 (by omega) (by omega)]
                have := or_add2 (a := c2' * 256) (b := c0 * 256 + c1') (i := 16) (by omega)
                rw [show (2 : Nat) ^ 16 = 65536 by rfl] at this
                rw [this]; exact congrArg (fun x : Nat => some (AVal.int .u32 (x : Int))) (by omega)
              have o3 : abin .or (.int .u32 ((((c0 * 256 + c1') * 256 + c2') * 256 : Nat) : Int)) (.int .u32 (c3 : Int)) = some (.int .u32 ((be32 rest : Nat) : Int)) := by
                rw [or_u32 (by omega) (by omega)]
                have := or_add2 (a := c3) (b := (c0 * 256 + c1') * 256 + c2') (i := 8) (by omega)
                rw [show (2 : Nat) ^ 8 = 256 by rfl] at this
                rw [this, hbe]
              simp (config := {contextual := true, implicitDefEqProofs := false}) (disch := omega) [c2, a6, hsl2, -abin_add, show ¬ (rest.length : Int) < 4 by omega, k0, k1, k2, k3, q, t0, t1, t2, o1, o2, o3, -abin_or, -Int.natCast_add, -Int.natCast_mul]
              refine call1_eq (adler_ok (by omega)) ?_
              by_cases d2 : be32 rest = adlerN r.1
              · by_cases d3 : 4 < rest.length
                · rw [ztail, if_neg d1, if_neg (by simp [d2]), if_pos d3]
                  simp (config := {contextual := true, implicitDefEqProofs := false}) (disch := omega) [d2, show (4 : Int) < rest.length by omega]
                · rw [ztail, if_neg d1, if_neg (by simp [d2]), if_neg d3]
                  simp (config := {contextual := true, implicitDefEqProofs := false}) (disch := omega) [d2, show ¬ (4 : Int) < rest.length by omega]
              · rw [ztail, if_neg d1, if_pos d2]
                simp (config := {contextual := true, implicitDefEqProofs := false}) (disch := omega) [show ¬ ((be32 rest : Nat) : Int) = ((adlerN r.1 : Nat) : Int) by omega]
          · rw [zrest, if_pos c2]
            simp (config := {contextual := true, implicitDefEqProofs := false}) (disch := omega) [c2]
        · rw [if_pos (show zbad c f from .inr (.inr (.inr b4)))]
          simp (config := {contextual := true, implicitDefEqProofs := false}) (disch := omega) [show ¬ (s.length : Int) < 2 by omega, i0, i1, i64_nat, a1, b1, show ¬ (128 : Int) ≤ c by omega, a2, a3, a4, b3, a5, show ¬ ((f / 32 % 2 * 32 : Nat) : Int) = 0 by omega, show ¬ f / 32 % 2 * 32 = 0 by omega, -Int.natCast_emod, -Int.natCast_add, -Int.natCast_mul, -abin_add, -abin_mul, -abin_and]
      · rw [if_pos (show zbad c f from .inr (.inr (.inl b3)))]
        simp (config := {contextual := true, implicitDefEqProofs := false}) (disch := omega) [show ¬ (s.length : Int) < 2 by omega, i0, i1, i64_nat, a1, b1, show ¬ (128 : Int) ≤ c by omega, a2, a3, a4, show ¬ (((256 * c + f) % 31 : Nat) : Int) = 0 by omega, b3, -Int.natCast_emod, -Int.natCast_add, -Int.natCast_mul, -abin_add, -abin_mul]
  · rw [if_pos (show zbad c f from .inl b1)]
    simp (config := {contextual := true, implicitDefEqProofs := false}) (disch := omega) [show ¬ (s.length : Int) < 2 by omega, i0, i1, i64_nat, a1, show ¬ ((c % 16 : Nat) : Int) = 8 by omega, -Int.natCast_emod]
end
end Go.Proofs.Ytdknddicpdhkcaa.Ab

/- The fixed books of inflate. Conditions: none; for the statements about layer 48. -/
import Derived.Test.YtalbjkemcckokaaGreatBb
import Derived.Test.YtalbjkemcckokaaGreatAs
import Derived.Test.YtalbjkemcckokaaGreatXb
import Derived.Test.YtalbjkemcckokaaGreatXa
namespace Go.Proofs.YtalbjkemcckokaaGreat.Ab
set_option maxRecDepth 100000
theorem getD_at {l : List Int} {i : Nat} (h : i < l.length) : l.getD i 0 = l[i] := by simp [h]
theorem hmix : Tryz.prog.follows .mixedOrders = true := by kernel_rfl
end Go.Proofs.YtalbjkemcckokaaGreat.Ab
namespace Go.Proofs.YtalbjkemcckokaaGreat.Ab
set_option maxRecDepth 100000
set_option linter.unusedVariables false
set_option linter.unusedSimpArgs false

/-- How often a length occurs. -/
def cntOf (l : List Int) (k : Nat) : Int := ((l.count (k : Int) : Nat) : Int)
/-- The same; of no bits there is no code. -/
def cnts (l : List Int) (k : Nat) : Int := if k = 0 then 0 else cntOf l k

theorem cntOf_nonneg (l : List Int) (k : Nat) : 0 ≤ cntOf l k := by simp [cntOf]
theorem cntOf_le (l : List Int) (k : Nat) : cntOf l k ≤ l.length := by
  have := List.count_le_length (a := (k : Int)) (l := l)
  simp only [cntOf]; omega
theorem cntOf_take (l : List Int) (i : Nat) (h : i < l.length) (k : Nat) : cntOf (l.take (i + 1)) k = if l[i] = (k : Int) then cntOf (l.take i) k + 1 else cntOf (l.take i) k := by
  simp only [cntOf]
  rw [List.take_succ_eq_append_getElem h, List.count_append]
  by_cases e : l[i] = (k : Int)
  · simp [e]
  · simp [e]
theorem cntOf_nil (k : Nat) : cntOf [] k = 0 := rfl

def inv44 (H : AHeap) (v : AVal) (l : List Int) (n : Nat) (env : Env) (H' : AHeap) : Prop :=
  ∃ (i : Nat), i ≤ l.length ∧ n = l.length - i ∧ H' = H ++ [.cells 0 false 161 (Arr 16 fun _ => 0), .cells 0 false 161 (Arr 16 (cntOf (l.take i)))] ∧
    env 2 = .ptr H.length 0 0 ∧ env 3 = .ptr (H.length + 1) 0 0 ∧ env 6 = v ∧ env 7 = .int .i64 l.length ∧ env 8 = .int .i64 i

theorem counts_ok (l : List Int) (v : AVal) (H : AHeap) (fp : Nat → Prop) (h : Ints H v l) (hlen : l.length < 2 ^ 40) (hl : ∀ k ∈ l, 0 ≤ k ∧ k ≤ 15) :
    ACall Tryz.prog 184 [v] H fp fun v' H' => v' = .agg (Arr 16 (cnts l)) ∧ H' = H := by
  refine (ACall.drop (R := fun v' _ => v' = .agg (Arr 16 (cnts l))) ?_ (by rintro v' H' rfl; exact Arr_flats _ _)).mono fun v' H' q => ⟨q.2.elim fun _ q => q.1, q.1⟩
  refine acall_of hmix Tryz.func184 x184_ok (by simp) ?_
  have hz : [.int .i64 0, .int .i64 0, .int .i64 0, .int .i64 0, .int .i64 0, .int .i64 0, .int .i64 0, .int .i64 0, .int .i64 0, .int .i64 0, .int .i64 0, .int .i64 0, .int .i64 0, .int .i64 0, .int .i64 0, .int .i64 0] = Arr 16 fun _ => 0 := rfl
  rw [hz]
  have h2 : ∀ L, vLen (H ++ L) v = some (.int .i64 l.length) := fun L => (h.app (L := L)).len
  simp [h2]
  refine vc_loop (inv44 H v l) l.length ?_ ?_
  · exact ⟨0, by simp, by simp, by simp [Arr, cntOf], by simp, by simp, by simp, by simp, by simp⟩
  · rintro n env H' ⟨i, hi, rfl, rfl, e2, e3, e6, e7, e8⟩
    by_cases hlt : i < l.length
    · have hk := hl l[i] (List.getElem_mem hlt)
      have hk2 : l[i].toNat < 16 := by omega
      have hc := cntOf_le (l.take i) l[i].toNat
      have hc0 := cntOf_nonneg (l.take i) l[i].toNat
      have hlt2 : (l.take i).length ≤ i := by simp; omega
      simp (config := {contextual := true, implicitDefEqProofs := false}) (disch := omega) [e2, e3, e6, e7, e8, h.app.idx, h.app.load, hlt, vIdxA, hk.1, show l[i] < 16 by omega, Arr_get hk2, i64_id, vStore, astores_one, hk2]
      refine again_iff (l.length - (i + 1)) (by omega) ⟨i + 1, hlt, rfl, ?_, by simp [e2], by simp [e3], by simp [e6], by simp [e7], by simp⟩
      rw [Arr_set]
      congr 4
      apply Arr_congr
      intro k _
      rw [cntOf_take l i hlt]
      by_cases e : k = l[i].toNat
      · subst e; rw [if_pos rfl, if_pos (by omega)]
      · rw [if_neg e, if_neg (by omega)]
    · have hi2 : i = l.length := by omega
      simp (config := {contextual := true, implicitDefEqProofs := false}) (disch := simp) [e2, e3, e6, e7, e8, hlt, vIdxA, vStore, astores_one, astores_all, Arr_set, resVal]
      rw [hi2, List.take_length]
      rfl
end Go.Proofs.YtalbjkemcckokaaGreat.Ab

namespace Go.Proofs.YtalbjkemcckokaaGreat.Ab
set_option maxRecDepth 100000
set_option linter.unusedVariables false
set_option linter.unusedSimpArgs false

/-- The symbols with codes of k bits, among the first i. -/
def idxs (l : List Int) (k i : Nat) : List Int := ((List.range i).filter fun q : Nat => decide (l.getD q 0 = (k : Int))).map fun q : Nat => (q : Int)
/-- The symbols in the order of their codes, of at most j bits. -/
def ordG (l : List Int) : Nat → List Int
  | 0 => []
  | j + 1 => ordG l j ++ idxs l (j + 1) l.length
/-- The greatest number of bits, of at most j. -/
def mostG (l : List Int) : Nat → Int
  | 0 => 0
  | j + 1 => if idxs l (j + 1) l.length = [] then mostG l j else (j : Int) + 1

theorem idxs_zero (l : List Int) (k : Nat) : idxs l k 0 = [] := rfl
theorem idxs_succ (l : List Int) (k i : Nat) (h : i < l.length) : idxs l k (i + 1) = if l[i] = (k : Int) then idxs l k i ++ [(i : Int)] else idxs l k i := by
  unfold idxs
  rw [List.range_succ, List.filter_append, List.map_append]
  by_cases e : l[i] = (k : Int) <;> simp [List.filter_cons, getD_at h, e, h]
theorem idxs_len (l : List Int) (k i : Nat) : (idxs l k i).length ≤ i := by
  unfold idxs
  rw [List.length_map]
  exact Nat.le_trans (List.length_filter_le _ _) (by simp)
theorem ordG_len (l : List Int) : ∀ j, (ordG l j).length ≤ j * l.length
  | 0 => by simp [ordG]
  | j + 1 => by
    have := ordG_len l j
    have := idxs_len l (j + 1) l.length
    simp only [ordG, List.length_append]
    rw [Nat.succ_mul]; omega

section
variable {l : List Int} {v : AVal} {H : AHeap} {fp : Nat → Prop}

def bookCells (l : List Int) (w : AVal) (most : Int) : List AVal := Arr 16 (cnts l) ++ [w, .int .i64 most]
@[simp] theorem bookCells_len {w : AVal} {m : Int} : (bookCells l w m).length = 18 := by simp [bookCells]
@[simp] theorem bookCells_16 {w : AVal} {m : Int} : (bookCells l w m)[16]? = some w := by simp [bookCells, List.getElem?_append]
@[simp] theorem bookCells_17 {w : AVal} {m : Int} : (bookCells l w m)[17]? = some (.int .i64 m) := by simp [bookCells, List.getElem?_append]
@[simp] theorem bookCells_s16 {w w' : AVal} {m : Int} : (bookCells l w m).set 16 w' = bookCells l w' m := by simp [bookCells, List.set_append]
@[simp] theorem bookCells_s17 {w : AVal} {m m' : Int} : (bookCells l w m).set 17 (.int .i64 m') = bookCells l w m' := by simp [bookCells, List.set_append]

@[simp] theorem bookCells_take {w : AVal} {m : Int} : (bookCells l w m).take 18 = bookCells l w m := List.take_of_length_le (by simp)

/-- The state while a book is built: 'w' is the list of the symbols so far. -/
def bookAt (H : AHeap) (l : List Int) (ord : List Int) (most : Int) (w : AVal) (H' : AHeap) : Prop :=
  (∃ z, H'[H.length]? = some (.cells 0 false 163 z) ∧ z.length = 18) ∧ H'[H.length + 1]? = some (.cells 0 false 163 (bookCells l w most)) ∧ Own1 (H.length + 2) H' 3 w (ord.map (.int .i64)) ∧ H.length + 2 ≤ H'.length ∧ (∀ k, k < H.length → H'[k]? = H[k]?)

def inv63a (H : AHeap) (v : AVal) (l : List Int) (n : Nat) (env : Env) (H' : AHeap) : Prop :=
  ∃ (j : Nat) (w : AVal), j ≤ 15 ∧ n = 15 - j ∧ bookAt H l (ordG l j) (mostG l j) w H' ∧ env 0 = v ∧ env 2 = .ptr H.length 0 0 ∧ env 3 = .ptr (H.length + 1) 0 0 ∧ env 4 = .int .i64 (j + 1)
def inv63b (H : AHeap) (v : AVal) (l : List Int) (j : Nat) (n : Nat) (env : Env) (H' : AHeap) : Prop :=
  ∃ (i : Nat) (w : AVal), i ≤ l.length ∧ n = l.length - i ∧ bookAt H l (ordG l j ++ idxs l (j + 1) i) (if idxs l (j + 1) i = [] then mostG l j else (j : Int) + 1) w H' ∧ env 0 = v ∧ env 2 = .ptr H.length 0 0 ∧ env 3 = .ptr (H.length + 1) 0 0 ∧ env 4 = .int .i64 (j + 1) ∧
    env 14 = v ∧ env 15 = .int .i64 l.length ∧ env 16 = .int .i64 i

theorem newBook_raw (h : Ints H v l) (hl : l.length ≤ 1000) (hin : ∀ k ∈ l, 0 ≤ k ∧ k ≤ 15) :
    ACall Tryz.prog 169 [v] H (fun _ => False) fun v' H' => ∃ w, v' = .agg (bookCells l w (mostG l 15)) ∧ Own1 (H.length + 2) H' 3 w ((ordG l 15).map (.int .i64)) := by
  refine acall_of hmix Tryz.func169 x169_ok (by simp) ?_
  have hz : [.int .i64 0, .int .i64 0, .int .i64 0, .int .i64 0, .int .i64 0, .int .i64 0, .int .i64 0, .int .i64 0, .int .i64 0, .int .i64 0, .int .i64 0, .int .i64 0, .int .i64 0, .int .i64 0, .int .i64 0, .int .i64 0, .nilslice, .int .i64 0] = (Arr 16 fun _ => 0) ++ [.nilslice, .int .i64 0] := rfl
  rw [hz]
  simp
  refine call1_eq (counts_ok l v _ _ h.app (by omega) hin) ?_
  simp [afill, astores_all]
  refine vc_loop (inv63a H v l) 15 ⟨0, .nilslice, by simp, by simp, ⟨⟨(Arr 16 fun _ => 0) ++ [.nilslice, .int .i64 0], by simp, by simp⟩, by simp [bookCells, mostG], .inl ⟨rfl, rfl⟩, by simp, fun k hk => List.getElem?_append_left hk⟩, by simp, by simp, by simp, by simp⟩ ?_
  rintro n env H' ⟨j, w, hj, rfl, ⟨⟨z, hz1, hz2⟩, hb, hw, hlen, hfr⟩, e0, e2, e3, e4⟩
  have hv := h.keep hfr
  by_cases hlt : j < 15
  · simp (config := {contextual := true, implicitDefEqProofs := false}) (disch := omega) [e0, e2, e3, e4, hv.len, show (j : Int) + 1 ≤ 15 by omega]
    refine vc_loop (inv63b H v l j) l.length ⟨0, w, by simp, by simp, ⟨⟨z, hz1, hz2⟩, by simpa [idxs_zero] using hb, by simpa [idxs_zero] using hw, hlen, hfr⟩, by simp [e0], by simp [e2], by simp [e3], by simp [e4], by simp, by simp, by simp⟩ ?_
    clear e0 e2 e3 e4 hv hb hw hlen hfr hz1 hz2 hz
    rintro n env H' ⟨i, w, hi, rfl, ⟨⟨z, hz1, hz2⟩, hb, hw, hlen, hfr⟩, e0, e2, e3, e4, e14, e15, e16⟩
    have hv := h.keep hfr
    by_cases hlt2 : i < l.length
    · by_cases hk : l[i] = (j : Int) + 1
      · simp (config := {contextual := true, implicitDefEqProofs := false}) (disch := omega) [e0, e2, e3, e4, e14, e15, e16, hv.idx, hv.load, hlt2, hk, ageOk_at hb, aload_at hb, afill, zrep, i64_id]
        have hll : ((ordG l j ++ idxs l (j + 1) i).map (AVal.int .i64)).length ≤ 16000 := by
          have a1 := ordG_len l j
          have a2 := idxs_len l (j + 1) i
          have a3 : j * l.length ≤ 14 * 1000 := Nat.mul_le_mul (by omega) hl
          rw [List.length_map, List.length_append]; omega
        obtain ⟨w', H2, ha, hw2, hlen2, hfr2⟩ := (hw.app [.cells 0 false 3 [.int .i64 i]]).append (x := .slice H'.length 0 0 1 1) (a := .int .i64 i) (bytes := 8) (by rw [List.length_append]; omega) (by simp [asrc]) rfl (by unfold roomLim; omega)
        rw [List.length_append] at hlen2
        have hb2 : H2[H.length + 1]? = some (.cells 0 false 163 (bookCells l w (if idxs l (j + 1) i = [] then mostG l j else (j : Int) + 1))) := by
          rw [hfr2 _ (by omega), List.getElem?_append_left (by omega)]; exact hb
        have hb3 : (H2.set (H.length + 1) (.cells 0 false 163 (bookCells l w' (if idxs l (j + 1) i = [] then mostG l j else (j : Int) + 1))))[H.length + 1]? = some (.cells 0 false 163 (bookCells l w' (if idxs l (j + 1) i = [] then mostG l j else (j : Int) + 1))) := by
          rw [List.getElem?_set_self (by omega)]
        refine e1_of ha (fun r ht => by have ht2 : appTarget w r := by simpa using ht
                                        have := hw.own.target ht2; omega) ?_
        simp (config := {contextual := true, implicitDefEqProofs := false}) (disch := omega) [e0, e2, e3, e4, e14, e15, e16, ageOk_at hb2, astore_at hb2, ageOk_at hb3, astore_at hb3, hw2.own.known, hw2.own.cells, hw2.own.one, i64_id]
        refine again_iff (l.length - (i + 1)) (by omega) ⟨i + 1, w', hlt2, rfl, ?_, by simp [e0], by simp [e2], by simp [e3], by simp [e4], by simp [e14], by simp [e15], by simp⟩
        rw [idxs_succ l _ i hlt2, if_pos (by omega)]
        refine ⟨⟨z, by rw [List.getElem?_set_ne (by omega), hfr2 _ (by omega), List.getElem?_append_left (by omega)]; exact hz1, hz2⟩, by rw [List.getElem?_set_self (by omega)]; simp, ?_, by simp; omega,
          fun k hk => by rw [List.getElem?_set_ne (by omega), hfr2 _ (by omega), List.getElem?_append_left (by omega)]; exact hfr k hk⟩
        have := hw2.keep (H' := H2.set (H.length + 1) (.cells 0 false 163 (bookCells l w' ((j : Int) + 1)))) fun k h1 h2 => List.getElem?_set_ne (by omega)
        simpa using this
      · simp (config := {contextual := true, implicitDefEqProofs := false}) (disch := omega) [e0, e2, e3, e4, e14, e15, e16, hv.idx, hv.load, hlt2, hk, i64_id]
        refine again_iff (l.length - (i + 1)) (by omega) ⟨i + 1, w, hlt2, rfl, ?_, by simp [e0], by simp [e2], by simp [e3], by simp [e4], by simp [e14], by simp [e15], by simp⟩
        rw [idxs_succ l _ i hlt2, if_neg (by omega)]
        exact ⟨⟨z, hz1, hz2⟩, hb, hw, hlen, hfr⟩
    · have hi2 : i = l.length := by omega
      subst hi2
      simp (config := {contextual := true, implicitDefEqProofs := false}) (disch := omega) [e0, e2, e3, e4, e14, e15, e16, i64_id]
      exact again_iff (15 - (j + 1)) (by omega) ⟨j + 1, w, by omega, rfl, ⟨⟨z, hz1, hz2⟩, by simpa [mostG] using hb, hw, hlen, hfr⟩, by simp [e0], by simp [e2], by simp [e3], by simp⟩
  · have hj2 : j = 15 := by omega
    subst hj2
    simp (config := {contextual := true, implicitDefEqProofs := false}) (disch := omega) [e0, e2, e3, e4, aloads_at hb, ageOk_at hz1, ageOk_at hb]
    rw [astores_at_all hz1 (by simp [hz2]) (by simp [bookCells, hw.own.one])]
    have hb2 : (H'.set H.length (.cells 0 false 163 (bookCells l w (mostG l 15))))[H.length]? = some (.cells 0 false 163 (bookCells l w (mostG l 15))) := by rw [List.getElem?_set_self (by omega)]
    simp [e2, resVal, aloads_at hb2]
    exact ⟨w, rfl, hw.keep (H' := H'.set H.length (.cells 0 false 163 (bookCells l w (mostG l 15)))) fun k h1 h2 => List.getElem?_set_ne (by omega)⟩

/-- The list of a book, as the first new block. -/
def ordVal (H : AHeap) (ord : List Int) : AVal := if ord = [] then .nilslice else .slice H.length (ord.length - 1) 0 ord.length 1
def ordBlk (ord : List Int) : ABlk := .cells (ord.length - 1) false 3 (ord.map (.int .i64))

theorem ints_flats (l : List Int) : AVal.flats (l.map (.int .i64)) = true := by
  induction l with
  | nil => rfl
  | cons a l ih => simp [AVal.flats, AVal.flat, ih]

theorem newBook_ok (h : Ints H v l) (hl : l.length ≤ 1000) (hin : ∀ k ∈ l, 0 ≤ k ∧ k ≤ 15) (ho : ordG l 15 ≠ []) :
    ACall Tryz.prog 169 [v] H fp fun v' H' => v' = .agg (bookCells l (ordVal H (ordG l 15)) (mostG l 15)) ∧ H' = H ++ [ordBlk (ordG l 15)] := by
  refine ACall.use (fp := fun _ => False) (ACall.keep1 (newBook_raw h hl hin) ?_) (fun r h => h.elim) fun v H' q _ _ => q
  rintro v' H' ⟨w, rfl, hw⟩ _ _
  rcases hw with ⟨rfl, h0⟩ | ⟨r, h1, h0, rfl, hb⟩
  · exact absurd (List.map_eq_nil_iff.1 h0) ho
  · refine ⟨_, r, .agg (bookCells l (ordVal H (ordG l 15)) (mostG l 15)), ?_, by omega, hb, ?_, rfl, by simp [ordBlk]⟩
    · simpa [ABlk.flat] using ints_flats _
    · simp only [AVal.ren, rens_map, bookCells, List.map_append, ordVal, ho, if_false]
      rw [flat_list_ren _ (Arr_flats _ _)]
      simp [AVal.ren]
theorem newBook_none (h : Ints H v l) (hl : l.length ≤ 1000) (hin : ∀ k ∈ l, 0 ≤ k ∧ k ≤ 15) (ho : ordG l 15 = []) :
    ACall Tryz.prog 169 [v] H fp fun v' H' => v' = .agg (bookCells l .nilslice (mostG l 15)) ∧ H' = H := by
  refine (ACall.drop ((newBook_raw h hl hin).use (R' := fun v' _ => v' = .agg (bookCells l .nilslice (mostG l 15))) (fun _ h => .inl h) ?_) ?_).mono fun v' H' q => ⟨q.2.elim fun _ q => q.1, q.1⟩
  · rintro v' H' ⟨w, rfl, hw⟩ _ _
    rcases hw with ⟨rfl, h0⟩ | ⟨r, h1, h0, rfl, hb⟩
    · rfl
    · exact absurd (by simp [ho]) h0
  · rintro v' H' rfl
    simp only [AVal.flat, bookCells]
    have : ∀ (a b : List AVal), AVal.flats a = true → AVal.flats b = true → AVal.flats (a ++ b) = true := by
      intro a b h1 h2
      induction a with
      | nil => exact h2
      | cons x a ih => simp only [AVal.flats, Bool.and_eq_true, List.cons_append] at h1 ⊢; exact ⟨h1.1, ih h1.2⟩
    exact this _ _ (Arr_flats _ _) rfl
end
end Go.Proofs.YtalbjkemcckokaaGreat.Ab

namespace Go.Proofs.YtalbjkemcckokaaGreat.Ab
set_option maxRecDepth 100000
set_option linter.unusedVariables false
set_option linter.unusedSimpArgs false

def fixLen (i : Nat) : Int := if 144 ≤ i ∧ i < 256 then 9 else if 256 ≤ i ∧ i < 280 then 7 else 8
def lits (i : Nat) : List Int := (List.range i).map fixLen
theorem lits_succ (i : Nat) : lits (i + 1) = lits i ++ [fixLen i] := by simp [lits, List.range_succ]
@[simp] theorem lits_len (i : Nat) : (lits i).length = i := by simp [lits]

section
variable {v : AVal} {H : AHeap} {fp : Nat → Prop}

theorem ACall.keep2 {P : Program} {f : FuncId} {args : List AVal} {R : AVal → AHeap → Prop} {R' : AVal → AHeap → Prop} (h : ACall P f args H (fun _ => False) R)
    (hf : ∀ v H', R v H' → H.length ≤ H'.length → (∀ r, r < H.length → H'[r]? = H[r]?) → ∃ (b1 b2 : ABlk) (r1 r2 : Nat) (v2 : AVal), b1.flat = true ∧ b2.flat = true ∧ H.length ≤ r1 ∧ H.length ≤ r2 ∧ r1 ≠ r2 ∧ H'[r1]? = some b1 ∧ H'[r2]? = some b2 ∧
      v = v2.ren (fun s => if s = H.length then r1 else if s = H.length + 1 then r2 else if s < H.length then s else s + H'.length) ∧ R' v2 (H ++ [b1, b2])) :
    ACall P f args H (fun _ => False) R' := by
  refine ACall.told h fun v H' hq hl hfr => ?_
  obtain ⟨b1, b2, r1, r2, v2, f1, f2, g1, g2, hne, h1, h2, h4, h5⟩ := hf v H' hq hl fun r hr => hfr r hr (fun h => h)
  have hren : ∀ (σ : Nat → Nat) (b : ABlk), b.flat = true → b.ren σ = b := by
    intro σ b hb
    cases b with
    | cells g ro ety cs => simp only [ABlk.flat] at hb; simp only [ABlk.ren, flat_list_ren _ hb]
    | map es =>
      simp only [ABlk.flat, List.all_eq_true, Bool.and_eq_true] at hb
      simp only [ABlk.ren, ABlk.map.injEq]
      rw [List.map_congr_left (g := id)]
      · simp
      · intro p hp; obtain ⟨a1, a2⟩ := hb p hp; simp [AVal.flat_ren _ a1, AVal.flat_ren _ a2]
  refine ⟨v2, H ++ [b1, b2], ⟨fun s => if s = H.length then r1 else if s = H.length + 1 then r2 else if s < H.length then s else s + H'.length, ?_, ?_, ?_, by simp, ?_, ?_, h4⟩, h5⟩
  · intro s hs; simp only []; rw [if_neg (by omega), if_neg (by omega), if_pos hs]
  · intro s s' a1 a2 e
    simp only [List.length_append, List.length_cons, List.length_nil] at a1 a2 e
    by_cases c1 : s = H.length
    · by_cases c2 : s' = H.length
      · omega
      · by_cases c3 : s' = H.length + 1
        · rw [if_pos c1, if_neg c2, if_pos c3] at e; exact absurd e hne
        · rw [if_pos c1, if_neg c2, if_neg c3, if_pos (by omega)] at e; omega
    · by_cases c1' : s = H.length + 1
      · by_cases c2 : s' = H.length
        · rw [if_neg c1, if_pos c1', if_pos c2] at e; exact absurd e.symm hne
        · by_cases c3 : s' = H.length + 1
          · omega
          · rw [if_neg c1, if_pos c1', if_neg c2, if_neg c3, if_pos (by omega)] at e; omega
      · rw [if_neg c1, if_neg c1', if_pos (by omega)] at e
        by_cases c2 : s' = H.length
        · rw [if_pos c2] at e; omega
        · by_cases c3 : s' = H.length + 1
          · rw [if_neg c2, if_pos c3] at e; omega
          · rw [if_neg c2, if_neg c3, if_pos (by omega)] at e; exact e
  · intro s hs
    simp only [List.length_append, List.length_cons, List.length_nil] at hs
    simp only []
    rw [if_neg (by omega), if_neg (by omega), if_neg (by omega)]; omega
  · intro s hs _; rw [List.getElem?_append_left hs]
  · intro s b' hs hb
    rcases hs with hs | hs
    · exact hs.elim
    · have hlt := (List.getElem?_eq_some_iff.1 hb).1
      simp only [List.length_append, List.length_cons, List.length_nil] at hlt
      rw [List.getElem?_append_right hs] at hb
      by_cases c : s = H.length
      · rw [show s - H.length = 0 by omega] at hb
        simp only [List.getElem?_cons_zero, Option.some.injEq] at hb
        subst hb
        simp only [c, if_true, h1, hren _ _ f1]
      · rw [show s - H.length = 0 + 1 by omega] at hb
        simp only [List.getElem?_cons_succ, List.getElem?_cons_zero, Option.some.injEq] at hb
        subst hb
        have c2 : s = H.length + 1 := by omega
        simp only [c2, if_true, show ¬ (H.length + 1 = H.length) by omega, if_false, h2, hren _ _ f2]

def zerosAt (H H' : AHeap) : Prop := (∃ z, H'[H.length]? = some (.cells 0 false 163 z) ∧ z.length = 18) ∧ (∃ z, H'[H.length + 1]? = some (.cells 0 false 163 z) ∧ z.length = 18) ∧ H.length + 2 ≤ H'.length

def inv50a (H : AHeap) (n : Nat) (env : Env) (H' : AHeap) : Prop :=
  ∃ (i : Nat) (w : AVal), i ≤ 288 ∧ n = 288 - i ∧ zerosAt H H' ∧ Own1 (H.length + 2) H' 3 w ((lits i).map (.int .i64)) ∧ env 0 = .ptr H.length 0 0 ∧ env 1 = .ptr (H.length + 1) 0 0 ∧ env 2 = w ∧ env 3 = .nilslice ∧ env 6 = .int .i64 i
def inv50b (H H1 : AHeap) (w : AVal) (n : Nat) (env : Env) (H' : AHeap) : Prop :=
  ∃ (i : Nat) (w2 : AVal), i ≤ 32 ∧ n = 32 - i ∧ Own1 H1.length H' 3 w2 ((List.replicate i (5 : Int)).map (.int .i64)) ∧ H1.length ≤ H'.length ∧ (∀ k, k < H1.length → H'[k]? = H1[k]?) ∧ env 0 = .ptr H.length 0 0 ∧ env 1 = .ptr (H.length + 1) 0 0 ∧ env 2 = w ∧ env 3 = w2 ∧ env 28 = .int .i64 i

def dists : List Int := List.replicate 32 5
theorem ord_lits : ordG (lits 288) 15 ≠ [] := by
  have : (ordG (lits 288) 15).length = 288 := by kernel_rfl
  intro h; rw [h] at this; cases this
theorem ord_dists : ordG dists 15 ≠ [] := by
  have : (ordG dists 15).length = 32 := by kernel_rfl
  intro h; rw [h] at this; cases this

theorem fixed_raw : ACall Tryz.prog 144 [] H (fun _ => False) fun v' H' => ∃ r, H.length ≤ r ∧ H'[r]? = some (ordBlk (ordG (lits 288) 15)) ∧ H'[r + 1]? = some (ordBlk (ordG dists 15)) ∧
    v' = .tuple [.agg (bookCells (lits 288) (.slice r ((ordG (lits 288) 15).length - 1) 0 (ordG (lits 288) 15).length 1) (mostG (lits 288) 15)), .agg (bookCells dists (.slice (r + 1) ((ordG dists 15).length - 1) 0 (ordG dists 15).length 1) (mostG dists 15))] := by
  refine acall_of hmix Tryz.func144 x144_ok (by simp) ?_
  have hz : [.int .i64 0, .int .i64 0, .int .i64 0, .int .i64 0, .int .i64 0, .int .i64 0, .int .i64 0, .int .i64 0, .int .i64 0, .int .i64 0, .int .i64 0, .int .i64 0, .int .i64 0, .int .i64 0, .int .i64 0, .int .i64 0, .nilslice, .int .i64 0] = (Arr 16 fun _ => 0) ++ [.nilslice, .int .i64 0] := rfl
  rw [hz]
  simp
  refine vc_loop (inv50a H) 288 ⟨0, .nilslice, by simp, by simp, ⟨⟨(Arr 16 fun _ => 0) ++ [.nilslice, .int .i64 0], by simp, by simp⟩, ⟨(Arr 16 fun _ => 0) ++ [.nilslice, .int .i64 0], by simp, by simp⟩, by simp⟩, .inl ⟨rfl, rfl⟩, by simp, by simp, by simp, by simp, by simp⟩ ?_
  rintro n env H' ⟨i, w, hi, rfl, ⟨⟨z, hz1, hz2⟩, ⟨y, hy1, hy2⟩, hlen⟩, hw, e0, e1', e2, e3, e6⟩
  by_cases hlt : i < 288
  · have step : ∀ k, fixLen i = k → ∃ w' H2, aappend 1 8 3 w (.slice H'.length 0 0 1 1) (H' ++ [.cells 0 false 3 [.int .i64 k]]) = some (w', H2) ∧ Own1 (H.length + 2) H2 3 w' ((lits (i + 1)).map (.int .i64)) ∧ zerosAt H H2 := by
      rintro k rfl
      obtain ⟨w', H2, ha, hw2, hlen2, hfr2⟩ := (hw.app [.cells 0 false 3 [.int .i64 (fixLen i)]]).append (x := .slice H'.length 0 0 1 1) (a := .int .i64 (fixLen i)) (bytes := 8) (by rw [List.length_append]; omega) (by simp [asrc]) rfl (by simp [roomLim]; omega)
      rw [List.length_append] at hlen2
      refine ⟨w', H2, ha, by rw [lits_succ]; simpa using hw2, ⟨z, by rw [hfr2 _ (by omega), List.getElem?_append_left (by omega)]; exact hz1, hz2⟩, ⟨y, by rw [hfr2 _ (by omega), List.getElem?_append_left (by omega)]; exact hy1, hy2⟩, by omega⟩
    have htg : ∀ r, appTarget w r → H.length ≤ r := fun r ht => by have := hw.own.target ht; omega
    rcases (by omega : i < 144 ∨ (144 ≤ i ∧ i < 256) ∨ (256 ≤ i ∧ i < 280) ∨ 280 ≤ i) with c | c | c | c
    · obtain ⟨w', H2, ha, hw2, hz3⟩ := step _ (show fixLen i = 8 by unfold fixLen; rw [if_neg (by omega), if_neg (by omega)])
      simp (config := {contextual := true, implicitDefEqProofs := false}) (disch := omega) [e0, e1', e2, e3, e6, afill, zrep, i64_id, show (i : Int) < 288 by omega, show ¬ (144 : Int) ≤ (i : Int) by omega, show ¬ (256 : Int) ≤ (i : Int) by omega]
      refine e1_of ha ?_ ?_
      · intro r ht; exact htg r (by simpa [e2] using ht)
      simp (config := {contextual := true, implicitDefEqProofs := false}) (disch := omega) [e0, e1', e2, e3, e6, i64_id]
      exact again_iff (288 - (i + 1)) (by omega) ⟨i + 1, w', hlt, rfl, hz3, hw2, by simp [e0], by simp [e1'], by simp, by simp [e3], by simp⟩
    · obtain ⟨w', H2, ha, hw2, hz3⟩ := step _ (show fixLen i = 9 by unfold fixLen; rw [if_pos (by omega)])
      simp (config := {contextual := true, implicitDefEqProofs := false}) (disch := omega) [e0, e1', e2, e3, e6, afill, zrep, i64_id, show (i : Int) < 288 by omega, show (144 : Int) ≤ (i : Int) by omega, show (i : Int) < 256 by omega]
      refine e1_of ha ?_ ?_
      · intro r ht; exact htg r (by simpa [e2] using ht)
      simp (config := {contextual := true, implicitDefEqProofs := false}) (disch := omega) [e0, e1', e2, e3, e6, i64_id]
      exact again_iff (288 - (i + 1)) (by omega) ⟨i + 1, w', hlt, rfl, hz3, hw2, by simp [e0], by simp [e1'], by simp, by simp [e3], by simp⟩
    · obtain ⟨w', H2, ha, hw2, hz3⟩ := step _ (show fixLen i = 7 by unfold fixLen; rw [if_neg (by omega), if_pos (by omega)])
      simp (config := {contextual := true, implicitDefEqProofs := false}) (disch := omega) [e0, e1', e2, e3, e6, afill, zrep, i64_id, show (i : Int) < 288 by omega, show (144 : Int) ≤ (i : Int) by omega, show ¬ (i : Int) < 256 by omega, show (256 : Int) ≤ (i : Int) by omega, show (i : Int) < 280 by omega]
      refine e1_of ha ?_ ?_
      · intro r ht; exact htg r (by simpa [e2] using ht)
      simp (config := {contextual := true, implicitDefEqProofs := false}) (disch := omega) [e0, e1', e2, e3, e6, i64_id]
      exact again_iff (288 - (i + 1)) (by omega) ⟨i + 1, w', hlt, rfl, hz3, hw2, by simp [e0], by simp [e1'], by simp, by simp [e3], by simp⟩
    · obtain ⟨w', H2, ha, hw2, hz3⟩ := step _ (show fixLen i = 8 by unfold fixLen; rw [if_neg (by omega), if_neg (by omega)])
      simp (config := {contextual := true, implicitDefEqProofs := false}) (disch := omega) [e0, e1', e2, e3, e6, afill, zrep, i64_id, show (i : Int) < 288 by omega, show (144 : Int) ≤ (i : Int) by omega, show ¬ (i : Int) < 256 by omega, show (256 : Int) ≤ (i : Int) by omega, show ¬ (i : Int) < 280 by omega]
      refine e1_of ha ?_ ?_
      · intro r ht; exact htg r (by simpa [e2] using ht)
      simp (config := {contextual := true, implicitDefEqProofs := false}) (disch := omega) [e0, e1', e2, e3, e6, i64_id]
      exact again_iff (288 - (i + 1)) (by omega) ⟨i + 1, w', hlt, rfl, hz3, hw2, by simp [e0], by simp [e1'], by simp, by simp [e3], by simp⟩
  · have hi2 : i = 288 := by omega
    subst hi2
    simp (config := {contextual := true, implicitDefEqProofs := false}) (disch := omega) [e0, e1', e2, e3, e6]
    refine vc_loop (inv50b H H' w) 32 ⟨0, .nilslice, by simp, by simp, .inl ⟨rfl, rfl⟩, Nat.le_refl _, fun _ _ => rfl, by simp [e0], by simp [e1'], by simp [e2], by simp [e3], by simp⟩ ?_
    clear e0 e1' e2 e3 e6
    rintro n env H2 ⟨i, w2, hi, rfl, hw2, hlen2, hfr2, e0, e1', e2, e3, e28⟩
    by_cases hlt2 : i < 32
    · obtain ⟨w', H3, ha, hw3, hlen3, hfr3⟩ := (hw2.app [.cells 0 false 3 [.int .i64 5]]).append (x := .slice H2.length 0 0 1 1) (a := .int .i64 5) (bytes := 8) (by rw [List.length_append]; omega) (by simp [asrc]) rfl (by simp [roomLim]; omega)
      rw [List.length_append] at hlen3
      simp (config := {contextual := true, implicitDefEqProofs := false}) (disch := omega) [e0, e1', e2, e3, e28, afill, zrep, i64_id, hlt2, show (i : Int) < 32 by omega]
      refine e1_of ha ?_ ?_
      · intro r ht
        have := hw2.own.target (show appTarget w2 r by simpa [e3] using ht)
        show H.length ≤ r
        omega
      simp (config := {contextual := true, implicitDefEqProofs := false}) (disch := omega) [e0, e1', e2, e3, e28, i64_id]
      refine again_iff (32 - (i + 1)) (by omega) ⟨i + 1, w', hlt2, rfl, ?_, by omega, fun k hk => by rw [hfr3 k hk, List.getElem?_append_left (by omega)]; exact hfr2 k hk, by simp [e0], by simp [e1'], by simp [e2], by simp, by simp⟩
      have e5 : List.replicate (i + 1) (5 : Int) = List.replicate i 5 ++ [5] := List.replicate_succ'
      rw [e5]; simpa using hw3
    · have hi3 : i = 32 := by omega
      subst hi3
      simp (config := {contextual := true, implicitDefEqProofs := false}) (disch := omega) [e0, e1', e2, e3, e28]
      have hL : Ints H2 w (lits 288) := (hw.keep fun k _ hk => hfr2 k hk).own.sl
      have hin1 : ∀ k ∈ lits 288, 0 ≤ k ∧ k ≤ 15 := by
        intro k hk
        obtain ⟨q, _, rfl⟩ := List.mem_map.1 hk
        unfold fixLen; split
        · omega
        · split <;> omega
      have hin2 : ∀ k ∈ dists, 0 ≤ k ∧ k ≤ 15 := by
        intro k hk
        have := List.eq_of_mem_replicate hk
        omega
      refine call1_eq (newBook_ok hL (by simp) hin1 ord_lits) ?_
      simp (config := {contextual := true, implicitDefEqProofs := false}) (disch := omega) [e0, e1', e2, e3]
      have hD : Ints (H2 ++ [ordBlk (ordG (lits 288) 15)]) w2 dists := Ints.app hw2.own.sl
      refine call1_eq (newBook_ok hD (by simp [dists]) hin2 ord_dists) ?_
      rw [List.append_assoc]
      simp only [List.cons_append, List.nil_append]
      have o1 : (ordVal H2 (ordG (lits 288) 15)) = .slice H2.length ((ordG (lits 288) 15).length - 1) 0 (ordG (lits 288) 15).length 1 := by unfold ordVal; rw [if_neg ord_lits]
      have o2 : (ordVal (H2 ++ [ordBlk (ordG (lits 288) 15)]) (ordG dists 15)) = .slice (H2.length + 1) ((ordG dists 15).length - 1) 0 (ordG dists 15).length 1 := by unfold ordVal; rw [if_neg ord_dists]; simp
      rw [o1, o2]
      generalize hB1 : bookCells (lits 288) (.slice H2.length ((ordG (lits 288) 15).length - 1) 0 (ordG (lits 288) 15).length 1) (mostG (lits 288) 15) = B1
      generalize hB2 : bookCells dists (.slice (H2.length + 1) ((ordG dists 15).length - 1) 0 (ordG dists 15).length 1) (mostG dists 15) = B2
      have l1 : B1.length = 18 := by rw [← hB1]; simp
      have l2 : B2.length = 18 := by rw [← hB2]; simp
      have a1 : B1.all AVal.one = true := by rw [← hB1]; simp [bookCells]
      have a2 : B2.all AVal.one = true := by rw [← hB2]; simp [bookCells]
      generalize hL1 : ordBlk (ordG (lits 288) 15) = K1
      generalize hL2 : ordBlk (ordG dists 15) = K2
      have f1 : (H2 ++ [K1, K2])[H.length]? = some (.cells 0 false 163 z) := by rw [List.getElem?_append_left (by omega), hfr2 _ (by omega)]; exact hz1
      have f2 : ((H2 ++ [K1, K2]).set H.length (.cells 0 false 163 B1))[H.length + 1]? = some (.cells 0 false 163 y) := by rw [List.getElem?_set_ne (by omega), List.getElem?_append_left (by omega), hfr2 _ (by omega)]; exact hy1
      have f3 : (((H2 ++ [K1, K2]).set H.length (.cells 0 false 163 B1)).set (H.length + 1) (.cells 0 false 163 B2))[H.length]? = some (.cells 0 false 163 B1) := by
        rw [List.getElem?_set_ne (by omega), List.getElem?_set_self (by simp; omega)]
      have f4 : (((H2 ++ [K1, K2]).set H.length (.cells 0 false 163 B1)).set (H.length + 1) (.cells 0 false 163 B2))[H.length + 1]? = some (.cells 0 false 163 B2) := by
        rw [List.getElem?_set_self (by simp; omega)]
      have f5 : aloads (((H2 ++ [K1, K2]).set H.length (.cells 0 false 163 B1)).set (H.length + 1) (.cells 0 false 163 B2)) H.length 0 0 18 = some B1 := by rw [aloads_at f3, if_pos (by omega), List.drop_zero, List.take_of_length_le (by omega)]
      have f6 : aloads (((H2 ++ [K1, K2]).set H.length (.cells 0 false 163 B1)).set (H.length + 1) (.cells 0 false 163 B2)) (H.length + 1) 0 0 18 = some B2 := by rw [aloads_at f4, if_pos (by omega), List.drop_zero, List.take_of_length_le (by omega)]
      have g1 : vStore (H2 ++ [K1, K2]) 18 (.agg B1) (.ptr H.length 0 0) = some (.tuple [], (H2 ++ [K1, K2]).set H.length (.cells 0 false 163 B1)) := by
        rw [vStore_ptr, if_pos ⟨rfl, l1, ageOk_at f1⟩]; simp only [cells_agg]; rw [astores_at_all f1 (hz2.trans l1.symm) a1]; rfl
      have g2 : vStore ((H2 ++ [K1, K2]).set H.length (.cells 0 false 163 B1)) 18 (.agg B2) (.ptr (H.length + 1) 0 0) = some (.tuple [], ((H2 ++ [K1, K2]).set H.length (.cells 0 false 163 B1)).set (H.length + 1) (.cells 0 false 163 B2)) := by
        rw [vStore_ptr, if_pos ⟨rfl, l2, ageOk_at f2⟩]; simp only [cells_agg]; rw [astores_at_all f2 (hy2.trans l2.symm) a2]; rfl
      have g3 : (((H2 ++ [K1, K2]).set H.length (.cells 0 false 163 B1)).set (H.length + 1) (.cells 0 false 163 B2))[H2.length]? = some K1 := by
        rw [List.getElem?_set_ne (by omega), List.getElem?_set_ne (by omega)]; simp
      have g4 : (((H2 ++ [K1, K2]).set H.length (.cells 0 false 163 B1)).set (H.length + 1) (.cells 0 false 163 B2))[H2.length + 1]? = some K2 := by
        rw [List.getElem?_set_ne (by omega), List.getElem?_set_ne (by omega)]; simp
      generalize ((H2 ++ [K1, K2]).set H.length (.cells 0 false 163 B1)).set (H.length + 1) (.cells 0 false 163 B2) = H4 at *
      generalize ((H2 ++ [K1, K2]).set H.length (.cells 0 false 163 B1)) = H3 at *
      simp (config := {contextual := true, implicitDefEqProofs := false}) [e0, e1', g1, g2, resVal, f5, f6]
      exact ⟨H2.length, by omega, g3, g4, hB1.symm, hB2.symm⟩

/-- The fixed books, in any state: two new blocks. -/
theorem fixed_ok : ACall Tryz.prog 144 [] H fp fun v' H' => v' = .tuple [.agg (bookCells (lits 288) (ordVal H (ordG (lits 288) 15)) (mostG (lits 288) 15)), .agg (bookCells dists (.slice (H.length + 1) ((ordG dists 15).length - 1) 0 (ordG dists 15).length 1) (mostG dists 15))] ∧
    H' = H ++ [ordBlk (ordG (lits 288) 15), ordBlk (ordG dists 15)] := by
  refine ACall.use (fp := fun _ => False) (ACall.keep2 fixed_raw ?_) (fun r h => h.elim) fun v H' q _ _ => q
  rintro v' H' ⟨r, h1, h2, h3, rfl⟩ _ _
  refine ⟨_, _, r, r + 1, .tuple [.agg (bookCells (lits 288) (ordVal H (ordG (lits 288) 15)) (mostG (lits 288) 15)), .agg (bookCells dists (.slice (H.length + 1) ((ordG dists 15).length - 1) 0 (ordG dists 15).length 1) (mostG dists 15))], ?_, ?_, h1, by omega, by omega, h2, h3, ?_, rfl, rfl⟩
  · simpa [ABlk.flat, ordBlk] using ints_flats _
  · simpa [ABlk.flat, ordBlk] using ints_flats _
  · simp only [AVal.ren, AVal.rens, rens_map, bookCells, List.map_append, ordVal, ord_lits, if_false]
    rw [flat_list_ren _ (Arr_flats _ _), flat_list_ren _ (Arr_flats _ _)]
    simp [AVal.ren]
end
end Go.Proofs.YtalbjkemcckokaaGreat.Ab


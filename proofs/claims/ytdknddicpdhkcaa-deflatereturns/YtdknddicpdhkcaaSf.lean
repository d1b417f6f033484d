/- Books of codes: the program's newBook. Conditions: none; for the statements about layers 46 and 47. -/
import Derived.Test.YtdknddicpdhkcaaSe
import Derived.Test.YtdknddicpdhkcaaAs
namespace Go.Proofs.Ytdknddicpdhkcaa.Ab
set_option linter.unusedVariables false
set_option linter.unusedSimpArgs false

/-- The symbols with codes of k bits, among the first i. -/
def idxs (l : List Int) (k i : Nat) : List Int := ((List.range i).filter fun q : Nat => decide (l.getD q 0 = (k : Int))).map fun q : Nat => (q : Int)
/-- The symbols in the order of their codes, of at most j bits. -/
def ordG (l : List Int) : Nat → List Int
  | 0 => []
  | j + 1 => ordG l j ++ idxs l (j + 1) l.length
/-- The greatest number of bits, of at most j. -/
def mostG (l : List Int) : Nat → Int
  | 0 => 0
  | j + 1 => if idxs l (j + 1) l.length = [] then mostG l j else (j : Int) + 1

theorem idxs_zero (l : List Int) (k : Nat) : idxs l k 0 = [] := rfl
theorem idxs_succ (l : List Int) (k i : Nat) (h : i < l.length) : idxs l k (i + 1) = if l[i] = (k : Int) then idxs l k i ++ [(i : Int)] else idxs l k i := by
  unfold idxs
  rw [List.range_succ, List.filter_append, List.map_append]
  by_cases e : l[i] = (k : Int) <;> simp [List.filter_cons, getD_at h, e, h]
theorem idxs_len (l : List Int) (k i : Nat) : (idxs l k i).length ≤ i := by
  unfold idxs
  rw [List.length_map]
  exact Nat.le_trans (List.length_filter_le _ _) (by simp)
theorem ordG_len (l : List Int) : ∀ j, (ordG l j).length ≤ j * l.length
  | 0 => by simp [ordG]
  | j + 1 => by
    have := ordG_len l j
    have := idxs_len l (j + 1) l.length
    simp only [ordG, List.length_append]
    rw [Nat.succ_mul]; omega

section
variable {l : List Int} {v : AVal} {H : AHeap} {fp : Nat → Prop}

def bookCells (l : List Int) (w : AVal) (most : Int) : List AVal := Arr 16 (cnts l) ++ [w, .int .i64 most]
@[simp] theorem bookCells_len {w : AVal} {m : Int} : (bookCells l w m).length = 18 := by simp [bookCells]
@[simp] theorem bookCells_16 {w : AVal} {m : Int} : (bookCells l w m)[16]? = some w := by simp [bookCells, List.getElem?_append]
@[simp] theorem bookCells_17 {w : AVal} {m : Int} : (bookCells l w m)[17]? = some (.int .i64 m) := by simp [bookCells, List.getElem?_append]
@[simp] theorem bookCells_s16 {w w' : AVal} {m : Int} : (bookCells l w m).set 16 w' = bookCells l w' m := by simp [bookCells, List.set_append]
@[simp] theorem bookCells_s17 {w : AVal} {m m' : Int} : (bookCells l w m).set 17 (.int .i64 m') = bookCells l w m' := by simp [bookCells, List.set_append]

@[simp] theorem bookCells_take {w : AVal} {m : Int} : (bookCells l w m).take 18 = bookCells l w m := List.take_of_length_le (by simp)

/-- The state while a book is built: 'w' is the list of the symbols so far. -/
def bookAt (H : AHeap) (l : List Int) (ord : List Int) (most : Int) (w : AVal) (H' : AHeap) : Prop :=
  (∃ z, H'[H.length]? = some (.cells 0 false 69 z) ∧ z.length = 18) ∧ H'[H.length + 1]? = some (.cells 0 false 69 (bookCells l w most)) ∧ Own1 (H.length + 2) H' 3 w (ord.map (.int .i64)) ∧ H.length + 2 ≤ H'.length ∧ (∀ k, k < H.length → H'[k]? = H[k]?)

def inv63a (H : AHeap) (v : AVal) (l : List Int) (n : Nat) (env : Env) (H' : AHeap) : Prop :=
  ∃ (j : Nat) (w : AVal), j ≤ 15 ∧ n = 15 - j ∧ bookAt H l (ordG l j) (mostG l j) w H' ∧ env 0 = v ∧ env 2 = .ptr H.length 0 0 ∧ env 3 = .ptr (H.length + 1) 0 0 ∧ env 4 = .int .i64 (j + 1)
def inv63b (H : AHeap) (v : AVal) (l : List Int) (j : Nat) (n : Nat) (env : Env) (H' : AHeap) : Prop :=
  ∃ (i : Nat) (w : AVal), i ≤ l.length ∧ n = l.length - i ∧ bookAt H l (ordG l j ++ idxs l (j + 1) i) (if idxs l (j + 1) i = [] then mostG l j else (j : Int) + 1) w H' ∧ env 0 = v ∧ env 2 = .ptr H.length 0 0 ∧ env 3 = .ptr (H.length + 1) 0 0 ∧ env 4 = .int .i64 (j + 1) ∧
    env 14 = v ∧ env 15 = .int .i64 l.length ∧ env 16 = .int .i64 i

theorem newBook_raw (h : Ints H v l) (hl : l.length ≤ 1000) (hin : ∀ k ∈ l, 0 ≤ k ∧ k ≤ 15) :
    ACall Try.prog 63 [v] H (fun _ => False) fun v' H' => ∃ w, v' = .agg (bookCells l w (mostG l 15)) ∧ Own1 (H.length + 2) H' 3 w ((ordG l 15).map (.int .i64)) := by
  refine acall_of hmix Try.func63 x63_ok (by simp) ?_
  have hz : [.int .i64 0, .int .i64 0, .int .i64 0, .int .i64 0, .int .i64 0, .int .i64 0, .int .i64 0, .int .i64 0, .int .i64 0, .int .i64 0, .int .i64 0, .int .i64 0, .int .i64 0, .int .i64 0, .int .i64 0, .int .i64 0, .nilslice, .int .i64 0] = (Arr 16 fun _ => 0) ++ [.nilslice, .int .i64 0] := rfl
  rw [hz]
  simp
  refine call1_eq (counts_ok l v _ _ h.app (by omega) hin) ?_
  simp [afill, astores_all]
  refine vc_loop (inv63a H v l) 15 ⟨0, .nilslice, by simp, by simp, ⟨⟨(Arr 16 fun _ => 0) ++ [.nilslice, .int .i64 0], by simp, by simp⟩, by simp [bookCells, mostG], .inl ⟨rfl, rfl⟩, by simp, fun k hk => List.getElem?_append_left hk⟩, by simp, by simp, by simp, by simp⟩ ?_
  rintro n env H' ⟨j, w, hj, rfl, ⟨⟨z, hz1, hz2⟩, hb, hw, hlen, hfr⟩, e0, e2, e3, e4⟩
  have hv := h.keep hfr
  by_cases hlt : j < 15
  · simp (config := {contextual := true, implicitDefEqProofs := false}) (disch := omega) [e0, e2, e3, e4, hv.len, show (j : Int) + 1 ≤ 15 by omega]
    refine vc_loop (inv63b H v l j) l.length ⟨0, w, by simp, by simp, ⟨⟨z, hz1, hz2⟩, by simpa [idxs_zero] using hb, by simpa [idxs_zero] using hw, hlen, hfr⟩, by simp [e0], by simp [e2], by simp [e3], by simp [e4], by simp, by simp, by simp⟩ ?_
    clear e0 e2 e3 e4 hv hb hw hlen hfr hz1 hz2 hz
    rintro n env H' ⟨i, w, hi, rfl, ⟨⟨z, hz1, hz2⟩, hb, hw, hlen, hfr⟩, e0, e2, e3, e4, e14, e15, e16⟩
    have hv := h.keep hfr
    by_cases hlt2 : i < l.length
    · by_cases hk : l[i] = (j : Int) + 1
      · simp (config := {contextual := true, implicitDefEqProofs := false}) (disch := omega) [e0, e2, e3, e4, e14, e15, e16, hv.idx, hv.load, hlt2, hk, ageOk_at hb, aload_at hb, afill, zrep, i64_id]
        have hll : ((ordG l j ++ idxs l (j + 1) i).map (AVal.int .i64)).length ≤ 16000 := by
          have a1 := ordG_len l j
          have a2 := idxs_len l (j + 1) i
          have a3 : j * l.length ≤ 14 * 1000 := Nat.mul_le_mul (by omega) hl
          rw [List.length_map, List.length_append]; omega
        obtain ⟨w', H2, ha, hw2, hlen2, hfr2⟩ := (hw.app [.cells 0 false 3 [.int .i64 i]]).append (x := .slice H'.length 0 0 1 1) (a := .int .i64 i) (bytes := 8) (by rw [List.length_append]; omega) (by simp [asrc]) rfl (by unfold roomLim; omega)
        rw [List.length_append] at hlen2
        have hb2 : H2[H.length + 1]? = some (.cells 0 false 69 (bookCells l w (if idxs l (j + 1) i = [] then mostG l j else (j : Int) + 1))) := by
          rw [hfr2 _ (by omega), List.getElem?_append_left (by omega)]; exact hb
        have hb3 : (H2.set (H.length + 1) (.cells 0 false 69 (bookCells l w' (if idxs l (j + 1) i = [] then mostG l j else (j : Int) + 1))))[H.length + 1]? = some (.cells 0 false 69 (bookCells l w' (if idxs l (j + 1) i = [] then mostG l j else (j : Int) + 1))) := by
          rw [List.getElem?_set_self (by omega)]
        refine e1_of ha (fun r ht => by have ht2 : appTarget w r := by simpa using ht
                                        have := hw.own.target ht2; omega) ?_
        simp (config := {contextual := true, implicitDefEqProofs := false}) (disch := omega) [e0, e2, e3, e4, e14, e15, e16, ageOk_at hb2, astore_at hb2, ageOk_at hb3, astore_at hb3, hw2.own.known, hw2.own.cells, hw2.own.one, i64_id]
        refine again_iff (l.length - (i + 1)) (by omega) ⟨i + 1, w', hlt2, rfl, ?_, by simp [e0], by simp [e2], by simp [e3], by simp [e4], by simp [e14], by simp [e15], by simp⟩
        rw [idxs_succ l _ i hlt2, if_pos (by omega)]
        refine ⟨⟨z, by rw [List.getElem?_set_ne (by omega), hfr2 _ (by omega), List.getElem?_append_left (by omega)]; exact hz1, hz2⟩, by rw [List.getElem?_set_self (by omega)]; simp, ?_, by simp; omega,
          fun k hk => by rw [List.getElem?_set_ne (by omega), hfr2 _ (by omega), List.getElem?_append_left (by omega)]; exact hfr k hk⟩
        have := hw2.keep (H' := H2.set (H.length + 1) (.cells 0 false 69 (bookCells l w' ((j : Int) + 1)))) fun k h1 h2 => List.getElem?_set_ne (by omega)
        simpa using this
      · simp (config := {contextual := true, implicitDefEqProofs := false}) (disch := omega) [e0, e2, e3, e4, e14, e15, e16, hv.idx, hv.load, hlt2, hk, i64_id]
        refine again_iff (l.length - (i + 1)) (by omega) ⟨i + 1, w, hlt2, rfl, ?_, by simp [e0], by simp [e2], by simp [e3], by simp [e4], by simp [e14], by simp [e15], by simp⟩
        rw [idxs_succ l _ i hlt2, if_neg (by omega)]
        exact ⟨⟨z, hz1, hz2⟩, hb, hw, hlen, hfr⟩
    · have hi2 : i = l.length := by omega
      subst hi2
      simp (config := {contextual := true, implicitDefEqProofs := false}) (disch := omega) [e0, e2, e3, e4, e14, e15, e16, i64_id]
      exact again_iff (15 - (j + 1)) (by omega) ⟨j + 1, w, by omega, rfl, ⟨⟨z, hz1, hz2⟩, by simpa [mostG] using hb, hw, hlen, hfr⟩, by simp [e0], by simp [e2], by simp [e3], by simp⟩
  · have hj2 : j = 15 := by omega
    subst hj2
    simp (config := {contextual := true, implicitDefEqProofs := false}) (disch := omega) [e0, e2, e3, e4, aloads_at hb, ageOk_at hz1, ageOk_at hb]
    rw [astores_at_all hz1 (by simp [hz2]) (by simp [bookCells, hw.own.one])]
    have hb2 : (H'.set H.length (.cells 0 false 69 (bookCells l w (mostG l 15))))[H.length]? = some (.cells 0 false 69 (bookCells l w (mostG l 15))) := by rw [List.getElem?_set_self (by omega)]
    simp [e2, resVal, aloads_at hb2]
    exact ⟨w, rfl, hw.keep (H' := H'.set H.length (.cells 0 false 69 (bookCells l w (mostG l 15)))) fun k h1 h2 => List.getElem?_set_ne (by omega)⟩

/-- The list of a book, as the first new block. -/
def ordVal (H : AHeap) (ord : List Int) : AVal := if ord = [] then .nilslice else .slice H.length (ord.length - 1) 0 ord.length 1
def ordBlk (ord : List Int) : ABlk := .cells (ord.length - 1) false 3 (ord.map (.int .i64))

theorem ints_flats (l : List Int) : AVal.flats (l.map (.int .i64)) = true := by
  induction l with
  | nil => rfl
  | cons a l ih => simp [AVal.flats, AVal.flat, ih]

theorem newBook_ok (h : Ints H v l) (hl : l.length ≤ 1000) (hin : ∀ k ∈ l, 0 ≤ k ∧ k ≤ 15) (ho : ordG l 15 ≠ []) :
    ACall Try.prog 63 [v] H fp fun v' H' => v' = .agg (bookCells l (ordVal H (ordG l 15)) (mostG l 15)) ∧ H' = H ++ [ordBlk (ordG l 15)] := by
  refine ACall.use (fp := fun _ => False) (ACall.keep1 (newBook_raw h hl hin) ?_) (fun r h => h.elim) fun v H' q _ _ => q
  rintro v' H' ⟨w, rfl, hw⟩ _ _
  rcases hw with ⟨rfl, h0⟩ | ⟨r, h1, h0, rfl, hb⟩
  · exact absurd (List.map_eq_nil_iff.1 h0) ho
  · refine ⟨_, r, .agg (bookCells l (ordVal H (ordG l 15)) (mostG l 15)), ?_, by omega, hb, ?_, rfl, by simp [ordBlk]⟩
    · simpa [ABlk.flat] using ints_flats _
    · simp only [AVal.ren, rens_map, bookCells, List.map_append, ordVal, ho, if_false]
      rw [flat_list_ren _ (Arr_flats _ _)]
      simp [AVal.ren]
theorem newBook_none (h : Ints H v l) (hl : l.length ≤ 1000) (hin : ∀ k ∈ l, 0 ≤ k ∧ k ≤ 15) (ho : ordG l 15 = []) :
    ACall Try.prog 63 [v] H fp fun v' H' => v' = .agg (bookCells l .nilslice (mostG l 15)) ∧ H' = H := by
  refine (ACall.drop ((newBook_raw h hl hin).use (R' := fun v' _ => v' = .agg (bookCells l .nilslice (mostG l 15))) (fun _ h => .inl h) ?_) ?_).mono fun v' H' q => ⟨q.2.elim fun _ q => q.1, q.1⟩
  · rintro v' H' ⟨w, rfl, hw⟩ _ _
    rcases hw with ⟨rfl, h0⟩ | ⟨r, h1, h0, rfl, hb⟩
    · rfl
    · exact absurd (by simp [ho]) h0
  · rintro v' H' rfl
    simp only [AVal.flat, bookCells]
    have : ∀ (a b : List AVal), AVal.flats a = true → AVal.flats b = true → AVal.flats (a ++ b) = true := by
      intro a b h1 h2
      induction a with
      | nil => exact h2
      | cons x a ih => simp only [AVal.flats, Bool.and_eq_true, List.cons_append] at h1 ⊢; exact ⟨h1.1, ih h1.2⟩
    exact this _ _ (Arr_flats _ _) rfl
end
end Go.Proofs.Ytdknddicpdhkcaa.Ab

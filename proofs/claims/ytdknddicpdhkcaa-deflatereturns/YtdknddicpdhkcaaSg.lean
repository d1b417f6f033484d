/- Books of codes: the program's fixed books. Conditions: none; for the statements about layers 46 and 47. -/
import Derived.Test.YtdknddicpdhkcaaSf
namespace Go.Proofs.Ytdknddicpdhkcaa.Ab
set_option linter.unusedVariables false
set_option linter.unusedSimpArgs false

def fixLen (i : Nat) : Int := if 144 ≤ i ∧ i < 256 then 9 else if 256 ≤ i ∧ i < 280 then 7 else 8
def lits (i : Nat) : List Int := (List.range i).map fixLen
theorem lits_succ (i : Nat) : lits (i + 1) = lits i ++ [fixLen i] := by simp [lits, List.range_succ]
@[simp] theorem lits_len (i : Nat) : (lits i).length = i := by simp [lits]

section
variable {v : AVal} {H : AHeap} {fp : Nat → Prop}

theorem ACall.keep2 {P : Program} {f : FuncId} {args : List AVal} {R : AVal → AHeap → Prop} {R' : AVal → AHeap → Prop} (h : ACall P f args H (fun _ => False) R)
    (hf : ∀ v H', R v H' → H.length ≤ H'.length → (∀ r, r < H.length → H'[r]? = H[r]?) → ∃ (b1 b2 : ABlk) (r1 r2 : Nat) (v2 : AVal), b1.flat = true ∧ b2.flat = true ∧ H.length ≤ r1 ∧ H.length ≤ r2 ∧ r1 ≠ r2 ∧ H'[r1]? = some b1 ∧ H'[r2]? = some b2 ∧
      v = v2.ren (fun s => if s = H.length then r1 else if s = H.length + 1 then r2 else if s < H.length then s else s + H'.length) ∧ R' v2 (H ++ [b1, b2])) :
    ACall P f args H (fun _ => False) R' := by
  refine ACall.told h fun v H' hq hl hfr => ?_
  obtain ⟨b1, b2, r1, r2, v2, f1, f2, g1, g2, hne, h1, h2, h4, h5⟩ := hf v H' hq hl fun r hr => hfr r hr (fun h => h)
  have hren : ∀ (σ : Nat → Nat) (b : ABlk), b.flat = true → b.ren σ = b := by
    intro σ b hb
    cases b with
    | cells g ro ety cs => simp only [ABlk.flat] at hb; simp only [ABlk.ren, flat_list_ren _ hb]
    | map es =>
      simp only [ABlk.flat, List.all_eq_true, Bool.and_eq_true] at hb
      simp only [ABlk.ren, ABlk.map.injEq]
      rw [List.map_congr_left (g := id)]
      · simp
      · intro p hp; obtain ⟨a1, a2⟩ := hb p hp; simp [AVal.flat_ren _ a1, AVal.flat_ren _ a2]
  refine ⟨v2, H ++ [b1, b2], ⟨fun s => if s = H.length then r1 else if s = H.length + 1 then r2 else if s < H.length then s else s + H'.length, ?_, ?_, ?_, by simp, ?_, ?_, h4⟩, h5⟩
  · intro s hs; simp only []; rw [if_neg (by omega), if_neg (by omega), if_pos hs]
  · intro s s' a1 a2 e
    simp only [List.length_append, List.length_cons, List.length_nil] at a1 a2 e
    by_cases c1 : s = H.length
    · by_cases c2 : s' = H.length
      · omega
      · by_cases c3 : s' = H.length + 1
        · rw [if_pos c1, if_neg c2, if_pos c3] at e; exact absurd e hne
        · rw [if_pos c1, if_neg c2, if_neg c3, if_pos (by omega)] at e; omega
    · by_cases c1' : s = H.length + 1
      · by_cases c2 : s' = H.length
        · rw [if_neg c1, if_pos c1', if_pos c2] at e; exact absurd e.symm hne
        · by_cases c3 : s' = H.length + 1
          · omega
          · rw [if_neg c1, if_pos c1', if_neg c2, if_neg c3, if_pos (by omega)] at e; omega
      · rw [if_neg c1, if_neg c1', if_pos (by omega)] at e
        by_cases c2 : s' = H.length
        · rw [if_pos c2] at e; omega
        · by_cases c3 : s' = H.length + 1
          · rw [if_neg c2, if_pos c3] at e; omega
          · rw [if_neg c2, if_neg c3, if_pos (by omega)] at e; exact e
  · intro s hs
    simp only [List.length_append, List.length_cons, List.length_nil] at hs
    simp only []
    rw [if_neg (by omega), if_neg (by omega), if_neg (by omega)]; omega
  · intro s hs _; rw [List.getElem?_append_left hs]
  · intro s b' hs hb
    rcases hs with hs | hs
    · exact hs.elim
    · have hlt := (List.getElem?_eq_some_iff.1 hb).1
      simp only [List.length_append, List.length_cons, List.length_nil] at hlt
      rw [List.getElem?_append_right hs] at hb
      by_cases c : s = H.length
      · rw [show s - H.length = 0 by omega] at hb
        simp only [List.getElem?_cons_zero, Option.some.injEq] at hb
        subst hb
        simp only [c, if_true, h1, hren _ _ f1]
      · rw [show s - H.length = 0 + 1 by omega] at hb
        simp only [List.getElem?_cons_succ, List.getElem?_cons_zero, Option.some.injEq] at hb
        subst hb
        have c2 : s = H.length + 1 := by omega
        simp only [c2, if_true, show ¬ (H.length + 1 = H.length) by omega, if_false, h2, hren _ _ f2]

def zerosAt (H H' : AHeap) : Prop := (∃ z, H'[H.length]? = some (.cells 0 false 69 z) ∧ z.length = 18) ∧ (∃ z, H'[H.length + 1]? = some (.cells 0 false 69 z) ∧ z.length = 18) ∧ H.length + 2 ≤ H'.length

def inv50a (H : AHeap) (n : Nat) (env : Env) (H' : AHeap) : Prop :=
  ∃ (i : Nat) (w : AVal), i ≤ 288 ∧ n = 288 - i ∧ zerosAt H H' ∧ Own1 (H.length + 2) H' 3 w ((lits i).map (.int .i64)) ∧ env 0 = .ptr H.length 0 0 ∧ env 1 = .ptr (H.length + 1) 0 0 ∧ env 2 = w ∧ env 3 = .nilslice ∧ env 6 = .int .i64 i
def inv50b (H H1 : AHeap) (w : AVal) (n : Nat) (env : Env) (H' : AHeap) : Prop :=
  ∃ (i : Nat) (w2 : AVal), i ≤ 32 ∧ n = 32 - i ∧ Own1 H1.length H' 3 w2 ((List.replicate i (5 : Int)).map (.int .i64)) ∧ H1.length ≤ H'.length ∧ (∀ k, k < H1.length → H'[k]? = H1[k]?) ∧ env 0 = .ptr H.length 0 0 ∧ env 1 = .ptr (H.length + 1) 0 0 ∧ env 2 = w ∧ env 3 = w2 ∧ env 28 = .int .i64 i

def dists : List Int := List.replicate 32 5
theorem ord_lits : ordG (lits 288) 15 ≠ [] := by
  have : (ordG (lits 288) 15).length = 288 := by kernel_rfl
  intro h; rw [h] at this; cases this
theorem ord_dists : ordG dists 15 ≠ [] := by
  have : (ordG dists 15).length = 32 := by kernel_rfl
  intro h; rw [h] at this; cases this

theorem fixed_raw : ACall Try.prog 50 [] H (fun _ => False) fun v' H' => ∃ r, H.length ≤ r ∧ H'[r]? = some (ordBlk (ordG (lits 288) 15)) ∧ H'[r + 1]? = some (ordBlk (ordG dists 15)) ∧
    v' = .tuple [.agg (bookCells (lits 288) (.slice r ((ordG (lits 288) 15).length - 1) 0 (ordG (lits 288) 15).length 1) (mostG (lits 288) 15)), .agg (bookCells dists (.slice (r + 1) ((ordG dists 15).length - 1) 0 (ordG dists 15).length 1) (mostG dists 15))] := by
  refine acall_of hmix Try.func50 x50_ok (by simp) ?_
  have hz : [.int .i64 0, .int .i64 0, .int .i64 0, .int .i64 0, .int .i64 0, .int .i64 0, .int .i64 0, .int .i64 0, .int .i64 0, .int .i64 0, .int .i64 0, .int .i64 0, .int .i64 0, .int .i64 0, .int .i64 0, .int .i64 0, .nilslice, .int .i64 0] = (Arr 16 fun _ => 0) ++ [.nilslice, .int .i64 0] := rfl
  rw [hz]
  simp
  refine vc_loop (inv50a H) 288 ⟨0, .nilslice, by simp, by simp, ⟨⟨(Arr 16 fun _ => 0) ++ [.nilslice, .int .i64 0], by simp, by simp⟩, ⟨(Arr 16 fun _ => 0) ++ [.nilslice, .int .i64 0], by simp, by simp⟩, by simp⟩, .inl ⟨rfl, rfl⟩, by simp, by simp, by simp, by simp, by simp⟩ ?_
  rintro n env H' ⟨i, w, hi, rfl, ⟨⟨z, hz1, hz2⟩, ⟨y, hy1, hy2⟩, hlen⟩, hw, e0, e1', e2, e3, e6⟩
  by_cases hlt : i < 288
  · have step : ∀ k, fixLen i = k → ∃ w' H2, aappend 1 8 3 w (.slice H'.length 0 0 1 1) (H' ++ [.cells 0 false 3 [.int .i64 k]]) = some (w', H2) ∧ Own1 (H.length + 2) H2 3 w' ((lits (i + 1)).map (.int .i64)) ∧ zerosAt H H2 := by
      rintro k rfl
      obtain ⟨w', H2, ha, hw2, hlen2, hfr2⟩ := (hw.app [.cells 0 false 3 [.int .i64 (fixLen i)]]).append (x := .slice H'.length 0 0 1 1) (a := .int .i64 (fixLen i)) (bytes := 8) (by rw [List.length_append]; omega) (by simp [asrc]) rfl (by simp [roomLim]; omega)
      rw [List.length_append] at hlen2
      refine ⟨w', H2, ha, by rw [lits_succ]; simpa using hw2, ⟨z, by rw [hfr2 _ (by omega), List.getElem?_append_left (by omega)]; exact hz1, hz2⟩, ⟨y, by rw [hfr2 _ (by omega), List.getElem?_append_left (by omega)]; exact hy1, hy2⟩, by omega⟩
    have htg : ∀ r, appTarget w r → H.length ≤ r := fun r ht => by have := hw.own.target ht; omega
    rcases (by omega : i < 144 ∨ (144 ≤ i ∧ i < 256) ∨ (256 ≤ i ∧ i < 280) ∨ 280 ≤ i) with c | c | c | c
    · obtain ⟨w', H2, ha, hw2, hz3⟩ := step _ (show fixLen i = 8 by unfold fixLen; rw [if_neg (by omega), if_neg (by omega)])
      simp (config := {contextual := true, implicitDefEqProofs := false}) (disch := omega) [e0, e1', e2, e3, e6, afill, zrep, i64_id, show (i : Int) < 288 by omega, show ¬ (144 : Int) ≤ (i : Int) by omega, show ¬ (256 : Int) ≤ (i : Int) by omega]
      refine e1_of ha ?_ ?_
      · intro r ht; exact htg r (by simpa [e2] using ht)
      simp (config := {contextual := true, implicitDefEqProofs := false}) (disch := omega) [e0, e1', e2, e3, e6, i64_id]
      exact again_iff (288 - (i + 1)) (by omega) ⟨i + 1, w', hlt, rfl, hz3, hw2, by simp [e0], by simp [e1'], by simp, by simp [e3], by simp⟩
    · obtain ⟨w', H2, ha, hw2, hz3⟩ := step _ (show fixLen i = 9 by unfold fixLen; rw [if_pos (by omega)])
      simp (config := {contextual := true, implicitDefEqProofs := false}) (disch := omega) [e0, e1', e2, e3, e6, afill, zrep, i64_id, show (i : Int) < 288 by omega, show (144 : Int) ≤ (i : Int) by omega, show (i : Int) < 256 by omega]
      refine e1_of ha ?_ ?_
      · intro r ht; exact htg r (by simpa [e2] using ht)
      simp (config := {contextual := true, implicitDefEqProofs := false}) (disch := omega) [e0, e1', e2, e3, e6, i64_id]
      exact again_iff (288 - (i + 1)) (by omega) ⟨i + 1, w', hlt, rfl, hz3, hw2, by simp [e0], by simp [e1'], by simp, by simp [e3], by simp⟩
    · obtain ⟨w', H2, ha, hw2, hz3⟩ := step _ (show fixLen i = 7 by unfold fixLen; rw [if_neg (by omega), if_pos (by omega)])
      simp (config := {contextual := true, implicitDefEqProofs := false}) (disch := omega) [e0, e1', e2, e3, e6, afill, zrep, i64_id, show (i : Int) < 288 by omega, show (144 : Int) ≤ (i : Int) by omega, show ¬ (i : Int) < 256 by omega, show (256 : Int) ≤ (i : Int) by omega, show (i : Int) < 280 by omega]
      refine e1_of ha ?_ ?_
      · intro r ht; exact htg r (by simpa [e2] using ht)
      simp (config := {contextual := true, implicitDefEqProofs := false}) (disch := omega) [e0, e1', e2, e3, e6, i64_id]
      exact again_iff (288 - (i + 1)) (by omega) ⟨i + 1, w', hlt, rfl, hz3, hw2, by simp [e0], by simp [e1'], by simp, by simp [e3], by simp⟩
    · obtain ⟨w', H2, ha, hw2, hz3⟩ := step _ (show fixLen i = 8 by unfold fixLen; rw [if_neg (by omega), if_neg (by omega)])
      simp (config := {contextual := true, implicitDefEqProofs := false}) (disch := omega) [e0, e1', e2, e3, e6, afill, zrep, i64_id, show (i : Int) < 288 by omega, show (144 : Int) ≤ (i : Int) by omega, show ¬ (i : Int) < 256 by omega, show (256 : Int) ≤ (i : Int) by omega, show ¬ (i : Int) < 280 by omega]
      refine e1_of ha ?_ ?_
      · intro r ht; exact htg r (by simpa [e2] using ht)
      simp (config := {contextual := true, implicitDefEqProofs := false}) (disch := omega) [e0, e1', e2, e3, e6, i64_id]
      exact again_iff (288 - (i + 1)) (by omega) ⟨i + 1, w', hlt, rfl, hz3, hw2, by simp [e0], by simp [e1'], by simp, by simp [e3], by simp⟩
  · have hi2 : i = 288 := by omega
    subst hi2
    simp (config := {contextual := true, implicitDefEqProofs := false}) (disch := omega) [e0, e1', e2, e3, e6]
    refine vc_loop (inv50b H H' w) 32 ⟨0, .nilslice, by simp, by simp, .inl ⟨rfl, rfl⟩, Nat.le_refl _, fun _ _ => rfl, by simp [e0], by simp [e1'], by simp [e2], by simp [e3], by simp⟩ ?_
    clear e0 e1' e2 e3 e6
    rintro n env H2 ⟨i, w2, hi, rfl, hw2, hlen2, hfr2, e0, e1', e2, e3, e28⟩
    by_cases hlt2 : i < 32
    · obtain ⟨w', H3, ha, hw3, hlen3, hfr3⟩ := (hw2.app [.cells 0 false 3 [.int .i64 5]]).append (x := .slice H2.length 0 0 1 1) (a := .int .i64 5) (bytes := 8) (by rw [List.length_append]; omega) (by simp [asrc]) rfl (by simp [roomLim]; omega)
      rw [List.length_append] at hlen3
      simp (config := {contextual := true, implicitDefEqProofs := false}) (disch := omega) [e0, e1', e2, e3, e28, afill, zrep, i64_id, hlt2, show (i : Int) < 32 by omega]
      refine e1_of ha ?_ ?_
      · intro r ht
        have := hw2.own.target (show appTarget w2 r by simpa [e3] using ht)
        show H.length ≤ r
        omega
      simp (config := {contextual := true, implicitDefEqProofs := false}) (disch := omega) [e0, e1', e2, e3, e28, i64_id]
      refine again_iff (32 - (i + 1)) (by omega) ⟨i + 1, w', hlt2, rfl, ?_, by omega, fun k hk => by rw [hfr3 k hk, List.getElem?_append_left (by omega)]; exact hfr2 k hk, by simp [e0], by simp [e1'], by simp [e2], by simp, by simp⟩
      have e5 : List.replicate (i + 1) (5 : Int) = List.replicate i 5 ++ [5] := List.replicate_succ'
      rw [e5]; simpa using hw3
    · have hi3 : i = 32 := by omega
      subst hi3
      simp (config := {contextual := true, implicitDefEqProofs := false}) (disch := omega) [e0, e1', e2, e3, e28]
      have hL : Ints H2 w (lits 288) := (hw.keep fun k _ hk => hfr2 k hk).own.sl
      have hin1 : ∀ k ∈ lits 288, 0 ≤ k ∧ k ≤ 15 := by
        intro k hk
        obtain ⟨q, _, rfl⟩ := List.mem_map.1 hk
        unfold fixLen; split
        · omega
        · split <;> omega
      have hin2 : ∀ k ∈ dists, 0 ≤ k ∧ k ≤ 15 := by
        intro k hk
        have := List.eq_of_mem_replicate hk
        omega
      refine call1_eq (newBook_ok hL (by simp) hin1 ord_lits) ?_
      simp (config := {contextual := true, implicitDefEqProofs := false}) (disch := omega) [e0, e1', e2, e3]
      have hD : Ints (H2 ++ [ordBlk (ordG (lits 288) 15)]) w2 dists := Ints.app hw2.own.sl
      refine call1_eq (newBook_ok hD (by simp [dists]) hin2 ord_dists) ?_
      rw [List.append_assoc]
      simp only [List.cons_append, List.nil_append]
      have o1 : (ordVal H2 (ordG (lits 288) 15)) = .slice H2.length ((ordG (lits 288) 15).length - 1) 0 (ordG (lits 288) 15).length 1 := by unfold ordVal; rw [if_neg ord_lits]
      have o2 : (ordVal (H2 ++ [ordBlk (ordG (lits 288) 15)]) (ordG dists 15)) = .slice (H2.length + 1) ((ordG dists 15).length - 1) 0 (ordG dists 15).length 1 := by unfold ordVal; rw [if_neg ord_dists]; simp
      rw [o1, o2]
      generalize hB1 : bookCells (lits 288) (.slice H2.length ((ordG (lits 288) 15).length - 1) 0 (ordG (lits 288) 15).length 1) (mostG (lits 288) 15) = B1
      generalize hB2 : bookCells dists (.slice (H2.length + 1) ((ordG dists 15).length - 1) 0 (ordG dists 15).length 1) (mostG dists 15) = B2
      have l1 : B1.length = 18 := by rw [← hB1]; simp
      have l2 : B2.length = 18 := by rw [← hB2]; simp
      have a1 : B1.all AVal.one = true := by rw [← hB1]; simp [bookCells]
      have a2 : B2.all AVal.one = true := by rw [← hB2]; simp [bookCells]
      generalize hL1 : ordBlk (ordG (lits 288) 15) = K1
      generalize hL2 : ordBlk (ordG dists 15) = K2
      have f1 : (H2 ++ [K1, K2])[H.length]? = some (.cells 0 false 69 z) := by rw [List.getElem?_append_left (by omega), hfr2 _ (by omega)]; exact hz1
      have f2 : ((H2 ++ [K1, K2]).set H.length (.cells 0 false 69 B1))[H.length + 1]? = some (.cells 0 false 69 y) := by rw [List.getElem?_set_ne (by omega), List.getElem?_append_left (by omega), hfr2 _ (by omega)]; exact hy1
      have f3 : (((H2 ++ [K1, K2]).set H.length (.cells 0 false 69 B1)).set (H.length + 1) (.cells 0 false 69 B2))[H.length]? = some (.cells 0 false 69 B1) := by
        rw [List.getElem?_set_ne (by omega), List.getElem?_set_self (by simp; omega)]
      have f4 : (((H2 ++ [K1, K2]).set H.length (.cells 0 false 69 B1)).set (H.length + 1) (.cells 0 false 69 B2))[H.length + 1]? = some (.cells 0 false 69 B2) := by
        rw [List.getElem?_set_self (by simp; omega)]
      have f5 : aloads (((H2 ++ [K1, K2]).set H.length (.cells 0 false 69 B1)).set (H.length + 1) (.cells 0 false 69 B2)) H.length 0 0 18 = some B1 := by rw [aloads_at f3, if_pos (by omega), List.drop_zero, List.take_of_length_le (by omega)]
      have f6 : aloads (((H2 ++ [K1, K2]).set H.length (.cells 0 false 69 B1)).set (H.length + 1) (.cells 0 false 69 B2)) (H.length + 1) 0 0 18 = some B2 := by rw [aloads_at f4, if_pos (by omega), List.drop_zero, List.take_of_length_le (by omega)]
      have g1 : vStore (H2 ++ [K1, K2]) 18 (.agg B1) (.ptr H.length 0 0) = some (.tuple [], (H2 ++ [K1, K2]).set H.length (.cells 0 false 69 B1)) := by
        rw [vStore_ptr, if_pos ⟨rfl, l1, ageOk_at f1⟩]; simp only [cells_agg]; rw [astores_at_all f1 (hz2.trans l1.symm) a1]; rfl
      have g2 : vStore ((H2 ++ [K1, K2]).set H.length (.cells 0 false 69 B1)) 18 (.agg B2) (.ptr (H.length + 1) 0 0) = some (.tuple [], ((H2 ++ [K1, K2]).set H.length (.cells 0 false 69 B1)).set (H.length + 1) (.cells 0 false 69 B2)) := by
        rw [vStore_ptr, if_pos ⟨rfl, l2, ageOk_at f2⟩]; simp only [cells_agg]; rw [astores_at_all f2 (hy2.trans l2.symm) a2]; rfl
      have g3 : (((H2 ++ [K1, K2]).set H.length (.cells 0 false 69 B1)).set (H.length + 1) (.cells 0 false 69 B2))[H2.length]? = some K1 := by
        rw [List.getElem?_set_ne (by omega), List.getElem?_set_ne (by omega)]; simp
      have g4 : (((H2 ++ [K1, K2]).set H.length (.cells 0 false 69 B1)).set (H.length + 1) (.cells 0 false 69 B2))[H2.length + 1]? = some K2 := by
        rw [List.getElem?_set_ne (by omega), List.getElem?_set_ne (by omega)]; simp
      generalize ((H2 ++ [K1, K2]).set H.length (.cells 0 false 69 B1)).set (H.length + 1) (.cells 0 false 69 B2) = H4 at *
      generalize ((H2 ++ [K1, K2]).set H.length (.cells 0 false 69 B1)) = H3 at *
      simp (config := {contextual := true, implicitDefEqProofs := false}) [e0, e1', g1, g2, resVal, f5, f6]
      exact ⟨H2.length, by omega, g3, g4, hB1.symm, hB2.symm⟩

/-- The fixed books, in any state: two new blocks. -/
theorem fixed_ok : ACall Try.prog 50 [] H fp fun v' H' => v' = .tuple [.agg (bookCells (lits 288) (ordVal H (ordG (lits 288) 15)) (mostG (lits 288) 15)), .agg (bookCells dists (.slice (H.length + 1) ((ordG dists 15).length - 1) 0 (ordG dists 15).length 1) (mostG dists 15))] ∧
    H' = H ++ [ordBlk (ordG (lits 288) 15), ordBlk (ordG dists 15)] := by
  refine ACall.use (fp := fun _ => False) (ACall.keep2 fixed_raw ?_) (fun r h => h.elim) fun v H' q _ _ => q
  rintro v' H' ⟨r, h1, h2, h3, rfl⟩ _ _
  refine ⟨_, _, r, r + 1, .tuple [.agg (bookCells (lits 288) (ordVal H (ordG (lits 288) 15)) (mostG (lits 288) 15)), .agg (bookCells dists (.slice (H.length + 1) ((ordG dists 15).length - 1) 0 (ordG dists 15).length 1) (mostG dists 15))], ?_, ?_, h1, by omega, by omega, h2, h3, ?_, rfl, rfl⟩
  · simpa [ABlk.flat, ordBlk] using ints_flats _
  · simpa [ABlk.flat, ordBlk] using ints_flats _
  · simp only [AVal.ren, AVal.rens, rens_map, bookCells, List.map_append, ordVal, ord_lits, if_false]
    rw [flat_list_ren _ (Arr_flats _ _), flat_list_ren _ (Arr_flats _ _)]
    simp [AVal.ren]
end
end Go.Proofs.Ytdknddicpdhkcaa.Ab

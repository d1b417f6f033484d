/- Inflate: whole streams. Conditions: none; for the statements about layers 46 and 47. -/
import Derived.Test.YtdknddicpdhkcaaTi
namespace Go.Proofs.Ytdknddicpdhkcaa.Ab
set_option linter.unusedVariables false
set_option linter.unusedSimpArgs false

def kindM (s : List UInt8) (most F kind : Nat) (t : St) : St :=
  if kind = 0 then storedM s most t
  else if kind = 1 then dataM s most (lits 288) dists F t
  else if kind = 2 then dataM s most (dynM s t).1.1 (dynM s t).1.2 F (dynM s t).2
  else failM 4 t
def loopM (s : List UInt8) (most F : Nat) : Nat → St → St
  | 0, t => t
  | G + 1, t =>
    if t.err ≠ 0 then t
    else if (bitsM s 2 (bitsM s 1 t).2).2.err ≠ 0 then (bitsM s 2 (bitsM s 1 t).2).2
    else if (bitsM s 1 t).1 = 0 then loopM s most F G (kindM s most F (bitsM s 2 (bitsM s 1 t).2).1 (bitsM s 2 (bitsM s 1 t).2).2)
    else kindM s most F (bitsM s 2 (bitsM s 1 t).2).1 (bitsM s 2 (bitsM s 1 t).2).2
def clampN (n : Int) : Nat := min n.toNat 1048576
/-- Inflate: text, how many bytes were used, error. -/
def inflM (s : List UInt8) (n : Int) (F : Nat) : List UInt8 × Nat × Int :=
  if (loopM s (clampN n) F F ⟨0, [], 0⟩).err ≠ 0 then ([], 0, (loopM s (clampN n) F F ⟨0, [], 0⟩).err)
  else ((loopM s (clampN n) F F ⟨0, [], 0⟩).out, ((loopM s (clampN n) F F ⟨0, [], 0⟩).at' + 7) / 8, 0)

theorem storedM_facts (s : List UInt8) {most : Nat} {t : St} (ho : t.out.length ≤ most) (hat : t.at' ≤ 8 * s.length) : t.at' ≤ (storedM s most t).at' ∧ (storedM s most t).at' ≤ 8 * s.length ∧ (storedM s most t).out.length ≤ most := by
  unfold storedM
  split
  · simp [ho, hat]
  · split
    · simp [ho, hat]
    · split
      · simp [ho, hat]
      · split
        · simp [ho, hat]
        · simp; omega
theorem dataM_facts (s : List UInt8) {most : Nat} {ll dl : List Int} : ∀ {F : Nat} {t : St}, t.out.length ≤ most → t.at' ≤ 8 * s.length → t.at' ≤ (dataM s most ll dl F t).at' ∧ (dataM s most ll dl F t).at' ≤ 8 * s.length ∧ (dataM s most ll dl F t).out.length ≤ most
  | 0, t, ho, hat => ⟨Nat.le_refl _, hat, ho⟩
  | F + 1, t, ho, hat => by
    have hs := symG_facts s ll t hat
    have ho2 : (symG s ll t).2.out.length ≤ most := by rw [hs.2.1]; exact ho
    rw [dataM]
    split
    · exact ⟨Nat.le_refl _, hat, ho⟩
    · split
      · exact ⟨hs.2.2.2.1, hs.2.2.1, ho2⟩
      · split
        · have h1 := putM_facts s (c := UInt8.ofNat (symG s ll t).1.toNat) ho2
          have ih := dataM_facts s (ll := ll) (dl := dl) (F := F) (t := putM most (UInt8.ofNat (symG s ll t).1.toNat) (symG s ll t).2) h1.2 (by omega)
          exact ⟨by omega, ih.2.1, ih.2.2⟩
        · split
          · have ih := dataM_facts s (ll := ll) (dl := dl) (F := F) (t := failM 4 (symG s ll t).2) (by simpa using ho2) (by simpa using hs.2.2.1)
            have h1 : (failM 4 (symG s ll t).2).at' = (symG s ll t).2.at' := failM_at
            exact ⟨by omega, ih.2.1, ih.2.2⟩
          · have h1 := matchM_facts s (k := (symG s ll t).1.toNat) (dl := dl) ho2 hs.2.2.1
            have ih := dataM_facts s (ll := ll) (dl := dl) (F := F) (t := matchM s most (symG s ll t).1.toNat dl (symG s ll t).2) h1.2.2 h1.2.1
            exact ⟨by omega, ih.2.1, ih.2.2⟩
theorem kindM_facts (s : List UInt8) {most F kind : Nat} {t : St} (ho : t.out.length ≤ most) (hat : t.at' ≤ 8 * s.length) : t.at' ≤ (kindM s most F kind t).at' ∧ (kindM s most F kind t).at' ≤ 8 * s.length ∧ (kindM s most F kind t).out.length ≤ most := by
  unfold kindM
  split
  · exact storedM_facts s ho hat
  · split
    · exact dataM_facts s ho hat
    · split
      · have h := dynM_facts s hat
        have h2 := dataM_facts s (most := most) (ll := (dynM s t).1.1) (dl := (dynM s t).1.2) (F := F) (t := (dynM s t).2) (by rw [h.2.2.2.2.2.2]; exact ho) h.2.2.2.2.1
        exact ⟨by omega, h2.2.1, h2.2.2⟩
      · simp [ho, hat]

theorem Sl.tlt {H : AHeap} {v : AVal} {xs : List AVal} (h : Sl H v xs) {r : Nat} (ht : appTarget v r) : r < H.length := by
  rcases h with ⟨rfl, _⟩ | ⟨rfl, _⟩ | ⟨r', g, o, rfl, h⟩
  · exact ht.elim
  · exact ht.elim
  · simp only [appTarget] at ht; subst ht; exact aloads_lt h

section
variable {s : List UInt8} {t : St} {w : AVal} {most p : Nat} {H : AHeap} {fp : Nat → Prop}

def inv28 (s : List UInt8) (most F : Nat) (R : St) (p : Nat) (n : Nat) (env : Env) (H' : AHeap) : Prop :=
  ∃ (t : St) (last : Int), Rd (fun r => r ≤ p) p H' s t most ∧ p < H'.length ∧ t.at' ≤ 8 * s.length ∧ t.out.length ≤ most ∧ env 7 = .ptr p 0 0 ∧ env 8 = .int .i64 last ∧ ((last = 0 ∧ R = loopM s most F n t ∧ 8 * s.length - t.at' < n) ∨ (last = 1 ∧ R = t))

theorem inflate_raw {n : Int} {F : Nat} (hs : s.length ≤ 2 ^ 50) (hF : 8 * s.length < F) :
    ACall Try.prog 28 [.str s, .int .i64 n] H (fun _ => False) fun v _ => v = .tuple [.str (inflM s n F).1, .int .i64 (inflM s n F).2.1, .int .i64 (inflM s n F).2.2] := by
  refine acall_of hmix Try.func28 x28_ok (by simp) ?_
  have hmax : vMax (.int .i64 n) (.int .i64 0) = some (.int .i64 ((n.toNat : Nat) : Int)) := by
    simp only [vMax_int]; split <;> (congr 2; omega)
  have hmin : vMin (.int .i64 ((n.toNat : Nat) : Int)) (.int .i64 1048576) = some (.int .i64 ((clampN n : Nat) : Int)) := by
    unfold clampN
    simp only [vMin_int]; split <;> (congr 2; omega)
  have hM : clampN n ≤ 1048576 := by unfold clampN; omega
  unfold inflM
  generalize hR : loopM s (clampN n) F F ⟨0, [], 0⟩ = R
  generalize clampN n = M at *
  generalize n.toNat = n0 at *
  simp (config := {contextual := true, implicitDefEqProofs := false}) (disch := omega) [hmax, hmin, -vMax_int, -vMin_int, afill]
  refine vc_loop (inv28 s M F R H.length) F ⟨⟨0, [], 0⟩, 0, ⟨.nilslice, ?_, .inl ⟨rfl, rfl⟩⟩, by simp, by simp, by simp, by simp, by simp, .inl ⟨rfl, hR.symm, by simpa using hF⟩⟩ ?_
  · simp [rdBlk, rcs]
  rintro n' env H1 ⟨t1, last, hRd, hl1, hat1, ho1, e7, e8, hcase⟩
  obtain ⟨w, hp1, hw⟩ := hRd
  rcases hcase with ⟨rfl, hloop, hn⟩ | ⟨rfl, hloop⟩
  · obtain ⟨n1, rfl⟩ : ∃ n1, n' = n1 + 1 := ⟨n' - 1, by omega⟩
    rw [loopM] at hloop
    simp (config := {contextual := true, implicitDefEqProofs := false}) (disch := omega) [e7, e8]
    refine call1_eq (ok_ok hp1) ?_
    by_cases c1 : t1.err = 0
    · rw [if_neg (show ¬ t1.err ≠ 0 by simp [c1])] at hloop
      simp (config := {contextual := true, implicitDefEqProofs := false}) (disch := omega) [e7, e8, c1]
      have hb1 := bitsM_at s 1 t1 hat1
      have hb1l := bitsM_le s t1
      refine call1_eq ((bits_ok hp1 (N := 1) (by omega) hs hat1).use (fun r h => Or.inl (by omega)) fun v H' q _ _ => q) ?_
      have hp2 : (H1.set H.length (rdBlk s (bitsM s 1 t1).2 w M))[H.length]? = some (rdBlk s (bitsM s 1 t1).2 w M) := List.getElem?_set_self hl1
      simp (config := {contextual := true, implicitDefEqProofs := false}) (disch := omega) [e7, e8, c1]
      refine call1_eq ((bits_ok hp2 (N := 2) (by omega) hs hb1.1).use (fun r h => Or.inl (by omega)) fun v H' q _ _ => q) ?_
      rw [List.set_set]
      have hb2 := bitsM_at s 2 (bitsM s 1 t1).2 hb1.1
      have hb2l := bitsM_lt s 2 (bitsM s 1 t1).2
      have ho2 : (bitsM s 2 (bitsM s 1 t1).2).2.out = t1.out := by simp
      have hba := bitsM_at2 s (n := 2) (t := (bitsM s 1 t1).2)
      generalize hkd : (bitsM s 2 (bitsM s 1 t1).2).1 = kind at *
      generalize ht2 : (bitsM s 2 (bitsM s 1 t1).2).2 = t2 at *
      generalize hla : (bitsM s 1 t1).1 = la at *
      have hp3 : (H1.set H.length (rdBlk s t2 w M))[H.length]? = some (rdBlk s t2 w M) := List.getElem?_set_self hl1
      have hR3 : Rd (fun r => r ≤ H.length) H.length (H1.set H.length (rdBlk s t2 w M)) s t2 M := Rd.set (by rw [ho2]; exact hw) (Nat.le_refl _) hl1
      have hl3 : H.length < (H1.set H.length (rdBlk s t2 w M)).length := by simpa using hl1
      generalize H1.set H.length (rdBlk s t2 w M) = H3 at *
      have ho3 : t2.out.length ≤ M := by rw [ho2]; exact ho1
      simp (config := {contextual := true, implicitDefEqProofs := false}) (disch := omega) [e7, e8, c1]
      refine call1_eq (ok_ok hp3) ?_
      by_cases c2 : t2.err = 0
      · rw [if_neg (show ¬ t2.err ≠ 0 by simp [c2])] at hloop
        have hba2 := hba c2
        have hkf := kindM_facts s (F := F) (kind := kind) ho3 hb2.1
        -- behind the block
        have fin : ∀ (H4 : AHeap) (env' : Env), Rd (fun r => r ≤ H.length) H.length H4 s (kindM s M F kind t2) M → H3.length ≤ H4.length → env' 7 = .ptr H.length 0 0 → env' 8 = .int .i64 la → again (inv28 s M F R H.length) (n1 + 1) env' H4 := by
          intro H4 env' h1 h2 f7 f8
          refine again_iff n1 (by omega) ⟨kindM s M F kind t2, la, h1, by omega, hkf.2.1, hkf.2.2, f7, f8, ?_⟩
          by_cases hl0 : la = 0
          · rw [if_pos hl0] at hloop
            exact .inl ⟨by omega, hloop, by omega⟩
          · rw [if_neg hl0] at hloop
            exact .inr ⟨by omega, hloop⟩
        have hB3 : ∀ r, (fun r => r ≤ H.length) r → r < H3.length := fun r hr => by omega
        have hfp : ∀ r, (r = H.length ∨ ¬ r ≤ H.length) → H.length ≤ r ∨ H3.length ≤ r := fun r h => by omega
        -- a block with codes
        have codes : ∀ (H4 : AHeap) (ll dl : List Int) (lw dw : AVal) (t4 : St) (d : Option Nat) (L : List XIns) (K : Env → AHeap → Prop) (env' : Env), kindM s M F kind t2 = dataM s M ll dl F t4 → H4[H.length]? = some (rdBlk s t4 w M) → H3.length ≤ H4.length → (∀ r, r < H3.length → r ≠ H.length → H4[r]? = H3[r]?) → t4.at' ≤ 8 * s.length → t2.at' ≤ t4.at' → t4.out = t2.out →
            Ints H4 lw (ordG ll 15) → Ints H4 dw (ordG dl 15) → (∀ r, appTarget lw r → H3.length ≤ r ∧ r < H4.length) → (∀ r, appTarget dw r → H3.length ≤ r ∧ r < H4.length) → ll.length ≤ 1000 → dl.length ≤ 1000 →
            (∀ H5, Rd (fun r => r ≤ H.length) H.length H5 s (kindM s M F kind t2) M → H3.length ≤ H5.length → vcOps (ACall Try.prog) (fun r => H.length ≤ r) L K (env'.put d (.tuple [])) H5) →
            call1 (ACall Try.prog) (fun r => H.length ≤ r) 49 [.ptr H.length 0 0, .agg (bookCells ll lw (mostG ll 15)), .agg (bookCells dl dw (mostG dl 15))] d L K env' H4 := by
          intro H4 ll dl lw dw t4 d L K env' h0 h1 h2 h3 h4 h5 h6 h7 h8 h9 h10 h11 h12 hk
          have hw3 : OwnX (fun r => r ≤ H.length) H3 5 w (bytesOf t2.out) := by
            obtain ⟨w', hw1, hw2⟩ := hR3
            have hww : w' = w := by
              rw [hp3] at hw1
              simp only [rdBlk, rcs, Option.some.injEq, ABlk.cells.injEq, List.cons.injEq] at hw1
              exact hw1.2.2.2.2.2.1.symm
            rw [← hww]; exact hw2
          have hw4 : OwnX (fun r => r ≤ H.length ∨ (H3.length ≤ r ∧ r < H4.length)) H4 5 w (bytesOf t4.out) := by
            rw [h6]
            have h13 : OwnX (fun r => r ≤ H.length ∨ (H3.length ≤ r ∧ r < H4.length)) H3 5 w (bytesOf t2.out) := hw3.sub fun r g1 g2 => by omega
            exact h13.keep fun k g1 g2 => h3 k g2 (by omega)
          refine call1_of (data_ok (B := fun r => r ≤ H.length ∨ (H3.length ≤ r ∧ r < H4.length)) (t := t4) (F := F) (fun r h => by omega) (.inl (Nat.le_refl _)) ⟨w, h1, hw4⟩ hs h4 (by omega) (by rw [h6]; exact ho3) (by omega) h7 (fun r hr => by have := h9 r hr; omega) h11 h8 (fun r hr => by have := h10 r hr; omega) h12) (fun r h => by omega) ?_
          rintro v H5 ⟨rfl, w5, hp5, hw5⟩ hl5 _
          refine hk H5 ?_ (by omega)
          rw [h0]
          exact ⟨w5, hp5, hw5.sub fun r _ h => .inl h⟩
        rcases (by omega : kind = 0 ∨ kind = 1 ∨ kind = 2 ∨ kind = 3) with rfl | rfl | rfl | rfl
        · have hk : kindM s M F 0 t2 = storedM s M t2 := by rw [kindM, if_pos rfl]
          simp (config := {contextual := true, implicitDefEqProofs := false}) (disch := omega) [e7, e8, c1, c2]
          refine call1_of (stored_ok hB3 (Nat.le_refl _) hR3 c2 hs hb2.1 (by omega) ho3) hfp ?_
          rintro v H4 ⟨rfl, hR4⟩ hl4 _
          rw [← hk] at hR4
          simp (config := {contextual := true, implicitDefEqProofs := false}) (disch := omega) [e7, e8]
          exact fin H4 _ hR4 hl4 (by simp [e7]) (by simp)
        · have hk : kindM s M F 1 t2 = dataM s M (lits 288) dists F t2 := by rw [kindM, if_neg (by omega), if_pos rfl]
          simp (config := {contextual := true, implicitDefEqProofs := false}) (disch := omega) [e7, e8, c1, c2]
          refine call1_eq (fixed_ok) ?_
          have o1 : (ordVal H3 (ordG (lits 288) 15)) = .slice H3.length ((ordG (lits 288) 15).length - 1) 0 (ordG (lits 288) 15).length 1 := by unfold ordVal; rw [if_neg ord_lits]
          rw [o1]
          have i1 : Ints (H3 ++ [ordBlk (ordG (lits 288) 15), ordBlk (ordG dists 15)]) (.slice H3.length ((ordG (lits 288) 15).length - 1) 0 (ordG (lits 288) 15).length 1) (ordG (lits 288) 15) := by
            refine .inr (.inr ⟨H3.length, (ordG (lits 288) 15).length - 1, 0, by simp, ?_⟩)
            have hb : (H3 ++ [ordBlk (ordG (lits 288) 15), ordBlk (ordG dists 15)])[H3.length]? = some (ordBlk (ordG (lits 288) 15)) := by rw [List.getElem?_append_right (by omega)]; simp
            rw [aloads_at hb, if_pos (by simp)]; simp; exact List.take_of_length_le (by simp)
          have i2 : Ints (H3 ++ [ordBlk (ordG (lits 288) 15), ordBlk (ordG dists 15)]) (.slice (H3.length + 1) ((ordG dists 15).length - 1) 0 (ordG dists 15).length 1) (ordG dists 15) := by
            refine .inr (.inr ⟨H3.length + 1, (ordG dists 15).length - 1, 0, by simp, ?_⟩)
            have hb : (H3 ++ [ordBlk (ordG (lits 288) 15), ordBlk (ordG dists 15)])[H3.length + 1]? = some (ordBlk (ordG dists 15)) := by rw [List.getElem?_append_right (by omega)]; simp
            rw [aloads_at hb, if_pos (by simp)]; simp; exact List.take_of_length_le (by simp)
          have hlen4 : (H3 ++ [ordBlk (ordG (lits 288) 15), ordBlk (ordG dists 15)]).length = H3.length + 2 := by simp
          have hf4 : ∀ r, r < H3.length → (H3 ++ [ordBlk (ordG (lits 288) 15), ordBlk (ordG dists 15)])[r]? = H3[r]? := fun r h => List.getElem?_append_left h
          generalize H3 ++ [ordBlk (ordG (lits 288) 15), ordBlk (ordG dists 15)] = H4 at *
          generalize (ordG (lits 288) 15).length - 1 = g1 at *
          generalize (ordG (lits 288) 15).length = g2 at *
          generalize (ordG dists 15).length - 1 = g3 at *
          generalize (ordG dists 15).length = g4 at *
          simp (config := {contextual := true, implicitDefEqProofs := false}) (disch := omega) [e7, e8, c1, c2]
          refine codes H4 (lits 288) dists _ _ t2 _ _ _ _ hk (by rw [hf4 _ hl3]; exact hp3) (by omega) (fun r h1 _ => hf4 r h1) hb2.1 (Nat.le_refl _) rfl i1 i2 ?_ ?_ (by simp) (by simp [dists]) ?_
          · intro r hr; simp only [appTarget] at hr; omega
          · intro r hr; simp only [appTarget] at hr; omega
          intro H5 hR5 hl5
          simp (config := {contextual := true, implicitDefEqProofs := false}) (disch := omega) [e7, e8]
          exact fin H5 _ hR5 hl5 (by simp [e7]) (by simp)
        · have hk : kindM s M F 2 t2 = dataM s M (dynM s t2).1.1 (dynM s t2).1.2 F (dynM s t2).2 := by rw [kindM, if_neg (by omega), if_neg (by omega), if_pos rfl]
          have hdf := dynM_facts s hb2.1
          simp (config := {contextual := true, implicitDefEqProofs := false}) (disch := omega) [e7, e8, c1, c2]
          refine call1_of (dyn_ok hp3 hs hb2.1) (fun r h => by omega) ?_
          rintro v H4 ⟨lw, dw, rfl, hlw, hdw, hlt, hdt, hp4⟩ hl4 hf4
          simp (config := {contextual := true, implicitDefEqProofs := false}) (disch := omega) [e7, e8, c1, c2]
          refine codes H4 _ _ lw dw (dynM s t2).2 _ _ _ _ hk hp4 hl4 (fun r h1 h2 => hf4 r h1 h2) hdf.2.2.2.2.1 hdf.2.2.2.2.2.1 hdf.2.2.2.2.2.2 hlw hdw ?_ ?_ hdf.1 hdf.2.1 ?_
          · exact fun r h => ⟨hlt r h, Sl.tlt hlw h⟩
          · exact fun r h => ⟨hdt r h, Sl.tlt hdw h⟩
          intro H5 hR5 hl5
          simp (config := {contextual := true, implicitDefEqProofs := false}) (disch := omega) [e7, e8]
          exact fin H5 _ hR5 hl5 (by simp [e7]) (by simp)
        · have hk : kindM s M F 3 t2 = failM 4 t2 := by rw [kindM, if_neg (by omega), if_neg (by omega), if_neg (by omega)]
          simp (config := {contextual := true, implicitDefEqProofs := false}) (disch := omega) [e7, e8, c1, c2]
          refine call1_of (fail_rd hB3 (Nat.le_refl _) hR3) hfp ?_
          rintro v H4 ⟨rfl, hR4⟩ hl4 _
          rw [← hk] at hR4
          simp (config := {contextual := true, implicitDefEqProofs := false}) (disch := omega) [e7, e8]
          exact fin H4 _ hR4 hl4 (by simp [e7]) (by simp)
      · rw [if_pos c2] at hloop
        simp (config := {contextual := true, implicitDefEqProofs := false}) (disch := omega) [e7, e8, c1, c2]
        refine call1_eq (ok_ok hp3) ?_
        have g3 := ageOk_at hp3
        simp (config := {contextual := true, implicitDefEqProofs := false}) (disch := omega) [e7, e8, c1, c2, g3, rd4 hp3, hloop]
    · rw [if_pos c1] at hloop
      have g1 := ageOk_at hp1
      simp (config := {contextual := true, implicitDefEqProofs := false}) (disch := omega) [e7, e8, c1]
      refine call1_eq (ok_ok hp1) ?_
      simp (config := {contextual := true, implicitDefEqProofs := false}) (disch := omega) [e7, e8, c1, g1, rd4 hp1, hloop]
  · have g1 := ageOk_at hp1
    simp (config := {contextual := true, implicitDefEqProofs := false}) (disch := omega) [e7, e8]
    refine call1_eq (ok_ok hp1) ?_
    by_cases c1 : t1.err = 0
    · have a1 : abin .add (.int .i64 (t1.at' : Int)) (.int .i64 7) = some (.int .i64 ((t1.at' : Int) + 7)) := by rw [abin_add, i64_id (by omega) (by omega)]
      have a2 : abin .quo (.int .i64 ((t1.at' : Int) + 7)) (.int .i64 8) = some (.int .i64 (((t1.at' + 7) / 8 : Nat) : Int)) := by
        rw [abin_quo (by omega), Int.tdiv_eq_ediv_of_nonneg (by omega), i64_id (by omega) (by omega)]; rfl
      simp (config := {contextual := true, implicitDefEqProofs := false}) (disch := omega) [e7, e8, c1, g1, rd1 hp1, rd2 hp1, hw.sl.toStr, a1, a2, hloop, -abin_add, -Int.natCast_ediv]
    · simp (config := {contextual := true, implicitDefEqProofs := false}) (disch := omega) [e7, e8, c1, g1, rd4 hp1, hloop]
/-- Inflate, in any state. -/
theorem inflate_ok {n : Int} {F : Nat} (hs : s.length ≤ 2 ^ 50) (hF : 8 * s.length < F) :
    ACall Try.prog 28 [.str s, .int .i64 n] H fp fun v H' => v = .tuple [.str (inflM s n F).1, .int .i64 (inflM s n F).2.1, .int .i64 (inflM s n F).2.2] ∧ H' = H := by
  refine (ACall.drop (inflate_raw hs hF) ?_).mono fun v' H' q => ⟨q.2.elim fun _ q => q.1, q.1⟩
  rintro v' H' rfl
  rfl
end
end Go.Proofs.Ytdknddicpdhkcaa.Ab

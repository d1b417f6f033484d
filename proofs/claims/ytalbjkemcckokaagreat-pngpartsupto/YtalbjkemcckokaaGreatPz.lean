/- Chunks and Join are inverse, in plain lists; the law PngParts over the layer. Conditions: the texts' lengths. -/
import Derived.Test.YtalbjkemcckokaaGreatPy
namespace Go.Proofs.YtalbjkemcckokaaGreat.Ab
set_option linter.unusedVariables false
set_option linter.unusedSimpArgs false
set_option maxRecDepth 100000

theorem fourB_len (n : Nat) : (fourB n).length = 4 := rfl
theorem numN_four {n : Nat} (h : n < 4294967296) (t : List UInt8) : numN (fourB n ++ t) = n := by
  simp [numN, chr, fourB]; omega
theorem four_numN : ∀ {s : List UInt8}, 4 ≤ s.length → fourB (numN s) = s.take 4
  | a :: b :: c :: d :: t, _ => by
    have ha := UInt8.toNat_lt a
    have hb := UInt8.toNat_lt b
    have hc := UInt8.toNat_lt c
    have hd := UInt8.toNat_lt d
    have e : ∀ (x : UInt8) (n : Nat), n % 256 = x.toNat → UInt8.ofNat (n % 256) = x := fun x n h => by rw [h]; simp
    simp only [fourB, List.take_succ_cons, List.take_zero, List.cons.injEq, and_true]
    simp only [numN, chr, List.getD_cons_zero, List.getD_cons_succ]
    exact ⟨e a _ (by omega), e b _ (by omega), e c _ (by omega), e d _ (by omega)⟩
theorem nameB_len {s : List UInt8} (h : nameB s = true) : s.length = 4 := by
  simp only [nameB] at h
  exact (of_decide_eq_true h).1

theorem chk_of {c : Chk} (hn : nameB c.1 = true) (hl : c.2.length ≤ 1048576) (rest : List UInt8) :
    chkE (chunkB c ++ rest) = 0 ∧ chkN (chunkB c ++ rest) = c.1 ∧ chkD (chunkB c ++ rest) = c.2 ∧ (chunkB c ++ rest).drop (numN (chunkB c ++ rest) + 12) = rest := by
  have h4 := nameB_len hn
  have hs : chunkB c ++ rest = fourB c.2.length ++ (c.1 ++ (c.2 ++ (fourB (crcG (c.1 ++ c.2)) ++ rest))) := by simp [chunkB]
  have hnum : numN (chunkB c ++ rest) = c.2.length := by rw [hs]; exact numN_four (by omega) _
  have hlen : (chunkB c ++ rest).length = c.2.length + 12 + rest.length := by rw [List.length_append, chunkB_len]; omega
  have d4 : (chunkB c ++ rest).drop 4 = c.1 ++ (c.2 ++ (fourB (crcG (c.1 ++ c.2)) ++ rest)) := by rw [hs, List.drop_left' (fourB_len _)]
  have hN : chkN (chunkB c ++ rest) = c.1 := by rw [chkN, d4, List.take_left' h4]
  have d8 : (chunkB c ++ rest).drop 8 = c.2 ++ (fourB (crcG (c.1 ++ c.2)) ++ rest) := by
    rw [show 8 = 4 + 4 from rfl, ← List.drop_drop, d4, List.drop_left' h4]
  have hD : chkD (chunkB c ++ rest) = c.2 := by rw [chkD, d8, hnum, List.take_left' rfl]
  have dc : (chunkB c ++ rest).drop (c.2.length + 8) = fourB (crcG (c.1 ++ c.2)) ++ rest := by
    rw [Nat.add_comm, ← List.drop_drop, d8, List.drop_left' rfl]
  have hb : ((chunkB c ++ rest).drop 4).take (c.2.length + 4) = c.1 ++ c.2 := by
    rw [d4, ← List.append_assoc, List.take_left' (by simp; omega)]
  refine ⟨?_, hN, hD, ?_⟩
  · have hN2 : ((chunkB c ++ rest).drop 4).take 4 = c.1 := hN
    unfold chkE
    rw [hN2, hnum, hb, dc, numN_four (crcG_lt _)]
    rw [if_neg (by omega), if_neg (by omega), if_neg (by rw [hn]; simp), if_neg (by omega), if_neg (fun q => q rfl)]
  · rw [hnum, show c.2.length + 12 = c.2.length + 8 + 4 by omega, ← List.drop_drop, dc, List.drop_left' (fourB_len _)]
theorem chk_back {s : List UInt8} (h : chkE s = 0) : s = chunkB (chkN s, chkD s) ++ s.drop (numN s + 12) ∧ nameB (chkN s) = true ∧ (chkD s).length ≤ 1048576 := by
  unfold chkE at h
  split at h
  · cases h
  · rename_i h1
    split at h
    · cases h
    · rename_i h2
      split at h
      · cases h
      · rename_i h3
        split at h
        · cases h
        · rename_i h4
          split at h
          · cases h
          · rename_i h5
            have h5 : crcG ((s.drop 4).take (numN s + 4)) = numN (s.drop (numN s + 8)) := Classical.not_not.1 h5
            have hDl : (chkD s).length = numN s := by simp [chkD]; omega
            have e0 : (s.drop 4).take (numN s + 4) = chkN s ++ chkD s := by
              rw [chkN, chkD, Nat.add_comm, List.take_add, List.drop_drop]
            have e1 : fourB (crcG (chkN s ++ chkD s)) = (s.drop (numN s + 8)).take 4 := by rw [← e0, h5]; exact four_numN (by simp; omega)
            refine ⟨?_, by simpa [chkN] using h3, by omega⟩
            have a1 : s = s.take 4 ++ s.drop 4 := (List.take_append_drop 4 s).symm
            have a2 : s.drop 4 = (s.drop 4).take (numN s + 4) ++ s.drop (numN s + 8) := by
              have := (List.take_append_drop (numN s + 4) (s.drop 4)).symm
              rw [List.drop_drop, show 4 + (numN s + 4) = numN s + 8 by omega] at this; exact this
            have a3 : s.drop (numN s + 8) = (s.drop (numN s + 8)).take 4 ++ s.drop (numN s + 12) := by
              have := (List.take_append_drop 4 (s.drop (numN s + 8))).symm
              rw [List.drop_drop] at this; exact this
            have : chunkB (chkN s, chkD s) = s.take 4 ++ ((s.drop 4).take (numN s + 4) ++ (s.drop (numN s + 8)).take 4) := by
              simp only [chunkB]
              rw [hDl, e1, four_numN (by omega), e0]; simp
            rw [this, List.append_assoc, List.append_assoc, ← a3, ← a2, ← a1]

/-- A list of chunks that makes a file. -/
def okL : List Chk → Prop
  | [] => False
  | c :: t => nameB c.1 = true ∧ c.2.length ≤ 1048576 ∧ ((t = [] ∧ c.1 = iend ∧ c.2 = []) ∨ (t ≠ [] ∧ c.1 ≠ iend ∧ okL t))
theorem okL_iff : ∀ l : List Chk, okL l ↔ (badC l = 0 ∧ l.findIdx isEnd + 1 = l.length ∧ lastD l = [])
  | [] => by simp [okL]
  | c :: t => by
    have ih := okL_iff t
    rw [okL, ih, badC, List.findIdx_cons]
    cases hn : nameB c.1
    · simp
    by_cases hl : 1048576 < c.2.length
    · simp [hl]; omega
    have hl2 : c.2.length ≤ 1048576 := by omega
    cases t with
    | nil =>
      by_cases he : c.1 = iend
      · simp [hl, hl2, he, isEnd, badC, lastD]
      · simp [hl, hl2, he, isEnd, badC, lastD]
    | cons d t =>
      have hla : lastD (c :: d :: t) = lastD (d :: t) := by simp [lastD]
      by_cases he : c.1 = iend
      · simp [hl, hl2, he, isEnd]
      · have : isEnd c = false := decide_eq_false he
        simp [hl, hl2, he, this, hla]
theorem joinP_ok {l : List Chk} : (joinP l).2 = 0 ↔ okL l := by
  rw [okL_iff]
  unfold joinP
  split
  · rename_i h; simp; intro h1; exact absurd h1 h
  · split
    · rename_i h2; simp; intro _ h3; exact absurd h3 h2
    · split
      · rename_i h3; simp; intro _ _ h4; exact absurd h4 h3
      · rename_i h1 h2 h3
        exact ⟨fun _ => ⟨Classical.not_not.1 h1, Classical.not_not.1 h2, Classical.not_not.1 h3⟩, fun _ => rfl⟩
theorem joinP_val {l : List Chk} (h : okL l) : joinP l = (sig8 ++ l.flatMap chunkB, 0) := by
  obtain ⟨h1, h2, h3⟩ := (okL_iff l).1 h
  unfold joinP
  rw [if_neg (fun c => c h1), if_neg (fun c => c h2), if_neg (fun c => c h3)]
theorem chunks_of_join : ∀ (l : List Chk) (f : Nat) (acc : List Chk), okL l → l.length ≤ f → chunksF f (l.flatMap chunkB) acc = (acc ++ l, 0)
  | [], _, _, h, _ => h.elim
  | c :: t, 0, _, _, hf => by simp at hf
  | c :: t, f + 1, acc, h, hf => by
    obtain ⟨hn, hl, h⟩ := h
    obtain ⟨e1, e2, e3, e4⟩ := chk_of hn hl (t.flatMap chunkB)
    rw [List.flatMap_cons, chunksF_ok e1, e2, e3, e4]
    rcases h with ⟨rfl, h1, h2⟩ | ⟨_, h1, h2⟩
    · rw [if_neg (fun c => c h1), if_neg (fun c => c h2), if_neg (by simp)]
    · rw [if_pos h1, chunks_of_join t f _ h2 (by simpa using hf)]; simp
theorem chunks_back : ∀ (f : Nat) (s : List UInt8) (acc : List Chk), (chunksF f s acc).2 = 0 → ∃ l, (chunksF f s acc).1 = acc ++ l ∧ okL l ∧ s = l.flatMap chunkB
  | 0, s, acc, h => by simp [chunksF] at h
  | f + 1, s, acc, h => by
    by_cases he : chkE s = 0
    · obtain ⟨b1, b2, b3⟩ := chk_back he
      rw [chunksF_ok he] at h ⊢
      by_cases h1 : chkN s ≠ iend
      · rw [if_pos h1] at h ⊢
        obtain ⟨l, c1, c2, c3⟩ := chunks_back f _ _ h
        refine ⟨(chkN s, chkD s) :: l, by rw [c1]; simp, ⟨b2, b3, .inr ⟨fun c => by subst c; exact c2, h1, c2⟩⟩, ?_⟩
        rw [List.flatMap_cons, ← c3]; exact b1
      · rw [if_neg h1] at h ⊢
        by_cases h2 : chkD s ≠ []
        · rw [if_pos h2] at h; simp at h
        · rw [if_neg h2] at h ⊢
          by_cases h3 : s.drop (numN s + 12) ≠ []
          · rw [if_pos h3] at h; simp at h
          · rw [if_neg h3]
            refine ⟨[(chkN s, chkD s)], rfl, ⟨b2, b3, .inl ⟨rfl, Classical.not_not.1 h1, Classical.not_not.1 h2⟩⟩, ?_⟩
            rw [Classical.not_not.1 h3] at b1
            simpa using b1
    · rw [chunksF_err he] at h; exact absurd h he
theorem chunks_err : ∀ (f : Nat) (s : List UInt8) (acc : List Chk), (chunksF f s acc).2 ≠ 0 → (chunksF f s acc).1 = []
  | 0, s, acc, h => rfl
  | f + 1, s, acc, h => by
    by_cases he : chkE s = 0
    · rw [chunksF_ok he] at h ⊢
      by_cases h1 : chkN s ≠ iend
      · rw [if_pos h1] at h ⊢
        exact chunks_err f _ _ h
      · rw [if_neg h1] at h ⊢
        by_cases h2 : chkD s ≠ []
        · rw [if_pos h2]
        · rw [if_neg h2] at h ⊢
          by_cases h3 : s.drop (numN s + 12) ≠ []
          · rw [if_pos h3]
          · rw [if_neg h3] at h; simp at h
    · rw [chunksF_err he]
theorem flat_len : ∀ l : List Chk, l.length * 8 ≤ (l.flatMap chunkB).length ∧ bulkC l ≤ 2 * (l.flatMap chunkB).length ∧ (l.flatMap chunkB).length ≤ bulkC l
  | [] => by simp [bulkC]
  | c :: t => by
    have := flat_len t
    have h2 := chunkB_len c
    rw [List.flatMap_cons, List.length_append, bulkC, List.length_cons]; omega
theorem parts1 {l : List Chk} (h : okL l) : chunksP (joinP l).1 = (l, 0) := by
  rw [joinP_val h]
  unfold chunksP
  have hf := flat_len l
  rw [if_pos (by simp [sig8, sigB])]
  have : (sig8 ++ l.flatMap chunkB).drop 8 = l.flatMap chunkB := by simp [sig8]
  rw [this, chunks_of_join l _ [] h (by rw [List.length_append]; omega)]; simp
theorem parts2 {s : List UInt8} (h : (chunksP s).2 = 0) : joinP (chunksP s).1 = (s, 0) ∧ bulkC (chunksP s).1 ≤ 2 * s.length := by
  unfold chunksP at h ⊢
  split at h
  · rename_i h8
    rw [if_pos h8]
    obtain ⟨l, c1, c2, c3⟩ := chunks_back _ _ _ h
    rw [c1, List.nil_append, joinP_val c2, ← c3]
    refine ⟨?_, ?_⟩
    · congr 1
      have := List.take_append_drop 8 s
      rw [h8] at this; exact this
    · have := (flat_len l).2.1
      rw [← c3] at this; simp at this; omega
  · cases h
theorem parts_err {s : List UInt8} (h : (chunksP s).2 ≠ 0) : (chunksP s).1 = [] := by
  unfold chunksP at h ⊢
  split at h
  · rename_i h8
    rw [if_pos h8]
    exact chunks_err _ _ _ h
  · rename_i h8
    rw [if_neg h8]

theorem sameL_ok {H : AHeap} {w1 w2 : AVal} {l : List Chk} (h1 : Ls2 H w1 l) (h2 : Ls2 H w2 l) (hl : l.length ≤ 2 ^ 60) (fp : Nat → Prop) : ACall Tryz.prog 15 [w1, w2] H fp fun v H' => v = .bool true ∧ H' = H := by
  refine acall_of hmix Tryz.func15 x15_ok (by simp) ?_
  simp (config := {contextual := true, implicitDefEqProofs := false}) (disch := omega) [h1.len, h2.len]
  refine vc_loop (inv15 H w1 w2 l) l.length ?_ ?_
  · exact ⟨0, rfl, by omega, rfl, by simp, by simp, by simp, by simp⟩
  · rintro n env H' ⟨i, rfl, hi, rfl, e0, e1, e12, e13⟩
    simp (config := {contextual := true, implicitDefEqProofs := false}) (disch := omega) [e0, e1, e12, e13]
    refine fun g => ?_
    obtain ⟨r1, g1, o1, a1, _, _, _, a2⟩ := h1.get g
    obtain ⟨r2, g2, o2, b1, _, _, _, b2⟩ := h2.get g
    simp (config := {contextual := true, implicitDefEqProofs := false}) (disch := omega) [e0, e1, e12, e13, a1, a2, b1, b2, vEqS_same, i64_id]
    exact again_iff (l.length - (i + 1)) (by omega) ⟨i + 1, rfl, by omega, rfl, by simp [e0], by simp [e1], by simp [e12], by simp⟩

theorem law9_ok {w : AVal} {l : List Chk} {s : List UInt8} {H : AHeap} (h : Ls2 H w l) (hl : bulkC l ≤ 2 ^ 39) (hs : s.length ≤ 2 ^ 39) (fp : Nat → Prop) : ACall Tryz.prog 9 [w, .str s] H fp fun v' H' => v' = .bool true ∧ H' = H := by
  refine ((ACall.drop (fp := fp) (R := fun v _ => v = .bool true) (?_) fun v H' e => by rw [e]; rfl)).mono fun v H' q => ⟨by obtain ⟨_, _, h, _⟩ := q; exact h, q.1⟩
  refine acall_of hmix Tryz.func9 x9_ok (by simp) ?_
  have hll := bulkC_len l
  simp (config := {contextual := true, implicitDefEqProofs := false}) (disch := omega)
  refine call1_eq (join_ok h (by omega) _) ?_
  by_cases hj : (joinP l).2 = 0
  · have hok := joinP_ok.1 hj
    have hp1 := parts1 hok
    have hjl : (joinP l).1.length ≤ 2 ^ 40 := by
      rw [joinP_val hok]
      have := (flat_len l).2.2
      show (sig8 ++ l.flatMap chunkB).length ≤ _
      rw [List.length_append]
      simp [sig8]; simp at this; omega
    simp (config := {contextual := true, implicitDefEqProofs := false}) (disch := omega) [hj]
    refine call1_of (chunks_ok _ hjl H (fun _ => False)) (fun r h => h.elim) ?_
    rw [hp1]
    rintro v H1 ⟨w1, rfl, o1, f1⟩ hl1 _
    have h1 := h.keep f1
    simp (config := {contextual := true, implicitDefEqProofs := false}) (disch := omega)
    refine call1_eq (sameL_ok (l := l) o1.ls h1 (by omega) _) ?_
    simp (config := {contextual := true, implicitDefEqProofs := false}) (disch := omega)
    refine call1_of (chunks_ok s (by omega) H1 (fun _ => False)) (fun r h => h.elim) ?_
    rintro v H2 ⟨w2, rfl, o2, f2⟩ hl2 _
    by_cases hc : (chunksP s).2 = 0
    · obtain ⟨p1, p2⟩ := parts2 hc
      simp (config := {contextual := true, implicitDefEqProofs := false}) (disch := omega) [hc]
      refine call1_eq (join_ok o2.ls (by omega) _) ?_
      rw [p1]
      simp (config := {contextual := true, implicitDefEqProofs := false}) (disch := omega)
      refine call1_eq (awake_ok _ _) ?_
      simp (config := {contextual := true, implicitDefEqProofs := false}) (disch := omega)
    · have he := parts_err hc
      rw [he] at o2
      have hle := o2.ls.len
      simp (config := {contextual := true, implicitDefEqProofs := false}) (disch := omega) [hc]
      refine call1_eq (awake_ok _ _) ?_
      simp (config := {contextual := true, implicitDefEqProofs := false}) (disch := omega) [hle]
  · simp (config := {contextual := true, implicitDefEqProofs := false}) (disch := omega) [hj]
    refine call1_of (chunks_ok s (by omega) H (fun _ => False)) (fun r h => h.elim) ?_
    rintro v H2 ⟨w2, rfl, o2, f2⟩ hl2 _
    by_cases hc : (chunksP s).2 = 0
    · obtain ⟨p1, p2⟩ := parts2 hc
      simp (config := {contextual := true, implicitDefEqProofs := false}) (disch := omega) [hc]
      refine call1_eq (join_ok o2.ls (by omega) _) ?_
      rw [p1]
      simp (config := {contextual := true, implicitDefEqProofs := false}) (disch := omega)
      refine call1_eq (awake_ok _ _) ?_
      simp (config := {contextual := true, implicitDefEqProofs := false}) (disch := omega)
    · have he := parts_err hc
      rw [he] at o2
      have hle := o2.ls.len
      simp (config := {contextual := true, implicitDefEqProofs := false}) (disch := omega) [hc]
      refine call1_eq (awake_ok _ _) ?_
      simp (config := {contextual := true, implicitDefEqProofs := false}) (disch := omega) [hle]
end Go.Proofs.YtalbjkemcckokaaGreat.Ab

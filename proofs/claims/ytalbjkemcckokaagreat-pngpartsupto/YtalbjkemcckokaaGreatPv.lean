/- png.Join. Conditions: the file's length; for the statements about layer 48. -/
import Derived.Test.YtalbjkemcckokaaGreatPu
namespace Go.Proofs.YtalbjkemcckokaaGreat.Ab
set_option linter.unusedVariables false
set_option linter.unusedSimpArgs false
set_option maxRecDepth 100000

/-- The error of the first chunk that is no chunk. -/
def badC : List Chk → Int
  | [] => 0
  | c :: t => if nameB c.1 = false then 13 else if 1048576 < c.2.length then 3 else badC t
def chunkB (c : Chk) : List UInt8 := fourB c.2.length ++ c.1 ++ c.2 ++ fourB (crcG (c.1 ++ c.2))
def sig8 : List UInt8 := [137, 80, 78, 71, 13, 10, 26, 10]
def lastD (l : List Chk) : List UInt8 := (l.getD (l.length - 1) ([], [])).2
def joinP (l : List Chk) : List UInt8 × Int :=
  if badC l ≠ 0 then ([], badC l) else if l.findIdx isEnd + 1 ≠ l.length then ([], 24) else if lastD l ≠ [] then ([], 4) else (sig8 ++ l.flatMap chunkB, 0)
def bulkC : List Chk → Nat
  | [] => 0
  | c :: t => c.1.length + c.2.length + 12 + bulkC t
theorem chunkB_len (c : Chk) : (chunkB c).length = c.1.length + c.2.length + 8 := by simp [chunkB, fourB]; omega
theorem bulkC_drop : ∀ (l : List Chk) (i : Nat) (h : i < l.length), bulkC (l.drop i) = l[i].1.length + l[i].2.length + 12 + bulkC (l.drop (i + 1))
  | c :: t, 0, h => by simp [bulkC]
  | c :: t, i + 1, h => by simpa using bulkC_drop t i (by simpa using h)
theorem bulkC_le : ∀ (l : List Chk) (i : Nat), bulkC (l.drop i) ≤ bulkC l
  | [], i => by simp [bulkC]
  | c :: t, 0 => by simp
  | c :: t, i + 1 => by have := bulkC_le t i; simp [bulkC]; omega
theorem bulkC_len : ∀ l : List Chk, l.length * 12 ≤ bulkC l
  | [] => by simp [bulkC]
  | c :: t => by have := bulkC_len t; simp [bulkC]; omega
theorem drop_at {l : List Chk} {i : Nat} (h : i < l.length) : l.drop i = l[i] :: l.drop (i + 1) := List.drop_eq_getElem_cons h
theorem badC_bound : ∀ {l : List Chk}, badC l = 0 → ∀ i (h : i < l.length), l[i].2.length ≤ 1048576 ∧ nameB l[i].1 = true
  | c :: t, hb, i, h => by
    unfold badC at hb
    split at hb
    · cases hb
    · rename_i h1
      split at hb
      · cases hb
      · rename_i h2
        cases i with
        | zero => exact ⟨by simpa using h2, by simpa using h1⟩
        | succ i => simpa using badC_bound hb i (by simpa using h)

def inv16a (H : AHeap) (w : AVal) (l : List Chk) (n : Nat) (env : Env) (H' : AHeap) : Prop :=
  ∃ i : Nat, n = l.length - i ∧ i ≤ l.length ∧ badC l = badC (l.drop i) ∧ H.length ≤ H'.length ∧ (∀ k, k < H.length → H'[k]? = H[k]?) ∧ env 0 = w ∧ env 10 = w ∧ env 11 = .int .i64 l.length ∧ env 12 = .int .i64 i
def inv16b (H : AHeap) (w : AVal) (l : List Chk) (b : Nat) (n : Nat) (env : Env) (H' : AHeap) : Prop :=
  ∃ (i : Nat) (s : List UInt8), n = l.length - i ∧ i ≤ l.length ∧ sig8 ++ l.flatMap chunkB = s ++ (l.drop i).flatMap chunkB ∧ s.length + bulkC (l.drop i) ≤ bulkC l + 8 ∧ H.length ≤ H'.length ∧ (∀ k, k < H.length → H'[k]? = H[k]?) ∧
    BldP (fun r => r < H.length) H' b s ∧ env 7 = .ptr b 0 0 ∧ env 43 = w ∧ env 44 = .int .i64 l.length ∧ env 45 = .int .i64 i

theorem join_ok {w : AVal} {l : List Chk} {H : AHeap} (h : Ls2 H w l) (hl : bulkC l ≤ 2 ^ 40) (fp : Nat → Prop) : ACall Tryz.prog 16 [w] H fp fun v H' => v = .tuple [.str (joinP l).1, .int .i64 (joinP l).2] ∧ H' = H := by
  refine ((ACall.drop (fp := fp) (R := fun v _ => v = .tuple [.str (joinP l).1, .int .i64 (joinP l).2]) (?_) fun v H' e => by rw [e]; rfl)).mono fun v H' q => ⟨by obtain ⟨_, _, h, _⟩ := q; exact h, q.1⟩
  refine acall_of hmix Tryz.func16 x16_ok (by simp) ?_
  have hll := bulkC_len l
  simp (config := {contextual := true, implicitDefEqProofs := false}) (disch := omega) [h.len]
  refine vc_loop (inv16a H w l) l.length ?_ ?_
  · exact ⟨0, rfl, by omega, rfl, by omega, fun _ _ => rfl, by simp, by simp, by simp, by simp⟩
  · rintro n env H' ⟨i, rfl, hi, hbd, hle, hk, e0, e10, e11, e12⟩
    have h' := h.keep hk
    simp (config := {contextual := true, implicitDefEqProofs := false}) (disch := omega) [e0, e10, e11, e12]
    refine ⟨fun h1 => ?_, fun h1 => ?_⟩
    · obtain ⟨r, g, o, a1, a2, a3, a4, a5⟩ := h'.get h1
      rw [drop_at h1, badC] at hbd
      generalize l[i] = c at *
      have l0 : aload (H' ++ [.cells 0 false 53 [.str c.1, .str c.2]]) H'.length 0 0 = some (.str c.1) := by simp
      have l1 : aload (H' ++ [.cells 0 false 53 [.str c.1, .str c.2]]) H'.length 0 1 = some (.str c.2) := by simp
      simp (config := {contextual := true, implicitDefEqProofs := false}) (disch := omega) [e0, e10, e11, e12, a1, a5, l0, l1, -aload_new0, -aload_new]
      refine ⟨hle, ?_⟩
      refine call1_eq isName_ok ?_
      cases hn : nameB c.1
      · rw [if_pos hn] at hbd
        simp (config := {contextual := true, implicitDefEqProofs := false}) (disch := omega) [joinP, hbd]
      · rw [if_neg (by rw [hn]; simp)] at hbd
        simp (config := {contextual := true, implicitDefEqProofs := false}) (disch := omega) [l0, l1, -aload_new0, -aload_new]
        refine ⟨fun h2 => ?_, fun h2 => ?_⟩
        · rw [if_pos (by omega)] at hbd
          simp (config := {contextual := true, implicitDefEqProofs := false}) (disch := omega) [joinP, hbd]
        · rw [if_neg (by omega)] at hbd
          simp (config := {contextual := true, implicitDefEqProofs := false}) (disch := omega) [e12, i64_id]
          exact again_iff (l.length - (i + 1)) (by omega) ⟨i + 1, rfl, by omega, hbd, by simp; omega, fun k hk2 => by rw [List.getElem?_append_left (by omega)]; exact hk k hk2, by simp [e0], by simp [e10], by simp [e11], by simp⟩
    · have hb0 : badC l = 0 := by rw [hbd, List.drop_eq_nil_of_le (by omega)]; rfl
      refine call1_eq (indexFunc_ok h' (by omega)) ?_
      by_cases hf : l.findIdx isEnd + 1 = l.length
      · have hI : idxI l = ((l.length : Int) - 1) := by unfold idxI; rw [if_pos (by omega)]; omega
        have hlt : l.findIdx isEnd < l.length := by omega
        have hjp : joinP l = if lastD l ≠ [] then ([], 4) else (sig8 ++ l.flatMap chunkB, 0) := by unfold joinP; rw [if_neg (by omega), if_neg (by omega)]
        obtain ⟨r, g, o, a1, a2, a3, a4, a5⟩ := h'.get hlt
        have hx : vIdx H' 2 w (.int .i64 ((l.length : Int) - 1)) = some (.ptr r g o) := by rw [← a1]; congr 2; omega
        have hla : l[l.findIdx isEnd].2 = lastD l := by
          have : l.length - 1 = l.findIdx isEnd := by omega
          unfold lastD; rw [this, List.getD_eq_getElem?_getD, List.getElem?_eq_getElem hlt]; rfl
        rw [hla] at a4 a5
        rw [hI, hjp]
        by_cases hla0 : lastD l ≠ []
        · rw [if_pos hla0]
          simp (config := {contextual := true, implicitDefEqProofs := false}) (disch := omega) [e0, h'.len, i64_id, hx, a2, a4, hla0]
          omega
        · rw [if_neg hla0]
          have hla1 : lastD l = [] := Classical.not_not.1 hla0
          rw [hla1] at a4
          simp (config := {contextual := true, implicitDefEqProofs := false}) (disch := omega) [e0, h'.len, i64_id, hx, a2, a4]
          refine ⟨by omega, fun _ => ?_⟩
          have hfr : BldP (fun r => r < H.length) (H' ++ [.cells 0 false 73 [.nilptr, .nilslice]]) H'.length [] := Bld.fresh (fun r hr => by omega)
          refine call1_of (ws_ok hfr (fun r hr => by simp; omega) (t := [137, 80, 78, 71, 13, 10, 26, 10]) (by unfold roomLim; simp) (fp := fun r => ¬ r < H.length) (fun r hr => hr)) (fun r hr => .inl (by omega)) ?_
          rintro v H1 ⟨rfl, hb1, hle1, hk1⟩ _ _
          have hle1 : H.length ≤ H1.length := by simp at hle1; omega
          have hk1 : ∀ k, k < H.length → H1[k]? = H[k]? := fun k hk2 => by rw [hk1 k hk2, List.getElem?_append_left (by omega)]; exact hk k hk2
          have hL1 := h.keep hk1
          simp (config := {contextual := true, implicitDefEqProofs := false}) (disch := omega) [e0, hL1.len]
          generalize H'.length = b at *
          refine vc_loop (inv16b H w l b) l.length ?_ ?_
          · exact ⟨0, sig8, rfl, by omega, by simp, by simp [sig8]; omega, hle1, hk1, hb1, by simp, by simp, by simp, by simp⟩
          · rintro n env H2 ⟨i, s, rfl, hi2, hs, hsl, hle2, hk2, hb2, e7, e43, e44, e45⟩
            have hL2 := h.keep hk2
            have hbk := bulkC_le l i
            have hlt2 := hb2.lt
            simp (config := {contextual := true, implicitDefEqProofs := false}) (disch := omega) [e7, e43, e44, e45]
            refine ⟨fun g1 => ?_, fun g1 => ?_⟩
            · obtain ⟨r2, g2, o2, b1, b2, b3, b4, b5⟩ := hL2.get g1
              have hbd2 := badC_bound hb0 i g1
              rw [drop_at g1, List.flatMap_cons] at hs
              rw [bulkC_drop l i g1] at hsl hbk
              have hcl := chunkB_len l[i]
              generalize l[i] = c at *
              have l0 : aload (H2 ++ [.cells 0 false 53 [.str c.1, .str c.2]]) H2.length 0 0 = some (.str c.1) := by simp
              have l1 : aload (H2 ++ [.cells 0 false 53 [.str c.1, .str c.2]]) H2.length 0 1 = some (.str c.2) := by simp
              have ad1 : abin .add (.str c.1) (.str c.2) = some (.str (c.1 ++ c.2)) := abin_sadd (by omega)
              have ad2 : abin .add (.str (fourB c.2.length)) (.str c.1) = some (.str (fourB c.2.length ++ c.1)) := abin_sadd (by simp [fourB]; omega)
              have ad3 : abin .add (.str (fourB c.2.length ++ c.1)) (.str c.2) = some (.str (fourB c.2.length ++ c.1 ++ c.2)) := abin_sadd (by simp [fourB]; omega)
              have ad4 : abin .add (.str (fourB c.2.length ++ (c.1 ++ c.2))) (.str (fourB (crcG (c.1 ++ c.2)))) = some (.str (chunkB c)) := by
                rw [abin_sadd (by simp [fourB]; omega)]; simp [chunkB]
              have hu : IntKind.u32.wrap (c.2.length : Int) = c.2.length := u32_nat (by omega)
              simp (config := {contextual := true, implicitDefEqProofs := false}) (disch := omega) [e7, e43, e44, e45, b1, b5, l0, l1, hu, ad1, -aload_new0, -aload_new]
              refine ⟨hle2, ?_⟩
              refine dcall1_eq (four42_ok (by omega)) ?_
              simp (config := {contextual := true, implicitDefEqProofs := false}) (disch := omega) [e7, e43, e44, e45, ad2, ad3]
              refine dcall1_eq (crc_ok _ (by simp; omega) _ _) ?_
              simp (config := {contextual := true, implicitDefEqProofs := false}) (disch := omega) [e7, e43, e44, e45]
              refine dcall1_eq (four42_ok (crcG_lt _)) ?_
              simp (config := {contextual := true, implicitDefEqProofs := false}) (disch := omega) [e7, e43, e44, e45, ad4]
              have hb3 : BldP (fun r => r < H.length) (H2 ++ [.cells 0 false 53 [.str c.1, .str c.2]]) b s := hb2.keep fun k _ hk3 => List.getElem?_append_left hk3
              refine dcall1_of (ws_ok hb3 (fun r hr => by simp; omega) (t := chunkB c) (by unfold roomLim; omega) (fp := fun r => ¬ r < H.length) (fun r hr => hr)) ?_ ?_
              · intro r hr
                exact .inl ⟨by omega, by simp⟩
              rintro v H3 ⟨rfl, hb4, hle4, hk4⟩ _ _
              simp (config := {contextual := true, implicitDefEqProofs := false}) (disch := omega) [e7, e43, e44, e45, i64_id]
              refine again_iff (l.length - (i + 1)) (by omega) ⟨i + 1, s ++ chunkB c, rfl, by omega, by rw [hs]; simp, by simp; omega, by simp at hle4; omega, fun k hk5 => ?_, hb4, by simp [e7], by simp [e43], by simp [e44], by simp⟩
              rw [hk4 k hk5, List.getElem?_append_left (by omega)]; exact hk2 k hk5
            · rw [List.drop_eq_nil_of_le (by omega)] at hs
              rw [hs]
              refine call1_of (bs_ok hb2 (by unfold roomLim; omega) (fp := fun r => ¬ r < H.length) (fun r hr => hr)) (fun r hr => .inl (by omega)) ?_
              rintro v H3 ⟨rfl, hl3, hk3⟩ _ _
              simp (config := {contextual := true, implicitDefEqProofs := false}) (disch := omega)
      · have hjp : joinP l = ([], 24) := by unfold joinP; rw [if_neg (by omega), if_pos hf]
        by_cases hg : l.findIdx isEnd < l.length
        · have hI : idxI l = (l.findIdx isEnd : Int) := by unfold idxI; rw [if_pos hg]
          simp (config := {contextual := true, implicitDefEqProofs := false}) (disch := omega) [e0, h'.len, i64_id, hI, hjp]
          intros; omega
        · have hI : idxI l = -1 := by unfold idxI; rw [if_neg hg]
          simp (config := {contextual := true, implicitDefEqProofs := false}) (disch := omega) [e0, h'.len, i64_id, hI, hjp]
end Go.Proofs.YtalbjkemcckokaaGreat.Ab

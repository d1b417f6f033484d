/- The reference's Chunks. Conditions: the text's length; for the statements about layer 48. -/
import Derived.Test.YtalbjkemcckokaaGreatPq
namespace Go.Proofs.YtalbjkemcckokaaGreat.Ab
set_option linter.unusedVariables false
set_option linter.unusedSimpArgs false
set_option maxRecDepth 100000

theorem take4 {t : List UInt8} (h : 4 ≤ t.length) : t.take 4 = [chr t 0, chr t 1, chr t 2, chr t 3] := by
  match t, h with
  | a :: b :: c :: d :: r, _ => rfl
theorem four_eq {t : List UInt8} {c : Nat} (h : 4 ≤ t.length) (hc : c < 4294967296) : t.take 4 = fourB c ↔ c = numN t := by
  have b0 := UInt8.toNat_lt (chr t 0)
  have b1 := UInt8.toNat_lt (chr t 1)
  have b2 := UInt8.toNat_lt (chr t 2)
  have b3 := UInt8.toNat_lt (chr t 3)
  rw [take4 h, fourB, numN]
  constructor
  · intro e
    simp only [List.cons.injEq, and_true] at e
    obtain ⟨e0, e1, e2, e3⟩ := e
    rw [e0, e1, e2, e3]
    simp
    omega
  · intro e
    have f : ∀ (x : UInt8) (m : Nat), m = x.toNat → x = UInt8.ofNat m := fun x m h => by subst h; simp
    rw [← f (chr t 0) (c / 16777216 % 256) (by omega), ← f (chr t 1) (c / 65536 % 256) (by omega), ← f (chr t 2) (c / 256 % 256) (by omega), ← f (chr t 3) (c % 256) (by omega)]

def inv13 (H : AHeap) (s : List UInt8) (n : Nat) (env : Env) (H' : AHeap) : Prop :=
  ∃ f p acc, n = s.length - p ∧ p ≤ s.length ∧ s.length - p ≤ f ∧ chunksF (s.length + 1) (s.drop 8) [] = chunksF (f + 1) (s.drop p) acc ∧ acc.length * 12 + (s.length - p) ≤ s.length ∧ env 0 = .str s ∧ env 5 = .int .i64 p ∧ Own2 (fun r => r < H.length) H' (env 4) acc ∧ (∀ r, r < H.length → H'[r]? = H[r]?) ∧ H.length ≤ H'.length

theorem rchunks_ok (s : List UInt8) (hs : s.length ≤ 2 ^ 40) (H : AHeap) (fp : Nat → Prop) : ACall Tryz.prog 13 [.str s] H fp fun v H' => ∃ w, v = .tuple [w, .int .i64 (chunksP s).2] ∧ Own2 (fun r => r < H.length) H' w (chunksP s).1 ∧ ∀ r, r < H.length → H'[r]? = H[r]? := by
  refine acall_of hmix Tryz.func13 x13_ok (by simp) ?_
  simp (config := {contextual := true, implicitDefEqProofs := false}) (disch := omega)
  have no : ¬ s.take 8 = sigB → chunksP s = ([], 4) := fun h => by unfold chunksP; rw [if_neg h]
  have hfin0 : ∀ (r : Nat) (a : r < H.length), H[r]? = some H[r] := fun r a => List.getElem?_eq_getElem a
  refine ⟨fun h => ?_, fun h => ?_⟩
  · have hP := no (fun e => by have := congrArg List.length e; simp [sigB] at this; omega)
    rw [hP]; exact ⟨.nilslice, ⟨rfl, rfl⟩, .inl ⟨rfl, rfl⟩⟩
  · have hsl : vSlStr (.str s) none (some (.int .i64 8)) = some (.str (s.take 8)) := by rw [vSlStr_hi (by omega) (by omega)]; rfl
    simp (config := {contextual := true, implicitDefEqProofs := false}) (disch := omega) [hsl]
    refine ⟨fun h2 => ?_, fun h2 => ?_⟩
    · rw [no h2]; exact ⟨.nilslice, ⟨rfl, rfl⟩, .inl ⟨rfl, rfl⟩⟩
    · have hP : chunksP s = chunksF (s.length + 1) (s.drop 8) [] := by unfold chunksP; rw [if_pos (show s.take 8 = sigB from h2)]
      rw [hP]
      refine vc_loop (inv13 H s) (s.length - 8) ?_ ?_
      · exact ⟨s.length, 8, [], rfl, by omega, by omega, rfl, by simp, by simp, by simp, .inl ⟨by simp, rfl⟩, fun r hr => rfl, Nat.le_refl _⟩
      · rintro n env H' ⟨f, p, acc, rfl, hp, hf, hg, hl, e0, e5, hO, hk, hle⟩
        obtain ⟨w, hw⟩ : ∃ w, env 4 = w := ⟨_, rfl⟩
        rw [hw] at hO
        obtain ⟨rest, hrest⟩ : ∃ rest, s.drop p = rest := ⟨_, rfl⟩
        have hrl : rest.length = s.length - p := by rw [← hrest]; simp
        have hgr : chunksF (s.length + 1) (s.drop 8) [] = chunksF (f + 1) rest acc := by rw [← hrest]; exact hg
        have er : ∀ e, chkE rest = e → e ≠ 0 → chunksF (s.length + 1) (s.drop 8) [] = ([], e) := fun e h1 h2 => by rw [hgr, chunksF_err (by omega), h1]
        have hfin : ∀ (r : Nat) (a : r < H.length), H'[r]? = some H[r] := fun r a => by rw [hk r a]; exact List.getElem?_eq_getElem a
        simp (config := {contextual := true, implicitDefEqProofs := false}) (disch := omega) [e0, e5, hw, i64_id]
        refine ⟨fun h3 => ?_, fun h3 => ?_⟩
        · have hs0 : vSlStr (.str s) (some (.int .i64 (p : Int))) none = some (.str rest) := by rw [vSlStr_lo (by omega) (by omega), Int.toNat_natCast, hrest]
          simp (config := {contextual := true, implicitDefEqProofs := false}) (disch := omega) [hs0]
          refine call1_eq (rnumber_ok (by omega)) ?_
          have hs1 : vSlStr (.str s) (some (.int .i64 ((p : Int) + 4))) (some (.int .i64 ((p : Int) + 8))) = some (.str (chkN rest)) := by
            rw [vSlStr_both (by omega) (by omega) (by omega), chkN, ← hrest, List.drop_drop]; congr 3
            omega
          have hnl := numN_lt rest
          simp (config := {contextual := true, implicitDefEqProofs := false}) (disch := omega) [e0, e5, hw, i64_id, hs1]
          refine ⟨fun h4 => ?_, fun h4 => ?_⟩
          · have e : chkE rest = 3 := by unfold chkE; rw [if_neg (by omega), if_pos (by omega)]
            refine ⟨.nilslice, ⟨rfl, by rw [er _ e (by decide)]⟩, .inl ⟨rfl, by rw [er _ e (by decide)]⟩, ?_⟩
            first | exact hfin | exact fun r a => (List.getElem?_eq_some_iff.1 (hfin r a)).2
          · refine call1_eq (letters_ok (by simp [chkN]; omega)) ?_
            cases hnm : nameB (chkN rest)
            · have e : chkE rest = 13 := by unfold chkE; rw [if_neg (by omega), if_neg (by omega), if_pos (show nameB ((rest.drop 4).take 4) = false from hnm)]
              simp (config := {contextual := true, implicitDefEqProofs := false}) (disch := omega) [er _ e (by decide)]
              exact ⟨.inl ⟨rfl, rfl⟩, fun r a => (List.getElem?_eq_some_iff.1 (hfin r a)).2⟩
            · have hnm2 : ¬ nameB ((rest.drop 4).take 4) = false := by have : nameB ((rest.drop 4).take 4) = true := hnm; rw [this]; simp
              obtain ⟨m, hm⟩ : ∃ m, numN rest = m := ⟨_, rfl⟩
              rw [hm] at hnl h4 ⊢
              simp (config := {contextual := true, implicitDefEqProofs := false}) (disch := omega) [e0, e5, hw, i64_id]
              refine ⟨fun h5 => ?_, fun h5 => ?_⟩
              · have e : chkE rest = 5 := by unfold chkE; rw [if_neg (by omega), if_neg (by omega), if_neg hnm2, if_pos (by omega)]
                refine ⟨.nilslice, ⟨rfl, by rw [er _ e (by decide)]⟩, .inl ⟨rfl, by rw [er _ e (by decide)]⟩, ?_⟩
                first | exact hfin | exact fun r a => (List.getElem?_eq_some_iff.1 (hfin r a)).2
              · have hsA : vSlStr (.str s) (some (.int .i64 ((p : Int) + 8 + m))) (some (.int .i64 ((p : Int) + 8 + m + 4))) = some (.str ((rest.drop (m + 8)).take 4)) := by
                  rw [vSlStr_both (by omega) (by omega) (by omega), ← hrest, List.drop_drop, show ((p : Int) + 8 + m).toNat = p + (m + 8) by omega, show ((p : Int) + 8 + m + 4).toNat - (p + (m + 8)) = 4 by omega]
                have hsB : vSlStr (.str s) (some (.int .i64 ((p : Int) + 4))) (some (.int .i64 ((p : Int) + 8 + m))) = some (.str ((rest.drop 4).take (m + 4))) := by
                  rw [vSlStr_both (by omega) (by omega) (by omega), ← hrest, List.drop_drop, show ((p : Int) + 4).toNat = p + 4 by omega, show ((p : Int) + 8 + m).toNat - (p + 4) = m + 4 by omega]
                have hsD : vSlStr (.str s) (some (.int .i64 ((p : Int) + 8))) (some (.int .i64 ((p : Int) + 8 + m))) = some (.str (chkD rest)) := by
                  rw [vSlStr_both (by omega) (by omega) (by omega), chkD, hm, ← hrest, List.drop_drop, show ((p : Int) + 8).toNat = p + 8 by omega, show ((p : Int) + 8 + m).toNat - (p + 8) = m by omega]
                have hcl := crcG_lt ((rest.drop 4).take (m + 4))
                simp (config := {contextual := true, implicitDefEqProofs := false}) (disch := omega) [hsA, hsB, e0, e5, hw, i64_id]
                refine dcall1_eq (rCrc_ok (s := (rest.drop 4).take (m + 4)) (by simp; omega)) ?_
                simp (config := {contextual := true, implicitDefEqProofs := false}) (disch := omega) [e0, e5, hw, i64_id]
                refine dcall1_eq (four_ok hcl) ?_
                have hfe := four_eq (t := rest.drop (m + 8)) (by simp; omega) hcl
                simp (config := {contextual := true, implicitDefEqProofs := false}) (disch := omega) [e0, e5, hw, hsD, i64_id, afill, zrep]
                refine ⟨fun h6 => ?_, fun h6 => ?_⟩
                · have e : chkE rest = 7 := by unfold chkE; rw [if_neg (by omega), if_neg (by omega), if_neg hnm2, if_neg (by omega), if_pos (by rw [hm]; exact fun c => h6 (hfe.2 c))]
                  refine ⟨.nilslice, ⟨rfl, by rw [er _ e (by decide)]⟩, .inl ⟨rfl, by rw [er _ e (by decide)]⟩, ?_⟩
                  first | exact hfin | exact fun r a => (List.getElem?_eq_some_iff.1 (hfin r a)).2
                · have he : chkE rest = 0 := by unfold chkE; rw [if_neg (by omega), if_neg (by omega), if_neg hnm2, if_neg (by omega), if_neg (by rw [hm]; exact fun c => c (hfe.1 h6))]
                  rw [chunksF_ok he, hm] at hgr
                  have hdl : (chkD rest).length = m := by rw [chkD, hm]; simp; omega
                  generalize chkN rest = nm at *
                  generalize chkD rest = da at *
                  obtain ⟨w', H2, ha, hO2, hle2, hfr2⟩ := hO.append (fun r hr => by omega) nm da (by unfold roomLim; omega)
                  have hfr : ∀ r, r < H.length → H2[r]? = H[r]? := fun r hr => by rw [hfr2 r hr]; exact hk r hr
                  have hfin2 : ∀ (r : Nat) (a : r < H.length), H2[r]? = some H[r] := fun r a => by rw [hfr r a]; exact List.getElem?_eq_getElem a
                  simp (config := {contextual := true, implicitDefEqProofs := false}) (disch := omega) [e0, e5, hw, ha, i64_id]
                  refine ⟨fun r hr => .inr (by have := hO.target hr; omega), fun h7 => ⟨fun h8 => ?_, fun h8 => ⟨fun h9 => ?_, fun h9 => ?_⟩⟩, fun h7 => ?_⟩
                  · rw [if_neg (show ¬ nm ≠ iend from fun c => c h7), if_pos (show da ≠ [] by intro c; rw [c] at hdl; simp at hdl; omega)] at hgr
                    rw [hgr]; exact ⟨.nilslice, ⟨rfl, rfl⟩, .inl ⟨rfl, rfl⟩, fun r a => (List.getElem?_eq_some_iff.1 (hfin2 r a)).2⟩
                  · rw [if_neg (show ¬ nm ≠ iend from fun c => c h7), if_neg (show ¬ da ≠ [] from fun c => c (List.eq_nil_of_length_eq_zero (by omega))), if_pos (show rest.drop (m + 12) ≠ [] by intro c; have := congrArg List.length c; simp at this; omega)] at hgr
                    rw [hgr]; exact ⟨.nilslice, ⟨rfl, rfl⟩, .inl ⟨rfl, rfl⟩, fun r a => (List.getElem?_eq_some_iff.1 (hfin2 r a)).2⟩
                  · rw [if_neg (show ¬ nm ≠ iend from fun c => c h7), if_neg (show ¬ da ≠ [] from fun c => c (List.eq_nil_of_length_eq_zero (by omega))), if_neg (show ¬ rest.drop (m + 12) ≠ [] from fun c => c (List.drop_eq_nil_of_le (by omega)))] at hgr
                    rw [hgr]; exact ⟨w', ⟨rfl, rfl⟩, hO2, fun r a => (List.getElem?_eq_some_iff.1 (hfin2 r a)).2⟩
                  · rw [if_pos (show nm ≠ iend from h7)] at hgr
                    obtain ⟨f', rfl⟩ : ∃ f', f = f' + 1 := ⟨f - 1, by omega⟩
                    exact again_iff (s.length - (p + (m + 12))) (by omega) ⟨f', p + (m + 12), acc ++ [(nm, da)], rfl, by omega, by omega, by rw [hgr, ← hrest, List.drop_drop], by simp; omega, by simp [e0], by simp; omega, by simpa using hO2, hfr, by omega⟩
        · have e : chkE rest = 5 := by unfold chkE; rw [if_pos (by omega)]
          refine ⟨.nilslice, ⟨rfl, by rw [er _ e (by decide)]⟩, .inl ⟨rfl, by rw [er _ e (by decide)]⟩, ?_⟩
          first | exact hfin | exact fun r a => (List.getElem?_eq_some_iff.1 (hfin r a)).2
end Go.Proofs.YtalbjkemcckokaaGreat.Ab

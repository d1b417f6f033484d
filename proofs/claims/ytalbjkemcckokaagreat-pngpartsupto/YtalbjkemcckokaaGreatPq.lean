/- png.Chunks. Conditions: the text's length; for the statements about layer 48. -/
import Derived.Test.YtalbjkemcckokaaGreatPp
import Derived.Test.YtalbjkemcckokaaGreatBc
namespace Go.Proofs.YtalbjkemcckokaaGreat.Ab
set_option linter.unusedVariables false
set_option linter.unusedSimpArgs false
set_option maxRecDepth 100000

/-- A slice of chunks that owns its block, a block that is not one of B. -/
def Own2 (B : Nat → Prop) (H : AHeap) (w : AVal) (l : List Chk) : Prop :=
  (w = .nilslice ∧ l = []) ∨ ∃ r g, ¬ B r ∧ w = .slice r g 0 l.length 2 ∧ H[r]? = some (.cells g false 53 (cellsC l))
theorem Own2.keep {B : Nat → Prop} {H H' : AHeap} {w : AVal} {l : List Chk} (h : Own2 B H w l) (hk : ∀ k, ¬ B k → k < H.length → H'[k]? = H[k]?) : Own2 B H' w l := by
  rcases h with h | ⟨r, g, h1, rfl, h2⟩
  · exact .inl h
  · exact .inr ⟨r, g, h1, rfl, by rw [hk r h1 (List.getElem?_eq_some_iff.1 h2).1]; exact h2⟩
theorem Own2.sub {B B' : Nat → Prop} {H : AHeap} {w : AVal} {l : List Chk} (h : Own2 B H w l) (hb : ∀ r, r < H.length → B' r → B r) : Own2 B' H w l := by
  rcases h with h | ⟨r, g, h1, rfl, h2⟩
  · exact .inl h
  · exact .inr ⟨r, g, fun c => h1 (hb r (List.getElem?_eq_some_iff.1 h2).1 c), rfl, h2⟩
theorem Own2.target {B : Nat → Prop} {H : AHeap} {w : AVal} {l : List Chk} (h : Own2 B H w l) {r : Nat} (ht : appTarget w r) : ¬ B r := by
  rcases h with ⟨rfl, _⟩ | ⟨r', g, h1, rfl, _⟩
  · exact ht.elim
  · simp only [appTarget] at ht; subst ht; exact h1
theorem Own2.append {B : Nat → Prop} {H : AHeap} {w : AVal} {l : List Chk} (h : Own2 B H w l) (hB : ∀ r, B r → r < H.length) (x y : List UInt8) (hr : (l.length + 1) * 32 ≤ roomLim) :
    ∃ w' H', aappend 2 32 53 w (.slice H.length 0 0 1 2) (H ++ [.cells 0 false 53 [.str x, .str y]]) = some (w', H') ∧ Own2 B H' w' (l ++ [(x, y)]) ∧ H.length ≤ H'.length ∧ ∀ k, B k → H'[k]? = H[k]? := by
  have hsrc : asrc (H ++ [.cells 0 false 53 [.str x, .str y]]) 2 (.slice H.length 0 0 1 2) = some ([.str x, .str y], 1) := by simp [asrc]
  rcases h with ⟨rfl, rfl⟩ | ⟨r, g, h1, rfl, hb⟩
  · refine ⟨.slice (H.length + 1) 0 0 1 2, (H ++ [.cells 0 false 53 [.str x, .str y]]) ++ [.cells 0 false 53 [.str x, .str y]], ?_, .inr ⟨H.length + 1, 0, fun c => by have := hB _ c; omega, rfl, ?_⟩, by simp, fun k hk => ?_⟩
    · simp only [aappend, hsrc]; rw [if_neg (by omega), if_pos (by unfold roomLim; omega)]; simp
    · rw [List.getElem?_append_right (by simp)]; simp [cellsC]
    · have := hB k hk
      rw [List.getElem?_append_left (by simp; omega), List.getElem?_append_left (by omega)]
  · have hlt := (List.getElem?_eq_some_iff.1 hb).1
    have hb' : (H ++ [ABlk.cells 0 false 53 [.str x, .str y]])[r]? = some (.cells g false 53 (cellsC l)) := by rw [List.getElem?_append_left hlt]; exact hb
    refine ⟨.slice r (g + 1) 0 (l.length + 1) 2, (H ++ [ABlk.cells 0 false 53 [AVal.str x, AVal.str y]]).set r (ABlk.cells (g + 1) false 53 (cellsC l ++ [AVal.str x, AVal.str y])), ?_, .inr ⟨r, g + 1, h1, by simp, ?_⟩, by simp, fun k hk => ?_⟩
    · simp only [aappend, hsrc, hb']
      rw [if_pos ⟨trivial, trivial, .inl trivial⟩, if_neg (by rw [cellsC_len]; omega), if_pos ⟨trivial, trivial, by rw [cellsC_len]; omega, hr, by simp, trivial⟩, List.take_of_length_le (by rw [cellsC_len]; omega)]
    · rw [List.getElem?_set_self (by simp; omega), cellsC_app]
    · have := hB k hk
      rw [List.getElem?_set_ne (by intro c; subst c; exact h1 hk), List.getElem?_append_left (by omega)]

def iend : List UInt8 := [73, 69, 78, 68]
theorem chkE_len {s : List UInt8} (h : chkE s = 0) : numN s + 12 ≤ s.length := by
  unfold chkE at h
  split at h
  · cases h
  · split at h
    · cases h
    · split at h
      · cases h
      · split at h
        · cases h
        · omega
/-- The chunks from here on, behind those of acc; f: more than there can be. -/
def chunksF : Nat → List UInt8 → List Chk → List Chk × Int
  | 0, _, _ => ([], 5)
  | f + 1, s, acc => if chkE s = 0 then
      (if chkN s ≠ iend then chunksF f (s.drop (numN s + 12)) (acc ++ [(chkN s, chkD s)]) else if chkD s ≠ [] then ([], 4) else if s.drop (numN s + 12) ≠ [] then ([], 6) else (acc ++ [(chkN s, chkD s)], 0))
    else ([], chkE s)
def sigB : List UInt8 := [137, 80, 78, 71, 13, 10, 26, 10]
def chunksP (s : List UInt8) : List Chk × Int := if s.take 8 = sigB then chunksF (s.length + 1) (s.drop 8) [] else ([], 4)
theorem chunksF_err {f : Nat} {s : List UInt8} {acc : List Chk} (h : ¬ chkE s = 0) : chunksF (f + 1) s acc = ([], chkE s) := by rw [chunksF, if_neg h]
theorem chunksF_ok {f : Nat} {s : List UInt8} {acc : List Chk} (h : chkE s = 0) : chunksF (f + 1) s acc = if chkN s ≠ iend then chunksF f (s.drop (numN s + 12)) (acc ++ [(chkN s, chkD s)]) else if chkD s ≠ [] then ([], 4) else if s.drop (numN s + 12) ≠ [] then ([], 6) else (acc ++ [(chkN s, chkD s)], 0) := by rw [chunksF, if_pos h]

def inv12 (H : AHeap) (s : List UInt8) (n : Nat) (env : Env) (H' : AHeap) : Prop :=
  ∃ f rest acc, n = rest.length ∧ rest.length ≤ f ∧ chunksF (s.length + 1) (s.drop 8) [] = chunksF (f + 1) rest acc ∧ acc.length * 12 + rest.length ≤ s.length ∧ env 0 = .str rest ∧ Own2 (fun r => r < H.length) H' (env 5) acc ∧ (∀ r, r < H.length → H'[r]? = H[r]?) ∧ H.length ≤ H'.length

theorem chunks_ok (s : List UInt8) (hs : s.length ≤ 2 ^ 40) (H : AHeap) (fp : Nat → Prop) : ACall Tryz.prog 12 [.str s] H fp fun v H' => ∃ w, v = .tuple [w, .int .i64 (chunksP s).2] ∧ Own2 (fun r => r < H.length) H' w (chunksP s).1 ∧ ∀ r, r < H.length → H'[r]? = H[r]? := by
  refine acall_of hmix Tryz.func12 x12_ok (by simp) ?_
  simp (config := {contextual := true, implicitDefEqProofs := false}) (disch := omega)
  refine call1_eq (cutPrefix_ok _) ?_
  have hnil : ∀ r, r < H.length → H[r]? = H[r]? := fun r _ => rfl
  by_cases hp : s.take 8 = sigB
  · have hv : cutV s [137, 80, 78, 71, 13, 10, 26, 10] = .tuple [.str (s.drop 8), .bool true] := by unfold cutV; rw [if_pos (show s.take [(137 : UInt8), 80, 78, 71, 13, 10, 26, 10].length = [137, 80, 78, 71, 13, 10, 26, 10] from hp)]; rfl
    have hP : chunksP s = chunksF (s.length + 1) (s.drop 8) [] := by unfold chunksP; rw [if_pos hp]
    rw [hv, hP]
    simp (config := {contextual := true, implicitDefEqProofs := false}) (disch := omega)
    refine vc_loop (inv12 H s) (s.drop 8).length ?_ ?_
    · exact ⟨s.length, s.drop 8, [], rfl, by simp, rfl, by simp, by simp, .inl ⟨by simp, rfl⟩, fun r hr => rfl, Nat.le_refl _⟩
    · rintro n env H' ⟨f, rest, acc, rfl, hf, hg, hl, e0, hO, hk, hle⟩
      obtain ⟨w, hw⟩ : ∃ w, env 5 = w := ⟨_, rfl⟩
      rw [hw] at hO
      simp (config := {contextual := true, implicitDefEqProofs := false}) (disch := omega) [e0, hw]
      refine call1_eq (chunk_ok (by omega)) ?_
      by_cases he : chkE rest = 0
      · have hlen := chkE_len he
        rw [chunksF_ok he] at hg
        have hv2 : chkV rest = .tuple [.agg [.str (chkN rest), .str (chkD rest)], .int .i64 ((numN rest + 12 : Nat) : Int), .int .i64 0] := by unfold chkV; rw [if_pos he]
        rw [hv2]
        generalize numN rest = m at *
        generalize chkN rest = nm at *
        generalize chkD rest = da at *
        have hO1 : Own2 (fun r => r < H.length ∨ r = H'.length) (H' ++ [.cells 0 false 53 [.str nm, .str da]]) w acc := (hO.sub fun r hr c => c.elim id (fun e => by omega)).keep fun k _ hk2 => List.getElem?_append_left hk2
        obtain ⟨w', H2, ha0, hO2, hle2, hfr2⟩ := hO1.append (fun r hr => by simp; rcases hr with h | h <;> omega) nm da (by unfold roomLim; omega)
        have ha : aappend 2 32 53 w (.slice (H'.length + 1) 0 0 1 2) (H' ++ [.cells 0 false 53 [.str nm, .str da], .cells 0 false 53 [.str nm, .str da]]) = some (w', H2) := by
          have e1 : (H' ++ [ABlk.cells 0 false 53 [AVal.str nm, AVal.str da]]).length = H'.length + 1 := by simp
          rw [e1, List.append_assoc] at ha0; exact ha0
        have hsl : vSlStr (.str rest) (some (.int .i64 ((m + 12 : Nat) : Int))) none = some (.str (rest.drop (m + 12))) := by rw [vSlStr_lo (by omega) (by omega)]; congr 2
        have hc : H2[H'.length]? = some (.cells 0 false 53 [.str nm, .str da]) := by rw [hfr2 _ (.inr rfl)]; simp
        have c0 : aload H2 H'.length 0 0 = some (.str nm) := by rw [aload_at hc]; rfl
        have c1 : aload H2 H'.length 0 1 = some (.str da) := by rw [aload_at hc]; rfl
        have hag := ageOk_at hc
        simp (config := {contextual := true, implicitDefEqProofs := false}) (disch := omega) [e0, hw, afill, zrep, ha, hsl, c0, c1, hag, -Int.natCast_add]
        have hO3 := hO2.sub (B' := fun r => r < H.length) (fun r _ c => .inl c)
        have hfr : ∀ r, r < H.length → H2[r]? = H[r]? := fun r hr => by rw [hfr2 r (.inl hr), List.getElem?_append_left (by omega)]; exact hk r hr
        have hfin : ∀ (r : Nat) (a : r < H.length), H2[r]? = some H[r] := fun r a => by rw [hfr r a]; exact List.getElem?_eq_getElem a
        simp only [List.length_append, List.length_cons, List.length_nil] at hle2
        refine ⟨.inr hle, fun r hr => .inr (by have := hO.target hr; omega), fun h => ?_, fun h => ⟨fun h2 => ?_, fun h2 => ⟨fun h3 => ?_, fun h3 => ?_⟩⟩⟩
        · rw [if_pos (show nm ≠ iend from h)] at hg
          obtain ⟨f', rfl⟩ : ∃ f', f = f' + 1 := ⟨f - 1, by omega⟩
          exact again_iff (rest.length - (m + 12)) (by omega) ⟨f', rest.drop (m + 12), acc ++ [(nm, da)], by simp, by simp; omega, hg, by simp; omega, by simp, by simpa using hO3, hfr, by omega⟩
        · rw [if_neg (show ¬ nm ≠ iend from fun c => c h), if_pos h2] at hg
          rw [hg]; exact ⟨.nilslice, ⟨rfl, rfl⟩, .inl ⟨rfl, rfl⟩, hfin⟩
        · have h4 : rest.drop (m + 12) ≠ [] := by intro e; have := congrArg List.length e; simp at this; omega
          rw [if_neg (show ¬ nm ≠ iend from fun c => c h), if_neg (fun c => c h2), if_pos h4] at hg
          rw [hg]; exact ⟨.nilslice, ⟨rfl, rfl⟩, .inl ⟨rfl, rfl⟩, hfin⟩
        · have h4 : rest.drop (m + 12) = [] := List.drop_eq_nil_of_le h3
          rw [if_neg (show ¬ nm ≠ iend from fun c => c h), if_neg (fun c => c h2), if_neg (fun c => c h4)] at hg
          rw [hg]; exact ⟨w', ⟨rfl, rfl⟩, hO3, hfin⟩
      · rw [chunksF_err he] at hg
        have hv2 : chkV rest = .tuple [.agg [.str [], .str []], .int .i64 0, .int .i64 (chkE rest)] := by unfold chkV; rw [if_neg he]
        rw [hv2]
        simp (config := {contextual := true, implicitDefEqProofs := false}) (disch := omega) [he, hg]
        exact ⟨.inr hle, .inl ⟨rfl, rfl⟩, fun r a => by rw [List.getElem?_append_left (by omega), hk r a]; exact List.getElem?_eq_getElem a⟩
  · have hv : cutV s [137, 80, 78, 71, 13, 10, 26, 10] = .tuple [.str s, .bool false] := by unfold cutV; rw [if_neg (show ¬ s.take [(137 : UInt8), 80, 78, 71, 13, 10, 26, 10].length = [137, 80, 78, 71, 13, 10, 26, 10] from hp)]
    have hP : chunksP s = ([], 4) := by unfold chunksP; rw [if_neg hp]
    rw [hv, hP]
    simp (config := {contextual := true, implicitDefEqProofs := false}) (disch := omega) [Own2]
end Go.Proofs.YtalbjkemcckokaaGreat.Ab

/- The abstract layer: the state at a law's entry. Conditions: none; a library for the texts behind it. -/
import Derived.Test.YtalbjkemcckokaaGreatAt
namespace Go.Proofs.YtalbjkemcckokaaGreat.Ab
open Go.RowKit (Below)
open Go.ChangeShapes Go.WideShapes Go.ChangeAt Go.RowKit
set_option linter.unusedVariables false
set_option linter.unusedSimpArgs false

theorem rel_empty (W : World) : Rel W (fun _ => none) [] W := ⟨Below.refl _ _, by simp, by simp, by simp⟩

/-- An argument slice of whole numbers, as an abstract block that may only be read. -/
theorem entry_ints {W : World} {a : Addr} {len cap : Nat} {zs : List Int} (hle : len ≤ cap) (hall : zs.length = cap) (hcell : ∀ i, i < zs.length → W.cell? (a.add i) = some (.int .i64 (zs.getD i 0))) :
    ∃ (ι : Inj) (H : AHeap) (x : AVal), Rel W ι H W ∧ VRel ι x (.slice (some a) len cap) ∧ Ints H x (zs.take len) := by
  by_cases h0 : zs.length = 0
  · have hl0 : len = 0 := by omega
    have hc0 : cap = 0 := by omega
    subst hl0 hc0
    exact ⟨_, [], .eslice, rel_empty W, by simp [VRel], .inr (.inl ⟨rfl, by simp⟩)⟩
  · obtain ⟨b, off, rfl, hc⟩ := ints_at hcell (by omega)
    have h1 := hc 0 (by omega)
    obtain ⟨c, e, fr, hb⟩ : ∃ c e fr, W.heap[b]? = some (.cells c e fr) := by
      simp only [World.cell?] at h1
      split at h1
      · rename_i hb; exact ⟨_, _, _, hb⟩
      · cases h1
    have hcc : ∀ j, j < zs.length → c[off + j]? = some (.int .i64 (zs.getD j 0)) := by
      intro j hj
      have := hc j hj
      rw [cell?_cells hb] at this
      exact this
    have hblt : b < W.heap.size := (Array.getElem?_eq_some_iff.1 hb).1
    have hsz : off + zs.length ≤ c.size := by
      have := (Array.getElem?_eq_some_iff.1 (hcc (zs.length - 1) (by omega))).1
      omega
    refine ⟨fun r => if r = 0 then some (0, ⟨b, off, zs.length, zs.length⟩) else none, [.cells 0 true 0 (zs.map (.int .i64))], .slice 0 0 0 len 1, ⟨Below.refl _ _, ?_, ?_, ?_⟩, ?_, ?_⟩
    · intro r bk hbk
      have hr : r = 0 := by
        have := (List.getElem?_eq_some_iff.1 hbk).1
        simp at this; exact this
      subst hr
      simp only [List.getElem?_cons_zero, Option.some.injEq] at hbk
      subst hbk
      refine ⟨0, _, rfl, rfl, by simp, Nat.le_refl _, fun _ => hblt, by simp, c, e, fr, hb, hsz, ?_, by simp⟩
      intro i x hx
      have hi : i < zs.length := by
        have := (List.getElem?_eq_some_iff.1 hx).1
        simpa using this
      refine ⟨_, hcc i hi, ?_⟩
      simp only [List.getElem?_map, List.getElem?_eq_getElem hi, Option.map_some, Option.some.injEq] at hx
      subst hx
      simp [VRel, hi]
    · intro r hr
      simp at hr
      rw [if_neg (by omega)]
    · intro r r' g g' win win' h1 h2 _ _
      by_cases e1 : r = 0
      · by_cases e2 : r' = 0
        · omega
        · rw [if_neg e2] at h2; cases h2
      · rw [if_neg e1] at h1; cases h1
    · simp only [VRel]
      exact ⟨0, _, rfl, Nat.le_refl _, ⟨_, _, _, rfl⟩, fun _ => ⟨_, cap, rfl, hle, by simp [hall], by simp [hall], .inr (by simp)⟩⟩
    · refine .inr (.inr ⟨0, 0, 0, ?_, ?_⟩)
      · simp [hall]; omega
      · simp [hall, List.map_take]; omega
end Go.Proofs.YtalbjkemcckokaaGreat.Ab

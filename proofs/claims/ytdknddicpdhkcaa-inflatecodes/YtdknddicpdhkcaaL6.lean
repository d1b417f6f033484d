/- The law InflateCodes: its row. Conditions: none. -/
import Derived.Test.YtdknddicpdhkcaaSi
import Derived.Test.YtdknddicpdhkcaaAu
import Derived.Test.YtdknddicpdhkcaaRows
import Derived.WalkKit
import Derived.JoinedCond
namespace Go.Proofs.Ytdknddicpdhkcaa.inflateCodes
open Go.ChangeShapes Go.WideShapes Go.ChangeAt Go.RowKit Go.Proofs.Ytdknddicpdhkcaa.Ab
set_option linter.unusedVariables false

theorem contract (H : Type) (enc : TypeId × Value → H) (W : World) (base : Nat) (args : Array Value) (ds gs : List (DataW H)) (before : List MemPlace)
    (hval : ∀ (j : Nat) t v, Try.f6.params[j]? = some t → args[j]? = some v → Value.okWide Try.prog W .any base t v)
    (hW : DataW.Whole enc Try.prog Try.f6.params.toList Rows.inflateCodesSpec.vars false W args.toList ds gs before) :
    Calls Try.prog 6 args W fun e W' => ∃ v, e = .returned v ∧ Rows.inflateCodesSpec.post enc Try.prog Try.f6 false true false false W args v W' := by
  have hW' := hW
  obtain ⟨p, q, hA0, hV, rfl, hfz, hnd⟩ := hW
  have hA : DataW.TrodAll enc Try.prog W 0 (fun _ => true) true Try.f6.params.toList args.toList ds p := hA0
  rw [Try.params6] at hA hval
  obtain ⟨v0, vs0, d0, ds0, p0, q0, hargs, rfl, rfl, h0, r0⟩ := trodAll_cons hA
  obtain ⟨rfl, rfl, rfl⟩ := trodAll_nil r0
  obtain rfl : args = #[v0] := by cases args; simp_all
  obtain ⟨rfl, rfl⟩ := trodVars_none hV
  obtain ⟨a0, len0, cap0, rfl⟩ := okWide_slice Try.underlying34 (hval 0 34 _ rfl rfl)
  obtain ⟨fuel, hf⟩ := h0
  have hc1 : Try.prog.cellsOf 3 = 1 := by kernel_rfl
  have fin : ∀ (W' : World) (e : Ending), (∃ (y : Value) (x : AVal) (ι' : Inj) (H' : AHeap), e = .returned y ∧ x = .bool true ∧ Rel W ι' H' W' ∧ VRel ι' x y) → e = .returned (.bool true) ∧ Below W.heap.size W W' := by
    rintro W' e ⟨y, x, ι', H', rfl, rfl, hR, hy⟩
    simp only [VRel] at hy
    exact ⟨by rw [hy], hR.below⟩
  rcases open_ints Try.underlying34 Try.underlying3 hc1 hf with ⟨hcs, hx⟩ | ⟨a, len, cap, zs, hcs, hb0, hle, hmax, hall, hx, hcell, hwf⟩
  · simp [Value.cells] at hcs
    obtain ⟨rfl, rfl, rfl⟩ := hcs
    simp only [Prod.mk.injEq] at hx
    obtain ⟨rfl, rfl⟩ := hx
    refine (calls_of_acall Try.func6 (by kernel_rfl) (by kernel_rfl) (law6_all (l := []) (v := .nilslice) (H := []) (fp := fun _ => False) (.inl ⟨rfl, rfl⟩)) (rel_empty W) (vs := [.slice none 0 0]) (by simp [VRels, VRel])).mono fun e W' h => ?_
    obtain ⟨he, hg⟩ := fin W' e (by obtain ⟨y, x, ι', H', h1, h2, h3, h4⟩ := h; exact ⟨y, x, ι', H', h1, h2.1, h3, h4⟩)
    subst he
    refine ⟨_, rfl, post_of_below (pa := [] ++ []) (pv := []) hW' (fun _ _ _ => (trodAll_cons_mk (shut_bool Try.underlying4 _) trodAll_mk0)) (fun sp _ => (trodAll_cons_mk ?_ trodAll_mk0)) (fun _ _ => rfl) rfl hg (ok_one (by kernel_rfl) rfl (okWide_bool_mk Try.underlying4 _))⟩
    exact shut_slice_nil Try.underlying34
  · simp [Value.cells] at hcs
    obtain ⟨rfl, rfl, rfl⟩ := hcs
    simp only [Prod.mk.injEq] at hx
    obtain ⟨rfl, rfl⟩ := hx
    simp only [if_true] at hall
    obtain ⟨ι, H0, x0, hR, hv, hi⟩ := entry_ints (W := W) hle hall hcell
    refine (calls_of_acall Try.func6 (by kernel_rfl) (by kernel_rfl) (law6_all (fp := fun _ => False) hi) hR (vs := [.slice (some a) len0 cap0]) (by simp only [VRels]; exact ⟨_, _, rfl, hv, rfl⟩)).mono fun e W' h => ?_
    obtain ⟨he, hg⟩ := fin W' e (by obtain ⟨y, x, ι', H', h1, h2, h3, h4⟩ := h; exact ⟨y, x, ι', H', h1, h2.1, h3, h4⟩)
    subst he
    refine ⟨_, rfl, post_of_below (pv := []) hW' (fun _ _ _ => (trodAll_cons_mk (shut_bool Try.underlying4 _) trodAll_mk0)) (fun sp hsp => (trodAll_cons_mk ?_ trodAll_mk0)) (fun _ _ => rfl) rfl hg (ok_one (by kernel_rfl) rfl (okWide_bool_mk Try.underlying4 _))⟩
    have hlt : ∀ i, i < zs.length → a.block < W.heap.size := by
      intro i hi
      have h1 := hcell i hi
      have h2 := block_add a i
      rw [← h2]
      simp only [World.cell?] at h1
      split at h1
      · rename_i hb; exact (Array.getElem?_eq_some_iff.1 hb).1
      · cases h1
    refine ⟨2, shut_ints 0 Try.underlying34 Try.underlying3 hc1 (Nat.zero_le _) hle hmax ?_ (fun i hi => ?_) hwf⟩
    · by_cases h0 : cap0 = 0
      · have : len0 = 0 := by omega
        rw [hall, this, h0]; simp
      · have hsp0 : sp a.block = true := by
          have := hsp (.cell a.block (a.off + 0)) (List.mem_append_left _ (List.mem_append_left _ (List.mem_map.2 ⟨0, List.mem_range.2 (by omega), rfl⟩)))
          simpa [MemPlace.block] using this
        rw [hsp0, if_pos rfl, hall]
    · rw [hg.cell (by rw [block_add]; exact hlt i hi)]; exact hcell i hi

theorem own : ownKnob Try.prog.godebug = none := by kernel_rfl

set_option maxRecDepth 100000 in
theorem lifted (os : Os) (started : os.Started) (H : Type) (enc : TypeId × Value → H) :
    ReturnsInHanded {} Try.checked os 6 .any (Rows.inflateCodesSpec.pre6 enc Try.prog Try.f6 Rows.inflateCodesRow.domain false) (Rows.inflateCodesSpec.post enc Try.prog Try.f6 false true false false) := by
  refine returnsInHanded_of_change (C := Try.checked) own started (by kernel_rfl) Try.func6
    (ChangeSpec.witness6 (enc := enc) (C := Try.checked) false ⟨#[], #[.slice none 0 0], []⟩ 8 (by kernel_rfl) (by kernel_rfl) (by kernel_rfl) (by kernel_rfl)) ?_
  intro W base args ds gs before hval hW _ _
  exact contract H enc W base args ds gs before hval hW

theorem proved : Rows.InflateCodesSaid :=
  OpenClaim.holds_of_wide 6 Try.f6 rfl rfl rfl rfl rfl rfl rfl ⟨rfl, rfl, rfl, rfl, rfl⟩ rfl rfl rfl rfl rfl (by kernel_rfl) Try.func6 (by kernel_rfl)
    (of_decide_eq_true (by kernel_rfl)) (by unfold Func.isWrapper; first | (rw [if_pos (by decide +kernel)]; kernel_rfl) | (rw [if_neg (by decide +kernel)]; exact ⟨rfl, rfl⟩))
    (fun os started H enc _ => lifted os started H enc)
end Go.Proofs.Ytdknddicpdhkcaa.inflateCodes

namespace Go.Proofs.Ytdknddicpdhkcaa
theorem inflateCodes_holds : Rows.InflateCodesSaid := inflateCodes.proved
end Go.Proofs.Ytdknddicpdhkcaa

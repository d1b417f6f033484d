/- The law TiffUnpacks: its row. Conditions: none. -/
import Derived.Test.YtfpnapihhgjgaaaCg
import Derived.Test.YtfpnapihhgjgaaaAu
import Derived.Test.YtfpnapihhgjgaaaRows
import Derived.WalkKit
import Derived.JoinedCond
import Derived.SizedLaws
namespace Go.Proofs.Ytfpnapihhgjgaaa.tiffUnpacks
open Go.ChangeShapes Go.WideShapes Go.ChangeAt Go.RowKit Go.Proofs.Ytfpnapihhgjgaaa.Ab
open Go.ChangeMaps (open_string shut_string)
set_option linter.unusedVariables false
set_option linter.unusedSimpArgs false
set_option maxRecDepth 100000

theorem contract (H : Type) (enc : TypeId × Value → H) (W : World) (base : Nat) (args : Array Value) (ds gs : List (DataW H)) (before : List MemPlace)
    (hval : ∀ (j : Nat) t v, Try.f4.params[j]? = some t → args[j]? = some v → Value.okWide Try.prog W .any base t v)
    (hW : DataW.Whole enc Try.prog Try.f4.params.toList Rows.tiffUnpacksSpec.vars false W args.toList ds gs before)
    (hz : (DataW.weightsEach Try.prog (Try.f4.params.toList ++ Rows.tiffUnpacksSpec.plain.varTypes Try.prog) (ds ++ gs)).all (· ≤ reachBytes) = true) :
    Calls Try.prog 4 args W fun e W' => ∃ v, e = .returned v ∧ Rows.tiffUnpacksSpec.post enc Try.prog Try.f4 false true false false W args v W' := by
  have hW' := hW
  obtain ⟨p, q, hA0, hV, rfl, hfz, hnd⟩ := hW
  have hA : DataW.TrodAll enc Try.prog W 0 (fun _ => true) true Try.f4.params.toList args.toList ds p := hA0
  rw [Try.params4] at hA hval hz
  obtain ⟨v0, vs0, d0, ds0, p0, q0, hargs, rfl, rfl, h0, r0⟩ := trodAll_cons hA
  obtain ⟨hnil, rfl, rfl⟩ := trodAll_nil r0
  obtain rfl : args = #[v0] := by cases args; simp_all
  obtain ⟨rfl, rfl⟩ := trodVars_none hV
  obtain ⟨s0, rfl, rfl, rfl, m0⟩ := open_string Try.underlying9 (hval 0 9 _ rfl rfl) h0
  have z0 : s0.data.toList.length ≤ reachBytes := sized_string hz (j := 0) (t := 9) rfl rfl
  refine (calls_of_acall Try.func4 (by kernel_rfl) (by kernel_rfl) (fp := fun _ => False) ((law4_ok (s := s0.data.toList) (by have := z0; unfold reachBytes at this; omega) [] (fun _ => False))) (rel_empty W) (vs := [.string s0]) (by simp [VRels, VRel])).mono fun e W' h => ?_
  obtain ⟨y, x, ι', H', rfl, ⟨rfl, _⟩, hR, hy⟩ := h
  simp only [VRel] at hy
  subst hy
  exact ⟨_, rfl, post_of_below (pa := []) (pv := []) hW' (fun _ _ _ => trodAll_cons_mk (shut_bool Try.underlying4 _) trodAll_mk0) (fun _ _ => (trodAll_cons_mk (shut_string Try.underlying9 m0) trodAll_mk0)) (fun _ _ => rfl) rfl hR.below (ok_one (by kernel_rfl) rfl (okWide_bool_mk Try.underlying4 _))⟩

theorem own : ownKnob Try.prog.godebug = none := by kernel_rfl

set_option maxRecDepth 100000 in
theorem lifted (os : Os) (started : os.Started) (H : Type) (enc : TypeId × Value → H) :
    ReturnsInHanded {} Try.checked os 4 .any (Rows.tiffUnpacksSpec.pre6 enc Try.prog Try.f4 Rows.tiffUnpacksRow.domain false) (Rows.tiffUnpacksSpec.post enc Try.prog Try.f4 false true false false) := by
  refine returnsInHanded_of_change_sized (C := Try.checked) own started (by kernel_rfl) Try.func4
    (ChangeSpec.witness6 (enc := enc) (C := Try.checked) false ⟨#[], #[.string .empty], []⟩ 8 (by kernel_rfl) (by kernel_rfl) (by kernel_rfl) (by kernel_rfl)) ?_
  intro W base args ds gs before hval hW _ hz _
  exact contract H enc W base args ds gs before hval hW hz

theorem proved : Rows.TiffUnpacksSaid :=
  OpenClaim.holds_of_wide 4 Try.f4 rfl rfl rfl rfl rfl rfl rfl ⟨rfl, rfl, rfl, rfl, rfl⟩ rfl rfl rfl rfl rfl (by kernel_rfl) Try.func4 (by kernel_rfl)
    (of_decide_eq_true (by kernel_rfl)) (by unfold Func.isWrapper; first | (rw [if_pos (by decide +kernel)]; kernel_rfl) | (rw [if_neg (by decide +kernel)]; exact ⟨rfl, rfl⟩))
    (fun os started H enc _ => lifted os started H enc)
end Go.Proofs.Ytfpnapihhgjgaaa.tiffUnpacks

namespace Go.Proofs.Ytfpnapihhgjgaaa
theorem tiffUnpacks_holds : Rows.TiffUnpacksSaid := tiffUnpacks.proved
end Go.Proofs.Ytfpnapihhgjgaaa

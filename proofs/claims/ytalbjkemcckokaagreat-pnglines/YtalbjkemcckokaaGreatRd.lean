/- The law PngLines: its row. Conditions: none. -/
import Derived.Test.YtalbjkemcckokaaGreatPm
import Derived.Test.YtalbjkemcckokaaGreatAu
import Derived.Test.YtalbjkemcckokaaGreatRows
import Derived.WalkKit
import Derived.JoinedCond
import Derived.SizedLaws
namespace Go.Proofs.YtalbjkemcckokaaGreat.pngLines
open Go.ChangeShapes Go.WideShapes Go.ChangeAt Go.RowKit Go.Proofs.YtalbjkemcckokaaGreat.Ab
open Go.ChangeMaps (open_string shut_string)
set_option linter.unusedVariables false
set_option linter.unusedSimpArgs false
set_option maxRecDepth 100000

theorem contract (H : Type) (enc : TypeId × Value → H) (W : World) (base : Nat) (args : Array Value) (ds gs : List (DataW H)) (before : List MemPlace)
    (hval : ∀ (j : Nat) t v, Tryz.f8.params[j]? = some t → args[j]? = some v → Value.okWide Tryz.prog W .any base t v)
    (hW : DataW.Whole enc Tryz.prog Tryz.f8.params.toList Rows.pngLinesSpec.vars false W args.toList ds gs before)
    (hz : (DataW.weightsEach Tryz.prog (Tryz.f8.params.toList ++ Rows.pngLinesSpec.plain.varTypes Tryz.prog) (ds ++ gs)).all (· ≤ reachBytes) = true) :
    Calls Tryz.prog 8 args W fun e W' => ∃ v, e = .returned v ∧ Rows.pngLinesSpec.post enc Tryz.prog Tryz.f8 false true false false W args v W' := by
  have hW' := hW
  obtain ⟨p, q, hA0, hV, rfl, hfz, hnd⟩ := hW
  have hA : DataW.TrodAll enc Tryz.prog W 0 (fun _ => true) true Tryz.f8.params.toList args.toList ds p := hA0
  rw [Tryz.params8] at hA hval hz
  obtain ⟨v0, vs0, d0, ds0, p0, q0, hargs, rfl, rfl, h0, r0⟩ := trodAll_cons hA
  obtain ⟨v1, vs1, d1, ds1, p1, q1, hargs1, rfl, rfl, h1, r1⟩ := trodAll_cons r0
  obtain ⟨v2, vs2, d2, ds2, p2, q2, hargs2, rfl, rfl, h2, r2⟩ := trodAll_cons r1
  obtain ⟨hnil, rfl, rfl⟩ := trodAll_nil r2
  obtain rfl : args = #[v0, v1, v2] := by cases args; simp_all
  obtain ⟨rfl, rfl⟩ := trodVars_none hV
  obtain ⟨n0, rfl, rfl, rfl, m0⟩ := open_int Tryz.underlying5 (hval 0 5 _ rfl rfl) h0
  obtain ⟨s1, rfl, rfl, rfl, m1⟩ := open_string Tryz.underlying9 (hval 1 9 _ rfl rfl) h1
  have z1 : s1.data.toList.length ≤ reachBytes := sized_string hz (j := 1) (t := 9) rfl rfl
  obtain ⟨s2, rfl, rfl, rfl, m2⟩ := open_string Tryz.underlying9 (hval 2 9 _ rfl rfl) h2
  have z2 : s2.data.toList.length ≤ reachBytes := sized_string hz (j := 2) (t := 9) rfl rfl
  refine (calls_of_acall Tryz.func8 (by kernel_rfl) (by kernel_rfl) (fp := fun _ => False) ((law8_int (n := n0) (line := s1.data.toList) (above := s2.data.toList) (u8_wf m0) (by have := z1; unfold reachBytes at this; unfold roomLim; omega) (by have := z2; unfold reachBytes at this; omega) [] (fun _ => False))) (rel_empty W) (vs := [.int .u8 n0, .string s1, .string s2]) (by simp [VRels, VRel])).mono fun e W' h => ?_
  obtain ⟨y, x, ι', H', rfl, ⟨rfl, _⟩, hR, hy⟩ := h
  simp only [VRel] at hy
  subst hy
  exact ⟨_, rfl, post_of_below (pa := []) (pv := []) hW' (fun _ _ _ => trodAll_cons_mk (shut_bool Tryz.underlying4 _) trodAll_mk0) (fun _ _ => (trodAll_cons_mk (shut_int Tryz.underlying5 m0) (trodAll_cons_mk (shut_string Tryz.underlying9 m1) (trodAll_cons_mk (shut_string Tryz.underlying9 m2) trodAll_mk0)))) (fun _ _ => rfl) rfl hR.below (ok_one (by kernel_rfl) rfl (okWide_bool_mk Tryz.underlying4 _))⟩

theorem own : ownKnob Tryz.prog.godebug = none := by kernel_rfl

set_option maxRecDepth 100000 in
theorem lifted (os : Os) (started : os.Started) (H : Type) (enc : TypeId × Value → H) :
    ReturnsInHanded {} Tryz.checked os 8 .any (Rows.pngLinesSpec.pre6 enc Tryz.prog Tryz.f8 Rows.pngLinesRow.domain false) (Rows.pngLinesSpec.post enc Tryz.prog Tryz.f8 false true false false) := by
  refine returnsInHanded_of_change_sized (C := Tryz.checked) own started (by kernel_rfl) Tryz.func8
    (ChangeSpec.witness6 (enc := enc) (C := Tryz.checked) false ⟨#[], #[.int .u8 0, .string .empty, .string .empty], []⟩ 8 (by kernel_rfl) (by kernel_rfl) (by kernel_rfl) (by kernel_rfl)) ?_
  intro W base args ds gs before hval hW _ hz _
  exact contract H enc W base args ds gs before hval hW hz

theorem proved : Rows.PngLinesSaid :=
  OpenClaim.holds_of_wide 8 Tryz.f8 rfl rfl rfl rfl rfl rfl rfl ⟨rfl, rfl, rfl, rfl, rfl⟩ rfl rfl rfl rfl rfl (by kernel_rfl) Tryz.func8 (by kernel_rfl)
    (of_decide_eq_true (by kernel_rfl)) (by unfold Func.isWrapper; first | (rw [if_pos (by decide +kernel)]; kernel_rfl) | (rw [if_neg (by decide +kernel)]; exact ⟨rfl, rfl⟩))
    (fun os started H enc _ => lifted os started H enc)
end Go.Proofs.YtalbjkemcckokaaGreat.pngLines

namespace Go.Proofs.YtalbjkemcckokaaGreat
theorem pngLines_holds : Rows.PngLinesSaid := pngLines.proved
end Go.Proofs.YtalbjkemcckokaaGreat

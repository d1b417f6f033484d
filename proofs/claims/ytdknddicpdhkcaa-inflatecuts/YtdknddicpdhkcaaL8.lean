/- The law InflateCuts: its row. Conditions: none. -/
import Derived.Test.YtdknddicpdhkcaaTp
import Derived.Test.YtdknddicpdhkcaaSi
import Derived.Test.YtdknddicpdhkcaaAu
import Derived.Test.YtdknddicpdhkcaaRows
import Derived.WalkKit
import Derived.JoinedCond
import Derived.SizedLaws
namespace Go.Proofs.Ytdknddicpdhkcaa.inflateCuts
open Go.ChangeShapes Go.WideShapes Go.ChangeAt Go.RowKit Go.Proofs.Ytdknddicpdhkcaa.Ab
open Go.ChangeMaps (open_string shut_string)
set_option linter.unusedVariables false
set_option linter.unusedSimpArgs false

theorem contract (H : Type) (enc : TypeId × Value → H) (W : World) (base : Nat) (args : Array Value) (ds gs : List (DataW H)) (before : List MemPlace)
    (hval : ∀ (j : Nat) t v, Try.f8.params[j]? = some t → args[j]? = some v → Value.okWide Try.prog W .any base t v)
    (hW : DataW.Whole enc Try.prog Try.f8.params.toList Rows.inflateCutsSpec.vars false W args.toList ds gs before)
    (hz : (DataW.weightsEach Try.prog (Try.f8.params.toList ++ Rows.inflateCutsSpec.plain.varTypes Try.prog) (ds ++ gs)).all (· ≤ reachBytes) = true) :
    Calls Try.prog 8 args W fun e W' => ∃ v, e = .returned v ∧ Rows.inflateCutsSpec.post enc Try.prog Try.f8 false true false false W args v W' := by
  have hW' := hW
  obtain ⟨p, q, hA0, hV, rfl, hfz, hnd⟩ := hW
  have hA : DataW.TrodAll enc Try.prog W 0 (fun _ => true) true Try.f8.params.toList args.toList ds p := hA0
  rw [Try.params8] at hA hval hz
  obtain ⟨v0, vs0, d0, ds0, p0, q0, hargs, rfl, rfl, h0, r0⟩ := trodAll_cons hA
  obtain ⟨v1, vs1, d1, ds1, p1, q1, hargs1, rfl, rfl, h1, r1⟩ := trodAll_cons r0
  obtain ⟨v2, vs2, d2, ds2, p2, q2, hargs2, rfl, rfl, h2, r2⟩ := trodAll_cons r1
  obtain ⟨v3, vs3, d3, ds3, p3, q3, hargs3, rfl, rfl, h3, r3⟩ := trodAll_cons r2
  obtain ⟨hnil, rfl, rfl⟩ := trodAll_nil r3
  obtain rfl : args = #[v0, v1, v2, v3] := by cases args; simp_all
  obtain ⟨rfl, rfl⟩ := trodVars_none hV
  obtain ⟨s0, rfl, rfl, rfl, m0⟩ := open_string Try.underlying9 (hval 0 9 _ rfl rfl) h0
  have z0 : s0.data.toList.length ≤ reachBytes := sized_string hz (j := 0) (t := 9) rfl rfl
  obtain ⟨n1, rfl, rfl, rfl, m1⟩ := open_int Try.underlying3 (hval 1 3 _ rfl rfl) h1
  obtain ⟨n2, rfl, rfl, rfl, m2⟩ := open_int Try.underlying3 (hval 2 3 _ rfl rfl) h2
  obtain ⟨n3, rfl, rfl, rfl, m3⟩ := open_int Try.underlying3 (hval 3 3 _ rfl rfl) h3
  refine (calls_of_acall Try.func8 (by kernel_rfl) (by kernel_rfl) (fp := fun _ => False) (law8_all (s := s0.data.toList) (n := n1) (cut := n2) (less := n3) (H := []) (by have := reachBytes_lt; have := z0; omega) (by have := bounds_i64 m1; omega) awake46_ok) (rel_empty W) (vs := [.string s0, .int .i64 n1, .int .i64 n2, .int .i64 n3]) (by simp [VRels, VRel])).mono fun e W' h => ?_
  obtain ⟨y, x, ι', H', rfl, ⟨rfl, _⟩, hR, hy⟩ := h
  simp only [VRel] at hy
  subst hy
  exact ⟨_, rfl, post_of_below (pa := []) (pv := []) hW' (fun _ _ _ => trodAll_cons_mk (shut_bool Try.underlying4 _) trodAll_mk0) (fun _ _ => (trodAll_cons_mk (shut_string Try.underlying9 m0) (trodAll_cons_mk (shut_int Try.underlying3 m1) (trodAll_cons_mk (shut_int Try.underlying3 m2) (trodAll_cons_mk (shut_int Try.underlying3 m3) trodAll_mk0))))) (fun _ _ => rfl) rfl hR.below (ok_one (by kernel_rfl) rfl (okWide_bool_mk Try.underlying4 _))⟩

theorem own : ownKnob Try.prog.godebug = none := by kernel_rfl

set_option maxRecDepth 100000 in
theorem lifted (os : Os) (started : os.Started) (H : Type) (enc : TypeId × Value → H) :
    ReturnsInHanded {} Try.checked os 8 .any (Rows.inflateCutsSpec.pre6 enc Try.prog Try.f8 Rows.inflateCutsRow.domain false) (Rows.inflateCutsSpec.post enc Try.prog Try.f8 false true false false) := by
  refine returnsInHanded_of_change_sized (C := Try.checked) own started (by kernel_rfl) Try.func8
    (ChangeSpec.witness6 (enc := enc) (C := Try.checked) false ⟨#[], #[.string .empty, .int .i64 0, .int .i64 0, .int .i64 0], []⟩ 8 (by kernel_rfl) (by kernel_rfl) (by kernel_rfl) (by kernel_rfl)) ?_
  intro W base args ds gs before hval hW _ hz _
  exact contract H enc W base args ds gs before hval hW hz

theorem proved : Rows.InflateCutsSaid :=
  OpenClaim.holds_of_wide 8 Try.f8 rfl rfl rfl rfl rfl rfl rfl ⟨rfl, rfl, rfl, rfl, rfl⟩ rfl rfl rfl rfl rfl (by kernel_rfl) Try.func8 (by kernel_rfl)
    (of_decide_eq_true (by kernel_rfl)) (by unfold Func.isWrapper; first | (rw [if_pos (by decide +kernel)]; kernel_rfl) | (rw [if_neg (by decide +kernel)]; exact ⟨rfl, rfl⟩))
    (fun os started H enc _ => lifted os started H enc)
end Go.Proofs.Ytdknddicpdhkcaa.inflateCuts

namespace Go.Proofs.Ytdknddicpdhkcaa
theorem inflateCuts_holds : Rows.InflateCutsSaid := inflateCuts.proved
end Go.Proofs.Ytdknddicpdhkcaa

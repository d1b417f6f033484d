/- The law PngParts: its row (where what it reads is of bulk at most 1048576). Conditions: none. -/
import Derived.Test.YtalbjkemcckokaaGreatPz
import Derived.Test.YtalbjkemcckokaaGreatRows
import Derived.WalkKit
import Derived.JoinedCond
import Derived.SizedLaws
import Derived.Deep.CondSized
namespace Go.Proofs.YtalbjkemcckokaaGreat.pngParts
open Go.ChangeShapes Go.WideShapes Go.ChangeAt Go.RowKit Go.Proofs.YtalbjkemcckokaaGreat.Ab
open Go.ChangeMaps (open_string shut_string)
set_option linter.unusedVariables false
set_option linter.unusedSimpArgs false
set_option maxRecDepth 100000

theorem bulk_of {H : Type} (sp : List (DataW H)) (l : List Chk) : bulkC l ≤ 4 * Rows.uptoBulk (.slice (l.map fun c => DataW.agg [.lit (.string c.1), .lit (.string c.2)]) sp) := by
  have : ∀ l : List Chk, bulkC l ≤ 4 * Rows.uptoBulkAll (H := H) (l.map fun c => .agg [.lit (.string c.1), .lit (.string c.2)]) := by
    intro l
    induction l with
    | nil => simp [bulkC]
    | cons c t ih => simp only [bulkC, List.map_cons, Rows.uptoBulkAll, Rows.uptoBulk]; omega
  have h := this l
  simp only [Rows.uptoBulk]; omega

theorem contract (H : Type) (enc : TypeId × Value → H) (W : World) (base : Nat) (args : Array Value) (ds gs : List (DataW H)) (before : List MemPlace)
    (hval : ∀ (j : Nat) t v, Tryz.f9.params[j]? = some t → args[j]? = some v → Value.okWide Tryz.prog W .any base t v)
    (hW : DataW.Whole enc Tryz.prog Tryz.f9.params.toList Rows.pngPartsSpec.vars false W args.toList ds gs before)
    (hk : Rows.uptoSmall H (ds ++ gs) = true) :
    Calls Tryz.prog 9 args W fun e W' => ∃ v, e = .returned v ∧ Rows.pngPartsSpec.post enc Tryz.prog Tryz.f9 false true false false W args v W' := by
  have hW' := hW
  obtain ⟨p, q, hA0, hV, rfl, hfz, hnd⟩ := hW
  have hA : DataW.TrodAll enc Tryz.prog W 0 (fun _ => true) true Tryz.f9.params.toList args.toList ds p := hA0
  rw [Tryz.params9] at hA hval
  obtain ⟨v0, vs0, d0, ds0, p0, q0, hargs, rfl, rfl, h0, r0⟩ := trodAll_cons hA
  obtain ⟨v1, vs1, d1, ds1, p1, q1, hargs1, rfl, rfl, h1, r1⟩ := trodAll_cons r0
  obtain ⟨hnil, rfl, rfl⟩ := trodAll_nil r1
  obtain rfl : args = #[v0, v1] := by cases args; simp_all
  obtain ⟨rfl, rfl⟩ := trodVars_none hV
  obtain ⟨l, ι, H0, x0, hR, _, _, hv, hl, hd, hsh⟩ := open_pairs Tryz.underlying22 Tryz.underlying53 (by kernel_rfl) rfl rfl (by kernel_rfl) (by kernel_rfl) Tryz.underlying9 Tryz.underlying9 (rel_empty W) (okWide_slice Tryz.underlying22 (hval 0 22 _ rfl rfl)) h0
  obtain ⟨s1, rfl, rfl, rfl, m1⟩ := open_string Tryz.underlying9 (hval 1 9 _ rfl rfl) h1
  have hk2 := of_decide_eq_true hk
  simp only [List.cons_append, List.nil_append, List.append_nil, Rows.uptoBulkAll] at hk2
  have hb : bulkC l ≤ 2 ^ 39 := by
    rcases hd with ⟨_, rfl⟩ | ⟨sp, rfl⟩
    · simp [bulkC]
    · have := bulk_of sp l; omega
  have hs : s1.data.toList.length ≤ 2 ^ 39 := by
    simp only [Rows.uptoBulk] at hk2; omega
  refine (calls_of_acall Tryz.func9 (by kernel_rfl) (by kernel_rfl) (fp := fun _ => False) (law9_ok hl hb hs (fun _ => False)) hR (vs := [v0, .string s1]) (by simp only [VRels]; exact ⟨_, _, rfl, hv, _, _, rfl, by simp [VRel], rfl⟩)).mono fun e W' h => ?_
  obtain ⟨y, x, ι', H', rfl, ⟨rfl, _⟩, hR, hy⟩ := h
  simp only [VRel] at hy
  subst hy
  exact ⟨_, rfl, post_of_below (pv := []) hW' (fun _ _ _ => trodAll_cons_mk (shut_bool Tryz.underlying4 _) trodAll_mk0) (fun sp hsp => (trodAll_cons_mk (hsh W' sp (fun p hp => hsp p (by simp [hp])) hR.below) (trodAll_cons_mk (shut_string Tryz.underlying9 m1) trodAll_mk0))) (fun _ _ => rfl) rfl hR.below (ok_one (by kernel_rfl) rfl (okWide_bool_mk Tryz.underlying4 _))⟩

theorem own : ownKnob Tryz.prog.godebug = none := by kernel_rfl

set_option maxRecDepth 100000 in
theorem lifted (os : Os) (started : os.Started) (H : Type) (enc : TypeId × Value → H) (F : Stop.Interp) :
    ReturnsInHanded {} Tryz.checked os 9 .any ((Rows.OpenSpec.upto Rows.pngPartsSpec).pre6 enc Tryz.prog Tryz.f9 Rows.pngPartsUptoRow.domain false) (((Rows.OpenSpec.upto Rows.pngPartsSpec).at F).post enc Tryz.prog Tryz.f9 false true false false) := by
  refine returnsInHanded_of_cond_sized (C := Tryz.checked) (s := Rows.OpenSpec.upto Rows.pngPartsSpec) (k := Rows.uptoSmall) rfl own started (by kernel_rfl) Tryz.func9
    (OpenSpec.witness (enc := enc) (C := Tryz.checked) (s := Rows.OpenSpec.upto Rows.pngPartsSpec) (k := Rows.uptoSmall) rfl false ⟨#[], #[.slice none 0 0, .string .empty], []⟩ 8 (by kernel_rfl) (by kernel_rfl) (by kernel_rfl)
      (x := ([.nil, .lit (.string [])], [], [])) (by kernel_rfl) rfl (by kernel_rfl)) ?_
  intro W base args ds gs before hval hW _ hk hz _
  exact contract H enc W base args ds gs before hval hW hk

theorem proved : Rows.PngPartsUptoSaid :=
  OpenClaim.holds_of_cond 9 Tryz.f9 rfl rfl rfl rfl rfl rfl rfl ⟨rfl, rfl, rfl, rfl, rfl⟩ rfl rfl rfl rfl rfl (by kernel_rfl) Tryz.func9 (by kernel_rfl)
    (of_decide_eq_true (by kernel_rfl)) (by unfold Func.isWrapper; first | (rw [if_pos (by decide +kernel)]; kernel_rfl) | (rw [if_neg (by decide +kernel)]; exact ⟨rfl, rfl⟩))
    (fun os started H enc _ F => lifted os started H enc F)
end Go.Proofs.YtalbjkemcckokaaGreat.pngParts

namespace Go.Proofs.YtalbjkemcckokaaGreat
theorem pngParts_holds : Rows.PngPartsUptoSaid := pngParts.proved
end Go.Proofs.YtalbjkemcckokaaGreat

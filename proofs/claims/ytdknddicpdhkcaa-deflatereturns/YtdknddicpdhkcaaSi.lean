/- The examples of layer 46 hold, in every state; the law InflateCodes. Conditions: none; for the statements about layer 46. -/
import Derived.Test.YtdknddicpdhkcaaSh
namespace Go.Proofs.Ytdknddicpdhkcaa.Ab
set_option linter.unusedVariables false
set_option maxRecDepth 100000

theorem awake46 : saysTrue (xcall X46 S46 100000 12 26 [] []) = true := by kernel_rfl

theorem awake46_ok (H : AHeap) (fp : Nat → Prop) : ACall Try.prog 26 [] H fp fun v' H' => v' = .bool true ∧ H' = H := by
  refine (ACall.closed (xcall_good hmix X46_ok S46_good 12 26 [] [] (.bool true) [] [] (says_true awake46)) rfl ?_ H fp).mono ?_
  · rintro v H' ⟨rfl, rfl⟩; rfl
  · rintro v H' ⟨rfl, _, rfl, rfl⟩; exact ⟨rfl, rfl⟩

theorem law6_all {l : List Int} {v : AVal} {H : AHeap} {fp : Nat → Prop} (h : Ints H v l) : ACall Try.prog 6 [v] H fp fun v' H' => v' = .bool true ∧ H' = H := law6_ok awake46_ok h
end Go.Proofs.Ytdknddicpdhkcaa.Ab

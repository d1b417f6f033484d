/- The examples of layer 47 hold, in every state; the law DeflateFixes. Conditions: none; for the statements about layer 47. -/
import Derived.Test.YtdknddicpdhkcaaDg
import Derived.Test.YtdknddicpdhkcaaSh
namespace Go.Proofs.Ytdknddicpdhkcaa.Ab
set_option linter.unusedVariables false
set_option maxRecDepth 100000

def X47 : FuncId → Option XFun := fun f => match f with
  | 11 => some x11
  | 13 => some x13
  | 20 => some x20
  | 31 => some x31
  | 32 => some x32
  | 33 => some x33
  | 40 => some x40
  | 53 => some x53
  | 54 => some x54
  | 55 => some x55
  | 56 => some x56
  | 57 => some x57
  | 58 => some x58
  | 67 => some x67
  | 68 => some x68
  | 69 => some x69
  | 70 => some x70
  | 71 => some x71
  | _ => none
theorem X47_ok : ∀ f xf, X47 f = some xf → ∃ fn, Try.prog.funcs[f]? = some fn ∧ xfun Try.prog fn = some xf := by
  intro f xf h
  unfold X47 at h
  split at h
  · cases h; exact ⟨_, Try.func11, x11_ok⟩
  · cases h; exact ⟨_, Try.func13, x13_ok⟩
  · cases h; exact ⟨_, Try.func20, x20_ok⟩
  · cases h; exact ⟨_, Try.func31, x31_ok⟩
  · cases h; exact ⟨_, Try.func32, x32_ok⟩
  · cases h; exact ⟨_, Try.func33, x33_ok⟩
  · cases h; exact ⟨_, Try.func40, x40_ok⟩
  · cases h; exact ⟨_, Try.func53, x53_ok⟩
  · cases h; exact ⟨_, Try.func54, x54_ok⟩
  · cases h; exact ⟨_, Try.func55, x55_ok⟩
  · cases h; exact ⟨_, Try.func56, x56_ok⟩
  · cases h; exact ⟨_, Try.func57, x57_ok⟩
  · cases h; exact ⟨_, Try.func58, x58_ok⟩
  · cases h; exact ⟨_, Try.func67, x67_ok⟩
  · cases h; exact ⟨_, Try.func68, x68_ok⟩
  · cases h; exact ⟨_, Try.func69, x69_ok⟩
  · cases h; exact ⟨_, Try.func70, x70_ok⟩
  · cases h; exact ⟨_, Try.func71, x71_ok⟩
  · cases h
def S0 : Fns := fun _ _ _ => none
theorem S0_good : Good Try.prog S0 := by intro f args H v H' W h; cases h

theorem example13 : saysTrue (xcall X47 S0 100000 12 13 [] []) = true := by kernel_rfl
theorem example13_ok (H : AHeap) (fp : Nat → Prop) : ACall Try.prog 13 [] H fp fun v' H' => v' = .bool true ∧ H' = H := by
  refine (ACall.closed (xcall_good hmix X47_ok S0_good 12 13 [] [] (.bool true) [] [] (says_true example13)) rfl ?_ H fp).mono ?_
  · rintro v H' ⟨rfl, rfl⟩; rfl
  · rintro v H' ⟨rfl, _, rfl, rfl⟩; exact ⟨rfl, rfl⟩
theorem law3_ok {s : List UInt8} {H : AHeap} {fp : Nat → Prop} : ACall Try.prog 3 [.str s] H fp fun v' H' => v' = .bool true ∧ H' = H := law3_all example13_ok
end Go.Proofs.Ytdknddicpdhkcaa.Ab

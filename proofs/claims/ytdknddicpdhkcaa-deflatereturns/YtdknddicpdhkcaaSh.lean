/- The examples of layer 46, reckoned by the kernel. Conditions: none; for the statements about layer 46. -/
import Derived.Test.YtdknddicpdhkcaaSg
namespace Go.Proofs.Ytdknddicpdhkcaa.Ab
set_option linter.unusedVariables false
set_option maxRecDepth 100000

def fixB1 (w : AVal) : List AVal := [.int .i64 0, .int .i64 0, .int .i64 0, .int .i64 0, .int .i64 0, .int .i64 0, .int .i64 0, .int .i64 24, .int .i64 152, .int .i64 112, .int .i64 0, .int .i64 0, .int .i64 0, .int .i64 0, .int .i64 0, .int .i64 0, w, .int .i64 9]
def fixB2 (w : AVal) : List AVal := [.int .i64 0, .int .i64 0, .int .i64 0, .int .i64 0, .int .i64 0, .int .i64 32, .int .i64 0, .int .i64 0, .int .i64 0, .int .i64 0, .int .i64 0, .int .i64 0, .int .i64 0, .int .i64 0, .int .i64 0, .int .i64 0, w, .int .i64 5]
def fixK1 : ABlk := .cells 287 false 3 [.int .i64 256, .int .i64 257, .int .i64 258, .int .i64 259, .int .i64 260, .int .i64 261, .int .i64 262, .int .i64 263, .int .i64 264, .int .i64 265, .int .i64 266, .int .i64 267, .int .i64 268, .int .i64 269, .int .i64 270, .int .i64 271, .int .i64 272, .int .i64 273, .int .i64 274, .int .i64 275, .int .i64 276, .int .i64 277, .int .i64 278, .int .i64 279, .int .i64 0, .int .i64 1, .int .i64 2, .int .i64 3, .int .i64 4, .int .i64 5, .int .i64 6, .int .i64 7, .int .i64 8, .int .i64 9, .int .i64 10, .int .i64 11, .int .i64 12, .int .i64 13, .int .i64 14, .int .i64 15, .int .i64 16, .int .i64 17, .int .i64 18, .int .i64 19, .int .i64 20, .int .i64 21, .int .i64 22, .int .i64 23, .int .i64 24, .int .i64 25, .int .i64 26, .int .i64 27, .int .i64 28, .int .i64 29, .int .i64 30, .int .i64 31, .int .i64 32, .int .i64 33, .int .i64 34, .int .i64 35, .int .i64 36, .int .i64 37, .int .i64 38, .int .i64 39, .int .i64 40, .int .i64 41, .int .i64 42, .int .i64 43, .int .i64 44, .int .i64 45, .int .i64 46, .int .i64 47, .int .i64 48, .int .i64 49, .int .i64 50, .int .i64 51, .int .i64 52, .int .i64 53, .int .i64 54, .int .i64 55, .int .i64 56, .int .i64 57, .int .i64 58, .int .i64 59, .int .i64 60, .int .i64 61, .int .i64 62, .int .i64 63, .int .i64 64, .int .i64 65, .int .i64 66, .int .i64 67, .int .i64 68, .int .i64 69, .int .i64 70, .int .i64 71, .int .i64 72, .int .i64 73, .int .i64 74, .int .i64 75, .int .i64 76, .int .i64 77, .int .i64 78, .int .i64 79, .int .i64 80, .int .i64 81, .int .i64 82, .int .i64 83, .int .i64 84, .int .i64 85, .int .i64 86, .int .i64 87, .int .i64 88, .int .i64 89, .int .i64 90, .int .i64 91, .int .i64 92, .int .i64 93, .int .i64 94, .int .i64 95, .int .i64 96, .int .i64 97, .int .i64 98, .int .i64 99, .int .i64 100, .int .i64 101, .int .i64 102, .int .i64 103, .int .i64 104, .int .i64 105, .int .i64 106, .int .i64 107, .int .i64 108, .int .i64 109, .int .i64 110, .int .i64 111, .int .i64 112, .int .i64 113, .int .i64 114, .int .i64 115, .int .i64 116, .int .i64 117, .int .i64 118, .int .i64 119, .int .i64 120, .int .i64 121, .int .i64 122, .int .i64 123, .int .i64 124, .int .i64 125, .int .i64 126, .int .i64 127, .int .i64 128, .int .i64 129, .int .i64 130, .int .i64 131, .int .i64 132, .int .i64 133, .int .i64 134, .int .i64 135, .int .i64 136, .int .i64 137, .int .i64 138, .int .i64 139, .int .i64 140, .int .i64 141, .int .i64 142, .int .i64 143, .int .i64 280, .int .i64 281, .int .i64 282, .int .i64 283, .int .i64 284, .int .i64 285, .int .i64 286, .int .i64 287, .int .i64 144, .int .i64 145, .int .i64 146, .int .i64 147, .int .i64 148, .int .i64 149, .int .i64 150, .int .i64 151, .int .i64 152, .int .i64 153, .int .i64 154, .int .i64 155, .int .i64 156, .int .i64 157, .int .i64 158, .int .i64 159, .int .i64 160, .int .i64 161, .int .i64 162, .int .i64 163, .int .i64 164, .int .i64 165, .int .i64 166, .int .i64 167, .int .i64 168, .int .i64 169, .int .i64 170, .int .i64 171, .int .i64 172, .int .i64 173, .int .i64 174, .int .i64 175, .int .i64 176, .int .i64 177, .int .i64 178, .int .i64 179, .int .i64 180, .int .i64 181, .int .i64 182, .int .i64 183, .int .i64 184, .int .i64 185, .int .i64 186, .int .i64 187, .int .i64 188, .int .i64 189, .int .i64 190, .int .i64 191, .int .i64 192, .int .i64 193, .int .i64 194, .int .i64 195, .int .i64 196, .int .i64 197, .int .i64 198, .int .i64 199, .int .i64 200, .int .i64 201, .int .i64 202, .int .i64 203, .int .i64 204, .int .i64 205, .int .i64 206, .int .i64 207, .int .i64 208, .int .i64 209, .int .i64 210, .int .i64 211, .int .i64 212, .int .i64 213, .int .i64 214, .int .i64 215, .int .i64 216, .int .i64 217, .int .i64 218, .int .i64 219, .int .i64 220, .int .i64 221, .int .i64 222, .int .i64 223, .int .i64 224, .int .i64 225, .int .i64 226, .int .i64 227, .int .i64 228, .int .i64 229, .int .i64 230, .int .i64 231, .int .i64 232, .int .i64 233, .int .i64 234, .int .i64 235, .int .i64 236, .int .i64 237, .int .i64 238, .int .i64 239, .int .i64 240, .int .i64 241, .int .i64 242, .int .i64 243, .int .i64 244, .int .i64 245, .int .i64 246, .int .i64 247, .int .i64 248, .int .i64 249, .int .i64 250, .int .i64 251, .int .i64 252, .int .i64 253, .int .i64 254, .int .i64 255]
def fixK2 : ABlk := .cells 31 false 3 [.int .i64 0, .int .i64 1, .int .i64 2, .int .i64 3, .int .i64 4, .int .i64 5, .int .i64 6, .int .i64 7, .int .i64 8, .int .i64 9, .int .i64 10, .int .i64 11, .int .i64 12, .int .i64 13, .int .i64 14, .int .i64 15, .int .i64 16, .int .i64 17, .int .i64 18, .int .i64 19, .int .i64 20, .int .i64 21, .int .i64 22, .int .i64 23, .int .i64 24, .int .i64 25, .int .i64 26, .int .i64 27, .int .i64 28, .int .i64 29, .int .i64 30, .int .i64 31]
theorem fixB1_eq (w : AVal) : bookCells (lits 288) w (mostG (lits 288) 15) = fixB1 w := by kernel_rfl
theorem fixB2_eq (w : AVal) : bookCells dists w (mostG dists 15) = fixB2 w := by kernel_rfl
theorem fixK1_eq : ordBlk (ordG (lits 288) 15) = fixK1 := by kernel_rfl
theorem fixK2_eq : ordBlk (ordG dists 15) = fixK2 := by kernel_rfl
theorem fixO1_eq : (ordG (lits 288) 15).length = 288 := by kernel_rfl
theorem fixO2_eq : (ordG dists 15).length = 32 := by kernel_rfl

/-- What is known beforehand: the fixed books. -/
def S46 : Fns := fun f args H => match Nat.beq f 50, args with
  | true, [] => some (.tuple [.agg (fixB1 (.slice H.length 287 0 288 1)), .agg (fixB2 (.slice (Nat.add H.length 1) 31 0 32 1))], H ++ [fixK1, fixK2], [])
  | _, _ => none
theorem S46_good : Good Try.prog S46 := by
  intro f args H v H' W h
  unfold S46 at h
  split at h
  · rename_i hf
    cases h
    have hf := nb_eq hf
    subst hf
    refine (fixed_ok (H := H)).mono fun v2 H2 q => ?_
    obtain ⟨rfl, rfl⟩ := q
    refine ⟨?_, by rw [fixK1_eq, fixK2_eq]⟩
    unfold ordVal
    rw [if_neg ord_lits, fixB1_eq, fixB2_eq, fixO1_eq, fixO2_eq]
  · cases h

def X46 : FuncId → Option XFun := fun f => match f with
  | 24 => some x24
  | 26 => some x26
  | 28 => some x28
  | 29 => some x29
  | 30 => some x30
  | 43 => some x43
  | 44 => some x44
  | 46 => some x46
  | 47 => some x47
  | 48 => some x48
  | 49 => some x49
  | 51 => some x51
  | 52 => some x52
  | 60 => some x60
  | 61 => some x61
  | 62 => some x62
  | 63 => some x63
  | 64 => some x64
  | 65 => some x65
  | 66 => some x66
  | 72 => some x72
  | 73 => some x73
  | _ => none
theorem X46_ok : ∀ f xf, X46 f = some xf → ∃ fn, Try.prog.funcs[f]? = some fn ∧ xfun Try.prog fn = some xf := by
  intro f xf h
  unfold X46 at h
  split at h
  · cases h; exact ⟨_, Try.func24, x24_ok⟩
  · cases h; exact ⟨_, Try.func26, x26_ok⟩
  · cases h; exact ⟨_, Try.func28, x28_ok⟩
  · cases h; exact ⟨_, Try.func29, x29_ok⟩
  · cases h; exact ⟨_, Try.func30, x30_ok⟩
  · cases h; exact ⟨_, Try.func43, x43_ok⟩
  · cases h; exact ⟨_, Try.func44, x44_ok⟩
  · cases h; exact ⟨_, Try.func46, x46_ok⟩
  · cases h; exact ⟨_, Try.func47, x47_ok⟩
  · cases h; exact ⟨_, Try.func48, x48_ok⟩
  · cases h; exact ⟨_, Try.func49, x49_ok⟩
  · cases h; exact ⟨_, Try.func51, x51_ok⟩
  · cases h; exact ⟨_, Try.func52, x52_ok⟩
  · cases h; exact ⟨_, Try.func60, x60_ok⟩
  · cases h; exact ⟨_, Try.func61, x61_ok⟩
  · cases h; exact ⟨_, Try.func62, x62_ok⟩
  · cases h; exact ⟨_, Try.func63, x63_ok⟩
  · cases h; exact ⟨_, Try.func64, x64_ok⟩
  · cases h; exact ⟨_, Try.func65, x65_ok⟩
  · cases h; exact ⟨_, Try.func66, x66_ok⟩
  · cases h; exact ⟨_, Try.func72, x72_ok⟩
  · cases h; exact ⟨_, Try.func73, x73_ok⟩
  · cases h

def saysTrue : Option (AVal × AHeap × List Nat) → Bool
  | some (.bool true, [], []) => true
  | _ => false
theorem says_true {o : Option (AVal × AHeap × List Nat)} (h : saysTrue o = true) : o = some (.bool true, [], []) := by
  unfold saysTrue at h
  split at h
  · rfl
  · cases h
end Go.Proofs.Ytdknddicpdhkcaa.Ab

/- Layer 49 (tiff): what is known of the library's functions beforehand, and the functions' code by number. Conditions: none; for the statements about layer 49. -/
import Derived.Test.YtfpnapihhgjgaaaAz
import Derived.Test.YtfpnapihhgjgaaaXa
import Derived.Test.YtfpnapihhgjgaaaHs
namespace Go.Proofs.Ytfpnapihhgjgaaa.Ab
set_option linter.unusedVariables false
set_option maxRecDepth 100000

theorem hmix : Try.prog.follows .mixedOrders = true := by kernel_rfl
theorem repeat_ok {s : List UInt8} {c : Nat} {H : AHeap} {fp : Nat → Prop} (h1 : c ≤ 9223372036854775807) (h2 : s.length * c ≤ 140737488355328) :
    ACall Try.prog 26 [.str s, .int .i64 c] H fp fun v' H' => v' = .str (Lib.repeatL s c) ∧ H' = H := acall_repeat Try.func26 (by kernel_rfl) (by kernel_rfl) Try.strings_Repeat h1 h2
theorem noEscape_ok {x : AVal} {H : AHeap} {fp : Nat → Prop} : ACall Try.prog 76 [x] H fp fun v' H' => v' = x ∧ H' = H := acall_noEscape Try.func76 (by kernel_rfl) (by kernel_rfl) (by kernel_rfl) (by kernel_rfl)

def S49 : Fns := fun f args H => match Nat.beq f 76 with
  | true => keep H (sNoEscape args)
  | false => match Nat.beq f 102 with
    | true => keep H (sIndexByte args)
    | false => match Nat.beq f 26 with
      | true => keep H (sRepeat args)
      | false => match Nat.beq f 47 with
        | true => keep H (sJoin H args)
        | false => none
theorem S49_good : Good Try.prog S49 := by
  intro f args H v H' W h
  unfold S49 at h
  split at h
  · rename_i hf
    have hf := nb_eq hf
    subst hf
    obtain ⟨h1, rfl, rfl⟩ := keep_inv h
    exact good_noEscape Try.func76 (by kernel_rfl) (by kernel_rfl) (by kernel_rfl) (by kernel_rfl) h1
  · split at h
    · rename_i hf
      have hf := nb_eq hf
      subst hf
      obtain ⟨h1, rfl, rfl⟩ := keep_inv h
      exact good_indexByte Try.func102 (by kernel_rfl) (by kernel_rfl) (by kernel_rfl) (by kernel_rfl) h1
    · split at h
      · rename_i hf
        have hf := nb_eq hf
        subst hf
        obtain ⟨h1, rfl, rfl⟩ := keep_inv h
        exact good_repeat Try.func26 (by kernel_rfl) (by kernel_rfl) Try.strings_Repeat h1
      · split at h
        · rename_i hf
          have hf := nb_eq hf
          subst hf
          obtain ⟨h1, rfl, rfl⟩ := keep_inv h
          exact good_join Try.func47 (by kernel_rfl) (by kernel_rfl) Try.strings_Join h1
        · cases h

def L49 : List (Nat × XFun) := [(62, x62), (46, x46), (25, x25), (58, x58), (44, x44), (22, x22), (40, x40), (53, x53), (54, x54), (55, x55), (91, x91), (96, x96), (71, x71), (70, x70), (84, x84), (28, x28), (9, x9), (11, x11), (13, x13), (14, x14), (15, x15), (16, x16), (17, x17), (19, x19), (20, x20), (21, x21), (24, x24), (27, x27), (29, x29), (30, x30), (32, x32), (33, x33), (34, x34), (35, x35), (36, x36), (37, x37), (38, x38), (39, x39), (41, x41), (42, x42), (43, x43), (45, x45), (59, x59), (60, x60), (61, x61), (63, x63), (64, x64), (65, x65), (66, x66), (67, x67), (68, x68), (69, x69), (75, x75), (77, x77), (78, x78), (79, x79), (80, x80), (81, x81), (82, x82), (83, x83), (92, x92), (97, x97), (98, x98)]
theorem L49_ok : AllOk Try.prog L49 := ⟨⟨_, Try.func62, x62_ok⟩, ⟨_, Try.func46, x46_ok⟩, ⟨_, Try.func25, x25_ok⟩, ⟨_, Try.func58, x58_ok⟩, ⟨_, Try.func44, x44_ok⟩, ⟨_, Try.func22, x22_ok⟩, ⟨_, Try.func40, x40_ok⟩, ⟨_, Try.func53, x53_ok⟩, ⟨_, Try.func54, x54_ok⟩, ⟨_, Try.func55, x55_ok⟩, ⟨_, Try.func91, x91_ok⟩, ⟨_, Try.func96, x96_ok⟩, ⟨_, Try.func71, x71_ok⟩, ⟨_, Try.func70, x70_ok⟩, ⟨_, Try.func84, x84_ok⟩, ⟨_, Try.func28, x28_ok⟩, ⟨_, Try.func9, x9_ok⟩, ⟨_, Try.func11, x11_ok⟩, ⟨_, Try.func13, x13_ok⟩, ⟨_, Try.func14, x14_ok⟩, ⟨_, Try.func15, x15_ok⟩, ⟨_, Try.func16, x16_ok⟩, ⟨_, Try.func17, x17_ok⟩, ⟨_, Try.func19, x19_ok⟩, ⟨_, Try.func20, x20_ok⟩, ⟨_, Try.func21, x21_ok⟩, ⟨_, Try.func24, x24_ok⟩, ⟨_, Try.func27, x27_ok⟩, ⟨_, Try.func29, x29_ok⟩, ⟨_, Try.func30, x30_ok⟩, ⟨_, Try.func32, x32_ok⟩, ⟨_, Try.func33, x33_ok⟩, ⟨_, Try.func34, x34_ok⟩, ⟨_, Try.func35, x35_ok⟩, ⟨_, Try.func36, x36_ok⟩, ⟨_, Try.func37, x37_ok⟩, ⟨_, Try.func38, x38_ok⟩, ⟨_, Try.func39, x39_ok⟩, ⟨_, Try.func41, x41_ok⟩, ⟨_, Try.func42, x42_ok⟩, ⟨_, Try.func43, x43_ok⟩, ⟨_, Try.func45, x45_ok⟩, ⟨_, Try.func59, x59_ok⟩, ⟨_, Try.func60, x60_ok⟩, ⟨_, Try.func61, x61_ok⟩, ⟨_, Try.func63, x63_ok⟩, ⟨_, Try.func64, x64_ok⟩, ⟨_, Try.func65, x65_ok⟩, ⟨_, Try.func66, x66_ok⟩, ⟨_, Try.func67, x67_ok⟩, ⟨_, Try.func68, x68_ok⟩, ⟨_, Try.func69, x69_ok⟩, ⟨_, Try.func75, x75_ok⟩, ⟨_, Try.func77, x77_ok⟩, ⟨_, Try.func78, x78_ok⟩, ⟨_, Try.func79, x79_ok⟩, ⟨_, Try.func80, x80_ok⟩, ⟨_, Try.func81, x81_ok⟩, ⟨_, Try.func82, x82_ok⟩, ⟨_, Try.func83, x83_ok⟩, ⟨_, Try.func92, x92_ok⟩, ⟨_, Try.func97, x97_ok⟩, ⟨_, Try.func98, x98_ok⟩, trivial⟩
end Go.Proofs.Ytfpnapihhgjgaaa.Ab

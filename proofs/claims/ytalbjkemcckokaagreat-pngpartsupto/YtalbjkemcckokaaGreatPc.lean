/- Layer 48 (png): what is known beforehand, and the functions' code by number. Conditions: none; for the statements about layer 48. -/
import Derived.Test.YtalbjkemcckokaaGreatPb
import Derived.Test.YtalbjkemcckokaaGreatAz
import Derived.Test.YtalbjkemcckokaaGreatBb
namespace Go.Proofs.YtalbjkemcckokaaGreat.Ab
set_option linter.unusedVariables false
set_option maxRecDepth 100000

def fixB1 (w : AVal) : List AVal := [.int .i64 0, .int .i64 0, .int .i64 0, .int .i64 0, .int .i64 0, .int .i64 0, .int .i64 0, .int .i64 24, .int .i64 152, .int .i64 112, .int .i64 0, .int .i64 0, .int .i64 0, .int .i64 0, .int .i64 0, .int .i64 0, w, .int .i64 9]
def fixB2 (w : AVal) : List AVal := [.int .i64 0, .int .i64 0, .int .i64 0, .int .i64 0, .int .i64 0, .int .i64 32, .int .i64 0, .int .i64 0, .int .i64 0, .int .i64 0, .int .i64 0, .int .i64 0, .int .i64 0, .int .i64 0, .int .i64 0, .int .i64 0, w, .int .i64 5]
def fixK1 : ABlk := .cells 287 false 3 [.int .i64 256, .int .i64 257, .int .i64 258, .int .i64 259, .int .i64 260, .int .i64 261, .int .i64 262, .int .i64 263, .int .i64 264, .int .i64 265, .int .i64 266, .int .i64 267, .int .i64 268, .int .i64 269, .int .i64 270, .int .i64 271, .int .i64 272, .int .i64 273, .int .i64 274, .int .i64 275, .int .i64 276, .int .i64 277, .int .i64 278, .int .i64 279, .int .i64 0, .int .i64 1, .int .i64 2, .int .i64 3, .int .i64 4, .int .i64 5, .int .i64 6, .int .i64 7, .int .i64 8, .int .i64 9, .int .i64 10, .int .i64 11, .int .i64 12, .int .i64 13, .int .i64 14, .int .i64 15, .int .i64 16, .int .i64 17, .int .i64 18, .int .i64 19, .int .i64 20, .int .i64 21, .int .i64 22, .int .i64 23, .int .i64 24, .int .i64 25, .int .i64 26, .int .i64 27, .int .i64 28, .int .i64 29, .int .i64 30, .int .i64 31, .int .i64 32, .int .i64 33, .int .i64 34, .int .i64 35, .int .i64 36, .int .i64 37, .int .i64 38, .int .i64 39, .int .i64 40, .int .i64 41, .int .i64 42, .int .i64 43, .int .i64 44, .int .i64 45, .int .i64 46, .int .i64 47, .int .i64 48, .int .i64 49, .int .i64 50, .int .i64 51, .int .i64 52, .int .i64 53, .int .i64 54, .int .i64 55, .int .i64 56, .int .i64 57, .int .i64 58, .int .i64 59, .int .i64 60, .int .i64 61, .int .i64 62, .int .i64 63, .int .i64 64, .int .i64 65, .int .i64 66, .int .i64 67, .int .i64 68, .int .i64 69, .int .i64 70, .int .i64 71, .int .i64 72, .int .i64 73, .int .i64 74, .int .i64 75, .int .i64 76, .int .i64 77, .int .i64 78, .int .i64 79, .int .i64 80, .int .i64 81, .int .i64 82, .int .i64 83, .int .i64 84, .int .i64 85, .int .i64 86, .int .i64 87, .int .i64 88, .int .i64 89, .int .i64 90, .int .i64 91, .int .i64 92, .int .i64 93, .int .i64 94, .int .i64 95, .int .i64 96, .int .i64 97, .int .i64 98, .int .i64 99, .int .i64 100, .int .i64 101, .int .i64 102, .int .i64 103, .int .i64 104, .int .i64 105, .int .i64 106, .int .i64 107, .int .i64 108, .int .i64 109, .int .i64 110, .int .i64 111, .int .i64 112, .int .i64 113, .int .i64 114, .int .i64 115, .int .i64 116, .int .i64 117, .int .i64 118, .int .i64 119, .int .i64 120, .int .i64 121, .int .i64 122, .int .i64 123, .int .i64 124, .int .i64 125, .int .i64 126, .int .i64 127, .int .i64 128, .int .i64 129, .int .i64 130, .int .i64 131, .int .i64 132, .int .i64 133, .int .i64 134, .int .i64 135, .int .i64 136, .int .i64 137, .int .i64 138, .int .i64 139, .int .i64 140, .int .i64 141, .int .i64 142, .int .i64 143, .int .i64 280, .int .i64 281, .int .i64 282, .int .i64 283, .int .i64 284, .int .i64 285, .int .i64 286, .int .i64 287, .int .i64 144, .int .i64 145, .int .i64 146, .int .i64 147, .int .i64 148, .int .i64 149, .int .i64 150, .int .i64 151, .int .i64 152, .int .i64 153, .int .i64 154, .int .i64 155, .int .i64 156, .int .i64 157, .int .i64 158, .int .i64 159, .int .i64 160, .int .i64 161, .int .i64 162, .int .i64 163, .int .i64 164, .int .i64 165, .int .i64 166, .int .i64 167, .int .i64 168, .int .i64 169, .int .i64 170, .int .i64 171, .int .i64 172, .int .i64 173, .int .i64 174, .int .i64 175, .int .i64 176, .int .i64 177, .int .i64 178, .int .i64 179, .int .i64 180, .int .i64 181, .int .i64 182, .int .i64 183, .int .i64 184, .int .i64 185, .int .i64 186, .int .i64 187, .int .i64 188, .int .i64 189, .int .i64 190, .int .i64 191, .int .i64 192, .int .i64 193, .int .i64 194, .int .i64 195, .int .i64 196, .int .i64 197, .int .i64 198, .int .i64 199, .int .i64 200, .int .i64 201, .int .i64 202, .int .i64 203, .int .i64 204, .int .i64 205, .int .i64 206, .int .i64 207, .int .i64 208, .int .i64 209, .int .i64 210, .int .i64 211, .int .i64 212, .int .i64 213, .int .i64 214, .int .i64 215, .int .i64 216, .int .i64 217, .int .i64 218, .int .i64 219, .int .i64 220, .int .i64 221, .int .i64 222, .int .i64 223, .int .i64 224, .int .i64 225, .int .i64 226, .int .i64 227, .int .i64 228, .int .i64 229, .int .i64 230, .int .i64 231, .int .i64 232, .int .i64 233, .int .i64 234, .int .i64 235, .int .i64 236, .int .i64 237, .int .i64 238, .int .i64 239, .int .i64 240, .int .i64 241, .int .i64 242, .int .i64 243, .int .i64 244, .int .i64 245, .int .i64 246, .int .i64 247, .int .i64 248, .int .i64 249, .int .i64 250, .int .i64 251, .int .i64 252, .int .i64 253, .int .i64 254, .int .i64 255]
def fixK2 : ABlk := .cells 31 false 3 [.int .i64 0, .int .i64 1, .int .i64 2, .int .i64 3, .int .i64 4, .int .i64 5, .int .i64 6, .int .i64 7, .int .i64 8, .int .i64 9, .int .i64 10, .int .i64 11, .int .i64 12, .int .i64 13, .int .i64 14, .int .i64 15, .int .i64 16, .int .i64 17, .int .i64 18, .int .i64 19, .int .i64 20, .int .i64 21, .int .i64 22, .int .i64 23, .int .i64 24, .int .i64 25, .int .i64 26, .int .i64 27, .int .i64 28, .int .i64 29, .int .i64 30, .int .i64 31]
theorem fixB1_eq (w : AVal) : bookCells (lits 288) w (mostG (lits 288) 15) = fixB1 w := by kernel_rfl
theorem fixB2_eq (w : AVal) : bookCells dists w (mostG dists 15) = fixB2 w := by kernel_rfl
theorem fixK1_eq : ordBlk (ordG (lits 288) 15) = fixK1 := by kernel_rfl
theorem fixK2_eq : ordBlk (ordG dists 15) = fixK2 := by kernel_rfl
theorem fixO1_eq : (ordG (lits 288) 15).length = 288 := by kernel_rfl
theorem fixO2_eq : (ordG dists 15).length = 32 := by kernel_rfl

def sCrc : List AVal → Option AVal
  | [.str s] => if s.length ≤ 1048576 then some (.int .u32 (crcG s)) else none
  | _ => none
theorem sCrc_inv {args : List AVal} {v : AVal} (h : sCrc args = some v) : ∃ s, args = [.str s] ∧ s.length ≤ 1048576 ∧ v = .int .u32 (crcG s) := by
  unfold sCrc at h
  split at h
  · split at h
    · cases h; exact ⟨_, rfl, by assumption, rfl⟩
    · cases h
  · cases h
def S48 : Fns := fun f args H => match Nat.beq f 108 with
  | true => keep H (sNoEscape args)
  | false => match Nat.beq f 186 with
    | true => keep H (sIndexByte args)
    | false => match Nat.beq f 158 with
      | true => keep H (sCompare args)
      | false => match Nat.beq f 43 with
        | true => keep H (sCrc args)
        | false => match Nat.beq f 144, args with
          | true, [] => some (.tuple [.agg (fixB1 (.slice H.length 287 0 288 1)), .agg (fixB2 (.slice (Nat.add H.length 1) 31 0 32 1))], H ++ [fixK1, fixK2], [])
          | _, _ => none
theorem S48_good : Good Tryz.prog S48 := by
  intro f args H v H' W h
  unfold S48 at h
  split at h
  · rename_i hf
    have hf := nb_eq hf
    subst hf
    obtain ⟨h1, rfl, rfl⟩ := keep_inv h
    exact good_noEscape Tryz.func108 (by kernel_rfl) (by kernel_rfl) (by kernel_rfl) (by kernel_rfl) h1
  · split at h
    · rename_i hf
      have hf := nb_eq hf
      subst hf
      obtain ⟨h1, rfl, rfl⟩ := keep_inv h
      exact good_indexByte Tryz.func186 (by kernel_rfl) (by kernel_rfl) (by kernel_rfl) (by kernel_rfl) h1
    · split at h
      · rename_i hf
        have hf := nb_eq hf
        subst hf
        obtain ⟨h1, rfl, rfl⟩ := keep_inv h
        exact good_compare Tryz.func158 (by kernel_rfl) (by kernel_rfl) (by kernel_rfl) (by kernel_rfl) h1
      · split at h
        · rename_i hf
          have hf := nb_eq hf
          subst hf
          obtain ⟨h1, rfl, rfl⟩ := keep_inv h
          obtain ⟨s, rfl, hl, rfl⟩ := sCrc_inv h1
          exact crc_ok s (by omega) _ _
        · split at h
          · rename_i hf
            cases h
            have hf := nb_eq hf
            subst hf
            refine (fixed_ok (H := H)).mono fun v2 H2 q => ?_
            obtain ⟨rfl, rfl⟩ := q
            refine ⟨?_, by rw [fixK1_eq, fixK2_eq]⟩
            unfold ordVal
            rw [if_neg ord_lits, fixB1_eq, fixB2_eq, fixO1_eq, fixO2_eq]
          · cases h

def L48 : List (Nat × XFun) := [(12, x12), (14, x14), (15, x15), (16, x16), (18, x18), (20, x20), (22, x22), (24, x24), (25, x25), (26, x26), (27, x27), (28, x28), (29, x29), (30, x30), (31, x31), (32, x32), (37, x37), (38, x38), (40, x40), (41, x41), (42, x42), (44, x44), (45, x45), (46, x46), (50, x50), (51, x51), (52, x52), (60, x60), (61, x61), (62, x62), (63, x63), (64, x64), (65, x65), (66, x66), (67, x67), (68, x68), (69, x69), (70, x70), (71, x71), (72, x72), (73, x73), (74, x74), (76, x76), (78, x78), (80, x80), (89, x89), (90, x90), (92, x92), (93, x93), (95, x95), (96, x96), (97, x97), (98, x98), (100, x100), (102, x102), (103, x103), (104, x104), (105, x105), (106, x106), (107, x107), (109, x109), (118, x118), (119, x119), (123, x123), (124, x124), (125, x125), (147, x147), (173, x173), (175, x175), (176, x176), (187, x187), (39, x39), (53, x53), (79, x79), (81, x81), (91, x91), (94, x94), (99, x99), (101, x101), (110, x110), (111, x111), (117, x117), (120, x120), (121, x121), (122, x122), (126, x126), (127, x127), (128, x128), (129, x129), (130, x130), (140, x140), (141, x141), (142, x142), (143, x143), (144, x144), (145, x145), (146, x146), (148, x148), (149, x149), (150, x150), (151, x151), (152, x152), (153, x153), (154, x154), (155, x155), (156, x156), (157, x157), (159, x159), (160, x160), (161, x161), (162, x162), (163, x163), (166, x166), (167, x167), (168, x168), (169, x169), (170, x170), (171, x171), (172, x172), (177, x177), (178, x178), (179, x179), (180, x180), (181, x181), (182, x182), (183, x183), (184, x184), (185, x185), (188, x188)]
theorem L48_ok : AllOk Tryz.prog L48 := ⟨⟨_, Tryz.func12, x12_ok⟩, ⟨_, Tryz.func14, x14_ok⟩, ⟨_, Tryz.func15, x15_ok⟩, ⟨_, Tryz.func16, x16_ok⟩, ⟨_, Tryz.func18, x18_ok⟩, ⟨_, Tryz.func20, x20_ok⟩, ⟨_, Tryz.func22, x22_ok⟩, ⟨_, Tryz.func24, x24_ok⟩, ⟨_, Tryz.func25, x25_ok⟩, ⟨_, Tryz.func26, x26_ok⟩, ⟨_, Tryz.func27, x27_ok⟩, ⟨_, Tryz.func28, x28_ok⟩, ⟨_, Tryz.func29, x29_ok⟩, ⟨_, Tryz.func30, x30_ok⟩, ⟨_, Tryz.func31, x31_ok⟩, ⟨_, Tryz.func32, x32_ok⟩, ⟨_, Tryz.func37, x37_ok⟩, ⟨_, Tryz.func38, x38_ok⟩, ⟨_, Tryz.func40, x40_ok⟩, ⟨_, Tryz.func41, x41_ok⟩, ⟨_, Tryz.func42, x42_ok⟩, ⟨_, Tryz.func44, x44_ok⟩, ⟨_, Tryz.func45, x45_ok⟩, ⟨_, Tryz.func46, x46_ok⟩, ⟨_, Tryz.func50, x50_ok⟩, ⟨_, Tryz.func51, x51_ok⟩, ⟨_, Tryz.func52, x52_ok⟩, ⟨_, Tryz.func60, x60_ok⟩, ⟨_, Tryz.func61, x61_ok⟩, ⟨_, Tryz.func62, x62_ok⟩, ⟨_, Tryz.func63, x63_ok⟩, ⟨_, Tryz.func64, x64_ok⟩, ⟨_, Tryz.func65, x65_ok⟩, ⟨_, Tryz.func66, x66_ok⟩, ⟨_, Tryz.func67, x67_ok⟩, ⟨_, Tryz.func68, x68_ok⟩, ⟨_, Tryz.func69, x69_ok⟩, ⟨_, Tryz.func70, x70_ok⟩, ⟨_, Tryz.func71, x71_ok⟩, ⟨_, Tryz.func72, x72_ok⟩, ⟨_, Tryz.func73, x73_ok⟩, ⟨_, Tryz.func74, x74_ok⟩, ⟨_, Tryz.func76, x76_ok⟩, ⟨_, Tryz.func78, x78_ok⟩, ⟨_, Tryz.func80, x80_ok⟩, ⟨_, Tryz.func89, x89_ok⟩, ⟨_, Tryz.func90, x90_ok⟩, ⟨_, Tryz.func92, x92_ok⟩, ⟨_, Tryz.func93, x93_ok⟩, ⟨_, Tryz.func95, x95_ok⟩, ⟨_, Tryz.func96, x96_ok⟩, ⟨_, Tryz.func97, x97_ok⟩, ⟨_, Tryz.func98, x98_ok⟩, ⟨_, Tryz.func100, x100_ok⟩, ⟨_, Tryz.func102, x102_ok⟩, ⟨_, Tryz.func103, x103_ok⟩, ⟨_, Tryz.func104, x104_ok⟩, ⟨_, Tryz.func105, x105_ok⟩, ⟨_, Tryz.func106, x106_ok⟩, ⟨_, Tryz.func107, x107_ok⟩, ⟨_, Tryz.func109, x109_ok⟩, ⟨_, Tryz.func118, x118_ok⟩, ⟨_, Tryz.func119, x119_ok⟩, ⟨_, Tryz.func123, x123_ok⟩, ⟨_, Tryz.func124, x124_ok⟩, ⟨_, Tryz.func125, x125_ok⟩, ⟨_, Tryz.func147, x147_ok⟩, ⟨_, Tryz.func173, x173_ok⟩, ⟨_, Tryz.func175, x175_ok⟩, ⟨_, Tryz.func176, x176_ok⟩, ⟨_, Tryz.func187, x187_ok⟩, ⟨_, Tryz.func39, x39_ok⟩, ⟨_, Tryz.func53, x53_ok⟩, ⟨_, Tryz.func79, x79_ok⟩, ⟨_, Tryz.func81, x81_ok⟩, ⟨_, Tryz.func91, x91_ok⟩, ⟨_, Tryz.func94, x94_ok⟩, ⟨_, Tryz.func99, x99_ok⟩, ⟨_, Tryz.func101, x101_ok⟩, ⟨_, Tryz.func110, x110_ok⟩, ⟨_, Tryz.func111, x111_ok⟩, ⟨_, Tryz.func117, x117_ok⟩, ⟨_, Tryz.func120, x120_ok⟩, ⟨_, Tryz.func121, x121_ok⟩, ⟨_, Tryz.func122, x122_ok⟩, ⟨_, Tryz.func126, x126_ok⟩, ⟨_, Tryz.func127, x127_ok⟩, ⟨_, Tryz.func128, x128_ok⟩, ⟨_, Tryz.func129, x129_ok⟩, ⟨_, Tryz.func130, x130_ok⟩, ⟨_, Tryz.func140, x140_ok⟩, ⟨_, Tryz.func141, x141_ok⟩, ⟨_, Tryz.func142, x142_ok⟩, ⟨_, Tryz.func143, x143_ok⟩, ⟨_, Tryz.func144, x144_ok⟩, ⟨_, Tryz.func145, x145_ok⟩, ⟨_, Tryz.func146, x146_ok⟩, ⟨_, Tryz.func148, x148_ok⟩, ⟨_, Tryz.func149, x149_ok⟩, ⟨_, Tryz.func150, x150_ok⟩, ⟨_, Tryz.func151, x151_ok⟩, ⟨_, Tryz.func152, x152_ok⟩, ⟨_, Tryz.func153, x153_ok⟩, ⟨_, Tryz.func154, x154_ok⟩, ⟨_, Tryz.func155, x155_ok⟩, ⟨_, Tryz.func156, x156_ok⟩, ⟨_, Tryz.func157, x157_ok⟩, ⟨_, Tryz.func159, x159_ok⟩, ⟨_, Tryz.func160, x160_ok⟩, ⟨_, Tryz.func161, x161_ok⟩, ⟨_, Tryz.func162, x162_ok⟩, ⟨_, Tryz.func163, x163_ok⟩, ⟨_, Tryz.func166, x166_ok⟩, ⟨_, Tryz.func167, x167_ok⟩, ⟨_, Tryz.func168, x168_ok⟩, ⟨_, Tryz.func169, x169_ok⟩, ⟨_, Tryz.func170, x170_ok⟩, ⟨_, Tryz.func171, x171_ok⟩, ⟨_, Tryz.func172, x172_ok⟩, ⟨_, Tryz.func177, x177_ok⟩, ⟨_, Tryz.func178, x178_ok⟩, ⟨_, Tryz.func179, x179_ok⟩, ⟨_, Tryz.func180, x180_ok⟩, ⟨_, Tryz.func181, x181_ok⟩, ⟨_, Tryz.func182, x182_ok⟩, ⟨_, Tryz.func183, x183_ok⟩, ⟨_, Tryz.func184, x184_ok⟩, ⟨_, Tryz.func185, x185_ok⟩, ⟨_, Tryz.func188, x188_ok⟩, trivial⟩
end Go.Proofs.YtalbjkemcckokaaGreat.Ab

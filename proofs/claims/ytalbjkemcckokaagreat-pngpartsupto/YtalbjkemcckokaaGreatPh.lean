/- The examples of function 14, reckoned by the kernel in pieces: further pieces. Conditions: none. -/
import Derived.Test.YtalbjkemcckokaaGreatPg
namespace Go.Proofs.YtalbjkemcckokaaGreat.Ab
set_option linter.unusedVariables false
set_option maxRecDepth 1000000

theorem aw14_0 : xexec aw14F 100000 (segAt 0 x14.body) .nil [] [] = some (.normal, aw14l1, aw14h1, aw14w1) := okN_eq (by kernel_rfl)
theorem aw14_1 : xexec aw14F 100000 (segAt 1 x14.body) aw14l1 aw14h1 aw14w1 = some (.normal, aw14l2, aw14h2, aw14w2) := okN_eq (by kernel_rfl)
theorem aw14_2 : xexec aw14F 100000 (segAt 2 x14.body) aw14l2 aw14h2 aw14w2 = some (.normal, aw14l3, aw14h3, aw14w3) := okN_eq (by kernel_rfl)
theorem aw14_3 : xexec aw14F 100000 (segAt 3 x14.body) aw14l3 aw14h3 aw14w3 = some (.normal, aw14l4, aw14h4, aw14w4) := okN_eq (by kernel_rfl)
theorem aw14_4 : xexec aw14F 100000 (segAt 4 x14.body) aw14l4 aw14h4 aw14w4 = some (.normal, aw14l5, aw14h5, aw14w5) := okN_eq (by kernel_rfl)
theorem aw14_5 : xexec aw14F 100000 (segAt 5 x14.body) aw14l5 aw14h5 aw14w5 = some (.normal, aw14l6, aw14h6, aw14w6) := okN_eq (by kernel_rfl)
theorem aw14_6 : xexec aw14F 100000 (segAt 6 x14.body) aw14l6 aw14h6 aw14w6 = some (.normal, aw14l7, aw14h7, aw14w7) := okN_eq (by kernel_rfl)
theorem aw14_7 : xexec aw14F 100000 (segAt 7 x14.body) aw14l7 aw14h7 aw14w7 = some (.normal, aw14l8, aw14h8, aw14w8) := okN_eq (by kernel_rfl)
theorem aw14_8 : xexec aw14F 100000 (segAt 8 x14.body) aw14l8 aw14h8 aw14w8 = some (.normal, aw14l9, aw14h9, aw14w9) := okN_eq (by kernel_rfl)
theorem aw14_9 : xexec aw14F 100000 (segAt 9 x14.body) aw14l9 aw14h9 aw14w9 = some (.normal, aw14l10, aw14h10, aw14w10) := okN_eq (by kernel_rfl)
theorem aw14_10 : xexec aw14F 100000 (segAt 10 x14.body) aw14l10 aw14h10 aw14w10 = some (.normal, aw14l11, aw14h11, aw14w11) := okN_eq (by kernel_rfl)
theorem aw14_11 : xexec aw14F 100000 (segAt 11 x14.body) aw14l11 aw14h11 aw14w11 = some (.normal, aw14l12, aw14h12, aw14w12) := okN_eq (by kernel_rfl)
theorem aw14_12 : xexec aw14F 100000 (segAt 12 x14.body) aw14l12 aw14h12 aw14w12 = some (.normal, aw14l13, aw14h13, aw14w13) := okN_eq (by kernel_rfl)
theorem aw14_13 : xexec aw14F 100000 (segAt 13 x14.body) aw14l13 aw14h13 aw14w13 = some (.normal, aw14l14, aw14h14, aw14w14) := okN_eq (by kernel_rfl)
theorem aw14_14 : xexec aw14F 100000 (segAt 14 x14.body) aw14l14 aw14h14 aw14w14 = some (.normal, aw14l15, aw14h15, aw14w15) := okN_eq (by kernel_rfl)
theorem aw14_15 : xexec aw14F 100000 (segAt 15 x14.body) aw14l15 aw14h15 aw14w15 = some (.normal, aw14l16, aw14h16, aw14w16) := okN_eq (by kernel_rfl)
theorem aw14_16 : xexec aw14F 100000 (cutAt 16 x14.body) aw14l16 aw14h16 aw14w16 = some (.ret, aw14l17, aw14h17, aw14w17) := okR_eq (by kernel_rfl)
theorem aw14_c16 : xexec aw14F 100000 (cutAt 16 x14.body) aw14l16 aw14h16 aw14w16 = some (.ret, aw14l17, aw14h17, aw14w17) := aw14_16
theorem aw14_c15 : xexec aw14F 100000 (cutAt 15 x14.body) aw14l15 aw14h15 aw14w15 = some (.ret, aw14l17, aw14h17, aw14w17) := seg_step (Φ := aw14F) (N := 100000) (k := 15) (x := x14.body) (by kernel_rfl) aw14_15 aw14_c16
theorem aw14_c14 : xexec aw14F 100000 (cutAt 14 x14.body) aw14l14 aw14h14 aw14w14 = some (.ret, aw14l17, aw14h17, aw14w17) := seg_step (Φ := aw14F) (N := 100000) (k := 14) (x := x14.body) (by kernel_rfl) aw14_14 aw14_c15
theorem aw14_c13 : xexec aw14F 100000 (cutAt 13 x14.body) aw14l13 aw14h13 aw14w13 = some (.ret, aw14l17, aw14h17, aw14w17) := seg_step (Φ := aw14F) (N := 100000) (k := 13) (x := x14.body) (by kernel_rfl) aw14_13 aw14_c14
theorem aw14_c12 : xexec aw14F 100000 (cutAt 12 x14.body) aw14l12 aw14h12 aw14w12 = some (.ret, aw14l17, aw14h17, aw14w17) := seg_step (Φ := aw14F) (N := 100000) (k := 12) (x := x14.body) (by kernel_rfl) aw14_12 aw14_c13
theorem aw14_c11 : xexec aw14F 100000 (cutAt 11 x14.body) aw14l11 aw14h11 aw14w11 = some (.ret, aw14l17, aw14h17, aw14w17) := seg_step (Φ := aw14F) (N := 100000) (k := 11) (x := x14.body) (by kernel_rfl) aw14_11 aw14_c12
theorem aw14_c10 : xexec aw14F 100000 (cutAt 10 x14.body) aw14l10 aw14h10 aw14w10 = some (.ret, aw14l17, aw14h17, aw14w17) := seg_step (Φ := aw14F) (N := 100000) (k := 10) (x := x14.body) (by kernel_rfl) aw14_10 aw14_c11
theorem aw14_c9 : xexec aw14F 100000 (cutAt 9 x14.body) aw14l9 aw14h9 aw14w9 = some (.ret, aw14l17, aw14h17, aw14w17) := seg_step (Φ := aw14F) (N := 100000) (k := 9) (x := x14.body) (by kernel_rfl) aw14_9 aw14_c10
theorem aw14_c8 : xexec aw14F 100000 (cutAt 8 x14.body) aw14l8 aw14h8 aw14w8 = some (.ret, aw14l17, aw14h17, aw14w17) := seg_step (Φ := aw14F) (N := 100000) (k := 8) (x := x14.body) (by kernel_rfl) aw14_8 aw14_c9
theorem aw14_c7 : xexec aw14F 100000 (cutAt 7 x14.body) aw14l7 aw14h7 aw14w7 = some (.ret, aw14l17, aw14h17, aw14w17) := seg_step (Φ := aw14F) (N := 100000) (k := 7) (x := x14.body) (by kernel_rfl) aw14_7 aw14_c8
theorem aw14_c6 : xexec aw14F 100000 (cutAt 6 x14.body) aw14l6 aw14h6 aw14w6 = some (.ret, aw14l17, aw14h17, aw14w17) := seg_step (Φ := aw14F) (N := 100000) (k := 6) (x := x14.body) (by kernel_rfl) aw14_6 aw14_c7
theorem aw14_c5 : xexec aw14F 100000 (cutAt 5 x14.body) aw14l5 aw14h5 aw14w5 = some (.ret, aw14l17, aw14h17, aw14w17) := seg_step (Φ := aw14F) (N := 100000) (k := 5) (x := x14.body) (by kernel_rfl) aw14_5 aw14_c6
theorem aw14_c4 : xexec aw14F 100000 (cutAt 4 x14.body) aw14l4 aw14h4 aw14w4 = some (.ret, aw14l17, aw14h17, aw14w17) := seg_step (Φ := aw14F) (N := 100000) (k := 4) (x := x14.body) (by kernel_rfl) aw14_4 aw14_c5
theorem aw14_c3 : xexec aw14F 100000 (cutAt 3 x14.body) aw14l3 aw14h3 aw14w3 = some (.ret, aw14l17, aw14h17, aw14w17) := seg_step (Φ := aw14F) (N := 100000) (k := 3) (x := x14.body) (by kernel_rfl) aw14_3 aw14_c4
theorem aw14_c2 : xexec aw14F 100000 (cutAt 2 x14.body) aw14l2 aw14h2 aw14w2 = some (.ret, aw14l17, aw14h17, aw14w17) := seg_step (Φ := aw14F) (N := 100000) (k := 2) (x := x14.body) (by kernel_rfl) aw14_2 aw14_c3
theorem aw14_c1 : xexec aw14F 100000 (cutAt 1 x14.body) aw14l1 aw14h1 aw14w1 = some (.ret, aw14l17, aw14h17, aw14w17) := seg_step (Φ := aw14F) (N := 100000) (k := 1) (x := x14.body) (by kernel_rfl) aw14_1 aw14_c2
theorem aw14_c0 : xexec aw14F 100000 (cutAt 0 x14.body) .nil [] [] = some (.ret, aw14l17, aw14h17, aw14w17) := seg_step (Φ := aw14F) (N := 100000) (k := 0) (x := x14.body) (by kernel_rfl) aw14_0 aw14_c1
theorem aw14_all : xexec aw14F 100000 x14.body .nil [] [] = some (.ret, aw14l17, aw14h17, aw14w17) := aw14_c0
theorem awake14 : saysTrue (xcall (lookX L48) S48 100000 40 14 [] []) = true := says_of (xcall_step (X := lookX L48) (S := S48) (d := 39) (xf := x14) (b := .nil) (by kernel_rfl) (by kernel_rfl) (by kernel_rfl) aw14_all (by decide) (vs := [.bool true]) (by kernel_rfl)) (by kernel_rfl)
end Go.Proofs.YtalbjkemcckokaaGreat.Ab

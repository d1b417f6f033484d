/- The examples of function 13, reckoned by the kernel in pieces: further pieces. Conditions: none. -/
import Derived.Test.YtfpnapihhgjgaaaHe
namespace Go.Proofs.Ytfpnapihhgjgaaa.Ab
set_option linter.unusedVariables false
set_option maxRecDepth 1000000

theorem aw13_7 : xexec aw13F 100000 (segAt 7 x13.body) aw13l7 aw13h7 aw13w7 = some (.normal, aw13l8, aw13h8, aw13w8) := okN_eq (by kernel_rfl)
theorem aw13_8 : xexec aw13F 100000 (segAt 8 x13.body) aw13l8 aw13h8 aw13w8 = some (.normal, aw13l9, aw13h9, aw13w9) := okN_eq (by kernel_rfl)
theorem aw13_9 : xexec aw13F 100000 (segAt 9 x13.body) aw13l9 aw13h9 aw13w9 = some (.normal, aw13l10, aw13h10, aw13w10) := okN_eq (by kernel_rfl)
theorem aw13_10 : xexec aw13F 100000 (segAt 10 x13.body) aw13l10 aw13h10 aw13w10 = some (.normal, aw13l11, aw13h11, aw13w11) := okN_eq (by kernel_rfl)
theorem aw13_11 : xexec aw13F 100000 (segAt 11 x13.body) aw13l11 aw13h11 aw13w11 = some (.normal, aw13l12, aw13h12, aw13w12) := okN_eq (by kernel_rfl)
theorem aw13_12 : xexec aw13F 100000 (segAt 12 x13.body) aw13l12 aw13h12 aw13w12 = some (.normal, aw13l13, aw13h13, aw13w13) := okN_eq (by kernel_rfl)
theorem aw13_13 : xexec aw13F 100000 (segAt 13 x13.body) aw13l13 aw13h13 aw13w13 = some (.normal, aw13l14, aw13h14, aw13w14) := okN_eq (by kernel_rfl)
theorem aw13_14 : xexec aw13F 100000 (cutAt 14 x13.body) aw13l14 aw13h14 aw13w14 = some (.ret, aw13l15, aw13h15, aw13w15) := okR_eq (by kernel_rfl)
theorem aw13_c14 : xexec aw13F 100000 (cutAt 14 x13.body) aw13l14 aw13h14 aw13w14 = some (.ret, aw13l15, aw13h15, aw13w15) := aw13_14
theorem aw13_c13 : xexec aw13F 100000 (cutAt 13 x13.body) aw13l13 aw13h13 aw13w13 = some (.ret, aw13l15, aw13h15, aw13w15) := seg_step (Φ := aw13F) (N := 100000) (k := 13) (x := x13.body) (by kernel_rfl) aw13_13 aw13_c14
theorem aw13_c12 : xexec aw13F 100000 (cutAt 12 x13.body) aw13l12 aw13h12 aw13w12 = some (.ret, aw13l15, aw13h15, aw13w15) := seg_step (Φ := aw13F) (N := 100000) (k := 12) (x := x13.body) (by kernel_rfl) aw13_12 aw13_c13
theorem aw13_c11 : xexec aw13F 100000 (cutAt 11 x13.body) aw13l11 aw13h11 aw13w11 = some (.ret, aw13l15, aw13h15, aw13w15) := seg_step (Φ := aw13F) (N := 100000) (k := 11) (x := x13.body) (by kernel_rfl) aw13_11 aw13_c12
theorem aw13_c10 : xexec aw13F 100000 (cutAt 10 x13.body) aw13l10 aw13h10 aw13w10 = some (.ret, aw13l15, aw13h15, aw13w15) := seg_step (Φ := aw13F) (N := 100000) (k := 10) (x := x13.body) (by kernel_rfl) aw13_10 aw13_c11
theorem aw13_c9 : xexec aw13F 100000 (cutAt 9 x13.body) aw13l9 aw13h9 aw13w9 = some (.ret, aw13l15, aw13h15, aw13w15) := seg_step (Φ := aw13F) (N := 100000) (k := 9) (x := x13.body) (by kernel_rfl) aw13_9 aw13_c10
theorem aw13_c8 : xexec aw13F 100000 (cutAt 8 x13.body) aw13l8 aw13h8 aw13w8 = some (.ret, aw13l15, aw13h15, aw13w15) := seg_step (Φ := aw13F) (N := 100000) (k := 8) (x := x13.body) (by kernel_rfl) aw13_8 aw13_c9
theorem aw13_c7 : xexec aw13F 100000 (cutAt 7 x13.body) aw13l7 aw13h7 aw13w7 = some (.ret, aw13l15, aw13h15, aw13w15) := seg_step (Φ := aw13F) (N := 100000) (k := 7) (x := x13.body) (by kernel_rfl) aw13_7 aw13_c8
theorem aw13_c6 : xexec aw13F 100000 (cutAt 6 x13.body) aw13l6 aw13h6 aw13w6 = some (.ret, aw13l15, aw13h15, aw13w15) := seg_step (Φ := aw13F) (N := 100000) (k := 6) (x := x13.body) (by kernel_rfl) aw13_6 aw13_c7
theorem aw13_c5 : xexec aw13F 100000 (cutAt 5 x13.body) aw13l5 aw13h5 aw13w5 = some (.ret, aw13l15, aw13h15, aw13w15) := seg_step (Φ := aw13F) (N := 100000) (k := 5) (x := x13.body) (by kernel_rfl) aw13_5 aw13_c6
theorem aw13_c4 : xexec aw13F 100000 (cutAt 4 x13.body) aw13l4 aw13h4 aw13w4 = some (.ret, aw13l15, aw13h15, aw13w15) := seg_step (Φ := aw13F) (N := 100000) (k := 4) (x := x13.body) (by kernel_rfl) aw13_4 aw13_c5
theorem aw13_c3 : xexec aw13F 100000 (cutAt 3 x13.body) aw13l3 aw13h3 aw13w3 = some (.ret, aw13l15, aw13h15, aw13w15) := seg_step (Φ := aw13F) (N := 100000) (k := 3) (x := x13.body) (by kernel_rfl) aw13_3 aw13_c4
theorem aw13_c2 : xexec aw13F 100000 (cutAt 2 x13.body) aw13l2 aw13h2 aw13w2 = some (.ret, aw13l15, aw13h15, aw13w15) := seg_step (Φ := aw13F) (N := 100000) (k := 2) (x := x13.body) (by kernel_rfl) aw13_2 aw13_c3
theorem aw13_c1 : xexec aw13F 100000 (cutAt 1 x13.body) aw13l1 aw13h1 aw13w1 = some (.ret, aw13l15, aw13h15, aw13w15) := seg_step (Φ := aw13F) (N := 100000) (k := 1) (x := x13.body) (by kernel_rfl) aw13_1 aw13_c2
theorem aw13_c0 : xexec aw13F 100000 (cutAt 0 x13.body) .nil [] [] = some (.ret, aw13l15, aw13h15, aw13w15) := seg_step (Φ := aw13F) (N := 100000) (k := 0) (x := x13.body) (by kernel_rfl) aw13_0 aw13_c1
theorem aw13_all : xexec aw13F 100000 x13.body .nil [] [] = some (.ret, aw13l15, aw13h15, aw13w15) := aw13_c0
theorem awake13 : saysTrue (xcall (lookX L49) S49 100000 30 13 [] []) = true := says_of (xcall_step (X := lookX L49) (S := S49) (d := 29) (xf := x13) (b := .nil) (by kernel_rfl) (by kernel_rfl) (by kernel_rfl) aw13_all (by decide) (vs := [.bool true]) (by kernel_rfl)) (by kernel_rfl)
theorem awake_ok (H : AHeap) (fp : Nat → Prop) : ACall Try.prog 13 [] H fp fun v' H' => v' = .bool true ∧ H' = H := acall_true hmix L49_ok S49_good awake13 H fp
end Go.Proofs.Ytfpnapihhgjgaaa.Ab

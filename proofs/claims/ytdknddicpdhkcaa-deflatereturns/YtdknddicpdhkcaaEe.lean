/- Deflate: what is made is decoded to the text; the laws DeflateWraps and DeflateReturns over the abstract layer. Conditions: none; for the statements about layer 47. -/
import Derived.Test.YtdknddicpdhkcaaEd
import Derived.Test.YtdknddicpdhkcaaM2
namespace Go.Proofs.Ytdknddicpdhkcaa.Ab
set_option linter.unusedVariables false
set_option linter.unusedSimpArgs false

theorem loop_stored {M F : Nat} : ∀ (f : Nat) (s pre post out : List UInt8) (G : Nat), s.length < 65535 * f → f ≤ G → out.length + s.length ≤ M →
    loopM (pre ++ (storB f s ++ post)) M F G ⟨8 * pre.length, out, 0⟩ = ⟨8 * (pre.length + (storB f s).length), out ++ s, 0⟩
  | 0, s, pre, post, out, G, h, hG, hM => by omega
  | f + 1, s, pre, post, out, 0, h, hG, hM => by omega
  | f + 1, s, pre, post, out, G + 1, h, hG, hM => by
    rw [storB]
    by_cases c : s.length ≤ 65535
    · rw [if_pos c, stored_step pre s post true ⟨8 * pre.length, out, 0⟩ M F G rfl rfl c (by simp only []; omega), if_pos rfl, blkB_len]
      simp only [Nat.add_assoc]
    · rw [if_neg c]
      have hl : (s.take 65535).length = 65535 := by rw [List.length_take]; omega
      have hsplit : s = s.take 65535 ++ s.drop 65535 := (List.take_append_drop 65535 s).symm
      have hdl : (s.drop 65535).length = s.length - 65535 := List.length_drop
      generalize s.take 65535 = a at *
      generalize s.drop 65535 = r at *
      rw [List.append_assoc, stored_step pre a (storB f r ++ post) false ⟨8 * pre.length, out, 0⟩ M F G rfl rfl (by omega) (by simp only []; omega)]
      simp only [Bool.false_eq_true, if_false]
      have ih := loop_stored (M := M) (F := F) f r (pre ++ blkB a false) post (out ++ a) G (by omega) (by omega) (by rw [List.length_append]; omega)
      rw [List.append_assoc] at ih
      rw [List.length_append, blkB_len, ← Nat.add_assoc] at ih
      rw [ih, hsplit]
      simp only [List.length_append, blkB_len, List.append_assoc, St.mk.injEq, and_self, and_true]; omega

theorem infl_stored {s post : List UInt8} {n : Int} (hn : n = s.length) (hs : s.length ≤ 1048576) {F : Nat} (hF : s.length < F) : inflM (storedB s ++ post) n F = (s, (storedB s).length, 0) := by
  have hM : clampN n = s.length := by unfold clampN; omega
  have key := loop_stored (M := s.length) (F := F) (s.length / 65535 + 1) s [] post [] F (by omega) (by omega) (by simp)
  simp only [List.nil_append, List.length_nil, Nat.mul_zero, Nat.zero_add] at key
  rw [inflM, hM]
  unfold storedB
  rw [key]
  simp only [ne_eq, not_true_eq_false, if_false, Prod.mk.injEq, and_true, true_and]
  omega

theorem infl_best {s post : List UInt8} {n : Int} (hn : n = s.length) (hs : s.length ≤ 1048576) {F : Nat} (hF : s.length < F) : inflM (bestB s ++ post) n F = (s, (bestB s).length, 0) := by
  unfold bestB
  split
  · exact infl_fix hn hs hF
  · exact infl_stored hn hs hF

theorem be32_be {n : Nat} (h : n < 2 ^ 32) : be32 (beB n) = n := by
  simp [be32, beB, chr]; omega

theorem zlib_back {s : List UInt8} {n : Int} (hn : n = s.length) (hs : s.length ≤ 1048576) {F : Nat} (hF : s.length < F) : zlibM (zlibB s) n F = (s, 0) := by
  have hS : zlibB s = 120 :: 1 :: (bestB s ++ beB (adlerN s)) := by simp [zlibB]
  have hd : (zlibB s).drop 2 = bestB s ++ beB (adlerN s) := by rw [hS]; rfl
  have h0 : chr (zlibB s) 0 = 120 := by rw [hS]; rfl
  have h1 : chr (zlibB s) 1 = 1 := by rw [hS]; rfl
  have hl : ¬ (zlibB s).length < 2 := by rw [hS]; simp
  have hz : ¬ zbad (120 : UInt8).toNat (1 : UInt8).toNat := by decide
  unfold zlibM
  rw [if_neg hl, h0, h1, if_neg hz, hd, infl_best hn hs hF]
  unfold zrest
  rw [if_neg (by simp)]
  have hr : (zlibB s).drop (2 + (bestB s).length) = beB (adlerN s) := by
    rw [← List.drop_drop, hd, List.drop_left]
  simp only [hr]
  unfold ztail
  rw [be32_be (adlerN_lt s), if_neg (by simp [beB]), if_neg (by simp), if_neg (by simp [beB])]

section
variable {s : List UInt8} {H : AHeap} {fp : Nat → Prop}

/-- The law DeflateWraps, over the abstract layer. -/
theorem law5_ok : ACall Try.prog 5 [.str s] H fp fun v' H' => v' = .bool true ∧ H' = H := by
  refine acall_of hmix Try.func5 x5_ok (by simp) ?_
  by_cases c : 6000 < s.length
  · simp (config := {contextual := true, implicitDefEqProofs := false}) (disch := omega) [show (6000 : Int) < s.length by omega, c]
  · simp (config := {contextual := true, implicitDefEqProofs := false}) (disch := omega) [show ¬ (6000 : Int) < s.length by omega, c]
    refine call1_eq (Best_ok (by omega)) ?_
    simp (config := {contextual := true, implicitDefEqProofs := false}) (disch := omega)
    refine call1_eq (rBest_ok (by omega)) ?_
    simp (config := {contextual := true, implicitDefEqProofs := false}) (disch := omega)
    refine call1_eq (Zlib_ok (by omega)) ?_
    simp (config := {contextual := true, implicitDefEqProofs := false}) (disch := omega)
    refine call1_eq (rZlib_ok (by omega)) ?_
    simp (config := {contextual := true, implicitDefEqProofs := false}) (disch := omega)
    refine call1_eq (example13_ok _ _) ?_
    simp

def inv10 (H : AHeap) (s a b c : List UInt8) (n : Nat) (env : Env) (H' : AHeap) : Prop :=
  ∃ i, i ≤ 3 ∧ n = 3 - i ∧ H' = H ++ [.cells 0 false 9 [.str a, .str b, .str c]] ∧ env 0 = .str s ∧ env 3 = .slice H.length 0 0 3 1 ∧ env 4 = .int .i64 (i : Nat)

/-- The law DeflateReturns, over the abstract layer. -/
theorem law10_ok : ACall Try.prog 10 [.str s] H fp fun v' H' => v' = .bool true ∧ H' = H := by
  refine (ACall.drop (R := fun v' _ => v' = .bool true) ?_ (by rintro v' H' rfl; rfl)).mono fun v' H' q => ⟨q.2.elim fun _ q => q.1, q.1⟩
  refine acall_of hmix Try.func10 x10_ok (by simp) ?_
  by_cases c : 1048576 < s.length
  · simp (config := {contextual := true, implicitDefEqProofs := false}) (disch := omega) [show (1048576 : Int) < s.length by omega, c]
  have hs : s.length ≤ 1048576 := by omega
  have hl1 := storedB_len s
  have hl2 := (fixB_facts s).2
  have hpl := (pk_facts (fixB s) (fixB_facts s).1).1
  have hl3 := bestB_len s
  simp (config := {contextual := true, implicitDefEqProofs := false}) (disch := omega) [show ¬ (1048576 : Int) < s.length by omega, c]
  refine call1_eq (Stored_ok hs) ?_
  simp (config := {contextual := true, implicitDefEqProofs := false}) (disch := omega)
  refine call1_eq (fixed11_ok hs) ?_
  simp (config := {contextual := true, implicitDefEqProofs := false}) (disch := omega)
  refine call1_eq (Best_ok hs) ?_
  simp (config := {contextual := true, implicitDefEqProofs := false}) (disch := omega) [afill, zrep]
  refine vc_loop (inv10 H s (storedB s) (pack (fixB s)) (bestB s)) 3 ⟨0, by omega, by omega, rfl, by simp, by simp, by simp⟩ ?_
  rintro n env H1 ⟨i, hi, rfl, rfl, e0, e3, e4⟩
  by_cases hlt : i < 3
  · obtain ⟨x, hx1, hx2, hx3⟩ : ∃ x : List UInt8, [AVal.str (storedB s), .str (pack (fixB s)), .str (bestB s)][i]? = some (.str x) ∧ (x.length ≤ 2 ^ 50) ∧ inflM x s.length (8 * x.length + s.length + 1) = (s, x.length, 0) := by
      have k1 := infl_stored (s := s) (post := []) rfl hs (F := 8 * (storedB s).length + s.length + 1) (by omega)
      have k2 := infl_fix (s := s) (post := []) rfl hs (F := 8 * (pack (fixB s)).length + s.length + 1) (by omega)
      have k3 := infl_best (s := s) (post := []) rfl hs (F := 8 * (bestB s).length + s.length + 1) (by omega)
      rw [List.append_nil] at k1 k2 k3
      obtain rfl | rfl | rfl : i = 0 ∨ i = 1 ∨ i = 2 := by omega
      · exact ⟨_, rfl, by omega, k1⟩
      · exact ⟨_, rfl, by omega, k2⟩
      · exact ⟨_, rfl, by omega, k3⟩
    have hz := inflate_ok (s := x) (H := H ++ [.cells 0 false 9 [.str (storedB s), .str (pack (fixB s)), .str (bestB s)]]) (fp := fun r => H.length ≤ r) (n := s.length) (F := 8 * x.length + s.length + 1) hx2 (by omega)
    rw [hx3] at hz
    have ld : aload (H ++ [.cells 0 false 9 [.str (storedB s), .str (pack (fixB s)), .str (bestB s)]]) H.length 0 i = some (.str x) := by
      rw [aload_new0, aload_zero, if_pos rfl]; exact hx1
    simp (config := {contextual := true, implicitDefEqProofs := false}) (disch := omega) [e0, e3, e4, hlt, ld, show (i : Int) < 3 by omega]
    refine call1_eq hz ?_
    simp (config := {contextual := true, implicitDefEqProofs := false}) (disch := omega) [e0, e3, e4, hlt, ld, i64_id, show (i : Int) < 3 by omega]
    exact again_iff (3 - (i + 1)) (by omega) ⟨i + 1, by omega, rfl, rfl, by simp [e0], by simp [e3], by simp⟩
  · have hi2 : i = 3 := by omega
    subst hi2
    have hzl : (zlibB s).length ≤ 2 ^ 49 := by simp [zlibB, beB]; omega
    have hz := zlib_ok (s := zlibB s) (H := H ++ [.cells 0 false 9 [.str (storedB s), .str (pack (fixB s)), .str (bestB s)]]) (fp := fun r => H.length ≤ r) (n := s.length) (F := 8 * (zlibB s).length + s.length + 1) hzl (by omega)
    rw [zlib_back rfl hs (by omega)] at hz
    simp (config := {contextual := true, implicitDefEqProofs := false}) (disch := omega) [e0, e3, e4]
    refine call1_eq (Zlib_ok hs) ?_
    simp (config := {contextual := true, implicitDefEqProofs := false}) (disch := omega) [e0]
    refine call1_eq hz ?_
    simp (config := {contextual := true, implicitDefEqProofs := false}) (disch := omega) [e0]
    refine call1_eq (example13_ok _ _) ?_
    simp
end
end Go.Proofs.Ytdknddicpdhkcaa.Ab

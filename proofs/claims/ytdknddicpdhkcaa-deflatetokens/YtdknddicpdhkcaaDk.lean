/- The law DeflateTokens over the abstract layer. Conditions: none; for the statements about layer 47. -/
import Derived.Test.YtdknddicpdhkcaaDj
namespace Go.Proofs.Ytdknddicpdhkcaa.Ab
set_option linter.unusedVariables false
set_option linter.unusedSimpArgs false

theorem len_more0 : ∀ n : Fin 259, 3 ≤ n.val → n.val - (lenR n.val).2.1 < 2 ^ (lenR n.val).2.2 := by decide +kernel
theorem len_more {n : Nat} (h : 3 ≤ n) (h2 : n ≤ 258) : n - (lenR n).2.1 < 2 ^ (lenR n).2.2 := len_more0 ⟨n, by omega⟩ h
theorem dist_more0 : ∀ x : Fin 64, ∀ y : Fin 65, 1 ≤ x.val * 64 + y.val → x.val * 64 + y.val - (distR (x.val * 64 + y.val)).2.1 < 2 ^ (distR (x.val * 64 + y.val)).2.2 := by decide +kernel
theorem dist_more {d : Nat} (h1 : 1 ≤ d) (h2 : d ≤ 4096) : d - (distR d).2.1 < 2 ^ (distR d).2.2 := by
  by_cases c : d = 4096
  · subst c; exact dist_more0 63 64 (by decide)
  · have := dist_more0 ⟨d / 64, by omega⟩ ⟨d % 64, by omega⟩ (by simp only []; omega)
    simp only [show d / 64 * 64 + d % 64 = d by omega] at this
    exact this
theorem matchB_bit (n d : Nat) : ∀ b ∈ matchB n d, b ≤ 1 := by
  intro b hb
  unfold matchB at hb
  simp only [List.mem_append] at hb
  rcases hb with (hb | hb) | (hb | hb)
  · exact symB_bit _ b hb
  · exact numB_bit _ _ b hb
  · exact codeB_bit _ _ b hb
  · exact numB_bit _ _ b hb
theorem bodyB_facts (s : List UInt8) : ∀ F p, (∀ b ∈ bodyB s F p, b ≤ 1) ∧ (bodyB s F p).length ≤ 40 * (s.length - p)
  | 0, p => by simp [bodyB]
  | F + 1, p => by
    rw [bodyB]
    split
    · rename_i hp
      split
      · obtain ⟨h1, h2⟩ := bodyB_facts s F (p + 1)
        have := symB_len (chr s p).toNat
        refine ⟨fun b hb => ?_, by rw [List.length_append]; omega⟩
        rcases List.mem_append.1 hb with hb | hb
        · exact symB_bit _ b hb
        · exact h1 b hb
      · rename_i hm
        obtain ⟨b1, b2, b3, b4, b5⟩ := matchR_bounds s p hm
        obtain ⟨h1, h2⟩ := bodyB_facts s F (p + (matchR s p).1)
        have := matchB_len b1 b2 b3 b4
        refine ⟨fun b hb => ?_, by rw [List.length_append]; omega⟩
        rcases List.mem_append.1 hb with hb | hb
        · exact matchB_bit _ _ b hb
        · exact h1 b hb
    · simp
theorem fixB_facts (s : List UInt8) : (∀ b ∈ fixB s, b ≤ 1) ∧ (fixB s).length ≤ 12 + 40 * s.length := by
  obtain ⟨h1, h2⟩ := bodyB_facts s (s.length + 1) 0
  have := symB_len 256
  unfold fixB
  refine ⟨fun b hb => ?_, by simp only [List.length_append, numB_len]; omega⟩
  simp only [List.mem_append] at hb
  rcases hb with ((hb | hb) | hb) | hb
  · exact numB_bit _ _ b hb
  · exact numB_bit _ _ b hb
  · exact h1 b hb
  · exact symB_bit _ b hb

section
variable {s : List UInt8} {H : AHeap} {fp : Nat → Prop}

def inv4 (H : AHeap) (s : List UInt8) (n : Nat) (env : Env) (H' : AHeap) : Prop :=
  ∃ q pre, q ≤ s.length ∧ s.length - q < n ∧ H' = H ++ [tkB (pack (fixB s)) (List.length pre)] ∧ fixB s = pre ++ (bodyB s n q ++ symB 256) ∧ env 0 = .str s ∧ env 3 = .ptr H.length 0 0 ∧ env 4 = .int .i64 q

theorem law4_ok : ACall Try.prog 4 [.str s] H fp fun v' H' => v' = .bool true ∧ H' = H := by
  refine (ACall.drop (R := fun v' _ => v' = .bool true) ?_ (by rintro v' H' rfl; rfl)).mono fun v' H' q => ⟨q.2.elim fun _ q => q.1, q.1⟩
  refine acall_of hmix Try.func4 x4_ok (by simp) ?_
  by_cases c : 6000 < s.length
  · simp (config := {contextual := true, implicitDefEqProofs := false}) (disch := omega) [show (6000 : Int) < s.length by omega, c]
  obtain ⟨hb, hbl⟩ := fixB_facts s
  have hpl := (pk_facts (fixB s) hb).1
  simp (config := {contextual := true, implicitDefEqProofs := false}) (disch := omega) [show ¬ (6000 : Int) < s.length by omega, c]
  refine call1_eq (fixed11_ok (by omega)) ?_
  have hSl : (pack (fixB s)).length ≤ 2 ^ 40 := by omega
  have hP : ∀ a, (H ++ [tkB (pack (fixB s)) a])[H.length]? = some (tkB (pack (fixB s)) a) := fun a => by simp
  have hS : ∀ a b, (H ++ [tkB (pack (fixB s)) a]).set H.length (tkB (pack (fixB s)) b) = H ++ [tkB (pack (fixB s)) b] := fun a b => by rw [List.set_append_right _ _ (Nat.le_refl _)]; simp
  have hfix : fixB s = numB 1 1 ++ (numB 1 2 ++ (bodyB s (s.length + 1) 0 ++ symB 256)) := by simp [fixB, List.append_assoc]
  have hn1 : bitsV (pack (fixB s)) 0 1 = 1 := by
    have h : ∀ b ∈ [] ++ (numB 1 1 ++ (numB 1 2 ++ (bodyB s (s.length + 1) 0 ++ symB 256))), b ≤ 1 := by rw [List.nil_append, ← hfix]; exact hb
    have := num_back (pre := []) h
    rw [List.nil_append, ← hfix] at this
    exact this
  have hn2 : bitsV (pack (fixB s)) 1 2 = 1 := by
    have h : ∀ b ∈ numB 1 1 ++ (numB 1 2 ++ (bodyB s (s.length + 1) 0 ++ symB 256)), b ≤ 1 := by rw [← hfix]; exact hb
    have := num_back (pre := numB 1 1) h
    rw [← hfix] at this
    exact this
  have w0 := num14_ok (hP 0) hSl (by omega) (N := 1) (by omega)
  have w1 := num14_ok (hP 1) hSl (by omega) (N := 2) (by omega)
  rw [hn1, hS] at w0
  rw [hn2, hS] at w1
  simp (config := {contextual := true, implicitDefEqProofs := false}) (disch := omega) [afill]
  refine call1_eq (w0.use (fun r h => Or.inl (by omega)) fun v H' q _ _ => q) ?_
  simp (config := {contextual := true, implicitDefEqProofs := false}) (disch := omega)
  refine call1_eq (w1.use (fun r h => Or.inl (by omega)) fun v H' q _ _ => q) ?_
  simp (config := {contextual := true, implicitDefEqProofs := false}) (disch := omega)
  refine vc_loop (inv4 H s) (s.length + 1) ⟨0, numB 1 1 ++ numB 1 2, by omega, by omega, by simp, by rw [hfix]; simp [List.append_assoc], by simp, by simp, by simp⟩ ?_
  rintro n env H3 ⟨q, pre, hq, hn, rfl, hT, e0, e3, e4⟩
  obtain ⟨n', rfl⟩ : ∃ n', n = n' + 1 := ⟨n - 1, by omega⟩
  rw [bodyB] at hT
  have hprel : pre.length ≤ 12 + 40 * s.length := by
    have := congrArg List.length hT
    rw [List.length_append] at this; omega
  -- reading
  have rsym : ∀ (pr post : List Nat) (v : Nat), v < 288 → fixB s = pr ++ (symB v ++ post) → ACall Try.prog 16 [.ptr H.length 0 0] (H ++ [tkB (pack (fixB s)) pr.length]) (fun r => H.length ≤ r) fun u H' => u = .int .i64 (v : Int) ∧ H' = H ++ [tkB (pack (fixB s)) (pr ++ symB v).length] := by
    intro pr post v hv h
    have hb2 : ∀ b ∈ pr ++ (symB v ++ post), b ≤ 1 := by rw [← h]; exact hb
    have hk := sym_back hv hb2
    rw [← h] at hk
    have hl : pr.length ≤ 12 + 40 * s.length := by have := congrArg List.length h; rw [List.length_append] at this; omega
    have := sym16_ok (hP pr.length) hSl (by omega)
    rw [hk, hS] at this
    rw [List.length_append]
    exact this.use (fun r h => Or.inl (by omega)) fun v H' q _ _ => q
  have rnum : ∀ (pr post : List Nat) (x N : Nat), N ≤ 20 → x < 2 ^ N → fixB s = pr ++ (numB x N ++ post) → ACall Try.prog 14 [.ptr H.length 0 0, .int .i64 N] (H ++ [tkB (pack (fixB s)) pr.length]) (fun r => H.length ≤ r) fun u H' => u = .int .i64 (x : Int) ∧ H' = H ++ [tkB (pack (fixB s)) (pr ++ numB x N).length] := by
    intro pr post x N hN hx h
    have hb2 : ∀ b ∈ pr ++ (numB x N ++ post), b ≤ 1 := by rw [← h]; exact hb
    have hk := num_back hb2
    rw [← h, Nat.mod_eq_of_lt hx] at hk
    have hl : pr.length ≤ 12 + 40 * s.length := by have := congrArg List.length h; rw [List.length_append] at this; omega
    have := num14_ok (hP pr.length) hSl (by omega) (N := N) (by omega)
    rw [hk, hS] at this
    rw [List.length_append, numB_len]
    exact this.use (fun r h => Or.inl (by omega)) fun v H' q _ _ => q
  have rcode : ∀ (pr post : List Nat) (x : Nat), x < 32 → fixB s = pr ++ (codeB x 5 ++ post) → ACall Try.prog 19 [.ptr H.length 0 0, .int .i64 5] (H ++ [tkB (pack (fixB s)) pr.length]) (fun r => H.length ≤ r) fun u H' => u = .int .i64 (x : Int) ∧ H' = H ++ [tkB (pack (fixB s)) (pr ++ codeB x 5).length] := by
    intro pr post x hx h
    have hb2 : ∀ b ∈ pr ++ (codeB x 5 ++ post), b ≤ 1 := by rw [← h]; exact hb
    have hk := code_back hb2 (m := 5) (Nat.le_refl _)
    rw [← h, Nat.sub_self, Nat.pow_zero, Nat.div_one, Nat.mod_eq_of_lt (by simpa using hx)] at hk
    have hl : pr.length ≤ 12 + 40 * s.length := by have := congrArg List.length h; rw [List.length_append] at this; omega
    have := code19_ok (hP pr.length) hSl (by omega) (N := 5) (by omega)
    rw [hk, hS] at this
    rw [List.length_append, codeB_len]
    exact this.use (fun r h => Or.inl (by omega)) fun v H' q _ _ => q
  by_cases hlt : q < s.length
  · rw [if_pos hlt] at hT
    simp (config := {contextual := true, implicitDefEqProofs := false}) (disch := omega) [e0, e3, e4, hlt]
    refine call1_eq (match15_ok (by omega) (by omega)) ?_
    simp (config := {contextual := true, implicitDefEqProofs := false}) (disch := omega) [e0, e3, e4]
    by_cases hm : (matchR s q).1 = 0
    · rw [if_pos hm, List.append_assoc] at hT
      have hc := UInt8.toNat_lt (chr s q)
      refine call1_eq (rsym pre _ _ (by omega) hT) ?_
      have a1 : abin .add (.int .i64 (q : Int)) (.int .i64 1) = some (.int .i64 ((q + 1 : Nat) : Int)) := addN (b := 1) (by omega)
      simp (config := {contextual := true, implicitDefEqProofs := false}) (disch := omega) [e0, e3, e4, hm, vIdxStr_nat, hlt, i64_nat, a1, -abin_add, -Int.natCast_add, -List.length_append]
      exact again_iff n' (by omega) ⟨q + 1, pre ++ symB (chr s q).toNat, by omega, by omega, rfl, by rw [hT]; simp [List.append_assoc], by simp [e0], by simp [e3], by simp⟩
    · rw [if_neg hm] at hT
      obtain ⟨b1, b2, b3, b4, b5⟩ := matchR_bounds s q hm
      generalize hmn : (matchR s q).1 = mn at *
      generalize hmd : (matchR s q).2 = md at *
      obtain ⟨f1, f2, f3, f4⟩ := len_facts b1 b2
      obtain ⟨g1, g2, g3⟩ := dist_facts b3 b4
      have f5 := len_more b1 b2
      have g5 := dist_more b3 b4
      have hL := length_ok (x := mn) (H := H ++ [tkB (pack (fixB s)) (pre ++ symB (lenR mn).1).length]) (fp := fun r => H.length ≤ r) (by omega)
      have t1 : fixB s = pre ++ (symB (lenR mn).1 ++ (numB (mn - (lenR mn).2.1) (lenR mn).2.2 ++ (codeB (distR md).1 5 ++ (numB (md - (distR md).2.1) (distR md).2.2 ++ (bodyB s n' (q + mn) ++ symB 256))))) := by rw [hT]; simp [matchB, List.append_assoc]
      have t2 : fixB s = (pre ++ symB (lenR mn).1) ++ (numB (mn - (lenR mn).2.1) (lenR mn).2.2 ++ (codeB (distR md).1 5 ++ (numB (md - (distR md).2.1) (distR md).2.2 ++ (bodyB s n' (q + mn) ++ symB 256)))) := by rw [t1]; simp [List.append_assoc]
      have t3 : fixB s = (pre ++ symB (lenR mn).1 ++ numB (mn - (lenR mn).2.1) (lenR mn).2.2) ++ (codeB (distR md).1 5 ++ (numB (md - (distR md).2.1) (distR md).2.2 ++ (bodyB s n' (q + mn) ++ symB 256))) := by rw [t1]; simp [List.append_assoc]
      have t4 : fixB s = (pre ++ symB (lenR mn).1 ++ numB (mn - (lenR mn).2.1) (lenR mn).2.2 ++ codeB (distR md).1 5) ++ (numB (md - (distR md).2.1) (distR md).2.2 ++ (bodyB s n' (q + mn) ++ symB 256)) := by rw [t1]; simp [List.append_assoc]
      refine call1_eq (rsym pre _ _ (by omega) t1) ?_
      simp (config := {contextual := true, implicitDefEqProofs := false}) (disch := omega) [e0, e3, e4, show ¬ (mn : Int) = 0 by omega, show ¬ mn = 0 by omega, -List.length_append]
      refine call1_eq hL ?_
      have n1 := rnum _ _ _ _ (by omega) f5 t2
      have c1 : abin .add (.int .i64 ((lenR mn).2.1 : Int)) (.int .i64 ((mn - (lenR mn).2.1 : Nat) : Int)) = some (.int .i64 (mn : Int)) := by
        have := addN (a := (lenR mn).2.1) (b := mn - (lenR mn).2.1) (by omega)
        rw [this]; congr 3; omega
      simp (config := {contextual := true, implicitDefEqProofs := false}) (disch := omega) [e0, e3, e4, -List.length_append]
      refine call1_eq n1 ?_
      simp (config := {contextual := true, implicitDefEqProofs := false}) (disch := omega) [e0, e3, e4, c1, -abin_add, -List.length_append]
      refine call1_eq (distance_ok (by omega)) ?_
      simp (config := {contextual := true, implicitDefEqProofs := false}) (disch := omega) [e0, e3, e4, -List.length_append]
      refine call1_eq (rcode _ (numB (md - (distR md).2.1) (distR md).2.2 ++ (bodyB s n' (q + mn) ++ symB 256)) (distR md).1 (by omega) (by rw [t1]; simp [List.append_assoc])) ?_
      have n2 := rnum _ _ _ _ (by omega) g5 (by rw [t1]; simp only [List.append_assoc] : fixB s = (pre ++ (symB (lenR mn).1 ++ (numB (mn - (lenR mn).2.1) (lenR mn).2.2 ++ codeB (distR md).1 5))) ++ (numB (md - (distR md).2.1) (distR md).2.2 ++ (bodyB s n' (q + mn) ++ symB 256)))
      have c2 : abin .add (.int .i64 ((distR md).2.1 : Int)) (.int .i64 ((md - (distR md).2.1 : Nat) : Int)) = some (.int .i64 (md : Int)) := by
        have := addN (a := (distR md).2.1) (b := md - (distR md).2.1) (by omega)
        rw [this]; congr 3; omega
      simp (config := {contextual := true, implicitDefEqProofs := false}) (disch := omega) [e0, e3, e4, -List.length_append]
      refine call1_eq n2 ?_
      have c3 : abin .add (.int .i64 (q : Int)) (.int .i64 (mn : Int)) = some (.int .i64 ((q + mn : Nat) : Int)) := addN (by omega)
      simp (config := {contextual := true, implicitDefEqProofs := false}) (disch := omega) [e0, e3, e4, c2, c3, -abin_add, -Int.natCast_add, -List.length_append]
      exact again_iff n' (by omega) ⟨q + mn, _, by omega, by omega, rfl, by rw [t4]; simp [List.append_assoc], by simp [e0], by simp [e3], by simp⟩
  · rw [if_neg hlt, List.nil_append] at hT
    have hT2 : fixB s = pre ++ (symB 256 ++ []) := by rw [List.append_nil]; exact hT
    simp (config := {contextual := true, implicitDefEqProofs := false}) (disch := omega) [e0, e3, e4, hlt]
    have r0 := rsym pre [] 256 (by omega) hT2
    rw [← hT] at r0
    have gP := ageOk_at (hP (fixB s).length)
    have lP0 : aload (H ++ [tkB (pack (fixB s)) (fixB s).length]) H.length 0 0 = some (.str (pack (fixB s))) := by rw [aload_at (hP _)]; rfl
    have lP1 : aload (H ++ [tkB (pack (fixB s)) (fixB s).length]) H.length 0 1 = some (.int .i64 (fixB s).length) := by rw [aload_at (hP _)]; rfl
    have a7 : abin .add (.int .i64 ((fixB s).length : Int)) (.int .i64 7) = some (.int .i64 (((fixB s).length + 7 : Nat) : Int)) := addN (b := 7) (by omega)
    have q7 : abin .quo (.int .i64 (((fixB s).length + 7 : Nat) : Int)) (.int .i64 8) = some (.int .i64 (((pack (fixB s)).length : Nat) : Int)) := by
      rw [abin_quo (by omega), Int.tdiv_eq_ediv_of_nonneg (by omega), hpl, i64_id (by omega) (by omega)]; rfl
    refine dcall1_eq (r0.use (fun r h => ?_) fun v H' q _ _ => q) ?_
    · left
      exact ⟨h, by simp⟩
    simp (config := {contextual := true, implicitDefEqProofs := false}) (disch := omega) [e0, e3, e4, gP, lP0, lP1, a7, q7, -abin_add, -Int.natCast_add]
    refine dcall1_eq (example13_ok _ _) ?_
    simp
end
end Go.Proofs.Ytdknddicpdhkcaa.Ab

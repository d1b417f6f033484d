/- Deflate: the finder's search; that it is the specification's. Conditions: none; for the statements about layer 47. -/
import Derived.Test.YtdknddicpdhkcaaDd
namespace Go.Proofs.Ytdknddicpdhkcaa.Ab
set_option linter.unusedVariables false
set_option linter.unusedSimpArgs false

section
variable {s : List UInt8} {H : AHeap} {fp : Nat → Prop} {f m v p : Nat}

def inv55 (H : AHeap) (f p : Nat) (s : List UInt8) (n : Nat) (env : Env) (H' : AHeap) : Prop :=
  ∃ D, D ≤ min 4096 p ∧ H' = H ∧ n = p - D + 1 ∧ env 0 = .ptr f 0 0 ∧ env 1 = .int .i64 p ∧ env 6 = .int .i64 (asI (lastP s (key3 s p) (p - D))) ∧ env 4 = .int .i64 (scanC s p D).1 ∧ env 5 = .int .i64 (scanC s p D).2

theorem find_ok (hs : s.length ≤ 2 ^ 40) (hF : FD H f m v s p) (hp : p ≤ s.length) : ACall Try.prog 55 [.ptr f 0 0, .int .i64 p] H fp fun u H' => u = .tuple [.int .i64 (findM s p).1, .int .i64 (findM s p).2] ∧ H' = H := by
  obtain ⟨hf, hvf, ⟨es, hm, hk, hget⟩, g, hv, hg⟩ := hF
  refine acall_of hmix Try.func55 x55_ok (by simp) ?_
  have gf := ageOk_at hf
  have gv := ageOk_at hv
  have lf0 : aload H f 0 0 = some (.str s) := by rw [aload_at hf]; rfl
  have lf1 : aload H f 0 1 = some (.map m) := by rw [aload_at hf]; rfl
  have lf2 : aload H f 0 2 = some (.slice v 0 0 s.length 1) := by rw [aload_at hf]; rfl
  have a3 : abin .add (.int .i64 (p : Int)) (.int .i64 3) = some (.int .i64 ((p + 3 : Nat) : Int)) := addN (b := 3) (by omega)
  have lk := look_ok (s := s) (zero := .int .i64 0) hm hk p
  rw [hget] at lk
  unfold findM
  by_cases c : p + 3 ≤ s.length
  · rw [if_pos c]
    simp (config := {contextual := true, implicitDefEqProofs := false}) (disch := omega) [gf, lf0, lf1, a3, show ¬ (s.length : Int) < ((p + 3 : Nat) : Int) by omega, show ¬ s.length < p + 3 by omega, -abin_add, -Int.natCast_add]
    refine dcall1_eq (key_ok hs c gf lf0) ?_
    cases hlast : lastP s (key3 s p) p with
    | none =>
      rw [hlast] at lk
      have h0 : scanC s p (min 4096 p) = (0, 0) := by
        have := scanC_skip (s := s) (p := p) (D := 0) (D2 := min 4096 p) (by omega) fun d h1 h2 h3 => absurd h3 (lastP_none hlast (p - d) (by omega) (by omega))
        simpa [scanC] using this
      simp (config := {contextual := true, implicitDefEqProofs := false}) (disch := omega) [lk, h0]
    | some q0 =>
      rw [hlast] at lk
      simp (config := {contextual := true, implicitDefEqProofs := false}) (disch := omega) [lk]
      refine vc_loop (inv55 H f p s) (p + 1) ⟨0, by omega, rfl, by omega, by simp, by simp, by simp [hlast, asI], by simp [scanC], by simp [scanC]⟩ ?_
      rintro n env H1 ⟨D, hD, rfl, rfl, e0, e1', e6, e4, e5⟩
      cases hq : lastP s (key3 s p) (p - D) with
      | none =>
        rw [hq] at e6
        have hfin : scanC s p (min 4096 p) = scanC s p D := scanC_skip hD fun d h1 h2 h3 => absurd h3 (lastP_none hq (p - d) (by omega) (by omega))
        simp (config := {contextual := true, implicitDefEqProofs := false}) (disch := omega) [e0, e1', e6, e4, e5, asI, hfin]
      | some q =>
        rw [hq] at e6
        obtain ⟨hq1, hq2, hq3, hq4⟩ := lastP_some hq
        have b1 : abin .sub (.int .i64 (p : Int)) (.int .i64 (q : Int)) = some (.int .i64 ((p - q : Nat) : Int)) := by rw [abin_sub, i64_id (by omega) (by omega)]; congr 2; omega
        simp only [asI] at e6
        by_cases c1 : p - q ≤ 4096
        · by_cases c2 : (scanC s p D).1 < 258
          · have hskip : scanC s p (p - q - 1) = scanC s p D := scanC_skip (by omega) fun d h1 h2 h3 => absurd h3 (hq4 (p - d) (by omega) (by omega) (by omega))
            have hpq : p - (p - q - 1 + 1) = q := by omega
            have hstep : scanC s p (p - q) = if (scanC s p D).1 < com s p q then (com s p q, p - q) else scanC s p D := by
              rw [show p - q = (p - q - 1) + 1 by omega, scanC, hskip, hpq]
              by_cases h : (scanC s p D).1 < com s p q
              · rw [if_pos ⟨hq3, h⟩, if_pos h]
              · rw [if_neg (fun h2 => h h2.2), if_neg h]
            have hnx : g q = asI (lastP s (key3 s p) q) := by rw [hg q (by omega), prevV, if_pos hq2, hq3]
            have hpq2 : p - (p - q) = q := by omega
            have ldv : aload H1 v 0 q = some (.int .i64 (asI (lastP s (key3 s p) q))) := by rw [aload_at hv, Arr_get (by omega), hnx]
            simp (config := {contextual := true, implicitDefEqProofs := false}) (disch := omega) [e0, e1', e6, e4, e5, show (0 : Int) ≤ q by omega, b1, show ((p - q : Nat) : Int) ≤ 4096 by omega, c1, show ((scanC s p D).1 : Int) < 258 by omega, c2, -abin_sub]
            refine call1_eq (flen_ok hs (by omega) (show q ≤ p by omega) gf lf0) ?_
            by_cases c3 : (scanC s p D).1 < com s p q
            · rw [if_pos c3] at hstep
              simp (config := {contextual := true, implicitDefEqProofs := false}) (disch := omega) [e0, e1', e6, e4, e5, show ((scanC s p D).1 : Int) < com s p q by omega, c3, b1, gf, gv, lf2, ldv, show (q : Int) < s.length by omega, show q < s.length by omega, -abin_sub]
              exact again_iff (p - (p - q) + 1) (by omega) ⟨p - q, by omega, rfl, rfl, by simp [e0], by simp [e1'], by rw [hpq2]; simp, by rw [hstep]; simp, by rw [hstep]; simp⟩
            · rw [if_neg c3] at hstep
              simp (config := {contextual := true, implicitDefEqProofs := false}) (disch := omega) [e0, e1', e6, e4, e5, show ¬ ((scanC s p D).1 : Int) < com s p q by omega, c3, b1, gf, gv, lf2, ldv, show (q : Int) < s.length by omega, show q < s.length by omega, -abin_sub]
              exact again_iff (p - (p - q) + 1) (by omega) ⟨p - q, by omega, rfl, rfl, by simp [e0], by simp [e1'], by rw [hpq2]; simp, by rw [hstep]; simp [e4], by rw [hstep]; simp [e5]⟩
          · have hfin : scanC s p (min 4096 p) = scanC s p D := scanC_skip hD fun d h1 h2 h3 => by omega
            simp (config := {contextual := true, implicitDefEqProofs := false}) (disch := omega) [e0, e1', e6, e4, e5, show (0 : Int) ≤ q by omega, b1, show ((p - q : Nat) : Int) ≤ 4096 by omega, c1, show ¬ ((scanC s p D).1 : Int) < 258 by omega, c2, hfin, -abin_sub]
        · have hfin : scanC s p (min 4096 p) = scanC s p D := scanC_skip hD fun d h1 h2 h3 => absurd h3 (hq4 (p - d) (by omega) (by omega) (by omega))
          rw [show min 4096 p = 4096 by omega] at hfin ⊢
          simp (config := {contextual := true, implicitDefEqProofs := false}) (disch := omega) [e0, e1', e6, e4, e5, show (0 : Int) ≤ q by omega, b1, show ¬ ((p - q : Nat) : Int) ≤ 4096 by omega, c1, hfin, -abin_sub]
  · rw [if_neg c]
    simp (config := {contextual := true, implicitDefEqProofs := false}) (disch := omega) [gf, lf0, a3, show (s.length : Int) < ((p + 3 : Nat) : Int) by omega, show s.length < p + 3 by omega, -abin_add, -Int.natCast_add]

/-! ### The search is the specification's -/
theorem comF_zero {s : List UInt8} {p q : Nat} (h : ¬ (p < s.length ∧ chr s p = chr s q)) : com s p q = 0 := by
  unfold com; rw [comF, if_neg (by simpa using h)]
theorem com_small {s : List UInt8} {p q : Nat} (h : p + 3 ≤ s.length → key3 s q ≠ key3 s p) : com s p q < 3 := by
  by_cases c : com s p q < 3
  · exact c
  · exfalso
    have step : ∀ f n, n < 3 → 3 ≤ comF s p q (f + 1) n → p + n < s.length ∧ chr s (p + n) = chr s (q + n) ∧ 3 ≤ comF s p q f (n + 1) := by
      intro f n hn h3
      rw [comF] at h3
      split at h3
      · rename_i hc; exact ⟨hc.1, hc.2, h3⟩
      · omega
    have h0 : 3 ≤ comF s p q 258 0 := by unfold com at c; omega
    obtain ⟨a1, a2, a3⟩ := step 257 0 (by omega) (h0)
    obtain ⟨b1, b2, b3⟩ := step 256 1 (by omega) a3
    obtain ⟨d1, d2, d3⟩ := step 255 2 (by omega) b3
    refine h (by omega) ?_
    simp only [Nat.add_zero] at a2
    unfold key3
    rw [a2, b2, d2]
theorem com_big {s : List UInt8} {p q : Nat} (h : p + 3 ≤ s.length) (hk : key3 s q = key3 s p) : 3 ≤ com s p q := by
  unfold key3 at hk
  simp only [Prod.mk.injEq] at hk
  have k0 := u8_eq.1 hk.1
  have k1 := u8_eq.1 hk.2.1
  have k2 := u8_eq.1 hk.2.2
  unfold com
  rw [comF, if_pos ⟨by omega, by simpa using k0.symm⟩, comF, if_pos ⟨by omega, k1.symm⟩, comF, if_pos ⟨by omega, k2.symm⟩]
  exact (comF_le s p q 255 3).2
theorem scan_eq {s : List UInt8} {p : Nat} (h : p + 3 ≤ s.length) : ∀ D, (3 ≤ (scanC s p D).1 ∧ refScan s p D = scanC s p D) ∨ (scanC s p D = (0, 0) ∧ (refScan s p D).1 < 3)
  | 0 => .inr ⟨rfl, by simp [refScan]⟩
  | D + 1 => by
    rw [scanC, refScan]
    rcases scan_eq h D with ⟨h1, h2⟩ | ⟨h1, h2⟩
    · left
      rw [h2]
      by_cases c : key3 s (p - (D + 1)) = key3 s p
      · by_cases c2 : (scanC s p D).1 < com s p (p - (D + 1))
        · rw [if_pos ⟨c, c2⟩, if_pos c2]; exact ⟨by simp only []; omega, rfl⟩
        · rw [if_neg (fun h => c2 h.2), if_neg c2]; exact ⟨h1, rfl⟩
      · have := com_small (s := s) (p := p) (q := p - (D + 1)) fun _ => c
        rw [if_neg (fun h => c h.1), if_neg (by omega)]; exact ⟨h1, rfl⟩
    · rw [h1]
      by_cases c : key3 s (p - (D + 1)) = key3 s p
      · have h3 := com_big h c
        left
        rw [if_pos ⟨c, by simp only []; omega⟩, if_pos (by omega)]
        exact ⟨h3, rfl⟩
      · have h3 := com_small (s := s) (p := p) (q := p - (D + 1)) fun _ => c
        right
        rw [if_neg (fun h => c h.1)]
        refine ⟨rfl, ?_⟩
        split
        · exact h3
        · exact h2
/-- A match that is found is the specification's; where none is, there is none. -/
theorem find_match (s : List UInt8) (p : Nat) : (3 ≤ (findM s p).1 ∧ matchR s p = findM s p) ∨ ((findM s p).1 < 3 ∧ matchR s p = (0, 0)) := by
  unfold findM matchR
  by_cases h : p + 3 ≤ s.length
  · rw [if_pos h]
    rcases scan_eq h (min 4096 p) with ⟨h1, h2⟩ | ⟨h1, h2⟩
    · left; rw [h2, if_neg (by omega)]; exact ⟨h1, rfl⟩
    · right; rw [h1, if_pos h2]; exact ⟨by simp, rfl⟩
  · rw [if_neg h]
    right
    refine ⟨by simp, if_pos ?_⟩
    have : ∀ D, (refScan s p D).1 < 3 := by
      intro D
      induction D with
      | zero => simp [refScan]
      | succ D ih =>
        have := com_small (s := s) (p := p) (q := p - (D + 1)) fun h2 => absurd h2 h
        rw [refScan]; split
        · exact this
        · exact ih
    exact this _
theorem match_bounds (s : List UInt8) (p : Nat) (h : 3 ≤ (findM s p).1) : (findM s p).1 ≤ 258 ∧ 1 ≤ (findM s p).2 ∧ (findM s p).2 ≤ 4096 ∧ p + (findM s p).1 ≤ s.length := by
  unfold findM at *
  by_cases c : p + 3 ≤ s.length
  · rw [if_pos c] at *
    obtain ⟨h1, h2, h3⟩ := scanC_le s p (min 4096 p)
    have hcom : ∀ q f n, p + n ≤ s.length → p + comF s p q f n ≤ s.length := by
      intro q f
      induction f with
      | zero => intro n hn; exact hn
      | succ f ih =>
        intro n hn
        rw [comF]; split
        · exact ih _ (by omega)
        · exact hn
    have hall : ∀ D, p + (scanC s p D).1 ≤ s.length := by
      intro D
      induction D with
      | zero => simp [scanC]; omega
      | succ D ih =>
        rw [scanC]; split
        · exact hcom _ _ _ (by omega)
        · exact ih
    exact ⟨h1, by omega, by omega, hall _⟩
  · rw [if_neg c] at h; simp at h

/-! ### The symbols are the specification's -/
theorem rank_dist0 : ∀ x : Fin 64, ∀ y : Fin 65, 1 ≤ x.val * 64 + y.val → rankL (x.val * 64 + y.val) 4 2 (x.val * 64 + y.val + 1) 0 1 = distR (x.val * 64 + y.val) := by decide +kernel
theorem rank_dist {d : Nat} (h1 : 1 ≤ d) (h2 : d ≤ 4096) : rankL d 4 2 (d + 1) 0 1 = distR d := by
  by_cases c : d = 4096
  · subst c; exact rank_dist0 63 64 (by decide)
  · have := rank_dist0 ⟨d / 64, by omega⟩ ⟨d % 64, by omega⟩ (by simp only []; omega)
    simp only [show d / 64 * 64 + d % 64 = d by omega] at this
    exact this
theorem rank_len : ∀ n : Fin 258, 3 ≤ n.val → ((rankL n.val 8 4 (n.val + 1) 0 3).1 + 257, (rankL n.val 8 4 (n.val + 1) 0 3).2) = lenR n.val := by decide +kernel
end
end Go.Proofs.Ytdknddicpdhkcaa.Ab

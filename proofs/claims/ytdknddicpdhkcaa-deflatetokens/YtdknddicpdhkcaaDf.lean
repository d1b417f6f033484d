/- Deflate: one block with fixed codes, by the specification and by the program. Conditions: none; for the statements about layer 47. -/
import Derived.Test.YtdknddicpdhkcaaDe
namespace Go.Proofs.Ytdknddicpdhkcaa.Ab
set_option linter.unusedVariables false
set_option linter.unusedSimpArgs false

def matchB (n d : Nat) : List Nat := (symB (lenR n).1 ++ numB (n - (lenR n).2.1) (lenR n).2.2) ++ (codeB (distR d).1 5 ++ numB (d - (distR d).2.1) (distR d).2.2)
def bodyB (s : List UInt8) : Nat → Nat → List Nat
  | 0, _ => []
  | F + 1, p => if p < s.length then (if (matchR s p).1 = 0 then symB (chr s p).toNat ++ bodyB s F (p + 1) else matchB (matchR s p).1 (matchR s p).2 ++ bodyB s F (p + (matchR s p).1)) else []
def fixB (s : List UInt8) : List Nat := numB 1 1 ++ numB 1 2 ++ bodyB s (s.length + 1) 0 ++ symB 256

theorem len_facts0 : ∀ n : Fin 259, 3 ≤ n.val → 257 ≤ (lenR n.val).1 ∧ (lenR n.val).1 ≤ 285 ∧ (lenR n.val).2.1 ≤ n.val ∧ (lenR n.val).2.2 ≤ 5 := by decide +kernel
theorem len_facts {n : Nat} (h : 3 ≤ n) (h2 : n ≤ 258) : 257 ≤ (lenR n).1 ∧ (lenR n).1 ≤ 285 ∧ (lenR n).2.1 ≤ n ∧ (lenR n).2.2 ≤ 5 := len_facts0 ⟨n, by omega⟩ h
theorem dist_facts0 : ∀ x : Fin 64, ∀ y : Fin 65, 1 ≤ x.val * 64 + y.val → (distR (x.val * 64 + y.val)).1 ≤ 29 ∧ (distR (x.val * 64 + y.val)).2.1 ≤ x.val * 64 + y.val ∧ (distR (x.val * 64 + y.val)).2.2 ≤ 13 := by decide +kernel
theorem dist_facts {d : Nat} (h1 : 1 ≤ d) (h2 : d ≤ 4096) : (distR d).1 ≤ 29 ∧ (distR d).2.1 ≤ d ∧ (distR d).2.2 ≤ 13 := by
  by_cases c : d = 4096
  · subst c; exact dist_facts0 63 64 (by decide)
  · have := dist_facts0 ⟨d / 64, by omega⟩ ⟨d % 64, by omega⟩ (by simp only []; omega)
    simp only [show d / 64 * 64 + d % 64 = d by omega] at this
    exact this
theorem matchB_len {n d : Nat} (h : 3 ≤ n) (h2 : n ≤ 258) (h3 : 1 ≤ d) (h4 : d ≤ 4096) : (matchB n d).length ≤ 40 := by
  have a := len_facts h h2
  have b := dist_facts h3 h4
  have c := symB_len (lenR n).1
  simp [matchB]; omega
/-- What the specification's match is, and how far it reaches. -/
theorem matchR_bounds (s : List UInt8) (p : Nat) (h : (matchR s p).1 ≠ 0) : 3 ≤ (matchR s p).1 ∧ (matchR s p).1 ≤ 258 ∧ 1 ≤ (matchR s p).2 ∧ (matchR s p).2 ≤ 4096 ∧ p + (matchR s p).1 ≤ s.length := by
  rcases find_match s p with ⟨h1, h2⟩ | ⟨_, h2⟩
  · rw [h2]; have := match_bounds s p h1; omega
  · rw [h2] at h; simp at h

section
variable {B : Nat → Prop} {p : Nat} {H H' : AHeap} {l : List Nat} {ety : Nat} {s : List UInt8} {fp : Nat → Prop}

theorem Wd.keep (h : Wd ety B p H l) (hp : H'[p]? = H[p]?) (hk : ∀ r, ¬ B r → r < H.length → H'[r]? = H[r]?) : Wd ety B p H' l := by
  obtain ⟨⟨w, h1, h2⟩, h3⟩ := h
  exact ⟨⟨w, by rw [hp]; exact h1, h2.keep hk⟩, h3⟩
theorem Wd.sub {B' : Nat → Prop} (h : Wd ety B p H l) (hb : ∀ r, r < H.length → B' r → B r) : Wd ety B' p H l := by
  obtain ⟨⟨w, h1, h2⟩, h3⟩ := h
  exact ⟨⟨w, h1, h2.sub hb⟩, h3⟩
theorem FD.keep {f m v q : Nat} (h : FD H f m v s q) (hf : H'[f]? = H[f]?) (hm : H'[m]? = H[m]?) (hv : H'[v]? = H[v]?) : FD H' f m v s q := by
  obtain ⟨h1, h2, ⟨es, h3, h4⟩, g, h5, h6⟩ := h
  exact ⟨by rw [hf]; exact h1, h2, ⟨es, by rw [hm]; exact h3, h4⟩, g, by rw [hv]; exact h5, h6⟩

theorem input33_ok (hs : s.length ≤ 1048576) : ACall Try.prog 33 [.str s] H fp fun v H' => v = .str s ∧ H' = H := by
  refine acall_of hmix Try.func33 x33_ok (by simp) ?_
  have hmin : vMin (.int .i64 (s.length : Int)) (.int .i64 1048576) = some (.int .i64 (s.length : Int)) := by simp only [vMin_int]; rw [if_neg (by omega)]
  have hsl : vSlStr (.str s) none (some (.int .i64 (s.length : Int))) = some (.str s) := by
    have := vSlStr_hi (s := s) (k := .i64) (h := (s.length : Int)) (by omega) (by omega)
    simpa using this
  simp (config := {contextual := true, implicitDefEqProofs := false}) (disch := omega) [hmin, hsl, -vMin_int]
theorem input34_ok (hs : s.length ≤ 1048576) : ACall Try.prog 34 [.str s] H fp fun v H' => v = .str s ∧ H' = H := by
  refine acall_of hmix Try.func34 x34_ok (by simp) ?_
  have hmin : vMin (.int .i64 (s.length : Int)) (.int .i64 1048576) = some (.int .i64 (s.length : Int)) := by simp only [vMin_int]; rw [if_neg (by omega)]
  have hsl : vSlStr (.str s) none (some (.int .i64 (s.length : Int))) = some (.str s) := by
    have := vSlStr_hi (s := s) (k := .i64) (h := (s.length : Int)) (by omega) (by omega)
    simpa using this
  simp (config := {contextual := true, implicitDefEqProofs := false}) (disch := omega) [hmin, hsl, -vMin_int]

def inv12 (s : List UInt8) (T : List Nat) (p : Nat) (n : Nat) (env : Env) (H' : AHeap) : Prop :=
  ∃ q l, q ≤ s.length ∧ s.length - q < n ∧ Wd 55 (fun r => r ≤ p) p H' l ∧ p < H'.length ∧ l.length ≤ 3 + 64 * q ∧ T = l ++ bodyB s n q ++ symB 256 ∧ env 0 = .str s ∧ env 3 = .ptr p 0 0 ∧ env 4 = .int .i64 q

theorem rfixed_ok (hs : s.length ≤ 1048576) : ACall Try.prog 12 [.str s] H fp fun v H' => v = .str (pack (fixB s)) ∧ H' = H := by
  refine (ACall.drop (R := fun v' _ => v' = .str (pack (fixB s))) ?_ (by rintro v' H' rfl; rfl)).mono fun v' H' q => ⟨q.2.elim fun _ q => q.1, q.1⟩
  refine acall_of hmix Try.func12 x12_ok (by simp) ?_
  simp
  refine call1_eq (input34_ok hs) ?_
  simp (config := {contextual := true, implicitDefEqProofs := false}) (disch := omega) [afill]
  have hW0 : Wd 55 (fun r => r ≤ H.length) H.length (H ++ [.cells 0 false 55 [.nilslice, .int .i64 0]]) [] := ⟨⟨.nilslice, by simp [wrBlk], .inl ⟨rfl, rfl⟩⟩, by simp, by simp⟩
  have hfpw : ∀ (L : AHeap) r, (r = H.length ∨ ¬ r ≤ H.length) → H.length ≤ r ∨ L.length ≤ r := fun L r h => by omega
  have hB0 : ∀ r, (fun r => r ≤ H.length) r → r < (H ++ [ABlk.cells 0 false 55 [.nilslice, .int .i64 0]]).length := fun r hr => by rw [List.length_append, List.length_singleton]; exact Nat.lt_succ_of_le hr
  have hn0 := rnum_ok hB0 (Nat.le_refl _) hW0 (x := 1) (N := 1) (by omega) (by omega) (by simp)
  refine call1_of hn0 (hfpw _) ?_
  rintro v H1 ⟨rfl, hW1⟩ hl1 _
  rw [List.length_append, List.length_singleton] at hl1
  simp (config := {contextual := true, implicitDefEqProofs := false}) (disch := omega)
  have hB1 : ∀ r, (fun r => r ≤ H.length) r → r < H1.length := fun r hr => Nat.lt_of_le_of_lt hr (by omega)
  have hn1 := rnum_ok hB1 (Nat.le_refl _) hW1 (x := 1) (N := 2) (by omega) (by omega) (by simp)
  refine call1_of hn1 (hfpw _) ?_
  rintro v H2 ⟨rfl, hW2⟩ hl2 _
  simp (config := {contextual := true, implicitDefEqProofs := false}) (disch := omega)
  rw [List.nil_append] at hW2
  refine vc_loop (inv12 s (fixB s) H.length) (s.length + 1) ⟨0, _, by omega, by omega, hW2, by omega, by simp, rfl, by simp, by simp, by simp⟩ ?_
  rintro n env H3 ⟨q, l, hq, hn, hW, hl3, hll, hT, e0, e3, e4⟩
  obtain ⟨n', rfl⟩ : ∃ n', n = n' + 1 := ⟨n - 1, by omega⟩
  rw [bodyB] at hT
  have hB : ∀ (K : AHeap), H3.length ≤ K.length → ∀ r, r ≤ H.length → r < K.length := fun K h r hr => by omega
  by_cases hlt : q < s.length
  · rw [if_pos hlt] at hT
    simp (config := {contextual := true, implicitDefEqProofs := false}) (disch := omega) [e0, e3, e4, hlt]
    refine call1_eq (match15_ok (by omega) (by omega)) ?_
    by_cases hm : (matchR s q).1 = 0
    · rw [if_pos hm] at hT
      have hc := UInt8.toNat_lt (chr s q)
      have a1 : abin .add (.int .i64 (q : Int)) (.int .i64 1) = some (.int .i64 ((q + 1 : Nat) : Int)) := addN (b := 1) (by omega)
      simp (config := {contextual := true, implicitDefEqProofs := false}) (disch := omega) [e0, e3, e4, hm, vIdxStr_nat, hlt, i64_nat]
      refine call1_of (rsym_ok (hB _ (Nat.le_refl _)) (Nat.le_refl _) hW (v := (chr s q).toNat) (by omega) (by omega)) (hfpw _) ?_
      rintro v H4 ⟨rfl, hW4⟩ hl4 _
      have hsl := symB_len (chr s q).toNat
      simp (config := {contextual := true, implicitDefEqProofs := false}) (disch := omega) [e0, e3, e4, a1, -abin_add, -Int.natCast_add]
      exact again_iff n' (by omega) ⟨q + 1, _, by omega, by omega, hW4, by omega, by rw [List.length_append]; omega, by rw [hT]; simp [List.append_assoc], by simp [e0], by simp [e3], by simp⟩
    · rw [if_neg hm] at hT
      obtain ⟨b1, b2, b3, b4, b5⟩ := matchR_bounds s q hm
      generalize hmn : (matchR s q).1 = mn at *
      generalize hmd : (matchR s q).2 = md at *
      obtain ⟨f1, f2, f3, f4⟩ := len_facts b1 b2
      obtain ⟨g1, g2, g3⟩ := dist_facts b3 b4
      have hml := matchB_len b1 b2 b3 b4
      have hsl := symB_len (lenR mn).1
      simp (config := {contextual := true, implicitDefEqProofs := false}) (disch := omega) [e0, e3, e4, hm, show ¬ (mn : Int) = 0 by omega]
      refine call1_eq (length_ok (by omega)) ?_
      simp (config := {contextual := true, implicitDefEqProofs := false}) (disch := omega) [e0, e3, e4]
      refine call1_of (rsym_ok (hB _ (Nat.le_refl _)) (Nat.le_refl _) hW (v := (lenR mn).1) (by omega) (by omega)) (hfpw _) ?_
      rintro v H4 ⟨rfl, hW4⟩ hl4 _
      have c1 : abin .sub (.int .i64 (mn : Int)) (.int .i64 ((lenR mn).2.1 : Int)) = some (.int .i64 ((mn - (lenR mn).2.1 : Nat) : Int)) := by rw [abin_sub, i64_id (by omega) (by omega)]; congr 2; omega
      simp (config := {contextual := true, implicitDefEqProofs := false}) (disch := omega) [e0, e3, e4, c1, -abin_sub]
      refine call1_of (rnum_ok (hB _ hl4) (Nat.le_refl _) hW4 (x := mn - (lenR mn).2.1) (N := (lenR mn).2.2) (by omega) (by omega) (by rw [List.length_append]; omega)) (hfpw _) ?_
      rintro v H5 ⟨rfl, hW5⟩ hl5 _
      simp (config := {contextual := true, implicitDefEqProofs := false}) (disch := omega) [e0, e3, e4]
      refine call1_eq (distance_ok (by omega)) ?_
      simp (config := {contextual := true, implicitDefEqProofs := false}) (disch := omega) [e0, e3, e4]
      refine call1_of (rcode_ok (hB _ (by omega)) (Nat.le_refl _) hW5 (x := (distR md).1) (N := 5) (by omega) (by omega) (by rw [List.length_append, List.length_append, numB_len]; omega)) (hfpw _) ?_
      rintro v H6 ⟨rfl, hW6⟩ hl6 _
      have c2 : abin .sub (.int .i64 (md : Int)) (.int .i64 ((distR md).2.1 : Int)) = some (.int .i64 ((md - (distR md).2.1 : Nat) : Int)) := by rw [abin_sub, i64_id (by omega) (by omega)]; congr 2; omega
      simp (config := {contextual := true, implicitDefEqProofs := false}) (disch := omega) [e0, e3, e4, c2, -abin_sub]
      refine call1_of (rnum_ok (hB _ (by omega)) (Nat.le_refl _) hW6 (x := md - (distR md).2.1) (N := (distR md).2.2) (by omega) (by omega) (by rw [List.length_append, List.length_append, List.length_append, numB_len, codeB_len]; omega)) (hfpw _) ?_
      rintro v H7 ⟨rfl, hW7⟩ hl7 _
      have c3 : abin .add (.int .i64 (q : Int)) (.int .i64 (mn : Int)) = some (.int .i64 ((q + mn : Nat) : Int)) := addN (by omega)
      simp (config := {contextual := true, implicitDefEqProofs := false}) (disch := omega) [e0, e3, e4, c3, -abin_add, -Int.natCast_add]
      have hW8 : Wd 55 (fun r => r ≤ H.length) H.length H7 (l ++ matchB mn md) := by
        have e : l ++ matchB mn md = l ++ symB (lenR mn).1 ++ numB (mn - (lenR mn).2.1) (lenR mn).2.2 ++ codeB (distR md).1 5 ++ numB (md - (distR md).2.1) (distR md).2.2 := by simp [matchB, List.append_assoc]
        rw [e]; exact hW7
      exact again_iff n' (by omega) ⟨q + mn, _, by omega, by omega, hW8, by omega, by rw [List.length_append]; omega, by rw [hT]; simp [List.append_assoc], by simp [e0], by simp [e3], by simp⟩
  · rw [if_neg hlt] at hT
    simp (config := {contextual := true, implicitDefEqProofs := false}) (disch := omega) [e0, e3, e4, hlt]
    refine call1_of (rsym_ok (hB _ (Nat.le_refl _)) (Nat.le_refl _) hW (v := 256) (by omega) (by omega)) (hfpw _) ?_
    rintro v H4 ⟨rfl, ⟨w, hp4, hw4⟩, _⟩ hl4 _
    have g4 := ageOk_at hp4
    rw [hT, List.append_nil]
    simp (config := {contextual := true, implicitDefEqProofs := false}) (disch := omega) [e0, e3, e4, g4, wd0 hp4, hw4.sl.toStr]
end
end Go.Proofs.Ytdknddicpdhkcaa.Ab

/- Deflate: stored blocks, the reference. Conditions: none; for the statements about layer 47. -/
import Derived.Test.YtdknddicpdhkcaaEa
namespace Go.Proofs.Ytdknddicpdhkcaa.Ab
set_option linter.unusedVariables false
set_option linter.unusedSimpArgs false

abbrev lp41 : XCode := (.seq (.seq (.ops [⟨some 33, none, (.s (.move (.t 6)))⟩, ⟨some 34, none, (.s (.move (.t 4)))⟩, ⟨some 35, none, (.s (.bin .lss (.t 33) (.t 34)))⟩]) (.cond (.t 35) .skip (.exit 2))) (.seq (.block 3 (.ops [⟨some 38, none, (.s (.move (.t 3)))⟩, ⟨some 39, none, (.s (.move (.t 0)))⟩, ⟨some 40, none, (.s (.move (.t 6)))⟩, ⟨some 41, none, (.s (.idxStr (.t 39) (.t 40)))⟩, ⟨some 42, none, (.e (.buildSlice 5 1 1 [(.int .u8 0)] [(0, 1, (.t 41))]))⟩, ⟨some 43, none, (.e (.append 1 1 5 (.t 38) (.t 42)))⟩, ⟨some 3, none, (.s (.move (.t 43)))⟩])) (.ops [⟨some 36, none, (.s (.move (.t 6)))⟩, ⟨some 37, none, (.s (.bin .add (.t 36) (.c (.int .i64 1))))⟩, ⟨some 6, none, (.s (.move (.t 37)))⟩])))

section
variable {H : AHeap} {fp : Nat → Prop} {s : List UInt8}

def inv41b (m : Nat) (s pre : List UInt8) (N : Nat) (x : AVal) (n : Nat) (env' : Env) (H' : AHeap) : Prop :=
  ∃ (i : Nat) (w : AVal), i ≤ N ∧ n = N - i ∧ Own m H' 5 w (bytesOf (pre ++ s.take i)) ∧ m ≤ H'.length ∧ env' 0 = .str s ∧ env' 3 = w ∧ env' 4 = .int .i64 N ∧ env' 5 = x ∧ env' 6 = .int .i64 i

theorem inner41 {Wr : Nat → Prop} {Q : XExit → Env → AHeap → Prop} {env : Env} {m N : Nat} {w x : AVal} {pre : List UInt8} (hW : ∀ r, m ≤ r → Wr r) (hm : m ≤ H.length) (hw : Own m H 5 w (bytesOf pre)) (hN : N ≤ s.length) (hb : pre.length + s.length ≤ 2 ^ 41)
    (e0 : env 0 = .str s) (e3 : env 3 = w) (e4 : env 4 = .int .i64 N) (e5 : env 5 = x) (e6 : env 6 = .int .i64 0)
    (hk : ∀ env' H' w', Own m H' 5 w' (bytesOf (pre ++ s.take N)) → m ≤ H'.length → env' 0 = .str s → env' 3 = w' → env' 4 = .int .i64 N → env' 5 = x → Q (.exit 2) env' H') :
    vc (ACall Try.prog) Wr (.loop lp41) Q env H := by
  refine vc_loop (inv41b m s pre N x) N ⟨0, w, by omega, by omega, by simpa using hw, hm, e0, e3, e4, e5, by simpa using e6⟩ ?_
  rintro n env1 H1 ⟨i, w1, hi, rfl, hw1, hl1, f0, f3, f4, f5, f6⟩
  by_cases hlt : i < N
  · obtain ⟨w', H2, ha, hw2, hlen2, hfr2⟩ := (hw1.app [.cells 0 false 5 [.int .u8 (chr s i).toNat]]).append (x := .slice H1.length 0 0 1 1) (new := bytesOf [chr s i]) (n := 1) (bytes := 1) (by rw [List.length_append]; omega) (by simp [asrc, bytesOf]) (by simp) (by simp) (by simp [roomLim]; omega)
    rw [← bytesOf_app] at hw2
    rw [List.length_append] at hlen2
    simp (config := {contextual := true, implicitDefEqProofs := false}) (disch := omega) [f0, f3, f4, f5, f6, hlt, afill, zrep, vIdxStr_nat]
    refine e1_of ha ?_ ?_
    · intro r ht2
      exact hW r (hw1.target (by simpa [f3] using ht2))
    simp (config := {contextual := true, implicitDefEqProofs := false}) (disch := omega) [f0, f3, f4, f5, f6, i64_id]
    refine again_iff (N - (i + 1)) (by omega) ⟨i + 1, w', hlt, rfl, ?_, by omega, by simp [f0], by simp, by simp [f4], by simp [f5], by simp⟩
    have : s.take (i + 1) = s.take i ++ [chr s i] := by
      rw [List.take_add_one, List.getElem?_eq_getElem (by omega)]
      simp [chr, List.getD_eq_getElem?_getD, List.getElem?_eq_getElem (show i < s.length by omega)]
    rw [this, ← List.append_assoc]; exact hw2
  · have hi2 : i = N := by omega
    subst hi2
    simp (config := {contextual := true, implicitDefEqProofs := false}) (disch := omega) [f0, f3, f4, f5, f6]
    exact hk _ _ w1 hw1 hl1 (by simp [f0]) (by simp [f3]) (by simp [f4]) (by simp [f5])

def inv41 (m : Nat) (R : List UInt8) (n : Nat) (env : Env) (H' : AHeap) : Prop :=
  ∃ (pre s : List UInt8) (w : AVal), Own m H' 5 w (bytesOf pre) ∧ m ≤ H'.length ∧ R = pre ++ storB n s ∧ s.length < 65535 * n ∧ 1 ≤ n ∧ s.length + pre.length + 5 * n ≤ 2 ^ 41 ∧ env 0 = .str s ∧ env 3 = w

theorem k41_b1 : IntKind.u8.wrap 65535 = 255 := by rw [u8_mod]; rfl
theorem k41_b2 : aunary .xor (.int .u8 255) = some (.int .u8 0) := xor8 (n := 255) (by omega)

theorem rstored_ok (hs : s.length ≤ 1048576) : ACall Try.prog 41 [.str s] H fp fun v H' => v = .str (storedB s) ∧ H' = H := by
  refine (ACall.drop (R := fun v' _ => v' = .str (storedB s)) ?_ (by rintro v' H' rfl; rfl)).mono fun v' H' q => ⟨q.2.elim fun _ q => q.1, q.1⟩
  refine acall_of hmix Try.func41 x41_ok (by simp) ?_
  simp (config := {contextual := true, implicitDefEqProofs := false}) (disch := omega)
  refine call1_eq (input34_ok hs) ?_
  simp (config := {contextual := true, implicitDefEqProofs := false}) (disch := omega) [afill, zrep]
  refine vc_loop (inv41 H.length (storedB s)) (s.length / 65535 + 1) ⟨[], s, _, .inr ⟨H.length, 0, Nat.le_refl _, rfl, by simp [bytesOf]⟩, by simp, rfl, by omega, by omega, by simp; omega, by simp, by simp [bytesOf]⟩ ?_
  rintro n env H1 ⟨pre, s1, w, hw, hl1, hR, hlt, h1n, hb, e0, e3⟩
  obtain ⟨n', rfl⟩ : ∃ n', n = n' + 1 := ⟨n - 1, by omega⟩
  rw [storB] at hR
  by_cases c : s1.length ≤ 65535
  · rw [if_pos c] at hR
    have hmin : vMin (.int .i64 (s1.length : Int)) (.int .i64 65535) = some (.int .i64 (s1.length : Int)) := by
      simp only [vMin_int]
      by_cases c2 : s1.length = 65535
      · rw [c2]; rfl
      · rw [if_neg (by omega)]
    have b1 : aunary .xor (.int .u8 ((s1.length % 256 : Nat) : Int)) = some (.int .u8 (((65535 - s1.length) % 256 : Nat) : Int)) := by
      rw [xor8 (by omega)]; congr 2; omega
    have b2 : aunary .xor (.int .u8 ((s1.length / 256 % 256 : Nat) : Int)) = some (.int .u8 (((65535 - s1.length) / 256 % 256 : Nat) : Int)) := by
      rw [xor8 (by omega)]; congr 2; omega
    have b5 := shr8 s1.length
    have hk := hdr_cells s1.length true
    simp only [if_true] at hk
    have hw1 := hw.app [.cells 0 false 5 (bytesOf (hdrB s1.length true))]
    obtain ⟨w2, H2, ha2, hw2, hl2, _⟩ := hw1.append (x := .slice H1.length 0 0 5 1) (new := bytesOf (hdrB s1.length true)) (n := 5) (bytes := 1) (by rw [List.length_append]; omega) (by simp [asrc]; exact List.take_of_length_le (by simp)) (by simp) (by simp) (by simp [roomLim]; omega)
    rw [← bytesOf_app] at hw2
    simp (config := {contextual := true, implicitDefEqProofs := false}) (disch := omega) [e0, e3, hmin, b1, b2, b5, u8_wrap, afill, zrep, -Int.natCast_ediv, -Int.natCast_emod]
    rw [hk]
    refine e1_of ha2 ?_ ?_
    · intro r ht
      exact hw1.target (by simpa using ht)
    simp (config := {contextual := true, implicitDefEqProofs := false}) (disch := omega) [e0, e3]
    refine inner41 (m := H.length) (s := s1) (N := s1.length) (w := w2) (pre := pre ++ hdrB s1.length true) (x := .int .u8 1) (fun r h => by simpa using h) (by rw [List.length_append] at hl2; omega) hw2 (Nat.le_refl _) (by simp; omega) (by simp [e0]) (by simp) (by simp) (by simp) (by simp) ?_
    intro env' H' w' hw' hl' f0 f3 f4 f5
    have hsl2 := vSlStr_lo (s := s1) (k := .i64) (l := s1.length) (by omega) (by omega)
    have hst := hw'.sl.toStr
    rw [List.take_length, List.append_assoc] at hst
    simp (config := {contextual := true, implicitDefEqProofs := false}) (disch := omega) [f0, f3, f4, f5, hsl2, hst]
    rw [hR, blkB]
  · rw [if_neg c] at hR
    have hmin : vMin (.int .i64 (s1.length : Int)) (.int .i64 65535) = some (.int .i64 65535) := by
      simp only [vMin_int]
      rw [if_pos (by omega)]
    have hk := k53_hk
    have htl : (s1.take 65535).length = 65535 := by rw [List.length_take]; omega
    obtain ⟨a1, hat⟩ : ∃ a1, s1.take 65535 = a1 := ⟨_, rfl⟩
    obtain ⟨h5, hh5⟩ : ∃ h5, hdrB 65535 false = h5 := ⟨_, rfl⟩
    have hh5l : h5.length = 5 := by rw [← hh5]; rfl
    rw [hat] at htl hR
    rw [hh5] at hk
    have hw1 := hw.app [.cells 0 false 5 (bytesOf h5)]
    obtain ⟨w2, H2, ha2, hw2, hl2, _⟩ := hw1.append (x := .slice H1.length 0 0 5 1) (new := bytesOf h5) (n := 5) (bytes := 1) (by rw [List.length_append]; omega) (by simp [asrc, hh5l]; exact List.take_of_length_le (by simp [hh5l])) (by simp [hh5l]) (by simp) (by simp [roomLim]; omega)
    rw [← bytesOf_app] at hw2
    simp (config := {contextual := true, implicitDefEqProofs := false}) (disch := omega) [e0, e3, hmin, k41_b1, k41_b2, k53_b5, k53_b7, u8_wrap, afill, zrep, -Int.natCast_ediv, -Int.natCast_emod, show ¬ (65535 : Int) = s1.length by omega]
    rw [hk]
    refine e1_of ha2 ?_ ?_
    · intro r ht
      exact hw1.target (by simpa using ht)
    simp (config := {contextual := true, implicitDefEqProofs := false}) (disch := omega) [e0, e3]
    refine inner41 (m := H.length) (s := s1) (N := 65535) (w := w2) (pre := pre ++ h5) (x := .int .u8 0) (fun r h => by simpa using h) (by rw [List.length_append] at hl2; omega) hw2 (by omega) (by simp; omega) (by simp [e0]) (by simp) (by simp) (by simp) (by simp) ?_
    intro env' H' w' hw' hl' f0 f3 f4 f5
    have hsl2 := vSlStr_lo (s := s1) (k := .i64) (l := 65535) (by omega) (by omega)
    simp only [show (65535 : Int).toNat = 65535 from rfl] at hsl2
    rw [hat] at hw'
    have f4' : env' 4 = .int .i64 65535 := by rw [f4]; rfl
    simp (config := {contextual := true, implicitDefEqProofs := false}) (disch := omega) [f0, f3, f4', f5, hsl2]
    exact again_iff n' (by omega) ⟨pre ++ h5 ++ a1, s1.drop 65535, w', hw', hl', by rw [hR, blkB, htl, hh5]; simp only [List.append_assoc], by rw [List.length_drop]; omega, by omega, by simp only [List.length_append, hh5l, htl, List.length_drop]; omega, by simp, by simp [f3]⟩

theorem Stored_ok (hs : s.length ≤ 1048576) : ACall Try.prog 31 [.str s] H fp fun v H' => v = .str (storedB s) ∧ H' = H := by
  refine (ACall.drop (R := fun v' _ => v' = .str (storedB s)) ?_ (by rintro v' H' rfl; rfl)).mono fun v' H' q => ⟨q.2.elim fun _ q => q.1, q.1⟩
  refine acall_of hmix Try.func31 x31_ok (by simp) ?_
  simp (config := {contextual := true, implicitDefEqProofs := false}) (disch := omega)
  refine call1_eq (input33_ok hs) ?_
  simp (config := {contextual := true, implicitDefEqProofs := false}) (disch := omega)
  refine call1_of (stored53_ok (by omega)) (fun r h => .inl h) ?_
  intro v H2 hv hl hf
  simp (config := {contextual := true, implicitDefEqProofs := false}) (disch := omega) [hv.sl.toStr]
end
end Go.Proofs.Ytdknddicpdhkcaa.Ab

/- Deflate: the program's block with fixed codes. Conditions: none; for the statements about layer 47. -/
import Derived.Test.YtdknddicpdhkcaaDf
namespace Go.Proofs.Ytdknddicpdhkcaa.Ab
set_option linter.unusedVariables false
set_option linter.unusedSimpArgs false

@[simp] theorem known_map {r : Nat} : (AVal.map r).known = true := rfl
@[simp] theorem cells_map {r : Nat} : (AVal.map r).cells = [.map r] := rfl
@[simp] theorem one_map {r : Nat} : (AVal.map r).one = true := rfl

section
variable {B : Nat → Prop} {p : Nat} {H H' : AHeap} {l : List Nat} {ety : Nat} {s : List UInt8} {fp : Nat → Prop}

theorem wmatch_ok (hB : ∀ r, B r → r < H.length) (hBp : B p) (hW : Wd ety B p H l) {n d : Nat} (b1 : 3 ≤ n) (b2 : n ≤ 258) (b3 : 1 ≤ d) (b4 : d ≤ 4096) (hl : l.length + 200 < 2 ^ 40) :
    ACall Try.prog 56 [.ptr p 0 0, .int .i64 n, .int .i64 d] H (fun r => r = p ∨ ¬ B r) fun v H' => v = .tuple [] ∧ Wd ety B p H' (l ++ matchB n d) := by
  refine acall_of hmix Try.func56 x56_ok (by simp) ?_
  obtain ⟨f1, f2, f3, f4⟩ := len_facts b1 b2
  obtain ⟨g1, g2, g3⟩ := dist_facts b3 b4
  have hsl := symB_len (lenR n).1
  have hrd := rank_dist b3 b4
  have hro := rank_ok (H := H) (fp := fun r => (r = p ∨ ¬ B r) ∨ H.length ≤ r) (x := d) (first := 1) (plain := 4) (group := 2) (by omega) (by omega) (.inr rfl) (by omega)
  rw [hrd] at hro
  have hfp : ∀ (K : AHeap) r, (r = p ∨ ¬ B r) → ((r = p ∨ ¬ B r) ∨ H.length ≤ r) ∨ K.length ≤ r := fun K r h => .inl (.inl h)
  have hBK : ∀ (K : AHeap), H.length ≤ K.length → ∀ r, B r → r < K.length := fun K h r hr => Nat.lt_of_lt_of_le (hB r hr) h
  have hd : ∀ (K : AHeap), ACall Try.prog 70 [.int .i64 d, .int .i64 1, .int .i64 4, .int .i64 2] K (fun r => (r = p ∨ ¬ B r) ∨ H.length ≤ r) fun v H' => v = .tuple [.int .i64 (distR d).1, .int .i64 (distR d).2.1, .int .i64 (distR d).2.2] ∧ H' = K := by
    intro K
    have := rank_ok (H := K) (fp := fun r => (r = p ∨ ¬ B r) ∨ H.length ≤ r) (x := d) (first := 1) (plain := 4) (group := 2) (by omega) (by omega) (.inr rfl) (by omega)
    rw [hrd] at this; exact this
  have c2 : abin .sub (.int .i64 (d : Int)) (.int .i64 ((distR d).2.1 : Int)) = some (.int .i64 ((d - (distR d).2.1 : Nat) : Int)) := by rw [abin_sub, i64_id (by omega) (by omega)]; congr 2; omega
  by_cases c : n = 258
  · subst c
    have hlen : lenR 258 = (285, 258, 0) := by rw [lenR, if_pos rfl]
    have e : l ++ matchB 258 d = l ++ symB 285 ++ codeB (distR d).1 5 ++ numB (d - (distR d).2.1) (distR d).2.2 := by simp [matchB, hlen, numB, List.append_assoc]
    rw [e]
    have hs5 := symB_len 285
    simp (config := {contextual := true, implicitDefEqProofs := false}) (disch := omega)
    refine call1_of (wsym_ok (hBK _ (Nat.le_refl _)) hBp hW (v := 285) (by omega) (by omega)) (hfp _) ?_
    rintro v H4 ⟨rfl, hW4⟩ hl4 _
    simp (config := {contextual := true, implicitDefEqProofs := false}) (disch := omega)
    refine call1_eq (hd _) ?_
    simp (config := {contextual := true, implicitDefEqProofs := false}) (disch := omega)
    refine call1_of (wcode_ok (hBK _ hl4) hBp hW4 (x := (distR d).1) (N := 5) (by omega) (by omega) (by rw [List.length_append]; omega)) (hfp _) ?_
    rintro v H6 ⟨rfl, hW6⟩ hl6 _
    simp (config := {contextual := true, implicitDefEqProofs := false}) (disch := omega) [c2, -abin_sub]
    refine call1_of (wnum_ok (hBK _ (by omega)) hBp hW6 (x := d - (distR d).2.1) (N := (distR d).2.2) (by omega) (by omega) (by rw [List.length_append, List.length_append, codeB_len]; omega)) (hfp _) ?_
    rintro v H7 ⟨rfl, hW7⟩ hl7 _
    simp (config := {contextual := true, implicitDefEqProofs := false}) (disch := omega)
    simpa only [List.append_assoc] using hW7
  · have hrl := rank_len ⟨n, by omega⟩ b1
    simp only [] at hrl
    have r1 : (rankL n 8 4 (n + 1) 0 3).1 + 257 = (lenR n).1 := by rw [← hrl]
    have r2 : (rankL n 8 4 (n + 1) 0 3).2 = (lenR n).2 := by rw [← hrl]
    have hro2 := rank_ok (H := H) (fp := fun r => (r = p ∨ ¬ B r) ∨ H.length ≤ r) (x := n) (first := 3) (plain := 8) (group := 4) (by omega) (by omega) (.inl rfl) (by omega)
    rw [r2] at hro2
    generalize (rankL n 8 4 (n + 1) 0 3).1 = y at *
    have a1 : abin .add (.int .i64 257) (.int .i64 (y : Int)) = some (.int .i64 (((lenR n).1 : Nat) : Int)) := by rw [← r1, Nat.add_comm]; exact addN (a := 257) (by omega)
    have c1 : abin .sub (.int .i64 (n : Int)) (.int .i64 ((lenR n).2.1 : Int)) = some (.int .i64 ((n - (lenR n).2.1 : Nat) : Int)) := by rw [abin_sub, i64_id (by omega) (by omega)]; congr 2; omega
    have e : l ++ matchB n d = l ++ symB (lenR n).1 ++ numB (n - (lenR n).2.1) (lenR n).2.2 ++ codeB (distR d).1 5 ++ numB (d - (distR d).2.1) (distR d).2.2 := by simp [matchB, List.append_assoc]
    rw [e]
    simp (config := {contextual := true, implicitDefEqProofs := false}) (disch := omega) [show ¬ (n : Int) = 258 by omega, c]
    refine call1_eq hro2 ?_
    simp (config := {contextual := true, implicitDefEqProofs := false}) (disch := omega) [a1, -abin_add]
    refine call1_of (wsym_ok (hBK _ (Nat.le_refl _)) hBp hW (v := (lenR n).1) (by omega) (by omega)) (hfp _) ?_
    rintro v H4 ⟨rfl, hW4⟩ hl4 _
    simp (config := {contextual := true, implicitDefEqProofs := false}) (disch := omega) [c1, -abin_sub]
    refine call1_of (wnum_ok (hBK _ hl4) hBp hW4 (x := n - (lenR n).2.1) (N := (lenR n).2.2) (by omega) (by omega) (by rw [List.length_append]; omega)) (hfp _) ?_
    rintro v H5 ⟨rfl, hW5⟩ hl5 _
    simp (config := {contextual := true, implicitDefEqProofs := false}) (disch := omega)
    refine call1_eq (hd _) ?_
    simp (config := {contextual := true, implicitDefEqProofs := false}) (disch := omega)
    refine call1_of (wcode_ok (hBK _ (by omega)) hBp hW5 (x := (distR d).1) (N := 5) (by omega) (by omega) (by rw [List.length_append, List.length_append, numB_len]; omega)) (hfp _) ?_
    rintro v H6 ⟨rfl, hW6⟩ hl6 _
    simp (config := {contextual := true, implicitDefEqProofs := false}) (disch := omega) [c2, -abin_sub]
    refine call1_of (wnum_ok (hBK _ (by omega)) hBp hW6 (x := d - (distR d).2.1) (N := (distR d).2.2) (by omega) (by omega) (by rw [List.length_append, List.length_append, List.length_append, numB_len, codeB_len]; omega)) (hfp _) ?_
    rintro v H7 ⟨rfl, hW7⟩ hl7 _
    simp (config := {contextual := true, implicitDefEqProofs := false}) (disch := omega)
    simpa only [List.append_assoc] using hW7

/-- The state of the program's loop: p the writer, m, v, f the finder's blocks. -/
def fxB (p m : Nat) (r : Nat) : Prop := r ≤ p ∨ r = m ∨ r = m + 1 ∨ r = m + 2
def fxS (s : List UInt8) (p m : Nat) (l : List Nat) (q : Nat) (H' : AHeap) : Prop := Wd 75 (fxB p m) p H' l ∧ FD H' (m + 2) m (m + 1) s q ∧ p < m ∧ m + 2 < H'.length
def inv32 (s : List UInt8) (T : List Nat) (p m : Nat) (n : Nat) (env : Env) (H' : AHeap) : Prop :=
  ∃ q l, q ≤ s.length ∧ s.length - q < n ∧ fxS s p m l q H' ∧ l.length ≤ 3 + 64 * q ∧ T = l ++ bodyB s n q ++ symB 256 ∧ env 0 = .str s ∧ env 3 = .ptr p 0 0 ∧ env 4 = .ptr (m + 2) 0 0 ∧ env 5 = .int .i64 q
def inv32b (s : List UInt8) (p m : Nat) (l : List Nat) (q N : Nat) (n : Nat) (env : Env) (H' : AHeap) : Prop :=
  ∃ i, i ≤ N ∧ n = N - i ∧ fxS s p m l (q + i) H' ∧ env 0 = .str s ∧ env 3 = .ptr p 0 0 ∧ env 4 = .ptr (m + 2) 0 0 ∧ env 5 = .int .i64 ((q + i : Nat) : Int) ∧ env 43 = .int .i64 N ∧ env 44 = .int .i64 i

abbrev lp32 : XCode := (.seq (.ops [⟨some 45, none, (.s (.bin .lss (.t 44) (.t 43)))⟩]) (.seq (.cond (.t 45) .skip (.exit 2)) (.seq (.block 3 (.seq (.ops [⟨some 46, none, (.s (.move (.t 4)))⟩, ⟨some 47, none, (.s (.move (.t 5)))⟩, ⟨some 48, none, (.call 58 [(.t 46), (.t 47)])⟩]) (.ops [⟨some 49, none, (.s (.move (.t 5)))⟩, ⟨some 50, none, (.s (.bin .add (.t 49) (.c (.int .i64 1))))⟩, ⟨some 5, none, (.s (.move (.t 50)))⟩]))) (.ops [⟨some 51, none, (.s (.bin .add (.t 44) (.c (.int .i64 1))))⟩, ⟨some 44, none, (.s (.move (.t 51)))⟩]))))
theorem inner32 {H0 : AHeap} {Q : XExit → Env → AHeap → Prop} {env : Env} {m q N : Nat} (hs : s.length ≤ 1048576) (hp0 : H0.length ≤ p) (hS : fxS s p m l q H) (hN : q + N ≤ s.length) (e0 : env 0 = .str s) (e3 : env 3 = .ptr p 0 0) (e4 : env 4 = .ptr (m + 2) 0 0) (e5 : env 5 = .int .i64 q) (e43 : env 43 = .int .i64 N) (e44 : env 44 = .int .i64 0)
    (hk : ∀ env' H', fxS s p m l (q + N) H' → env' 0 = .str s → env' 3 = .ptr p 0 0 → env' 4 = .ptr (m + 2) 0 0 → env' 5 = .int .i64 ((q + N : Nat) : Int) → Q (.exit 2) env' H') :
    vc (ACall Try.prog) (fun r => H0.length ≤ r) (.loop lp32) Q env H := by
  refine vc_loop (inv32b s p m l q N) N ⟨0, by omega, by omega, hS, e0, e3, e4, by simpa using e5, e43, by simpa using e44⟩ ?_
  rintro n env1 H1 ⟨i, hi, rfl, ⟨hW, hF, hpm, hml⟩, f0, f3, f4, f5, f43, f44⟩
  by_cases hlt : i < N
  · have a1 : abin .add (.int .i64 ((q + i : Nat) : Int)) (.int .i64 1) = some (.int .i64 ((q + (i + 1) : Nat) : Int)) := addN (b := 1) (by omega)
    have a2 : abin .add (.int .i64 (i : Int)) (.int .i64 1) = some (.int .i64 ((i + 1 : Nat) : Int)) := addN (b := 1) (by omega)
    simp (config := {contextual := true, implicitDefEqProofs := false}) (disch := omega) [f0, f3, f4, f5, f43, f44, hlt, -Int.natCast_add]
    refine call1_of (add_ok (by omega) hF (show q + i < s.length by omega)) (fun r h => by omega) ?_
    rintro u H2 ⟨rfl, hF2⟩ hl2 hfr
    have hW2 : Wd 75 (fxB p m) p H2 l := hW.keep (hfr p (by omega) (by omega)) fun r h1 h2 => hfr r h2 (fun h3 => h1 (by unfold fxB; omega))
    simp (config := {contextual := true, implicitDefEqProofs := false}) (disch := omega) [f0, f3, f4, f5, f43, f44, a1, a2, -abin_add, -Int.natCast_add]
    exact again_iff (N - (i + 1)) (by omega) ⟨i + 1, hlt, rfl, ⟨hW2, hF2, hpm, by omega⟩, by simp [f0], by simp [f3], by simp [f4], by simp, by simp [f43], by simp⟩
  · have hiN : i = N := by omega
    subst hiN
    simp (config := {contextual := true, implicitDefEqProofs := false}) (disch := omega) [f0, f3, f4, f5, f43, f44]
    exact hk _ _ ⟨hW, hF, hpm, hml⟩ (by simp [f0]) (by simp [f3]) (by simp [f4]) (by simp [f5])

theorem fixed32_raw (hs : s.length ≤ 1048576) : ACall Try.prog 32 [.str s] H (fun _ => False) fun v H' => Sl H' v (bytesOf (pack (fixB s))) := by
  refine acall_of hmix Try.func32 x32_ok (by simp) ?_
  simp (config := {contextual := true, implicitDefEqProofs := false}) (disch := omega) [afill]
  have hW0 : Wd 75 (fun r => r ≤ H.length) H.length (H ++ [.cells 0 false 75 [.nilslice, .int .i64 0]]) [] := ⟨⟨.nilslice, by simp [wrBlk], .inl ⟨rfl, rfl⟩⟩, by simp, by simp⟩
  have hfpw : ∀ (L : AHeap) r, (r = H.length ∨ ¬ r ≤ H.length) → H.length ≤ r ∨ L.length ≤ r := fun L r h => by omega
  have hB0 : ∀ r, (fun r => r ≤ H.length) r → r < (H ++ [ABlk.cells 0 false 75 [.nilslice, .int .i64 0]]).length := fun r hr => by rw [List.length_append, List.length_singleton]; exact Nat.lt_succ_of_le hr
  have hn0 := wnum_ok hB0 (Nat.le_refl _) hW0 (x := 1) (N := 1) (by omega) (by omega) (by simp)
  refine call1_of hn0 (hfpw _) ?_
  rintro v H1 ⟨rfl, hW1⟩ hl1 _
  rw [List.length_append, List.length_singleton] at hl1
  simp (config := {contextual := true, implicitDefEqProofs := false}) (disch := omega)
  have hB1 : ∀ r, (fun r => r ≤ H.length) r → r < H1.length := fun r hr => Nat.lt_of_le_of_lt hr (by omega)
  have hn1 := wnum_ok hB1 (Nat.le_refl _) hW1 (x := 1) (N := 2) (by omega) (by omega) (by simp)
  refine call1_of hn1 (hfpw _) ?_
  rintro v H2 ⟨rfl, hW2⟩ hl2 _
  rw [List.nil_append] at hW2
  simp (config := {contextual := true, implicitDefEqProofs := false}) (disch := omega) [afill, roomLim, zrep_one, show s.length ≤ 9223372036854775807 by omega, show s.length * 8 ≤ 140737488355328 by omega, show (s.length : Int) ≤ 9223372036854775807 by omega]
  have hl2' : H.length + 1 ≤ H2.length := by omega
  have hz : ∀ q, q < s.length → (Arr s.length fun _ => 0)[q]? = some (.int .i64 0) := fun q hq => Arr_get hq
  have hlen5 : ∀ L : AHeap, L.length = 3 → (H2 ++ L).length = H2.length + 3 := fun L h => by rw [List.length_append, h]
  refine vc_loop (inv32 s (fixB s) H.length H2.length) (s.length + 1) ⟨0, numB 1 1 ++ numB 1 2, by omega, by omega, ⟨?_, ?_, by omega, by rw [hlen5 _ rfl]; omega⟩, by simp, rfl, by simp, by simp, by simp, by simp⟩ ?_
  · exact (hW2.sub (B' := fxB H.length H2.length) fun r h1 h2 => by unfold fxB at h2; omega).app _ (by omega)
  · refine ⟨?_, by omega, ⟨[], ?_, rfl, fun l => rfl⟩, fun _ => 0, ?_, fun q hq => by omega⟩
    · rw [List.getElem?_append_right (by omega)]; simp
    · rw [List.getElem?_append_right (by omega)]; simp
    · rw [List.getElem?_append_right (by omega), ← Arr_zeros]; simp
  rintro n env H3 ⟨q, l, hq, hn, ⟨hW, hF, hpm, hml⟩, hll, hT, e0, e3, e4, e5⟩
  obtain ⟨n', rfl⟩ : ∃ n', n = n' + 1 := ⟨n - 1, by omega⟩
  rw [bodyB] at hT
  have hBx : ∀ (K : AHeap), H3.length ≤ K.length → ∀ r, fxB H.length H2.length r → r < K.length := fun K h r hr => by unfold fxB at hr; omega
  have hBp : fxB H.length H2.length H.length := .inl (Nat.le_refl _)
  have hfx : ∀ (K : AHeap) r, (r = H.length ∨ ¬ fxB H.length H2.length r) → H.length ≤ r ∨ K.length ≤ r := fun K r h => by unfold fxB at h; omega
  have keepF : ∀ {K : AHeap}, (∀ r, r < H3.length → ¬ (r = H.length ∨ ¬ fxB H.length H2.length r) → K[r]? = H3[r]?) → FD K (H2.length + 2) H2.length (H2.length + 1) s q := fun {K} h =>
    hF.keep (h _ (by omega) (by unfold fxB; omega)) (h _ (by omega) (by unfold fxB; omega)) (h _ (by omega) (by unfold fxB; omega))
  by_cases hlt : q < s.length
  · rw [if_pos hlt] at hT
    simp (config := {contextual := true, implicitDefEqProofs := false}) (disch := omega) [e0, e3, e4, e5, hlt]
    refine call1_eq (find_ok (by omega) hF hq) ?_
    rcases find_match s q with ⟨h1, h2⟩ | ⟨h1, h2⟩
    · rw [h2] at hT
      obtain ⟨b2, b3, b4, b5⟩ := match_bounds s q h1
      rw [if_neg (show ¬ (findM s q).1 = 0 by omega)] at hT
      generalize (findM s q).1 = mn at *
      generalize (findM s q).2 = md at *
      have hml2 := matchB_len h1 b2 b3 b4
      simp (config := {contextual := true, implicitDefEqProofs := false}) (disch := omega) [e0, e3, e4, e5, show (3 : Int) ≤ mn by omega, h1]
      refine call1_of (wmatch_ok (hBx _ (Nat.le_refl _)) hBp hW h1 b2 b3 b4 (by omega)) (hfx _) ?_
      rintro v H4 ⟨rfl, hW4⟩ hl4 hf4
      simp (config := {contextual := true, implicitDefEqProofs := false}) (disch := omega) [e0, e3, e4, e5]
      refine inner32 (H0 := H) (l := l ++ matchB mn md) hs (Nat.le_refl _) ⟨hW4, keepF hf4, hpm, by omega⟩ (N := mn) (by omega) (by simp [e0]) (by simp [e3]) (by simp [e4]) (by simp [e5]) (by simp) (by simp) ?_
      intro env' H5 hS f0 f3 f4 f5
      simp
      exact again_iff n' (by omega) ⟨q + mn, _, by omega, by omega, hS, by rw [List.length_append]; omega, by rw [hT]; simp [List.append_assoc], f0, f3, f4, f5⟩
    · rw [h2, if_pos rfl] at hT
      have hc := UInt8.toNat_lt (chr s q)
      generalize (findM s q).1 = mn at *
      generalize (findM s q).2 = md at *
      have hsl := symB_len (chr s q).toNat
      simp (config := {contextual := true, implicitDefEqProofs := false}) (disch := omega) [e0, e3, e4, e5, show ¬ (3 : Int) ≤ mn by omega, show ¬ 3 ≤ mn by omega, vIdxStr_nat, hlt, i64_nat]
      refine call1_of (wsym_ok (hBx _ (Nat.le_refl _)) hBp hW (v := (chr s q).toNat) (by omega) (by omega)) (hfx _) ?_
      rintro v H4 ⟨rfl, hW4⟩ hl4 hf4
      simp (config := {contextual := true, implicitDefEqProofs := false}) (disch := omega) [e0, e3, e4, e5]
      refine inner32 (H0 := H) (l := l ++ symB (chr s q).toNat) hs (Nat.le_refl _) ⟨hW4, keepF hf4, hpm, by omega⟩ (N := 1) (by omega) (by simp [e0]) (by simp [e3]) (by simp [e4]) (by simp [e5]) (by simp) (by simp) ?_
      intro env' H5 hS f0 f3 f4 f5
      simp
      exact again_iff n' (by omega) ⟨q + 1, _, by omega, by omega, hS, by rw [List.length_append]; omega, by rw [hT]; simp [List.append_assoc], f0, f3, f4, f5⟩
  · rw [if_neg hlt] at hT
    simp (config := {contextual := true, implicitDefEqProofs := false}) (disch := omega) [e0, e3, e4, e5, hlt]
    refine call1_of (wsym_ok (hBx _ (Nat.le_refl _)) hBp hW (v := 256) (by omega) (by omega)) (hfx _) ?_
    rintro v H4 ⟨rfl, ⟨w, hp4, hw4⟩, _⟩ hl4 _
    have g4 := ageOk_at hp4
    rw [hT, List.append_nil]
    simp (config := {contextual := true, implicitDefEqProofs := false}) (disch := omega) [e0, e3, e4, g4, wd0 hp4]
    exact hw4.sl

theorem fixed11_ok (hs : s.length ≤ 1048576) : ACall Try.prog 11 [.str s] H fp fun v H' => v = .str (pack (fixB s)) ∧ H' = H := by
  refine (ACall.drop (R := fun v' _ => v' = .str (pack (fixB s))) ?_ (by rintro v' H' rfl; rfl)).mono fun v' H' q => ⟨q.2.elim fun _ q => q.1, q.1⟩
  refine acall_of hmix Try.func11 x11_ok (by simp) ?_
  simp
  refine call1_eq (input33_ok hs) ?_
  simp
  refine call1_of (fixed32_raw hs) (fun r h => h.elim) ?_
  intro v H2 hsl hl2 _
  simp (config := {contextual := true, implicitDefEqProofs := false}) (disch := omega) [hsl.toStr]

/-- The law DeflateFixes, over the abstract layer. -/
theorem law3_all (example_ : ∀ (H : AHeap) (fp : Nat → Prop), ACall Try.prog 13 [] H fp fun v' H' => v' = .bool true ∧ H' = H) : ACall Try.prog 3 [.str s] H fp fun v' H' => v' = .bool true ∧ H' = H := by
  refine acall_of hmix Try.func3 x3_ok (by simp) ?_
  by_cases c : 6000 < s.length
  · simp (config := {contextual := true, implicitDefEqProofs := false}) (disch := omega) [show (6000 : Int) < s.length by omega, c]
  · simp (config := {contextual := true, implicitDefEqProofs := false}) (disch := omega) [show ¬ (6000 : Int) < s.length by omega, c]
    refine call1_eq (fixed11_ok (by omega)) ?_
    simp (config := {contextual := true, implicitDefEqProofs := false}) (disch := omega)
    refine call1_eq (rfixed_ok (by omega)) ?_
    simp (config := {contextual := true, implicitDefEqProofs := false}) (disch := omega)
    refine call1_eq (example_ _ _) ?_
    simp
end
end Go.Proofs.Ytdknddicpdhkcaa.Ab

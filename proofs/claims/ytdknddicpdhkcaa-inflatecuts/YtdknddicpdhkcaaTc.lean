/- Inflate: stored blocks, single bytes, matches. Conditions: none; for the statements about layers 46 and 47. -/
import Derived.Test.YtdknddicpdhkcaaTb
namespace Go.Proofs.Ytdknddicpdhkcaa.Ab
set_option linter.unusedVariables false
set_option linter.unusedSimpArgs false

theorem de1_of {Φ : Trans} {Wr : Nat → Prop} {K : Env → AHeap → Prop} {env : Env} {ov : Option (AVal × AHeap)} {o : EOp} {u : List Nat} {d : Option Nat} {l : List DIns} {B : List (Nat × List Nat)} {v : AVal} {H' : AHeap} (h : ov = some (v, H'))
    (ht : ∀ r, o.target env r → unoOk Wr u B r) (hk : vcD Φ Wr l (B.filter fun p => u.contains p.1) K (env.put d v) H') : de1 Φ Wr ov o u d l B K env := ⟨v, H', h, ht, hk⟩

/-- The reader at p: its output lies in no block of B. -/
def Rd (B : Nat → Prop) (p : Nat) (H : AHeap) (s : List UInt8) (t : St) (most : Nat) : Prop := ∃ w, H[p]? = some (rdBlk s t w most) ∧ OwnX B H 5 w (bytesOf t.out)

def n16 (s : List UInt8) (a : Nat) : Nat := (chr s a).toNat + (chr s (a + 1)).toNat * 256
def storedM (s : List UInt8) (most : Nat) (t : St) : St :=
  if s.length < (t.at' + 7) / 8 + 4 then failM 5 t
  else if n16 s ((t.at' + 7) / 8) + n16 s ((t.at' + 7) / 8 + 2) ≠ 65535 then failM 4 t
  else if s.length < (t.at' + 7) / 8 + 4 + n16 s ((t.at' + 7) / 8) then failM 5 t
  else if most < t.out.length + n16 s ((t.at' + 7) / 8) then failM 3 t
  else { t with out := t.out ++ (s.drop ((t.at' + 7) / 8 + 4)).take (n16 s ((t.at' + 7) / 8)), at' := 8 * ((t.at' + 7) / 8 + 4 + n16 s ((t.at' + 7) / 8)) }

section
variable {B : Nat → Prop} {s : List UInt8} {t : St} {w bw : AVal} {most p : Nat} {H : AHeap} {l : List Int}
theorem wr2 (hp : H[p]? = some (rdBlk s t w most)) {w' : AVal} (h : w'.one = true) : astore H p 0 2 w' = some (H.set p (rdBlk s t w' most)) := by rw [astore_at hp]; simp [rcs, rdBlk, h]

theorem Rd.set {t' : St} (h : OwnX B H 5 w (bytesOf t'.out)) (hB : B p) (hpl : p < H.length) : Rd B p (H.set p (rdBlk s t' w most)) s t' most :=
  ⟨w, List.getElem?_set_self hpl, h.keep fun k hk _ => List.getElem?_set_ne (by intro c; subst c; exact hk hB)⟩

theorem fail_rd (hB : ∀ r, B r → r < H.length) (hBp : B p) (h : Rd B p H s t most) {e : Int} : ACall Try.prog 52 [.ptr p 0 0, .int .i64 e] H (fun r => r = p ∨ ¬ B r) fun v H' => v = .tuple [] ∧ Rd B p H' s (failM e t) most := by
  obtain ⟨w, hp, hw⟩ := h
  refine ((fail_ok hp).mono fun v H' q => ?_).use (fun r h => .inl (.inl h)) fun v H' q _ _ => q
  obtain ⟨rfl, rfl⟩ := q
  have : (failM e t).out = t.out := by unfold failM; split <;> rfl
  exact ⟨rfl, Rd.set (by rw [this]; exact hw) hBp (hB _ hBp)⟩

theorem stored_ok (hB : ∀ r, B r → r < H.length) (hBp : B p) (h : Rd B p H s t most) (he : t.err = 0) (hs : s.length ≤ 2 ^ 50) (hat : t.at' ≤ 8 * s.length) (hmost : most ≤ 2 ^ 40) (hout : t.out.length ≤ most) :
    ACall Try.prog 48 [.ptr p 0 0] H (fun r => r = p ∨ ¬ B r) fun v H' => v = .tuple [] ∧ Rd B p H' s (storedM s most t) most := by
  have h0 := h
  obtain ⟨w, hp, hw⟩ := h
  refine acall_of hmix Try.func48 x48_ok (by simp) ?_
  have h1 := ageOk_at hp
  have hpl := hB _ hBp
  have hfail : ∀ {e : Int}, ACall Try.prog 52 [.ptr p 0 0, .int .i64 e] H (fun r => (r = p ∨ ¬ B r) ∨ H.length ≤ r) fun v H' => v = .tuple [] ∧ Rd B p H' s (failM e t) most := fun {e} => (fail_rd hB hBp h0).use (fun r h => .inl (.inl h)) fun v H' q _ _ => q
  have hlen := hw.sl.len
  rw [bytesOf_len] at hlen
  have a0 : abin .add (.int .i64 (t.at' : Int)) (.int .i64 7) = some (.int .i64 ((t.at' : Int) + 7)) := by rw [abin_add, i64_id (by omega) (by omega)]
  have a1 : abin .quo (.int .i64 ((t.at' : Int) + 7)) (.int .i64 8) = some (.int .i64 (((t.at' + 7) / 8 : Nat) : Int)) := by
    rw [abin_quo (by omega), Int.tdiv_eq_ediv_of_nonneg (by omega), i64_id (by omega) (by omega)]; rfl
  have a2 : abin .sub (.int .i64 (s.length : Int)) (.int .i64 (((t.at' + 7) / 8 : Nat) : Int)) = some (.int .i64 ((s.length - (t.at' + 7) / 8 : Nat) : Int)) := by
    rw [abin_sub, i64_id (by omega) (by omega)]; congr 2; omega
  unfold storedM
  generalize ha : (t.at' + 7) / 8 = a at *
  have ha2 : a ≤ s.length := by omega
  by_cases c1 : s.length < a + 4
  · simp (config := {contextual := true, implicitDefEqProofs := false}) (disch := omega) [he, h1, rd0 hp, rd1 hp, i64_id, a0, a1, a2, show ((s.length - a : Nat) : Int) < 4 by omega, -abin_sub, c1]
    refine call1_of hfail (fun r h => .inl h) fun v H' q hl hf => ?_
    obtain ⟨rfl, q⟩ := q
    simpa using q
  · have b1 : ∀ k, k < 4 → a + k < s.length := by intro k hk; omega
    have hc : ∀ i, (chr s i).toNat < 256 := fun i => UInt8.toNat_lt _
    have a3 : ∀ c : UInt8, abin .shl (.int .i64 (c.toNat : Int)) (.int .u64 8) = some (.int .i64 ((c.toNat * 256 : Nat) : Int)) := by
      intro c
      have := UInt8.toNat_lt c
      rw [abin_shl (by omega)]
      simp only [bits_i64, show min (8 : Int).toNat 64 = 8 by decide]
      rw [i64_id (by omega) (by omega)]; simp
    have a4 : ∀ x y : Nat, x < 256 → y < 256 → abin .or (.int .i64 (x : Int)) (.int .i64 ((y * 256 : Nat) : Int)) = some (.int .i64 ((x + y * 256 : Nat) : Int)) := by
      intro x y hx hy
      rw [abin_or]
      refine congrArg (fun x => some (AVal.int .i64 x)) ?_
      rw [bits_i64, or_i64 (by omega) (by omega)]
      have := or_add (a := x) (b := y) (i := 8) (by omega)
      rw [show (2 : Nat) ^ 8 = 256 by rfl] at this
      rw [this]
    have hn := hc a
    have hn1 := hc (a + 1)
    have hm := hc (a + 2)
    have hm1 := hc (a + 3)
    have a5 : ∀ (k : Nat) (z : Int), z = k → k ≤ 4 → abin .add (.int .i64 (a : Int)) (.int .i64 z) = some (.int .i64 ((a + k : Nat) : Int)) := by
      rintro k z rfl hk; rw [abin_add, i64_id (by omega) (by omega)]; rfl
    have a51 := a5 1 1 rfl (by omega)
    have a52 := a5 2 2 rfl (by omega)
    have a53 := a5 3 3 rfl (by omega)
    have a54 := a5 4 4 rfl (by omega)
    have hn16 : n16 s a = (chr s a).toNat + (chr s (a + 1)).toNat * 256 := rfl
    have hm16 : n16 s (a + 2) = (chr s (a + 2)).toNat + (chr s (a + 3)).toNat * 256 := rfl
    simp (config := {contextual := true, implicitDefEqProofs := false}) (disch := omega) [he, h1, rd0 hp, rd1 hp, i64_id, a0, a1, a2, a51, a52, a53, a54, a3, a4, show ¬ ((s.length - a : Nat) : Int) < 4 by omega, -abin_sub, -abin_add, -abin_or, c1, vIdxStr_nat, b1, hc, -Int.natCast_add, -Int.natCast_mul, ← hn16, ← hm16]
    have hx : n16 s a < 65536 := by omega
    have hy : n16 s (a + 2) < 65536 := by omega
    generalize hnn : n16 s a = n at *
    generalize hmm : n16 s (a + 2) = m at *
    have a6 : abin .add (.int .i64 (n : Int)) (.int .i64 (m : Int)) = some (.int .i64 ((n + m : Nat) : Int)) := by
      rw [abin_add, i64_id (by omega) (by omega)]; rfl
    by_cases c2 : n + m = 65535
    · have a7 : abin .sub (.int .i64 (s.length : Int)) (.int .i64 ((a + 4 : Nat) : Int)) = some (.int .i64 ((s.length - (a + 4) : Nat) : Int)) := by
        rw [abin_sub, i64_id (by omega) (by omega)]; congr 2; omega
      by_cases c3 : s.length < a + 4 + n
      · simp (config := {contextual := true, implicitDefEqProofs := false}) (disch := omega) [he, h1, rd0 hp, rd1 hp, i64_id, a6, a7, -abin_sub, -abin_add, -Int.natCast_add, -Int.natCast_mul, show ((n + m : Nat) : Int) = 65535 by omega, show ((s.length - (a + 4) : Nat) : Int) < n by omega, c2, c3]
        refine call1_of hfail (fun r h => .inl h) fun v H' q hl hf => ?_
        obtain ⟨rfl, q⟩ := q
        simpa using q
      · have a8 : abin .sub (.int .i64 (most : Int)) (.int .i64 (t.out.length : Int)) = some (.int .i64 ((most - t.out.length : Nat) : Int)) := by
          rw [abin_sub, i64_id (by omega) (by omega)]; congr 2; omega
        by_cases c4 : most < t.out.length + n
        · simp (config := {contextual := true, implicitDefEqProofs := false}) (disch := omega) [he, h1, rd0 hp, rd1 hp, rd2 hp, rd3 hp, hlen, i64_id, a6, a7, a8, -abin_sub, -abin_add, -Int.natCast_add, -Int.natCast_mul, show ((n + m : Nat) : Int) = 65535 by omega, show ¬ ((s.length - (a + 4) : Nat) : Int) < n by omega, show ((most - t.out.length : Nat) : Int) < n by omega, c2, c3, c4]
          refine call1_of hfail (fun r h => .inl h) fun v H' q hl hf => ?_
          obtain ⟨rfl, q⟩ := q
          simpa using q
        · have a9 : abin .add (.int .i64 ((a + 4 : Nat) : Int)) (.int .i64 (n : Int)) = some (.int .i64 ((a + 4 + n : Nat) : Int)) := by
            rw [abin_add, i64_id (by omega) (by omega)]; rfl
          have a10 : vSlStr (.str s) (some (.int .i64 ((a + 4 : Nat) : Int))) (some (.int .i64 ((a + 4 + n : Nat) : Int))) = some (.str ((s.drop (a + 4)).take n)) := by
            rw [vSlStr_both (by omega) (by omega) (by omega)]; congr 3; omega
          have hnl : ((s.drop (a + 4)).take n).length = n := by simp; omega
          obtain ⟨w', H2, ha, hw2, hlen2, hfr2⟩ := hw.append hB (x := .str ((s.drop (a + 4)).take n)) (bytes := 1) asrc_str (by simp) (by simp) (by rw [bytesOf_len, hnl]; simp [roomLim]; omega)
          rw [← bytesOf_app] at hw2
          simp (config := {contextual := true, implicitDefEqProofs := false}) (disch := omega) [he, h1, rd0 hp, rd1 hp, rd2 hp, rd3 hp, hlen, i64_id, a6, a7, a8, a9, a10, -abin_sub, -abin_add, -Int.natCast_add, -Int.natCast_mul, show ((n + m : Nat) : Int) = 65535 by omega, show ¬ ((s.length - (a + 4) : Nat) : Int) < n by omega, show ¬ ((most - t.out.length : Nat) : Int) < n by omega, c2, c3, c4]
          refine de1_of ha ?_ ?_
          · intro r ht
            have ht2 : appTarget w r := by simpa using ht
            exact ⟨.inl (.inr (hw.target ht2)), by simp [SOp.reads]⟩
          have hp2 : H2[p]? = some (rdBlk s t w most) := by rw [hfr2 p hBp]; exact hp
          have hpl2 : p < H2.length := by omega
          have hp3 : (H2.set p (rdBlk s t w' most))[p]? = some (rdBlk s t w' most) := List.getElem?_set_self hpl2
          have g2 := ageOk_at hp2
          have g3 := ageOk_at hp3
          have a11 : abin .mul (.int .i64 8) (.int .i64 ((a + 4 + n : Nat) : Int)) = some (.int .i64 ((8 * (a + 4 + n) : Nat) : Int)) := by
            rw [abin_mul, i64_id (by omega) (by omega)]; rfl
          have s1 := wr2 hp2 hw2.one
          have s2 := wr1 hp3 (n := 8 * (a + 4 + n))
          rw [List.set_set] at s2
          simp (config := {contextual := true, implicitDefEqProofs := false}) (disch := omega) [g2, g3, s1, s2, hw2.known, hw2.cells, a9, a11, -abin_sub, -abin_add, -abin_mul, -Int.natCast_add, -Int.natCast_mul]
          rw [he]
          exact Rd.set (t' := { at' := 8 * (a + 4 + n), out := t.out ++ (s.drop (a + 4)).take n, err := 0 }) hw2 hBp hpl2
    · simp (config := {contextual := true, implicitDefEqProofs := false}) (disch := omega) [he, h1, rd0 hp, rd1 hp, i64_id, a6, -abin_sub, -abin_add, -Int.natCast_add, -Int.natCast_mul, show ¬ ((n + m : Nat) : Int) = 65535 by omega, c2]
      refine call1_of hfail (fun r h => .inl h) fun v H' q hl hf => ?_
      obtain ⟨rfl, q⟩ := q
      simpa using q
end
end Go.Proofs.Ytdknddicpdhkcaa.Ab

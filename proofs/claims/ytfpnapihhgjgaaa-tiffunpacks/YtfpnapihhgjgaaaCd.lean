/- Layer 49: tiff.Unpack. Conditions: as each says. -/
import Derived.Test.YtfpnapihhgjgaaaCc
namespace Go.Proofs.Ytfpnapihhgjgaaa.Ab
set_option linter.unusedVariables false
set_option linter.unusedSimpArgs false
set_option maxRecDepth 100000

/-- Unpack from here on: 'out': what is written. -/
def unpG (n : Nat) (s out : List UInt8) : List UInt8 × Int :=
  if out.length < n then
    match s with
    | [] => ([], 5)
    | h :: t =>
      if h.toNat = 128 then unpG n t out
      else if 128 < h.toNat then
        (if n - out.length < 257 - h.toNat then ([], 4) else if t.length < 1 then ([], 5) else unpG n (t.drop 1) (out ++ List.replicate (257 - h.toNat) (chr t 0)))
      else (if n - out.length < h.toNat + 1 then ([], 4) else if t.length < h.toNat + 1 then ([], 5) else unpG n (t.drop (h.toNat + 1)) (out ++ t.take (h.toNat + 1)))
  else if s = [] then (out, 0) else ([], 6)
termination_by s.length
decreasing_by all_goals (simp only [List.length_cons, List.length_drop]; omega)
def unpP (s : List UInt8) (n : Int) : List UInt8 × Int := if n < 0 ∨ 1048576 < n then ([], 2) else unpG n.toNat s []

section
variable {n : Nat} {out t : List UInt8} {h : UInt8}
theorem unpG_end (e : n ≤ out.length) (s : List UInt8) : unpG n s out = if s = [] then (out, 0) else ([], 6) := by rw [unpG.eq_def, if_neg (by omega)]
theorem unpG_nil (e : out.length < n) : unpG n [] out = ([], 5) := by rw [unpG.eq_def, if_pos e]
theorem unpG_skip (e : out.length < n) (h1 : h.toNat = 128) : unpG n (h :: t) out = unpG n t out := by rw [unpG.eq_def, if_pos e]; simp only []; rw [if_pos h1]
theorem unpG_run (e : out.length < n) (h1 : 128 < h.toNat) : unpG n (h :: t) out = if n - out.length < 257 - h.toNat then ([], 4) else if t.length < 1 then ([], 5) else unpG n (t.drop 1) (out ++ List.replicate (257 - h.toNat) (chr t 0)) := by
  rw [unpG.eq_def, if_pos e]; simp only []; rw [if_neg (by omega), if_pos h1]
theorem unpG_lit (e : out.length < n) (h1 : h.toNat < 128) : unpG n (h :: t) out = if n - out.length < h.toNat + 1 then ([], 4) else if t.length < h.toNat + 1 then ([], 5) else unpG n (t.drop (h.toNat + 1)) (out ++ t.take (h.toNat + 1)) := by
  rw [unpG.eq_def, if_pos e]; simp only []; rw [if_neg (by omega), if_neg (by omega)]
end

theorem repeatL_one1 (x : UInt8) (c : Nat) : Lib.repeatL [x] c = List.replicate c x := by simpa using Lib.repeatL_replicate x 1 c

def inv9 (H : AHeap) (s : List UInt8) (N : Nat) (n : Nat) (env : Env) (H' : AHeap) : Prop :=
  ∃ acc rest, n = rest.length ∧ unpG N s [] = unpG N rest acc ∧ acc.length ≤ N ∧ rest.length ≤ s.length ∧ env 0 = .str rest ∧ env 1 = .int .i64 N ∧ env 6 = .ptr H.length 0 0 ∧ BldT (fun r => r < H.length) H' H.length acc ∧ (∀ r, r < H.length → H'[r]? = H[r]?) ∧ H.length < H'.length

def pairV (r : List UInt8 × Int) : AVal := .tuple [.str r.1, .int .i64 r.2]

theorem unpack_ok (s : List UInt8) (n : Int) (hs : s.length ≤ roomLim) (H : AHeap) (fp : Nat → Prop) : ACall Try.prog 9 [.str s, .int .i64 n] H fp fun v' H' => v' = pairV (unpP s n) ∧ H' = H := by
  unfold roomLim at hs
  refine ((ACall.drop (fp := fp) (R := fun v _ => v = pairV (unpP s n)) (?_) fun v H' e => by rw [e]; rfl)).mono fun v H' q => ⟨by obtain ⟨_, _, h, _⟩ := q; exact h, q.1⟩
  refine acall_of hmix Try.func9 x9_ok (by simp) ?_
  simp (config := {contextual := true, implicitDefEqProofs := false}) (disch := omega)
  by_cases hn : n < 0 ∨ 1048576 < n
  · have hu : unpP s n = ([], 2) := by rw [unpP, if_pos hn]
    simp (config := {contextual := true, implicitDefEqProofs := false}) (disch := omega) [hu, pairV]
    exact fun h0 h1 => absurd hn (by omega)
  · have hu : unpP s n = unpG n.toNat s [] := by rw [unpP, if_neg hn]
    obtain ⟨N, rfl⟩ := Int.eq_ofNat_of_zero_le (by omega : 0 ≤ n)
    have hN : N ≤ 1048576 := by omega
    have hN2 : (N : Int) ≤ 1048576 := by omega
    rw [hu, Int.toNat_natCast]
    simp (config := {contextual := true, implicitDefEqProofs := false}) (disch := omega) [hN, hN2]
    refine ⟨fun h => by omega, fun h => by omega, ?_⟩
    refine vc_loop (inv9 H s N) s.length ?_ ?_
    · exact ⟨[], s, rfl, rfl, by simp, Nat.le_refl _, by simp, by simp, by simp, Bld.fresh (fun r h => h), fun r hr => List.getElem?_append_left hr, by simp⟩
    · rintro n env H1 ⟨acc, rest, rfl, hp, hlen, hrl, e0, e1, e6, hB, hk, hl⟩
      simp (config := {contextual := true, implicitDefEqProofs := false}) (disch := omega) [e0, e1, e6]
      refine call1_eq (bl_ok hB) ?_
      simp (config := {contextual := true, implicitDefEqProofs := false}) (disch := omega) [e0, e1, e6]
      refine ⟨fun h1 => ?_, fun h1 => ?_⟩
      · cases rest with
        | nil =>
          rw [unpG_nil h1] at hp
          simp [hp, pairV]
        | cons h t =>
          have hh := UInt8.toNat_lt h
          have hi0 : vIdxStr (.str (h :: t)) (.int .i64 0) = some (.int .u8 (h.toNat : Int)) := by simp [vIdxStr]
          have hs1 : vSlStr (.str (h :: t)) (some (.int .i64 1)) none = some (.str t) := by rw [vSlStr_lo (by omega) (by simp; omega)]; rfl
          simp only [List.length_cons] at hrl
          simp (config := {contextual := true, implicitDefEqProofs := false}) (disch := omega) [e0, e1, e6, hi0, hs1, i64_id, -Int.natCast_add]
          refine ⟨fun g => ?_, fun g1 => ⟨fun g2 => ?_, fun g2 => ?_⟩⟩
          · rw [unpG_skip h1 (by omega)] at hp
            exact again_iff t.length (by omega) ⟨acc, t, rfl, hp, hlen, by omega, by simp, by simp [e1], by simp [e6], hB, hk, hl⟩
          · have hc : (257 : Int) - (h.toNat : Int) = ((257 - h.toNat : Nat) : Int) := by omega
            rw [unpG_run h1 (by omega)] at hp
            refine call1_eq (bl_ok hB) ?_
            simp (config := {contextual := true, implicitDefEqProofs := false}) (disch := omega) [e0, e1, e6, i64_id, hc, -Int.natCast_add]
            refine ⟨fun g3 => ?_, fun g3 => ⟨fun g4 => ?_, fun g4 => ?_⟩⟩
            · rw [if_pos (by omega)] at hp
              simp [hp, pairV]
            · rw [if_neg (by omega), if_pos (by omega)] at hp
              simp [hp, pairV]
            · rw [if_neg (by omega), if_neg (by omega)] at hp
              have ht1 : vSlStr (.str t) none (some (.int .i64 1)) = some (.str [chr t 0]) := by
                rw [vSlStr_hi (by omega) (by omega)]
                cases t with
                | nil => simp at g4
                | cons a t => rfl
              simp (config := {contextual := true, implicitDefEqProofs := false}) (disch := omega) [ht1]
              refine ⟨fun _ => ?_, fun g5 => by omega⟩
              refine call1_eq (repeat_ok (s := [chr t 0]) (c := 257 - h.toNat) (by omega) (by simp; omega)) ?_
              simp (config := {contextual := true, implicitDefEqProofs := false}) (disch := omega) [e6]
              rw [repeatL_one1]
              refine call1_of (ws_ok (t := List.replicate (257 - h.toNat) (chr t 0)) (fp := fun r => ¬ r < H.length) hB (fun r hr => by omega) (by simp [roomLim]; omega) fun r h => h) (fun r hr => .inl (by omega)) ?_
              rintro v H2 ⟨rfl, hB2, hle2, hfr2⟩ _ _
              simp (config := {contextual := true, implicitDefEqProofs := false}) (disch := omega) [vSlStr_lo]
              exact again_iff (t.length - 1) (by omega) ⟨_, t.drop 1, by simp, hp, by simp; omega, by simp; omega, by simp, by simp [e1], by simp [e6], hB2, fun r hr => by rw [hfr2 r hr]; exact hk r hr, by omega⟩
          · have hc : (h.toNat : Int) + 1 = ((h.toNat + 1 : Nat) : Int) := by omega
            rw [unpG_lit h1 (by omega)] at hp
            refine call1_eq (bl_ok hB) ?_
            simp (config := {contextual := true, implicitDefEqProofs := false}) (disch := omega) [e0, e1, e6, i64_id, hc, -Int.natCast_add]
            refine ⟨fun g3 => ?_, fun g3 => ⟨fun g4 => ?_, fun g4 => ?_⟩⟩
            · rw [if_pos (by omega)] at hp
              simp [hp, pairV]
            · rw [if_neg (by omega), if_pos (by omega)] at hp
              simp [hp, pairV]
            · rw [if_neg (by omega), if_neg (by omega)] at hp
              simp (config := {contextual := true, implicitDefEqProofs := false}) (disch := omega) [e6, vSlStr_hi, g2, -Int.natCast_add]
              refine ⟨fun g5 => by omega, ?_⟩
              refine call1_of (ws_ok (t := t.take (h.toNat + 1)) (fp := fun r => ¬ r < H.length) hB (fun r hr => by omega) (by simp [roomLim]; omega) fun r h => h) (fun r hr => .inl (by omega)) ?_
              rintro v H2 ⟨rfl, hB2, hle2, hfr2⟩ _ _
              simp (config := {contextual := true, implicitDefEqProofs := false}) (disch := omega) [vSlStr_lo, -Int.natCast_add]
              refine again_iff (t.length - (h.toNat + 1)) (by omega) ⟨_, t.drop (h.toNat + 1), by simp, hp, by simp; omega, by simp; omega, by simp, by simp [e1], by simp [e6], by simpa using hB2, fun r hr => by rw [hfr2 r hr]; exact hk r hr, by omega⟩
      · have hN3 : N = acc.length := by omega
        rw [unpG_end (out := acc) (by omega) rest] at hp
        refine ⟨fun g => ?_, fun g => ?_⟩
        · rw [if_neg g] at hp
          simp [hp, pairV]
        · rw [if_pos g] at hp
          refine call1_of (bs_ok (fp := fun r => ¬ r < H.length) hB (by unfold roomLim; omega) fun r h => h) (fun r hr => .inl (by omega)) ?_
          rintro v H2 ⟨rfl, _, hfr2⟩ _ _
          simp (config := {contextual := true, implicitDefEqProofs := false}) (disch := omega) [hp, pairV]
end Go.Proofs.Ytfpnapihhgjgaaa.Ab

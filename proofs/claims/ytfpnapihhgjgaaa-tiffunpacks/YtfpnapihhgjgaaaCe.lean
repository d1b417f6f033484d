/- Layer 49: the reference's Unpack. Conditions: as each says. -/
import Derived.Test.YtfpnapihhgjgaaaCd
namespace Go.Proofs.Ytfpnapihhgjgaaa.Ab
set_option linter.unusedVariables false
set_option linter.unusedSimpArgs false
set_option maxRecDepth 100000

def inv10 (H : AHeap) (s : List UInt8) (N : Nat) (n : Nat) (env : Env) (H' : AHeap) : Prop :=
  ∃ acc p, n = s.length - p ∧ p ≤ s.length ∧ unpG N s [] = unpG N (s.drop p) acc ∧ acc.length ≤ N ∧ env 0 = .str s ∧ env 1 = .int .i64 N ∧ env 7 = .int .i64 p ∧ OwnX (fun r => r < H.length) H' 5 (env 6) (bytesOf acc) ∧ (∀ r, r < H.length → H'[r]? = H[r]?) ∧ H.length ≤ H'.length

/-- What k bytes of a piece are: of a run, or as they stand. -/
def pieceG (s : List UInt8) (q : Nat) (h : UInt8) (k : Nat) : List UInt8 := if 128 < h.toNat then List.replicate k (chr s q) else (s.drop q).take k
def inv10b (H : AHeap) (s : List UInt8) (N q c b : Nat) (h : UInt8) (acc : List UInt8) (n : Nat) (env : Env) (H' : AHeap) : Prop :=
  ∃ k, n = c - k ∧ k ≤ c ∧ env 0 = .str s ∧ env 1 = .int .i64 N ∧ env 7 = .int .i64 q ∧ env 8 = .int .i64 h.toNat ∧ env 9 = .int .i64 c ∧ env 10 = .int .i64 b ∧ env 11 = .int .i64 k ∧ OwnX (fun r => r < H.length) H' 5 (env 6) (bytesOf (acc ++ pieceG s q h k)) ∧ (∀ r, r < H.length → H'[r]? = H[r]?) ∧ H.length ≤ H'.length

def fin10 (H : AHeap) (s : List UInt8) (N q b c : Nat) (h : UInt8) (acc : List UInt8) (env : Env) (H' : AHeap) : Prop :=
  env 0 = .str s ∧ env 1 = .int .i64 N ∧ env 7 = .int .i64 q ∧ env 10 = .int .i64 b ∧ OwnX (fun r => r < H.length) H' 5 (env 6) (bytesOf (acc ++ pieceG s q h c)) ∧ (∀ r, r < H.length → H'[r]? = H[r]?) ∧ H.length ≤ H'.length

theorem pieceG_len {s : List UInt8} {q : Nat} {h : UInt8} {k : Nat} : (pieceG s q h k).length ≤ k := by
  unfold pieceG; split <;> simp <;> omega
theorem pieceG_run {s : List UInt8} {q : Nat} {h : UInt8} {k : Nat} (g : 128 < h.toNat) : pieceG s q h k ++ [chr s q] = pieceG s q h (k + 1) := by
  unfold pieceG; rw [if_pos g, if_pos g, List.replicate_succ']
theorem pieceG_lit {s : List UInt8} {q : Nat} {h : UInt8} {k : Nat} (g : ¬ 128 < h.toNat) (hk : q + k < s.length) : pieceG s q h k ++ [chr s (q + k)] = pieceG s q h (k + 1) := by
  unfold pieceG; rw [if_neg g, if_neg g, List.take_add_one]
  have : (s.drop q)[k]? = some (chr s (q + k)) := by rw [List.getElem?_drop, List.getElem?_eq_getElem hk]; simp [chr, hk]
  rw [this]; rfl

theorem runpack_ok (s : List UInt8) (n : Int) (hs : s.length ≤ roomLim) (H : AHeap) (fp : Nat → Prop) : ACall Try.prog 10 [.str s, .int .i64 n] H fp fun v' H' => v' = pairV (unpP s n) ∧ H' = H := by
  unfold roomLim at hs
  refine ((ACall.drop (fp := fp) (R := fun v _ => v = pairV (unpP s n)) (?_) fun v H' e => by rw [e]; rfl)).mono fun v H' q => ⟨by obtain ⟨_, _, h, _⟩ := q; exact h, q.1⟩
  refine acall_of hmix Try.func10 x10_ok (by simp) ?_
  simp (config := {contextual := true, implicitDefEqProofs := false}) (disch := omega)
  by_cases hn : n < 0 ∨ 1048576 < n
  · have hu : unpP s n = ([], 2) := by rw [unpP, if_pos hn]
    simp (config := {contextual := true, implicitDefEqProofs := false}) (disch := omega) [hu, pairV]
    exact fun h0 h1 => absurd hn (by omega)
  · have hu : unpP s n = unpG n.toNat s [] := by rw [unpP, if_neg hn]
    obtain ⟨N, rfl⟩ := Int.eq_ofNat_of_zero_le (by omega : 0 ≤ n)
    have hN : N ≤ 1048576 := by omega
    have hN2 : (N : Int) ≤ 1048576 := by omega
    rw [hu, Int.toNat_natCast]
    simp (config := {contextual := true, implicitDefEqProofs := false}) (disch := omega) [hN, hN2]
    refine ⟨fun h => by omega, fun h => by omega, ?_⟩
    refine vc_loop (inv10 H s N) s.length ?_ ?_
    · exact ⟨[], 0, by simp, by simp, by simp, by simp, by simp, by simp, by simp, .inl ⟨by simp, rfl⟩, fun r hr => rfl, Nat.le_refl _⟩
    · rintro n env H1 ⟨acc, p, rfl, hp0, hp, hlen, e0, e1, e7, hO, hk, hl⟩
      obtain ⟨w, hw⟩ : ∃ w, env 6 = w := ⟨_, rfl⟩
      rw [hw] at hO
      have hol : vLen H1 w = some (.int .i64 acc.length) := by simpa using hO.sl.len
      simp (config := {contextual := true, implicitDefEqProofs := false}) (disch := omega) [e0, e1, e7, hw, hol]
      refine ⟨fun h1 => ⟨fun h2 => ?_, fun h2 => ?_⟩, fun h1 => ?_⟩
      · have hz : s.drop p = [] := List.drop_eq_nil_of_le h2
        rw [hz, unpG_nil h1] at hp
        simp [hp, pairV]
      · obtain ⟨h, hh⟩ : ∃ h, chr s p = h := ⟨_, rfl⟩
        have hd : s.drop p = h :: s.drop (p + 1) := by rw [← hh]; exact drop_chr h2
        have hb := UInt8.toNat_lt h
        have hi0 : vIdxStr (.str s) (.int .i64 (p : Int)) = some (.int .u8 (h.toNat : Int)) := by rw [vIdxStr_nat h2, hh]
        have hpp : (p : Int) + 1 = ((p + 1 : Nat) : Int) := by omega
        rw [hd] at hp
        simp (config := {contextual := true, implicitDefEqProofs := false}) (disch := omega) [e0, e1, e7, hw, hol, hi0, hpp, i64_id, -Int.natCast_add]
        have fin : ∀ (c b : Nat), c ≤ N - acc.length → b ≤ s.length - (p + 1) → (128 < h.toNat → b = 1) → (¬ 128 < h.toNat → c = b) → unpG N s [] = unpG N (s.drop (p + 1 + b)) (acc ++ pieceG s (p + 1) h c) → ∀ env2 : Env, env2 0 = .str s → env2 1 = .int .i64 N → env2 7 = .int .i64 ((p + 1 : Nat) : Int) → env2 8 = .int .i64 h.toNat → env2 9 = .int .i64 c → env2 10 = .int .i64 b → env2 11 = .int .i64 0 → env2 6 = w →
            inv10b H s N (p + 1) c b h acc c env2 H1 := by
          intro c b _ _ _ _ _ env2 f0 f1 f7 f8 f9 f10 f11 f6
          exact ⟨0, rfl, by omega, f0, f1, f7, f8, f9, f10, by simpa using f11, by rw [f6]; unfold pieceG; simpa using hO, hk, hl⟩
        refine ⟨fun g => ?_, fun g1 => ⟨fun g2 => ?_, fun g2 => ?_⟩⟩
        · rw [unpG_skip h1 (by omega)] at hp
          exact again_iff (s.length - (p + 1)) (by omega) ⟨acc, p + 1, rfl, by omega, hp, hlen, by simp [e0], by simp [e1], by simp, by simpa [hw] using hO, hk, hl⟩
        · have g2 : 128 < h.toNat := by omega
          have hc : (257 : Int) - (h.toNat : Int) = ((257 - h.toNat : Nat) : Int) := by omega
          rw [unpG_run h1 (by omega)] at hp
          simp (config := {contextual := true, implicitDefEqProofs := false}) (disch := omega) [e0, e1, e7, hw, hol, hc, i64_id, -Int.natCast_add]
          refine ⟨fun g3 => ?_, fun g3 => ⟨fun g4 => ?_, fun g4 => ?_⟩⟩
          · rw [if_pos (by omega)] at hp
            simp [hp, pairV]
          · rw [if_neg (by omega), if_pos (by simp; omega)] at hp
            simp [hp, pairV]
          · rw [if_neg (by omega), if_neg (by simp; omega)] at hp
            refine vc_loop_cut 2 (fin10 H s N (p + 1) 1 (257 - h.toNat) h acc) (inv10b H s N (p + 1) (257 - h.toNat) 1 h acc) (257 - h.toNat) ?_ ?_ ?_
            · exact fin (257 - h.toNat) 1 (by omega) (by omega) (by omega) (by omega) (by rw [hp]; simp [pieceG, if_pos g2, chr_drop, List.drop_drop]) _ (by simp [e0]) (by simp [e1]) (by simp) (by simp) (by simp) (by simp) (by simp) (by simp [hw])
            · rintro n env H' ⟨k, rfl, hk0, f0, f1, f7, f8, f9, f10, f11, hO2, hk2, hl2⟩
              obtain ⟨w2, hw2⟩ : ∃ w2, env 6 = w2 := ⟨_, rfl⟩
              rw [hw2] at hO2
              simp (config := {contextual := true, implicitDefEqProofs := false}) (disch := omega) [f0, f1, f7, f8, f9, f10, f11, hw2, i64_id, -Int.natCast_add]
              have hfin : k = (257 - h.toNat) → OwnX (fun r => r < H.length) H' 5 w2 (bytesOf (acc ++ pieceG s (p + 1) h (257 - h.toNat))) := fun e => by rw [← e]; exact hO2
              refine ⟨fun a1 => ⟨fun a2 => ?_, fun a2 => ?_⟩, fun a1 => ?_⟩
              · obtain ⟨d, hd2⟩ : ∃ d, chr s (p + 1) = d := ⟨_, rfl⟩
                have hi2 : vIdxStr (.str s) (.int .i64 ((p + 1 : Nat) : Int)) = some (.int .u8 (d.toNat : Int)) := by rw [vIdxStr_nat (by omega), hd2]
                have hpl := pieceG_len (s := s) (q := p + 1) (h := h) (k := k)
                obtain ⟨w3, H3, ha0, hO3, hle3, hfr3⟩ := hO2.appendNew (fun r hr => by omega) [d] (by simp [roomLim]; omega)
                have ha : aappend 1 1 5 w2 (.slice H'.length 0 0 1 1) (H' ++ [.cells 0 false 5 [.int .u8 (d.toNat : Int)]]) = some (w3, H3) := ha0
                rw [List.append_assoc, ← hd2, pieceG_run g2] at hO3
                have hkk : ((p + 1 : Nat) : Int) + (k : Int) = ((p + 1 + k : Nat) : Int) := by omega
                simp (config := {contextual := true, implicitDefEqProofs := false}) (disch := omega) [f0, f7, f11, hw2, hi2, ha, hkk, i64_id, afill, zrep, -Int.natCast_add]
                refine ⟨fun r hr => by have := hO2.target hr; omega, ?_⟩
                exact again_iff ((257 - h.toNat) - (k + 1)) (by omega) ⟨k + 1, rfl, by omega, by simp [f0], by simp [f1], by simp [f7], by simp [f8], by simp [f9], by simp [f10], by simp, by simpa [-bytesOf_app] using hO3, fun r hr => by rw [hfr3 r hr]; exact hk2 r hr, by omega⟩
              · omega
              · exact ⟨by simp [f0], by simp [f1], by simp [f7], by simp [f10], by simpa [hw2, -bytesOf_app] using hfin (by omega), hk2, hl2⟩
            · rintro env H' ⟨f0, f1, f7, f10, hO2, hk2, hl2⟩
              obtain ⟨w2, hw2⟩ : ∃ w2, env 6 = w2 := ⟨_, rfl⟩
              rw [hw2] at hO2
              simp (config := {contextual := true, implicitDefEqProofs := false}) (disch := omega) [f0, f1, f7, f10, hw2, i64_id, -Int.natCast_add]
              exact again_iff (s.length - (p + 1 + 1)) (by omega) ⟨acc ++ pieceG s (p + 1) h (257 - h.toNat), p + 1 + 1, rfl, by omega, by rw [hp]; simp [pieceG, if_pos g2, chr_drop, List.drop_drop], by have := pieceG_len (s := s) (q := p + 1) (h := h) (k := (257 - h.toNat)); simp; omega, by simp [f0], by simp [f1], by simp; try omega, by simpa [hw2, -bytesOf_app] using hO2, hk2, hl2⟩
        · have g2 : ¬ 128 < h.toNat := by omega
          have hc : (h.toNat : Int) + 1 = ((h.toNat + 1 : Nat) : Int) := by omega
          rw [unpG_lit h1 (by omega)] at hp
          simp (config := {contextual := true, implicitDefEqProofs := false}) (disch := omega) [e0, e1, e7, hw, hol, hc, i64_id, -Int.natCast_add]
          refine ⟨fun g3 => ?_, fun g3 => ⟨fun g4 => ?_, fun g4 => ?_⟩⟩
          · rw [if_pos (by omega)] at hp
            simp [hp, pairV]
          · rw [if_neg (by omega), if_pos (by simp; omega)] at hp
            simp [hp, pairV]
          · rw [if_neg (by omega), if_neg (by simp; omega)] at hp
            refine vc_loop_cut 2 (fin10 H s N (p + 1) (h.toNat + 1) (h.toNat + 1) h acc) (inv10b H s N (p + 1) (h.toNat + 1) (h.toNat + 1) h acc) (h.toNat + 1) ?_ ?_ ?_
            · exact fin (h.toNat + 1) (h.toNat + 1) (by omega) (by omega) (by omega) (by omega) (by rw [hp]; simp [pieceG, if_neg g2, List.drop_drop]) _ (by simp [e0]) (by simp [e1]) (by simp) (by simp) (by simp) (by simp) (by simp) (by simp [hw])
            · rintro n env H' ⟨k, rfl, hk0, f0, f1, f7, f8, f9, f10, f11, hO2, hk2, hl2⟩
              obtain ⟨w2, hw2⟩ : ∃ w2, env 6 = w2 := ⟨_, rfl⟩
              rw [hw2] at hO2
              simp (config := {contextual := true, implicitDefEqProofs := false}) (disch := omega) [f0, f1, f7, f8, f9, f10, f11, hw2, i64_id, -Int.natCast_add]
              have hfin : k = (h.toNat + 1) → OwnX (fun r => r < H.length) H' 5 w2 (bytesOf (acc ++ pieceG s (p + 1) h (h.toNat + 1))) := fun e => by rw [← e]; exact hO2
              refine ⟨fun a1 => ⟨fun a2 => ?_, fun a2 => ?_⟩, fun a1 => ?_⟩
              · omega
              · obtain ⟨d, hd2⟩ : ∃ d, chr s (p + 1 + k) = d := ⟨_, rfl⟩
                have hi2 : vIdxStr (.str s) (.int .i64 ((p + 1 + k : Nat) : Int)) = some (.int .u8 (d.toNat : Int)) := by rw [vIdxStr_nat (by omega), hd2]
                have hpl := pieceG_len (s := s) (q := p + 1) (h := h) (k := k)
                obtain ⟨w3, H3, ha0, hO3, hle3, hfr3⟩ := hO2.appendNew (fun r hr => by omega) [d] (by simp [roomLim]; omega)
                have ha : aappend 1 1 5 w2 (.slice H'.length 0 0 1 1) (H' ++ [.cells 0 false 5 [.int .u8 (d.toNat : Int)]]) = some (w3, H3) := ha0
                rw [List.append_assoc, ← hd2, pieceG_lit g2 (by omega)] at hO3
                have hkk : ((p + 1 : Nat) : Int) + (k : Int) = ((p + 1 + k : Nat) : Int) := by omega
                simp (config := {contextual := true, implicitDefEqProofs := false}) (disch := omega) [f0, f7, f11, hw2, hi2, ha, hkk, i64_id, afill, zrep, -Int.natCast_add]
                refine ⟨fun r hr => by have := hO2.target hr; omega, ?_⟩
                exact again_iff ((h.toNat + 1) - (k + 1)) (by omega) ⟨k + 1, rfl, by omega, by simp [f0], by simp [f1], by simp [f7], by simp [f8], by simp [f9], by simp [f10], by simp, by simpa [-bytesOf_app] using hO3, fun r hr => by rw [hfr3 r hr]; exact hk2 r hr, by omega⟩
              · exact ⟨by simp [f0], by simp [f1], by simp [f7], by simp [f10], by simpa [hw2, -bytesOf_app] using hfin (by omega), hk2, hl2⟩
            · rintro env H' ⟨f0, f1, f7, f10, hO2, hk2, hl2⟩
              obtain ⟨w2, hw2⟩ : ∃ w2, env 6 = w2 := ⟨_, rfl⟩
              rw [hw2] at hO2
              simp (config := {contextual := true, implicitDefEqProofs := false}) (disch := omega) [f0, f1, f7, f10, hw2, i64_id, -Int.natCast_add]
              exact again_iff (s.length - (p + 1 + (h.toNat + 1))) (by omega) ⟨acc ++ pieceG s (p + 1) h (h.toNat + 1), p + 1 + (h.toNat + 1), rfl, by omega, by rw [hp]; simp [pieceG, if_neg g2, List.drop_drop], by have := pieceG_len (s := s) (q := p + 1) (h := h) (k := (h.toNat + 1)); simp; omega, by simp [f0], by simp [f1], by simp; try omega, by simpa [hw2, -bytesOf_app] using hO2, hk2, hl2⟩
      · rw [unpG_end (out := acc) (by omega) _] at hp
        refine ⟨fun g => ?_, fun g => ?_⟩
        · have hz : s.drop p ≠ [] := by intro e; have := congrArg List.length e; simp at this; omega
          rw [if_neg hz] at hp
          simp [hp, pairV]
        · have hz : s.drop p = [] := List.drop_eq_nil_of_le (by omega)
          rw [if_pos hz] at hp
          simp (config := {contextual := true, implicitDefEqProofs := false}) (disch := omega) [hw, hO.sl.toStr, hp, pairV]
end Go.Proofs.Ytfpnapihhgjgaaa.Ab

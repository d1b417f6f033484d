/- Inflate: matches. Conditions: none; for the statements about layers 46 and 47. -/
import Derived.Test.YtdknddicpdhkcaaTd
namespace Go.Proofs.Ytdknddicpdhkcaa.Ab
set_option linter.unusedVariables false
set_option linter.unusedSimpArgs false

theorem Sl.loadB {H : AHeap} {v : AVal} {s : List UInt8} (h : Sl H v (bytesOf s)) {i : Nat} (hi : i < s.length) : vLoad H (v.at i) = some (.int .u8 (chr s i).toNat) := by
  have := h.load (i := i) (by simpa using hi)
  rw [this]
  simp [bytesOf, chr, List.getD_eq_getElem?_getD, hi]
theorem Sl.idxB {H : AHeap} {v : AVal} {s : List UInt8} (h : Sl H v (bytesOf s)) {k : IntKind} {n : Nat} (hi : n < s.length) : vIdx H 1 v (.int k (n : Int)) = some (v.at n) := h.idxN (by simpa using hi)
theorem Sl.lenB {H : AHeap} {v : AVal} {s : List UInt8} (h : Sl H v (bytesOf s)) : vLen H v = some (.int .i64 s.length) := by
  have := h.len; simpa using this

theorem mem_ordG {l : List Int} {x : Int} : ∀ {j : Nat}, x ∈ ordG l j → 0 ≤ x ∧ x < l.length
  | 0, h => by simp [ordG] at h
  | j + 1, h => by
    simp only [ordG, List.mem_append] at h
    rcases h with h | h
    · exact mem_ordG h
    · simp only [idxs, List.mem_map, List.mem_filter, List.mem_range] at h
      obtain ⟨q, ⟨hq, _⟩, rfl⟩ := h
      omega
@[simp] theorem failM_out {e : Int} {t : St} : (failM e t).out = t.out := by unfold failM; split <;> rfl
@[simp] theorem failM_at {e : Int} {t : St} : (failM e t).at' = t.at' := by unfold failM; split <;> rfl
@[simp] theorem bitsM_out {s : List UInt8} {n : Nat} {t : St} : (bitsM s n t).2.out = t.out := by
  unfold bitsM
  split
  · rfl
  · split <;> rfl
theorem bitsM_at2 (s : List UInt8) {n : Nat} {t : St} (he : (bitsM s n t).2.err = 0) : (bitsM s n t).2.at' = t.at' + n ∧ t.err = 0 ∧ t.at' + n ≤ 8 * s.length := by
  unfold bitsM at he ⊢
  split
  · rename_i h; rw [if_pos h] at he; exact absurd he h
  · rename_i h
    rw [if_neg h] at he
    split
    · rename_i h2; rw [if_pos h2] at he; simp at he
    · rename_i h2; exact ⟨rfl, by simpa using h, by omega⟩
theorem symM_facts (s : List UInt8) (l : List Int) : ∀ (m k code first index : Nat) (t : St), t.at' ≤ 8 * s.length → (0 ≤ (symM s l m k code first index t).1 ∧ ((symM s l m k code first index t).1 < l.length ∨ (symM s l m k code first index t).1 = 0)) ∧ (symM s l m k code first index t).2.out = t.out ∧
    (symM s l m k code first index t).2.at' ≤ 8 * s.length ∧ t.at' ≤ (symM s l m k code first index t).2.at' ∧ ((symM s l m k code first index t).2.err = 0 → t.err = 0 ∧ t.at' < (symM s l m k code first index t).2.at')
  | 0, k, code, first, index, t, hat => by
    refine ⟨by simp [symM], by simp [symM], by simpa [symM] using hat, by simp [symM], ?_⟩
    intro h
    simp only [symM, failM] at h
    split at h
    · cases h
    · rename_i h2; exact absurd h h2
  | m + 1, k, code, first, index, t, hat => by
    have hb := bitsM_at s 1 t hat
    simp only [symM]
    split
    · rename_i h; exact ⟨by simp, by simp, hb.1, hb.2, fun h2 => absurd h2 h⟩
    · rename_i h
      have he : (bitsM s 1 t).2.err = 0 := by simpa using h
      have ha := bitsM_at2 s he
      split
      · refine ⟨?_, by simp, hb.1, hb.2, fun _ => ⟨ha.2.1, by simp only []; omega⟩⟩
        simp only []
        rw [List.getD_eq_getElem?_getD]
        cases hg : (ordG l 15)[index + (code + (bitsM s 1 t).1) - first]? with
        | none => simp
        | some x =>
          have := mem_ordG (List.mem_of_getElem? hg)
          simp; omega
      · have ih := symM_facts s l m (k + 1) ((code + (bitsM s 1 t).1) * 2) ((first + l.count (k : Int)) * 2) (index + l.count (k : Int)) (bitsM s 1 t).2 hb.1
        refine ⟨ih.1, by rw [ih.2.1]; simp, ih.2.2.1, by omega, fun h2 => ?_⟩
        have := ih.2.2.2.2 h2
        exact ⟨ha.2.1, by omega⟩
theorem symG_facts (s : List UInt8) (l : List Int) (t : St) (hat : t.at' ≤ 8 * s.length) : (0 ≤ (symG s l t).1 ∧ ((symG s l t).1 < l.length ∨ (symG s l t).1 = 0)) ∧ (symG s l t).2.out = t.out ∧
    (symG s l t).2.at' ≤ 8 * s.length ∧ t.at' ≤ (symG s l t).2.at' ∧ ((symG s l t).2.err = 0 → t.err = 0 ∧ t.at' < (symG s l t).2.at') := symM_facts s l _ _ _ _ _ t hat
theorem spanG_le {k : Nat} (h : 257 ≤ k) (h2 : k ≤ 285) : 3 ≤ (spanG k).1 ∧ (spanG k).1 ≤ 1000 ∧ (spanG k).2 ≤ 6 := by
  unfold spanG
  split
  · simp
  · split
    · simp; omega
    · have hp : 2 ^ ((k - 257) / 4 - 1) ≤ 2 ^ 6 := Nat.pow_le_pow_right (by omega) (by omega)
      have hmul : (4 + (k - 257) % 4) * 2 ^ ((k - 257) / 4 - 1) ≤ (4 + (k - 257) % 4) * 2 ^ 6 := Nat.mul_le_mul_left _ hp
      simp only []
      omega
theorem reachG_le {d : Nat} (h2 : d ≤ 29) : 1 ≤ (reachG d).1 ∧ (reachG d).1 ≤ 50000 ∧ (reachG d).2 ≤ 13 := by
  unfold reachG
  split
  · simp; omega
  · have hp : 2 ^ (d / 2 - 1) ≤ 2 ^ 13 := Nat.pow_le_pow_right (by omega) (by omega)
    have hmul : (2 + d % 2) * 2 ^ (d / 2 - 1) ≤ (2 + d % 2) * 2 ^ 13 := Nat.mul_le_mul_left _ hp
    simp only []
    omega
theorem bitsM_lt (s : List UInt8) (n : Nat) (t : St) : (bitsM s n t).1 < 2 ^ n := by
  unfold bitsM
  have : 0 < 2 ^ n := Nat.two_pow_pos n
  split
  · simpa
  · split
    · simpa
    · exact bitsV_lt _ _ _

section
variable {B : Nat → Prop} {s : List UInt8} {t : St} {w bw : AVal} {most p : Nat} {H : AHeap} {l : List Int} {fp : Nat → Prop}

def inv62 (B : Nat → Prop) (p : Nat) (s : List UInt8) (most : Nat) (y : St) (dist len hl : Nat) (n : Nat) (env : Env) (H' : AHeap) : Prop :=
  ∃ (i : Nat) (o : List UInt8), i ≤ len ∧ n = len - i ∧ Rd B p H' s { y with out := o } most ∧ o.length = y.out.length + i ∧ copyN y.out dist len = copyN o dist (len - i) ∧ hl ≤ H'.length ∧ env 0 = .ptr p 0 0 ∧ env 10 = .int .i64 dist ∧ env 70 = .int .i64 len ∧ env 71 = .int .i64 i

theorem Rd.keep {H' : AHeap} {t' : St} (hw : OwnX B H 5 w (bytesOf t.out)) (hp : H'[p]? = some (rdBlk s t' w most)) (ho : t'.out = t.out) (hk : ∀ k, k ≠ p → k < H.length → H'[k]? = H[k]?) (hBp : B p) : Rd B p H' s t' most :=
  ⟨w, hp, by rw [ho]; exact hw.keep fun k h1 h2 => hk k (by intro c; subst c; exact h1 hBp) h2⟩

theorem match_ok (hB : ∀ r, B r → r < H.length) (hBp : B p) (h : Rd B p H s t most) (he : t.err = 0) (hs : s.length ≤ 2 ^ 50) (hat : t.at' ≤ 8 * s.length) (hmost : most ≤ 2 ^ 40) (hout : t.out.length ≤ most) {k : Nat} (hk : 257 ≤ k) (hk2 : k ≤ 285)
    (hi : Ints H bw (ordG l 15)) (hbw : ∀ r, appTarget bw r → B r ∧ r ≠ p) (hl : l.length ≤ 1000) :
    ACall Try.prog 62 [.ptr p 0 0, .int .i64 k, .agg (bookCells l bw (mostG l 15))] H (fun r => r = p ∨ ¬ B r) fun v H' => v = .tuple [] ∧ Rd B p H' s (matchM s most k l t) most := by
  obtain ⟨w, hp, hw⟩ := h
  refine acall_of hmix Try.func62 x62_ok (by simp) ?_
  have hpl := hB _ hBp
  obtain ⟨sp1, sp2, sp3⟩ := spanG_le hk hk2
  have hp1 : (H ++ [ABlk.cells 0 false 69 (bookCells l bw (mostG l 15))])[p]? = some (rdBlk s t w most) := by rw [List.getElem?_append_left hpl]; exact hp
  simp
  refine call1_eq (span_ok hk hk2) ?_
  unfold matchM
  generalize hb1 : (spanG k).1 = b1 at *
  generalize hb2 : (spanG k).2 = b2 at *
  simp
  have hbt := bitsM_at s b2 t hat
  have hbl := bitsM_lt s b2 t
  have hbp : 2 ^ b2 ≤ 2 ^ 6 := Nat.pow_le_pow_right (by omega) sp3
  refine call1_eq ((bits_ok (N := b2) hp1 (by omega) hs hat).use (fun r h => .inl (.inl (.inl h))) fun v H' q _ _ => q) ?_
  have hbo : (bitsM s b2 t).2.out = t.out := bitsM_out
  generalize hx1 : (bitsM s b2 t).1 = x1 at *
  generalize hx2 : (bitsM s b2 t).2 = t2 at *
  have a1 : abin .add (.int .i64 (b1 : Int)) (.int .i64 (x1 : Int)) = some (.int .i64 ((b1 + x1 : Nat) : Int)) := by
    rw [abin_add, i64_id (by omega) (by omega)]; rfl
  have hlle : b1 + x1 ≤ 2000 := by omega
  generalize hlength : b1 + x1 = len at *
  have hset : (H ++ [ABlk.cells 0 false 69 (bookCells l bw (mostG l 15))]).set p (rdBlk s t2 w most) = H.set p (rdBlk s t2 w most) ++ [ABlk.cells 0 false 69 (bookCells l bw (mostG l 15))] := List.set_append_left _ _ hpl
  rw [hset]
  have hK : (H.set p (rdBlk s t2 w most) ++ [ABlk.cells 0 false 69 (bookCells l bw (mostG l 15))])[H.length]? = some (.cells 0 false 69 (bookCells l bw (mostG l 15))) := by
    rw [List.getElem?_append_right (by simp)]; simp
  have hP : (H.set p (rdBlk s t2 w most) ++ [ABlk.cells 0 false 69 (bookCells l bw (mostG l 15))])[p]? = some (rdBlk s t2 w most) := by
    rw [List.getElem?_append_left (by simpa using hpl), List.getElem?_set_self hpl]
  have hF : ∀ r, r ≠ p → r < H.length → (H.set p (rdBlk s t2 w most) ++ [ABlk.cells 0 false 69 (bookCells l bw (mostG l 15))])[r]? = H[r]? := by
    intro r h1 h2
    rw [List.getElem?_append_left (by simpa using h2), List.getElem?_set_ne (by omega)]
  have hHl : (H.set p (rdBlk s t2 w most) ++ [ABlk.cells 0 false 69 (bookCells l bw (mostG l 15))]).length = H.length + 1 := by simp
  generalize hH2 : (H.set p (rdBlk s t2 w most) ++ [ABlk.cells 0 false 69 (bookCells l bw (mostG l 15))]) = H2 at *
  have hL := aloads_at hK (o := 0) (n := 18)
  simp at hL
  have gK := ageOk_at hK
  simp (config := {contextual := true, implicitDefEqProofs := false}) (disch := omega) [a1, hL, -abin_add, -Int.natCast_add]
  have hi2 : Ints H2 bw (ordG l 15) := hi.keepAt fun r hr hrl => hF r (hbw r hr).2 hrl
  refine call1_of (sym_ok hP hs hbt.1 hi2 (fun c => (hbw p c).2 rfl) hl) (fun r h => .inl (.inl (.inl h))) ?_
  rintro v H3 ⟨rfl, hP3⟩ hlen3 hF3
  have hsf := symG_facts s l t2 hbt.1
  generalize hd1 : (symG s l t2).1 = d at *
  generalize hd2 : symG s l t2 = dd at *
  obtain ⟨d', t3⟩ := dd
  subst hd1
  simp only [] at *
  have hF3' : ∀ r, r ≠ p → r < H.length → H3[r]? = H[r]? := fun r h1 h2 => by rw [hF3 r (by omega) h1, hF r h1 h2]
  have ho3 : t3.out = t.out := by rw [hsf.2.1, hbo]
  have hpl3 : p < H3.length := by omega
  by_cases c1 : (29 : Int) < d'
  · have hlate : late (d', t3) = failM 4 t3 := by simp [late, c1]
    have hne : ¬ (failM 4 t3).err = 0 := by
      unfold failM; split
      · simp
      · assumption
    have hP4 : (H3.set p (rdBlk s (failM 4 t3) w most))[p]? = some (rdBlk s (failM 4 t3) w most) := List.getElem?_set_self hpl3
    rw [hlate, matchD, if_pos hne]
    simp (config := {contextual := true, implicitDefEqProofs := false}) (disch := omega) [c1]
    refine call1_eq ((fail_ok hP3).use (fun r h => .inl (.inl (.inl h))) fun v H' q _ _ => q) ?_
    simp (config := {contextual := true, implicitDefEqProofs := false}) (disch := omega) [c1]
    refine call1_eq (ok_ok hP4) ?_
    simp (config := {contextual := true, implicitDefEqProofs := false}) (disch := omega) [hne]
    exact Rd.keep hw hP4 (by rw [failM_out, ho3]) (fun r h1 h2 => by rw [List.getElem?_set_ne (by omega), hF3' r h1 h2]) hBp
  · have hlate : late (d', t3) = t3 := by simp [late, c1]
    rw [hlate]
    simp (config := {contextual := true, implicitDefEqProofs := false}) (disch := omega) [c1]
    refine call1_eq (ok_ok hP3) ?_
    by_cases c2 : t3.err = 0
    · rw [matchD, if_neg (by simp [c2])]
      have hdn : d' = (d'.toNat : Int) := by omega
      generalize hdd : d'.toNat = dn at *
      subst hdn
      obtain ⟨r1, r2, r3⟩ := reachG_le (d := dn) (by omega)
      simp (config := {contextual := true, implicitDefEqProofs := false}) (disch := omega) [c2]
      refine call1_eq (reach_ok (d := dn) (by omega)) ?_
      generalize hc1 : (reachG dn).1 = e1' at *
      generalize hc2 : (reachG dn).2 = e2' at *
      simp (config := {contextual := true, implicitDefEqProofs := false}) (disch := omega) [c2]
      have hyt := bitsM_at s e2' t3 hsf.2.2.1
      have hyl := bitsM_lt s e2' t3
      have hyp : 2 ^ e2' ≤ 2 ^ 13 := Nat.pow_le_pow_right (by omega) r3
      refine call1_eq ((bits_ok (N := e2') hP3 (by omega) hs hsf.2.2.1).use (fun r h => .inl (.inl (.inl h))) fun v H' q _ _ => q) ?_
      have hyo : (bitsM s e2' t3).2.out = t3.out := bitsM_out
      generalize hy1 : (bitsM s e2' t3).1 = y1 at *
      generalize hy2 : (bitsM s e2' t3).2 = y at *
      have hP4 : (H3.set p (rdBlk s y w most))[p]? = some (rdBlk s y w most) := List.getElem?_set_self hpl3
      have hF4 : ∀ r, r ≠ p → r < H.length → (H3.set p (rdBlk s y w most))[r]? = H[r]? := fun r h1 h2 => by rw [List.getElem?_set_ne (by omega), hF3' r h1 h2]
      have hyo2 : y.out = t.out := by rw [hyo, ho3]
      have hyo3 : y.out.length = t.out.length := by rw [hyo2]
      have hR4 : Rd B p (H3.set p (rdBlk s y w most)) s y most := Rd.keep hw hP4 hyo2 hF4 hBp
      have hB4 : ∀ r, B r → r < (H3.set p (rdBlk s y w most)).length := fun r hr => by have := hB r hr; rw [List.length_set]; omega
      have hl4 : H3.length = (H3.set p (rdBlk s y w most)).length := by simp
      generalize hH4 : H3.set p (rdBlk s y w most) = H4 at *
      have a2 : abin .add (.int .i64 (e1' : Int)) (.int .i64 (y1 : Int)) = some (.int .i64 ((e1' + y1 : Nat) : Int)) := by
        rw [abin_add, i64_id (by omega) (by omega)]; rfl
      simp (config := {contextual := true, implicitDefEqProofs := false}) (disch := omega) [a2, -abin_add, -Int.natCast_add]
      refine call1_eq (ok_ok hP4) ?_
      have hfail : ∀ {e : Int}, ACall Try.prog 52 [.ptr p 0 0, .int .i64 e] H4 (fun r => (r = p ∨ ¬ B r) ∨ H.length ≤ r) fun v H' => v = .tuple [] ∧ Rd B p H' s (failM e y) most := fun {e} => (fail_rd hB4 hBp hR4).use (fun r h => .inl (.inl h)) fun v H' q _ _ => q
      unfold matchE
      by_cases c3 : y.err = 0
      · have g1 := ageOk_at hP4
        obtain ⟨w4, hw4a, hw4⟩ := hR4
        have hww : w4 = w := by
          rw [hP4] at hw4a
          simp only [rdBlk, rcs, Option.some.injEq, ABlk.cells.injEq, List.cons.injEq] at hw4a
          exact hw4a.2.2.2.2.2.1.symm
        subst hww
        have hlen := hw4.sl.lenB
        have a3 : abin .sub (.int .i64 (most : Int)) (.int .i64 (y.out.length : Int)) = some (.int .i64 ((most - y.out.length : Nat) : Int)) := by
          rw [abin_sub, i64_id (by omega) (by omega)]; congr 2; omega
        rw [if_neg (by simp [c3])]
        by_cases c4 : y.out.length < e1' + y1
        · simp (config := {contextual := true, implicitDefEqProofs := false}) (disch := omega) [c3, g1, rd2 hP4, hlen, c4, show (y.out.length : Int) < ((e1' + y1 : Nat) : Int) by omega, -abin_add, -abin_sub, -Int.natCast_add]
          refine call1_of hfail (fun r h => .inl h) fun v H' q hl hf => ?_
          obtain ⟨rfl, q⟩ := q
          simpa using q
        · by_cases c5 : most < y.out.length + len
          · simp (config := {contextual := true, implicitDefEqProofs := false}) (disch := omega) [c3, g1, rd2 hP4, rd3 hP4, hlen, c4, c5, a3, show ¬ (y.out.length : Int) < ((e1' + y1 : Nat) : Int) by omega, show ((most - y.out.length : Nat) : Int) < (len : Int) by omega, -abin_add, -abin_sub, -Int.natCast_add]
            refine call1_of hfail (fun r h => .inl h) fun v H' q hl hf => ?_
            obtain ⟨rfl, q⟩ := q
            simpa using q
          · simp (config := {contextual := true, implicitDefEqProofs := false}) (disch := omega) [c3, g1, rd2 hP4, rd3 hP4, hlen, c4, c5, a3, show ¬ (y.out.length : Int) < ((e1' + y1 : Nat) : Int) by omega, show ¬ ((most - y.out.length : Nat) : Int) < (len : Int) by omega, -abin_add, -abin_sub, -Int.natCast_add]
            generalize hdist : e1' + y1 = dist at *
            refine vc_loop (inv62 B p s most y dist len H.length) len ⟨0, y.out, by omega, by omega, ⟨_, hP4, hw4⟩, by simp, by simp, by omega, by simp, by simp, by simp, by simp⟩ ?_
            rintro n env H5 ⟨i, o, hi5, rfl, ⟨w5, hP5, hw5⟩, ho5, hc5, hl5, e0, e10, e70, e71⟩
            by_cases hlt : i < len
            · have g5 := ageOk_at hP5
              have hlen5 := hw5.sl.lenB
              simp only [] at hlen5
              have a4 : abin .sub (.int .i64 (o.length : Int)) (.int .i64 (dist : Int)) = some (.int .i64 ((o.length - dist : Nat) : Int)) := by
                rw [abin_sub, i64_id (by omega) (by omega)]; congr 2; omega
              have hix := hw5.sl.idxB (k := .i64) (n := o.length - dist) (by simp only []; omega)
              have hld := hw5.sl.loadB (i := o.length - dist) (by simp only []; omega)
              simp only [] at hix hld
              have hB5 : ∀ r, B r → r < H5.length := fun r hr => by have := hB r hr; omega
              have hpl5 := hB5 p hBp
              have hw6 : OwnX B (H5 ++ [.cells 0 false 5 [.int .u8 (chr o (o.length - dist)).toNat]]) 5 w5 (bytesOf o) := hw5.keep fun k _ hk => List.getElem?_append_left hk
              have hp6 : (H5 ++ [.cells 0 false 5 [.int .u8 (chr o (o.length - dist)).toNat]])[p]? = some (rdBlk s { y with out := o } w5 most) := by rw [List.getElem?_append_left hpl5]; exact hP5
              obtain ⟨w', H7, ha, hw7, hlen7, hfr7⟩ := hw6.append (fun r hr => by have := hB5 r hr; rw [List.length_append]; omega) (x := .slice H5.length 0 0 1 1) (new := bytesOf [chr o (o.length - dist)]) (n := 1) (bytes := 1) (by simp [asrc, bytesOf]) (by simp) (by simp) (by rw [bytesOf_len]; simp [roomLim]; omega)
              rw [← bytesOf_app] at hw7
              rw [List.length_append] at hlen7
              have hp7 : H7[p]? = some (rdBlk s { y with out := o } w5 most) := by rw [hfr7 p hBp]; exact hp6
              have hpl7 : p < H7.length := (List.getElem?_eq_some_iff.1 hp7).1
              have s1 := wr2 hp7 hw7.one
              have g7 := ageOk_at hp7
              simp (config := {contextual := true, implicitDefEqProofs := false}) (disch := omega) [e0, e10, e70, e71, hlt, g5, rd2 hP5, hlen5, a4, hix, hld, afill, zrep, -abin_sub]
              refine de1_of ha ?_ ?_
              · intro r ht
                have ht2 : appTarget w5 r := by simpa using ht
                exact ⟨.inl (.inr (hw5.target ht2)), by simp [SOp.reads]⟩
              simp (config := {contextual := true, implicitDefEqProofs := false}) (disch := omega) [e0, e10, e70, e71, g7, s1, hw7.known, hw7.cells, i64_id, unoOk]
              refine again_iff (len - (i + 1)) (by omega) ⟨i + 1, o ++ [chr o (o.length - dist)], hlt, rfl, Rd.set (t' := { y with out := o ++ [chr o (o.length - dist)] }) hw7 hBp hpl7, by simp; omega, ?_, by rw [List.length_set]; omega, by simp [e0], by simp [e10], by simp [e70], by simp⟩
              rw [hc5, show len - i = (len - (i + 1)) + 1 by omega, copyN]
            · simp (config := {contextual := true, implicitDefEqProofs := false}) (disch := omega) [e0, e10, e70, e71, hlt]
              rw [hc5, show len - i = 0 by omega, copyN, ← c3]
              exact ⟨w5, hP5, hw5⟩
      · simp (config := {contextual := true, implicitDefEqProofs := false}) (disch := omega) [c3]
        exact hR4
    · rw [matchD, if_pos c2]
      simp (config := {contextual := true, implicitDefEqProofs := false}) (disch := omega) [c2]
      exact Rd.keep hw hP3 ho3 hF3' hBp
end
end Go.Proofs.Ytdknddicpdhkcaa.Ab

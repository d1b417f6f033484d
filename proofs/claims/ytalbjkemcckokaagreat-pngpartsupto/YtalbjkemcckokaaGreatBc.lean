/- The abstract layer: slices of pairs of texts: read, and at a law's entry. Conditions: none; a library for the texts behind it. -/
import Derived.Test.YtalbjkemcckokaaGreatAu
import Derived.Test.YtalbjkemcckokaaGreatBb
import Derived.Deep.SlicePairs
import Derived.ChangeMaps5
namespace Go.Proofs.YtalbjkemcckokaaGreat.Ab
open Go.RowKit (Below)
open Go.ChangeShapes Go.WideShapes Go.ChangeAt Go.RowKit
set_option linter.unusedVariables false
set_option linter.unusedSimpArgs false

abbrev Chk := List UInt8 × List UInt8
def cellsC (l : List Chk) : List AVal := (l.map fun p => [AVal.str p.1, AVal.str p.2]).flatten
theorem cellsC_len (l : List Chk) : (cellsC l).length = l.length * 2 := by
  induction l with
  | nil => rfl
  | cons a l ih => simp only [cellsC, List.map_cons, List.flatten_cons, List.length_append, List.length_cons, List.length_nil] at ih ⊢; omega
theorem cellsC_app (l : List Chk) (p : Chk) : cellsC (l ++ [p]) = cellsC l ++ [.str p.1, .str p.2] := by simp [cellsC]
theorem cellsC_get : ∀ (l : List Chk) (i : Nat) (h : i < l.length), ((cellsC l).drop (i * 2)).take 2 = [.str l[i].1, .str l[i].2]
  | a :: l, 0, h => by simp [cellsC]
  | a :: l, i + 1, h => by
    have ih := cellsC_get l i (by simpa using h)
    have e : cellsC (a :: l) = .str a.1 :: .str a.2 :: cellsC l := by simp [cellsC]
    rw [e, show (i + 1) * 2 = i * 2 + 1 + 1 by omega, List.drop_succ_cons, List.drop_succ_cons, ih]; rfl
theorem cellsC_take : ∀ (l : List Chk) (n : Nat), (cellsC l).take (n * 2) = cellsC (l.take n)
  | [], n => by simp [cellsC]
  | a :: l, 0 => by simp [cellsC]
  | a :: l, n + 1 => by
    have ih := cellsC_take l n
    have e : ∀ l', cellsC (a :: l') = .str a.1 :: .str a.2 :: cellsC l' := fun l' => by simp [cellsC]
    rw [e, List.take_succ_cons, e, show (n + 1) * 2 = n * 2 + 1 + 1 by omega, List.take_succ_cons, List.take_succ_cons, ih]
theorem cellsC_at (l : List Chk) (i : Nat) (h : i < l.length) : (cellsC l)[i * 2]? = some (.str l[i].1) ∧ (cellsC l)[i * 2 + 1]? = some (.str l[i].2) := by
  have hc := cellsC_get l i h
  exact ⟨by have := congrArg (fun x => x[0]?) hc; simpa using this, by have := congrArg (fun x => x[1]?) hc; simpa using this⟩

/-- A slice of pairs of texts, to be read. -/
def Ls2 (H : AHeap) (w : AVal) (l : List Chk) : Prop :=
  (w = .nilslice ∧ l = []) ∨ (w = .eslice ∧ l = []) ∨ ∃ r g o, w = .slice r g o l.length 2 ∧ aloads H r g o (l.length * 2) = some (cellsC l)
section
variable {H H' : AHeap} {w : AVal} {l : List Chk} {B : Nat → Prop}
theorem Ls2.keep (h : Ls2 H w l) (hk : ∀ k, k < H.length → H'[k]? = H[k]?) : Ls2 H' w l := by
  rcases h with h | h | ⟨r, g, o, rfl, h⟩
  · exact .inl h
  · exact .inr (.inl h)
  · refine .inr (.inr ⟨r, g, o, rfl, ?_⟩)
    have hlt : r < H.length := by
      refine Nat.lt_of_not_le fun hn => ?_
      rw [aloads, List.getElem?_eq_none hn] at h; cases h
    simp only [aloads, hk r hlt] at h ⊢; exact h
theorem Ls2.len (h : Ls2 H w l) : vLen H w = some (.int .i64 l.length) := by
  rcases h with ⟨rfl, rfl⟩ | ⟨rfl, rfl⟩ | ⟨r, g, o, rfl, h⟩
  · rfl
  · rfl
  · simp [vLen, aloads_age h]
theorem Ls2.get (h : Ls2 H w l) {i : Nat} (hi : i < l.length) : ∃ r g o, vIdx H 2 w (.int .i64 (i : Int)) = some (.ptr r g o) ∧ ageOk H r g = true ∧ aload H r g o = some (.str l[i].1) ∧ aload H r g (o + 1) = some (.str l[i].2) ∧
    aloads H r g o 2 = some [.str l[i].1, .str l[i].2] := by
  rcases h with ⟨rfl, rfl⟩ | ⟨rfl, rfl⟩ | ⟨r, g, o, rfl, h⟩
  · simp at hi
  · simp at hi
  · have hc := cellsC_get l i hi
    obtain ⟨c0, c1⟩ := cellsC_at l i hi
    refine ⟨r, g, o + i * 2, by simp [vIdx, aloads_age h, hi], aloads_age h, ?_, ?_, ?_⟩
    · rw [aloads_load h (by omega)]; exact c0
    · rw [Nat.add_assoc, aloads_load h (by omega)]; exact c1
    · unfold aloads at h ⊢
      split at h
      · rename_i g' ro ety cs hb
        split at h
        · rename_i hh
          simp only [Option.some.injEq] at h
          rw [← h] at hc
          have e : (((cs.drop o).take (l.length * 2)).drop (i * 2)).take 2 = (cs.drop (o + i * 2)).take 2 := by
            rw [List.drop_take, List.take_take, List.drop_drop, Nat.min_eq_left (by omega)]
          rw [e] at hc
          rw [if_pos ⟨hh.1, by have := hh.2; omega⟩, hc]
        · cases h
      · cases h
end

/-- A block of what was there before, to be read. -/
theorem Rel.pushRO {W0 : World} {ι : Inj} {H : AHeap} {w : World} (hR : Rel W0 ι H w) {win : Win} {b' : ABlk} (hlt : win.blk < W0.heap.size) (hbr : BRel (ι.put H.length 0 win) W0.heap.size w 0 win b') :
    Rel W0 (ι.put H.length 0 win) (H ++ [b']) w ∧ ι.le (ι.put H.length 0 win) := by
  have hil : ι.le (ι.put H.length 0 win) := Inj.le_new (hR.dom _ (Nat.le_refl _))
  refine ⟨⟨hR.below, ?_, ?_, ?_⟩, hil⟩
  · intro k b hb
    rw [List.getElem?_append] at hb
    split at hb
    · rename_i hk
      obtain ⟨g2, win2, h1, h2⟩ := hR.blk k b hb
      exact ⟨g2, win2, by rw [Inj.put_ne _ _ _ (by omega)]; exact h1, h2.transfer hil rfl⟩
    · rename_i hk
      have e : k = H.length := by
        have := (List.getElem?_eq_some_iff.1 hb).1
        simp at this; omega
      subst e
      simp at hb; subst hb
      exact ⟨0, win, Inj.put_same _ _ _ _, hbr⟩
  · intro k hk
    simp at hk
    rw [Inj.put_ne _ _ _ (by omega)]
    exact hR.dom k (by omega)
  · intro k1 k2 g1 g2 w1 w2 h1 h2 he hb
    by_cases e1 : k1 = H.length
    · subst e1
      rw [Inj.put_same] at h1; simp only [Option.some.injEq, Prod.mk.injEq] at h1
      obtain ⟨rfl, rfl⟩ := h1
      omega
    · by_cases e2 : k2 = H.length
      · subst e2
        rw [Inj.put_same] at h2; simp only [Option.some.injEq, Prod.mk.injEq] at h2
        obtain ⟨rfl, rfl⟩ := h2
        omega
      · rw [Inj.put_ne _ _ _ e1] at h1
        rw [Inj.put_ne _ _ _ e2] at h2
        exact hR.inj k1 k2 g1 g2 w1 w2 h1 h2 he hb

/-- A slice of pairs of texts that was there before. -/
theorem entry_pairs {W : World} {ι : Inj} {H : AHeap} (hR : Rel W ι H W) {a : Addr} {len : Nat} (L : List Chk) (hle : len ≤ L.length)
    (hc : ∀ i (h : i < L.length), W.cell? (a.add (i * 2)) = some (.string ⟨L[i].1.toArray⟩) ∧ W.cell? (a.add (i * 2 + 1)) = some (.string ⟨L[i].2.toArray⟩)) :
    ∃ (ι' : Inj) (H' : AHeap) (x : AVal), Rel W ι' H' W ∧ ι.le ι' ∧ (∀ k, k < H.length → H'[k]? = H[k]?) ∧ VRel ι' x (.slice (some a) len L.length) ∧ Ls2 H' x (L.take len) := by
  by_cases h0 : L.length = 0
  · have hl0 : len = 0 := by omega
    subst hl0
    rw [h0]
    exact ⟨ι, H, .eslice, hR, Inj.le_refl _, fun _ _ => rfl, by simp [VRel], .inr (.inl ⟨rfl, by simp⟩)⟩
  · obtain ⟨b, off, spot⟩ := a
    have h1 := (hc 0 (by omega)).1
    have hsp : spot = none := by simpa [Addr.add] using World.cell?_spot h1
    subst hsp
    simp only [add_plain] at hc
    obtain ⟨c, e, fr, hb⟩ : ∃ c e fr, W.heap[b]? = some (.cells c e fr) := by
      have h1 := (hc 0 (by omega)).1
      simp only [World.cell?] at h1
      split at h1
      · rename_i hb; exact ⟨_, _, _, hb⟩
      · cases h1
    have hcc : ∀ j (h : j < L.length), c[off + j * 2]? = some (.string ⟨L[j].1.toArray⟩) ∧ c[off + (j * 2 + 1)]? = some (.string ⟨L[j].2.toArray⟩) := by
      intro j hj
      have := hc j hj
      rw [cell?_cells hb, cell?_cells hb] at this
      exact this
    have hblt : b < W.heap.size := (Array.getElem?_eq_some_iff.1 hb).1
    have hsz : off + L.length * 2 ≤ c.size := by
      have := (Array.getElem?_eq_some_iff.1 (hcc (L.length - 1) (by omega)).2).1
      omega
    have hbr : BRel (ι.put H.length 0 ⟨b, off, L.length * 2, L.length * 2⟩) W.heap.size W 0 ⟨b, off, L.length * 2, L.length * 2⟩ (.cells 0 true 0 (cellsC L)) := by
      refine ⟨rfl, by rw [cellsC_len], Nat.le_refl _, fun _ => hblt, by simp, c, e, fr, hb, hsz, ?_, by simp⟩
      intro i x hx
      have hi : i < L.length * 2 := by
        have := (List.getElem?_eq_some_iff.1 hx).1
        rw [cellsC_len] at this; exact this
      have hq : i / 2 < L.length := by omega
      have hm : i = i / 2 * 2 ∨ i = i / 2 * 2 + 1 := by omega
      generalize i / 2 = q at *
      rcases hm with rfl | rfl
      · rw [(cellsC_at L q hq).1] at hx
        cases hx
        exact ⟨_, (hcc q hq).1, by simp [VRel]⟩
      · rw [(cellsC_at L q hq).2] at hx
        cases hx
        exact ⟨_, (hcc q hq).2, by simp [VRel]⟩
    obtain ⟨hR', hil⟩ := hR.pushRO hblt hbr
    refine ⟨_, _, .slice H.length 0 0 len 2, hR', hil, fun k hk => List.getElem?_append_left hk, ?_, .inr (.inr ⟨H.length, 0, 0, by rw [List.length_take, Nat.min_eq_left hle], ?_⟩)⟩
    · simp only [VRel]
      exact ⟨0, _, Inj.put_same _ _ _ _, Nat.le_refl _, ⟨_, _, _, rfl⟩, fun _ => ⟨_, L.length, rfl, hle, by simp, by simp, .inr (by simp)⟩⟩
    · simp only [aloads_new0, aloads_zero]
      rw [if_pos ⟨trivial, by rw [List.length_take, cellsC_len]; omega⟩, List.length_take, Nat.min_eq_left hle, List.drop_zero, cellsC_take]

section
variable {P : Program} {Hh : Type} {enc : TypeId × Value → Hh}
def litOf (s : List UInt8) : DataW Hh := .lit (.string s)
def strOf : Value → ByteArray
  | .string s => s
  | _ => .empty
/-- An argument that is a slice of pairs of texts: what it holds; the state at the law's entry; and that it reads as before when the law has ended. -/
theorem open_pairs {t e : TypeId} {f0 f1 : Field} (ht : P.underlying t = some (.slice e)) (he : P.underlying e = some (.struct #[f0, f1])) (ce : P.cellsOf e = 2) (o0 : f0.offset = 0) (o1 : f1.offset = 1) (c0 : P.cellsOf f0.type = 1) (c1 : P.cellsOf f1.type = 1)
    (u0 : P.underlying f0.type = some .string) (u1 : P.underlying f1.type = some .string) {W : World} {ι : Inj} {H : AHeap} (hR : Rel W ι H W) {v : Value} {d : DataW Hh} {ps : List MemPlace}
    (hv : ∃ a len cap, v = .slice a len cap) (h : DataW.Trod enc P W 0 (fun _ => true) true t v d ps) :
    ∃ (l : List Chk) (ι' : Inj) (H' : AHeap) (x : AVal), Rel W ι' H' W ∧ ι.le ι' ∧ (∀ k, k < H.length → H'[k]? = H[k]?) ∧ VRel ι' x v ∧ Ls2 H' x l ∧
      ((d = .nil ∧ l = []) ∨ ∃ sp, d = .slice (l.map fun c => .agg [.lit (.string c.1), .lit (.string c.2)]) sp) ∧
      ∀ (W' : World) (sp : Nat → Bool), (∀ p ∈ ps, sp p.block = true) → Below W.heap.size W W' → DataW.Trod enc P W' 0 sp true t v d ps := by
  obtain ⟨a0, len0, cap0, rfl⟩ := hv
  obtain ⟨fuel, hf⟩ := h
  rcases Go.Deep.open_slice_pairs ht he ce o0 o1 c0 c1 hf with ⟨hcs, hx⟩ | ⟨a, len, cap, m, n, V0, V1, D0, D1, P0, P1, hcs, hb0, hle, hmax, hm, hx, hall⟩
  · simp [Value.cells] at hcs
    obtain ⟨rfl, rfl, rfl⟩ := hcs
    simp only [Prod.mk.injEq] at hx
    obtain ⟨rfl, rfl⟩ := hx
    exact ⟨[], ι, H, .nilslice, hR, Inj.le_refl _, fun _ _ => rfl, by simp [VRel], .inl ⟨rfl, rfl⟩, .inl ⟨rfl, rfl⟩, fun _ _ _ _ => shut_slice_nil ht⟩
  · simp [Value.cells] at hcs
    obtain ⟨rfl, rfl, rfl⟩ := hcs
    simp only [Prod.mk.injEq] at hx
    obtain ⟨rfl, rfl⟩ := hx
    simp only [if_true] at hm
    subst hm
    have S0 : ∀ i, i < m → V0 i = .string (strOf (V0 i)) ∧ D0 i = .lit (.string (strOf (V0 i)).data.toList) ∧ P0 i = [] ∧ (strOf (V0 i)).size ≤ maxLen := fun i hi => by
      obtain ⟨s, h1, h2, h3⟩ := DataW.trod_string u0 (hall i hi).2.2.1
      simp only [List.cons.injEq, and_true] at h1
      rw [h1]
      simp only [Prod.mk.injEq] at h2
      exact ⟨rfl, h2.1, h2.2, h3⟩
    have S1 : ∀ i, i < m → V1 i = .string (strOf (V1 i)) ∧ D1 i = .lit (.string (strOf (V1 i)).data.toList) ∧ P1 i = [] ∧ (strOf (V1 i)).size ≤ maxLen := fun i hi => by
      obtain ⟨s, h1, h2, h3⟩ := DataW.trod_string u1 (hall i hi).2.2.2
      simp only [List.cons.injEq, and_true] at h1
      rw [h1]
      simp only [Prod.mk.injEq] at h2
      exact ⟨rfl, h2.1, h2.2, h3⟩
    obtain ⟨L, hL⟩ : ∃ L : List Chk, (List.range m).map (fun i => ((strOf (V0 i)).data.toList, (strOf (V1 i)).data.toList)) = L := ⟨_, rfl⟩
    have hLl : L.length = m := by rw [← hL]; simp
    have hLg : ∀ i (h : i < L.length), L[i] = ((strOf (V0 i)).data.toList, (strOf (V1 i)).data.toList) := fun i h => by
      subst hL; simp
    obtain ⟨ι', H', x, hR', hil, hk, hvx, hls⟩ := entry_pairs hR (a := a) L (len := len0) (by omega) (fun i hi => by
      rw [hLg i hi]
      have := hall i (by omega)
      rw [(S0 i (by omega)).1, (S1 i (by omega)).1] at this
      exact ⟨this.1, this.2.1⟩)
    rw [hLl] at hvx
    refine ⟨L.take len0, ι', H', x, hR', hil, hk, hvx, hls, .inr ⟨(List.range (m - len0)).map fun j => .agg [D0 (len0 + j), D1 (len0 + j)], ?_⟩, ?_⟩
    · congr 1
      rw [← hL, ← List.map_take, List.map_map]
      have : (List.range m).take len0 = List.range len0 := by rw [List.take_range, Nat.min_eq_left hle]
      rw [this]
      refine List.map_congr_left fun i hi => ?_
      have hi := List.mem_range.1 hi
      simp only [Function.comp]
      rw [(S0 i (by omega)).2.1, (S1 i (by omega)).2.1]
    · intro W' sp hsp hbl
      have str : ∀ (t : TypeId) (s : ByteArray), P.underlying t = some .string → s.size ≤ maxLen → ∃ n, DataW.trod enc P W' 0 sp true n t [.string s] = some (.lit (.string s.data.toList), []) := fun t s ht hs => ⟨1, by simp [DataW.trod, ht, hs]⟩
      by_cases hc0 : m = 0
      · subst hc0
        have hl0 : len0 = 0 := by omega
        subst hl0
        cases hsa : sp a.block
        · obtain ⟨n, hn⟩ := Go.Deep.shut_slice_cells (P := P) (enc := enc) (w := W') (held := true) (spare := sp) (a := a) (len := 0) (cap := 0) ht (Nat.zero_le _) (Nat.le_refl _) hmax hsa (fun i => .agg [D0 i, D1 i]) (fun i => P0 i ++ P1 i) (fun i hi => by omega)
          exact ⟨n, by simpa [Value.cells] using hn⟩
        · obtain ⟨n, hn⟩ := Go.Deep.shut_slice_whole_cells (P := P) (enc := enc) (w := W') (held := true) (spare := sp) (a := a) (len := 0) (cap := 0) ht (Nat.zero_le _) (Nat.le_refl _) hmax hsa (fun i => .agg [D0 i, D1 i]) (fun i => P0 i ++ P1 i) (fun i hi => by omega)
          exact ⟨n, by simpa [Value.cells] using hn⟩
      · obtain ⟨b, off, spot⟩ := a
        have h1 := (hall 0 (by omega)).1
        have hspt : spot = none := by simpa [Addr.add] using World.cell?_spot h1
        subst hspt
        have hlt : b < W.heap.size := by
          have h2 := h1
          simp only [World.cell?] at h2
          split at h2
          · rename_i hb; exact (Array.getElem?_eq_some_iff.1 (by simpa [add_plain] using hb)).1
          · cases h2
        have hsa : sp b = true := by
          have := hsp (.cell b off) (List.mem_append_left _ (List.mem_map.2 ⟨0, List.mem_range.2 (by omega), by simp⟩))
          simpa [MemPlace.block] using this
        have hcl : ∀ o v, W.cell? ⟨b, o, none⟩ = some v → W'.cell? ⟨b, o, none⟩ = some v := fun o v hv => by rw [hbl.cell hlt]; exact hv
        obtain ⟨n, hn⟩ := Go.Deep.shut_slice_pairs_whole (P := P) (enc := enc) (w := W') (held := true) (spare := sp) ht he ce o0 o1 c0 c1 (b := b) (off := off) (Nat.zero_le _) hle hmax hsa V0 V1 D0 D1 P0 P1
          (fun i hi => hcl _ _ (by have := (hall i hi).1; rwa [add_plain] at this)) (fun i hi => hcl _ _ (by have := (hall i hi).2.1; rwa [add_plain] at this))
          (fun i hi => by rw [(S0 i hi).1, (S0 i hi).2.1, (S0 i hi).2.2.1]; exact str _ _ u0 (S0 i hi).2.2.2) (fun i hi => by rw [(S1 i hi).1, (S1 i hi).2.1, (S1 i hi).2.2.1]; exact str _ _ u1 (S1 i hi).2.2.2)
        exact ⟨n, by simpa [Value.cells] using hn⟩
end
end Go.Proofs.YtalbjkemcckokaaGreat.Ab

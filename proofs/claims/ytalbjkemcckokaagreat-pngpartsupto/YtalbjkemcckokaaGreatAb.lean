/- The abstract layer, second part: what writing, allocating and appending do to the relation between the abstract heap and the machine's memory. Conditions: none; a library for the texts behind it. -/
import Derived.Test.YtalbjkemcckokaaGreatAa
import Derived.Laws.Append
import Derived.Laws.Cells
namespace Go.Proofs.YtalbjkemcckokaaGreat.Ab
open Go.RowKit (Below)

def Inj.put (ι : Inj) (r g : Nat) (win : Win) : Inj := fun k => if k = r then some (g, win) else ι k
theorem Inj.put_same (ι : Inj) (r g : Nat) (win : Win) : ι.put r g win r = some (g, win) := by simp [Inj.put]
theorem Inj.put_ne (ι : Inj) {r k : Nat} (g : Nat) (win : Win) (h : k ≠ r) : ι.put r g win k = ι k := by simp [Inj.put, h]

theorem Inj.le_put {ι : Inj} {r g : Nat} {win : Win} {g' : Nat} {win' : Win} (h : ι r = some (g, win)) (hle : g < g' ∨ (g = g' ∧ win' = win)) : ι.le (ι.put r g' win') := by
  intro k g0 w0 hk
  by_cases e : k = r
  · subst e
    rw [h] at hk; simp only [Option.some.injEq, Prod.mk.injEq] at hk
    obtain ⟨rfl, rfl⟩ := hk
    refine ⟨g', win', Inj.put_same _ _ _ _, by omega, fun e => ?_⟩
    rcases hle with hle | ⟨_, e2⟩
    · omega
    · exact e2
  · exact ⟨g0, w0, by rw [Inj.put_ne _ _ _ e]; exact hk, Nat.le_refl _, fun _ => rfl⟩
theorem Inj.le_new {ι : Inj} {r g : Nat} {win : Win} (h : ι r = none) : ι.le (ι.put r g win) := by
  intro k g0 w0 hk
  have e : k ≠ r := fun e => by rw [e, h] at hk; cases hk
  exact ⟨g0, w0, by rw [Inj.put_ne _ _ _ e]; exact hk, Nat.le_refl _, fun _ => rfl⟩

theorem BRel.transfer {ι ι' : Inj} {base : Nat} {w w' : World} {g : Nat} {win : Win} {b : ABlk} (h : BRel ι base w g win b) (hle : ι.le ι') (hs : w'.heap[win.blk]? = w.heap[win.blk]?) :
    BRel ι' base w' g win b := by
  cases b with
  | cells g' ro ety cs =>
    obtain ⟨a1, a2, a3, a4, a5, c, e, fr, hc, hsz, hcs, hro⟩ := h
    exact ⟨a1, a2, a3, a4, a5, c, e, fr, by rw [hs]; exact hc, hsz, fun i x hx => let ⟨v, hv, hr⟩ := hcs i x hx; ⟨v, hv, hr.mono hle⟩, hro⟩
  | map es =>
    obtain ⟨a1, a2, c, cl, hc, hsz, hcs⟩ := h
    exact ⟨a1, a2, c, cl, by rw [hs]; exact hc, hsz, fun i x hx => let ⟨e, he, h1, h2⟩ := hcs i x hx; ⟨e, he, h1.mono hle, h2.mono hle⟩⟩

theorem BRel.some {ι : Inj} {base : Nat} {w : World} {g : Nat} {win : Win} {b : ABlk} (h : BRel ι base w g win b) : ∃ o, w.heap[win.blk]? = some o := by
  cases b with
  | cells g' ro ety cs => obtain ⟨_, _, _, _, _, c, e, fr, hc, _⟩ := h; exact ⟨_, hc⟩
  | map es => obtain ⟨_, _, c, cl, hc, _⟩ := h; exact ⟨_, hc⟩

theorem Rel.lt {W0 : World} {ι : Inj} {H : AHeap} {w : World} (hR : Rel W0 ι H w) {r g : Nat} {win : Win} (h : ι r = some (g, win)) : win.blk < w.heap.size := by
  have hr : r < H.length := Nat.lt_of_not_le fun hn => by rw [hR.dom r hn] at h; cases h
  obtain ⟨g', win', h1, h2⟩ := hR.blk r H[r] (by simp [hr])
  rw [h] at h1; simp only [Option.some.injEq, Prod.mk.injEq] at h1
  obtain ⟨rfl, rfl⟩ := h1
  obtain ⟨o, ho⟩ := h2.some
  exact (Array.getElem?_eq_some_iff.1 ho).1

theorem Rel.dom_lt {W0 : World} {ι : Inj} {H : AHeap} {w : World} (hR : Rel W0 ι H w) {r : Nat} {x : Nat × Win} (h : ι r = some x) : r < H.length :=
  Nat.lt_of_not_le fun hn => by rw [hR.dom r hn] at h; cases h

/-- One abstract block turns (at its place, or it moves into new memory). -/
theorem Rel.put {W0 : World} {ι : Inj} {H : AHeap} {w : World} (hR : Rel W0 ι H w) {r g : Nat} {win : Win} (hι : ι r = some (g, win)) {w' : World} {g' : Nat} {win' : Win} {b' : ABlk}
    (hle : g < g' ∨ (g = g' ∧ win' = win)) (hbel : Below W0.heap.size w w') (hsame : ∀ k, k < w.heap.size → k ≠ win'.blk → w'.heap[k]? = w.heap[k]?)
    (hown : W0.heap.size ≤ win'.blk) (hnew : win'.blk = win.blk ∨ w.heap.size ≤ win'.blk) (hbr : BRel (ι.put r g' win') W0.heap.size w' g' win' b') :
    Rel W0 (ι.put r g' win') (H.set r b') w' ∧ ι.le (ι.put r g' win') := by
  have hr := hR.dom_lt hι
  have hil := Inj.le_put hι hle
  have far : ∀ k g2 win2, k ≠ r → ι k = some (g2, win2) → win2.blk ≠ win'.blk := by
    intro k g2 win2 hk h2 e
    rcases hnew with hn | hn
    · exact hk (hR.inj k r g2 g win2 win h2 hι (by rw [e, hn]) (by rw [e]; exact hown))
    · have := hR.lt h2; omega
  refine ⟨⟨hR.below.trans hbel, ?_, ?_, ?_⟩, hil⟩
  · intro k b hb
    by_cases e : k = r
    · subst e
      rw [List.getElem?_set_self hr] at hb
      cases hb
      exact ⟨g', win', Inj.put_same _ _ _ _, hbr⟩
    · rw [List.getElem?_set_ne (Ne.symm e)] at hb
      obtain ⟨g2, win2, h1, h2⟩ := hR.blk k b hb
      exact ⟨g2, win2, by rw [Inj.put_ne _ _ _ e]; exact h1, h2.transfer hil (hsame _ (hR.lt h1) (far k g2 win2 e h1))⟩
  · intro k hk
    rw [List.length_set] at hk
    rw [Inj.put_ne _ _ _ (by omega)]
    exact hR.dom k hk
  · intro k1 k2 g1 g2 w1 w2 h1 h2 he hb
    by_cases e1 : k1 = r
    · by_cases e2 : k2 = r
      · rw [e1, e2]
      · exfalso
        subst e1
        rw [Inj.put_same] at h1; simp only [Option.some.injEq, Prod.mk.injEq] at h1
        obtain ⟨rfl, rfl⟩ := h1
        rw [Inj.put_ne _ _ _ e2] at h2
        exact far k2 g2 w2 e2 h2 he.symm
    · by_cases e2 : k2 = r
      · exfalso
        subst e2
        rw [Inj.put_same] at h2; simp only [Option.some.injEq, Prod.mk.injEq] at h2
        obtain ⟨rfl, rfl⟩ := h2
        rw [Inj.put_ne _ _ _ e1] at h1
        exact far k1 g1 w1 e1 h1 he
      · rw [Inj.put_ne _ _ _ e1] at h1
        rw [Inj.put_ne _ _ _ e2] at h2
        exact hR.inj k1 k2 g1 g2 w1 w2 h1 h2 he hb

/-- A new abstract block. -/
theorem Rel.push {W0 : World} {ι : Inj} {H : AHeap} {w : World} (hR : Rel W0 ι H w) {w' : World} {g : Nat} {win : Win} {b' : ABlk}
    (hbel : Below W0.heap.size w w') (hsame : ∀ k, k < w.heap.size → w'.heap[k]? = w.heap[k]?) (hnew : w.heap.size ≤ win.blk)
    (hbr : BRel (ι.put H.length g win) W0.heap.size w' g win b') : Rel W0 (ι.put H.length g win) (H ++ [b']) w' ∧ ι.le (ι.put H.length g win) := by
  have hil : ι.le (ι.put H.length g win) := Inj.le_new (hR.dom _ (Nat.le_refl _))
  have far : ∀ k g2 win2, ι k = some (g2, win2) → win2.blk ≠ win.blk := by
    intro k g2 win2 h2 e
    have := hR.lt h2; omega
  refine ⟨⟨hR.below.trans hbel, ?_, ?_, ?_⟩, hil⟩
  · intro k b hb
    rw [List.getElem?_append] at hb
    split at hb
    · rename_i hk
      obtain ⟨g2, win2, h1, h2⟩ := hR.blk k b hb
      exact ⟨g2, win2, by rw [Inj.put_ne _ _ _ (by omega)]; exact h1, h2.transfer hil (hsame _ (hR.lt h1))⟩
    · rename_i hk
      have e : k = H.length := by
        have := (List.getElem?_eq_some_iff.1 hb).1
        simp at this; omega
      subst e
      simp at hb; subst hb
      exact ⟨g, win, Inj.put_same _ _ _ _, hbr⟩
  · intro k hk
    simp at hk
    rw [Inj.put_ne _ _ _ (by omega)]
    exact hR.dom k (by omega)
  · intro k1 k2 g1 g2 w1 w2 h1 h2 he hb
    by_cases e1 : k1 = H.length
    · by_cases e2 : k2 = H.length
      · rw [e1, e2]
      · exfalso
        subst e1
        rw [Inj.put_same] at h1; simp only [Option.some.injEq, Prod.mk.injEq] at h1
        obtain ⟨rfl, rfl⟩ := h1
        rw [Inj.put_ne _ _ _ e2] at h2
        exact far k2 g2 w2 h2 he.symm
    · by_cases e2 : k2 = H.length
      · exfalso
        subst e2
        rw [Inj.put_same] at h2; simp only [Option.some.injEq, Prod.mk.injEq] at h2
        obtain ⟨rfl, rfl⟩ := h2
        rw [Inj.put_ne _ _ _ e1] at h1
        exact far k1 g1 w1 h1 he
      · rw [Inj.put_ne _ _ _ e1] at h1
        rw [Inj.put_ne _ _ _ e2] at h2
        exact hR.inj k1 k2 g1 g2 w1 w2 h1 h2 he hb

/-! ### A new row of cells -/

theorem heap_alloc_new (w : World) (o : Obj) : (w.alloc o).heap[w.heap.size]? = some o := by
  show (w.heap.push o)[w.heap.size]? = some o
  simp

theorem BRel.new {ι : Inj} {base : Nat} {w : World} (hbase : base ≤ w.heap.size) (g : Nat) (e : TypeId) {cs : List AVal} {l : List Value} (extra : List Value) (fr : Nat × Nat)
    (hfr : ∀ i, i < (l ++ extra).length → ¬ (fr.1 ≤ i ∧ i < fr.2)) (hv : VRels ι cs l) :
    BRel ι base (w.alloc (.cells (l ++ extra).toArray e fr)) g ⟨w.heap.size, 0, cs.length, (l ++ extra).length⟩ (.cells g false e cs) := by
  have hlen := hv.length
  refine ⟨rfl, rfl, by simp; omega, fun h => by simp at h, fun _ => ⟨hbase, rfl⟩, (l ++ extra).toArray, e, fr, heap_alloc_new _ _, by simp, ?_, fun _ => ⟨rfl, fun i hi => by simpa using hfr i hi⟩⟩
  intro i x hx
  obtain ⟨v, h1, h2⟩ := hv.get i x hx
  refine ⟨v, ?_, h2⟩
  have hi : i < l.length := (List.getElem?_eq_some_iff.1 h1).1
  simp only [Nat.zero_add, List.getElem?_toArray]
  rw [List.getElem?_append_left hi]; exact h1

theorem Rel.alloc {W0 : World} {ι : Inj} {H : AHeap} {w : World} (hR : Rel W0 ι H w) (e : TypeId) {cs : List AVal} {l : List Value} (extra : List Value) (fr : Nat × Nat)
    (hfr : ∀ i, i < (l ++ extra).length → ¬ (fr.1 ≤ i ∧ i < fr.2)) (hv : VRels ι cs l) :
    Rel W0 (ι.put H.length 0 ⟨w.heap.size, 0, cs.length, (l ++ extra).length⟩) (H ++ [.cells 0 false e cs]) (w.alloc (.cells (l ++ extra).toArray e fr)) ∧
      ι.le (ι.put H.length 0 ⟨w.heap.size, 0, cs.length, (l ++ extra).length⟩) := by
  have hil : ι.le (ι.put H.length 0 ⟨w.heap.size, 0, cs.length, (l ++ extra).length⟩) := Inj.le_new (hR.dom _ (Nat.le_refl _))
  exact hR.push ((Below.refl _ _).alloc hR.size _) (fun k hk => Below.heap_alloc w _ k hk) (Nat.le_refl _) (BRel.new hR.size 0 e extra fr hfr (hv.mono hil))

/-! ### One cell is written -/

theorem heap_setCell (w : World) (b o : Nat) (u : Value) (k : Nat) : (w.setCell ⟨b, o, none⟩ u).heap[k]? = if k = b then (match w.heap[k]? with
      | some (.cells c e f) => some (.cells (c.setIfInBounds o u) e f)
      | x => x) else w.heap[k]? := by
  simp only [World.setCell, Array.getElem?_modify]
  by_cases e : b = k
  · subst e
    simp only [if_true]
    cases w.heap[b]? with
    | none => rfl
    | some x => cases x <;> rfl
  · rw [if_neg e, if_neg (Ne.symm e)]

theorem frozen?_cells {w : World} {b : Nat} {c : Array Value} {e : TypeId} {fr : Nat × Nat} (h : w.heap[b]? = some (.cells c e fr)) (o : Nat) :
    w.frozen? ⟨b, o, none⟩ = (fr.1 ≤ o && o < fr.2) := by
  simp [World.frozen?, h]

theorem Rel.store {W0 : World} {ι : Inj} {H H' : AHeap} {w : World} (hR : Rel W0 ι H w) {r g o : Nat} {x : AVal} {y : Value} {win : Win} (hι : ι r = some (g, win)) (h : astore H r g o x = some H') (hv : VRel ι x y) :
    (∃ u, w.cell? ⟨win.blk, win.off + o, none⟩ = some u) ∧ w.frozen? ⟨win.blk, win.off + o, none⟩ = false ∧ y.oneCell' = true ∧ Rel W0 ι H' (w.setCell ⟨win.blk, win.off + o, none⟩ y) := by
  unfold astore at h
  split at h
  · rename_i g' ro ety cs hb
    split at h
    · rename_i hc
      obtain ⟨rfl, rfl, ho, hone⟩ := hc
      cases h
      obtain ⟨g2, win2, h1, h2⟩ := hR.blk r _ hb
      rw [hι] at h1; simp only [Option.some.injEq, Prod.mk.injEq] at h1
      obtain ⟨rfl, rfl⟩ := h1
      obtain ⟨_, hlen, hext, _, hown, c, e, fr, hc, hsz, hcs, hro⟩ := h2
      obtain ⟨he, hfr⟩ := hro rfl
      obtain ⟨hown, hoff⟩ := hown rfl
      have hoc : win.off + o < c.size := by omega
      refine ⟨⟨_, by rw [cell?_cells hc]; exact Array.getElem?_eq_getElem hoc⟩, ?_, hv.oneCell hone, ?_⟩
      · rw [frozen?_cells hc]
        have := hfr o (by omega)
        simpa using this
      · have hle : ι.put r g win = ι := by
          funext k; simp only [Inj.put]; split
          · rename_i e; rw [e, hι]
          · rfl
        have key := hR.put (w' := w.setCell ⟨win.blk, win.off + o, none⟩ y) (g' := g) (win' := win) (b' := .cells g false ety (cs.set o x)) hι (.inr ⟨rfl, rfl⟩)
          ((Below.refl _ _).setCell (p := ⟨win.blk, win.off + o, none⟩) hown _) (fun k _ hk => Below.heap_setCell _ _ _ _ hk) hown (.inl rfl)
        rw [hle] at key
        refine (key ?_).1
        refine ⟨rfl, by simp [hlen], hext, fun h => by simp at h, fun _ => ⟨hown, hoff⟩, c.setIfInBounds (win.off + o) y, e, fr, by rw [heap_setCell, if_pos rfl, hc], by simpa using hsz, ?_, fun _ => ⟨he, hfr⟩⟩
        intro i z hz
        rw [List.getElem?_set] at hz
        rw [Array.getElem?_setIfInBounds]
        by_cases ei : o = i
        · subst ei
          simp only [if_true, ho] at hz
          cases hz
          exact ⟨y, by simp [hoc], hv⟩
        · rw [if_neg ei] at hz
          obtain ⟨v, h3, h4⟩ := hcs i z hz
          exact ⟨v, by rw [if_neg (by omega)]; exact h3, h4⟩
    · cases h
  · cases h

/-! ### Several cells -/

def astores (H : AHeap) (r g o : Nat) : List AVal → Option AHeap
  | [] => some H
  | x :: xs => (astore H r g o x).bind fun H' => astores H' r g (o + 1) xs

theorem Rel.storeCells (P : Program) {W0 : World} {ι : Inj} {r g : Nat} {win : Win} (hι : ι r = some (g, win)) : ∀ (xs : List AVal) (ys : List Value) (o i : Nat) (H H' : AHeap) (w : World), Rel W0 ι H w → VRels ι xs ys →
    astores H r g (o + i) xs = some H' → ∃ w', (Go.storeCells ⟨win.blk, win.off + o, none⟩ ys i).run P w = .ok () w' ∧ Rel W0 ι H' w' ∧ (∀ k, k ≠ win.blk → w'.heap[k]? = w.heap[k]?) ∧ w'.heap.size = w.heap.size
  | [], ys, o, i, H, H', w, hR, hv, h => by
    simp only [VRels] at hv; subst hv
    simp only [astores, Option.some.injEq] at h; subst h
    exact ⟨w, by simp [Go.storeCells], hR, fun _ _ => rfl, rfl⟩
  | x :: xs, ys, o, i, H, H', w, hR, hv, h => by
    simp only [VRels] at hv
    obtain ⟨y, ys, rfl, h1, h2⟩ := hv
    simp only [astores, Option.bind_eq_some_iff] at h
    obtain ⟨H1, h3, h4⟩ := h
    obtain ⟨⟨u, hu⟩, hf, hone, hR1⟩ := hR.store hι h3 h1
    obtain ⟨w', hw, hR', hfr, hsz⟩ := Rel.storeCells P hι xs ys o (i + 1) H1 H' _ hR1 h2 (by rw [← Nat.add_assoc]; exact h4)
    refine ⟨w', ?_, hR', fun k hk => by rw [hfr k hk]; exact Below.heap_setCell _ _ _ _ hk, by rw [hsz]; simp [World.setCell]⟩
    have e : win.off + (o + i) = win.off + o + i := by omega
    rw [e] at hu hf hw
    simp only [Go.storeCells, Sem.run_bind, addr_add, run_store _ _ _ _ _ hone, hu, hf, Bool.false_eq_true, if_false, Result.andThen_ok]
    exact hw

theorem astore_frame {H H' : AHeap} {r g o : Nat} {v : AVal} (h : astore H r g o v = some H') : H'.length = H.length ∧ ∀ k, k ≠ r → H'[k]? = H[k]? := by
  unfold astore at h
  split at h
  · split at h
    · cases h
      exact ⟨by simp, fun k hk => List.getElem?_set_ne (Ne.symm hk)⟩
    · cases h
  · cases h
theorem astores_frame {r g : Nat} : ∀ (xs : List AVal) (o : Nat) (H H' : AHeap), astores H r g o xs = some H' → H'.length = H.length ∧ ∀ k, k ≠ r → H'[k]? = H[k]?
  | [], o, H, H', h => by simp only [astores, Option.some.injEq] at h; subst h; exact ⟨rfl, fun _ _ => rfl⟩
  | x :: xs, o, H, H', h => by
    simp only [astores, Option.bind_eq_some_iff] at h
    obtain ⟨H1, h1, h2⟩ := h
    obtain ⟨a1, a2⟩ := astore_frame h1
    obtain ⟨b1, b2⟩ := astores_frame xs (o + 1) H1 H' h2
    exact ⟨by rw [b1, a1], fun k hk => by rw [b2 k hk, a2 k hk]⟩

/-- What a step may turn: of the abstract blocks those of 'fp', of the machine's blocks those where these lie; new blocks come. -/
structure Step (W0 : World) (fp : Nat → Prop) (ι : Inj) (H : AHeap) (w : World) (ι' : Inj) (H' : AHeap) (w' : World) : Prop where
  le : ι.le ι'
  ext : ∀ r g' win', ι' r = some (g', win') → (∃ g win, ι r = some (g, win) ∧ win'.blk = win.blk) ∨ w.heap.size ≤ win'.blk
  real : ∀ k, k < w.heap.size → (∀ r g win, fp r → ι r = some (g, win) → W0.heap.size ≤ win.blk → win.blk ≠ k) → w'.heap[k]? = w.heap[k]?
  size : w.heap.size ≤ w'.heap.size
  len : H.length ≤ H'.length
  abs : ∀ r, r < H.length → ¬ fp r → H'[r]? = H[r]?

theorem Step.refl (W0 : World) (fp : Nat → Prop) (ι : Inj) (H : AHeap) (w : World) : Step W0 fp ι H w ι H w :=
  ⟨Inj.le_refl _, fun r g win h => .inl ⟨g, win, h, rfl⟩, fun _ _ _ => rfl, Nat.le_refl _, Nat.le_refl _, fun _ _ _ => rfl⟩

theorem Step.trans {W0 : World} {fp fp1 : Nat → Prop} {ι ι1 ι2 : Inj} {H H1 H2 : AHeap} {w w1 w2 : World} (hR : Rel W0 ι H w) (a : Step W0 fp ι H w ι1 H1 w1) (b : Step W0 fp1 ι1 H1 w1 ι2 H2 w2) (hfp : ∀ r, fp1 r → fp r ∨ H.length ≤ r) :
    Step W0 fp ι H w ι2 H2 w2 := by
  refine ⟨Inj.le_trans a.le b.le, ?_, ?_, Nat.le_trans a.size b.size, Nat.le_trans a.len b.len, ?_⟩
  · intro r g2 win2 h2
    rcases b.ext r g2 win2 h2 with ⟨g1, win1, h1, e1⟩ | h1
    · rcases a.ext r g1 win1 h1 with ⟨g0, win0, h0, e0⟩ | h0
      · exact .inl ⟨g0, win0, h0, by rw [e1, e0]⟩
      · exact .inr (by rw [e1]; exact h0)
    · exact .inr (Nat.le_trans a.size h1)
  · intro k hk hno
    rw [b.real k (Nat.lt_of_lt_of_le hk a.size) ?_, a.real k hk hno]
    intro r g1 win1 hf h1 hown e
    rcases a.ext r g1 win1 h1 with ⟨g0, win0, h0, e0⟩ | h0
    · rcases hfp r hf with hf | hf
      · exact hno r g0 win0 hf h0 (by rw [← e0]; exact hown) (by rw [← e0]; exact e)
      · rw [hR.dom r hf] at h0; cases h0
    · omega
  · intro r hr hn
    rw [b.abs r (Nat.lt_of_lt_of_le hr a.len) ?_, a.abs r hr hn]
    intro hf
    rcases hfp r hf with hf | hf
    · exact hn hf
    · omega

theorem Step.mono {W0 : World} {fp fp' : Nat → Prop} {ι ι' : Inj} {H H' : AHeap} {w w' : World} (h : Step W0 fp ι H w ι' H' w') (hfp : ∀ r, fp r → fp' r ∨ H.length ≤ r) (hR : Rel W0 ι H w) : Step W0 fp' ι H w ι' H' w' :=
  Step.trans hR (Step.refl W0 fp' ι H w) h hfp

/-- A new abstract block, as a step. -/
theorem Step.push {W0 : World} {ι : Inj} {H : AHeap} {w w' : World} {g : Nat} {win : Win} {b' : ABlk} (hR : Rel W0 ι H w) (hsame : ∀ k, k < w.heap.size → w'.heap[k]? = w.heap[k]?) (hsz : w.heap.size ≤ w'.heap.size) (hnew : w.heap.size ≤ win.blk) :
    Step W0 (fun _ => False) ι H w (ι.put H.length g win) (H ++ [b']) w' := by
  refine ⟨Inj.le_new (hR.dom _ (Nat.le_refl _)), ?_, fun k hk _ => hsame k hk, hsz, by simp, fun r hr _ => by rw [List.getElem?_append_left hr]⟩
  intro r g1 win1 h1
  by_cases e : r = H.length
  · subst e; rw [Inj.put_same] at h1; cases h1; exact .inr hnew
  · rw [Inj.put_ne _ _ _ e] at h1; exact .inl ⟨g1, win1, h1, rfl⟩

/-- An abstract block that turns, as a step. -/
theorem Step.put {W0 : World} {ι : Inj} {H H' : AHeap} {w w' : World} {r g g' : Nat} {win win' : Win} (hι : ι r = some (g, win)) (hle : g < g' ∨ (g = g' ∧ win' = win)) (hown : W0.heap.size ≤ win.blk)
    (hsame : ∀ k, k < w.heap.size → k ≠ win.blk → w'.heap[k]? = w.heap[k]?) (hsz : w.heap.size ≤ w'.heap.size) (hnew : win'.blk = win.blk ∨ w.heap.size ≤ win'.blk) (hlen : H'.length = H.length) (habs : ∀ k, k ≠ r → H'[k]? = H[k]?) :
    Step W0 (fun x => x = r) ι H w (ι.put r g' win') H' w' := by
  refine ⟨Inj.le_put hι hle, ?_, ?_, hsz, by omega, fun k _ hk => habs k hk⟩
  · intro k g1 win1 h1
    by_cases e : k = r
    · subst e; rw [Inj.put_same] at h1; cases h1
      rcases hnew with h | h
      · exact .inl ⟨g, win, hι, h⟩
      · exact .inr h
    · rw [Inj.put_ne _ _ _ e] at h1; exact .inl ⟨g1, win1, h1, rfl⟩
  · intro k hk hno
    exact hsame k hk (fun e => hno r g win rfl hι hown e.symm)

theorem astores_fill {r g e : Nat} : ∀ (new p rest : List AVal) (H : AHeap), H[r]? = some (.cells g false e (p ++ rest)) → rest.length = new.length → new.all AVal.one = true →
    astores H r g p.length new = some (H.set r (.cells g false e (p ++ new)))
  | [], p, rest, H, hb, hl, _ => by
    have : rest = [] := by simpa using hl
    subst this
    simp only [astores, List.append_nil] at hb ⊢
    congr 1
    apply List.ext_getElem?
    intro k
    by_cases e : k = r
    · subst e
      have hk : k < H.length := (List.getElem?_eq_some_iff.1 hb).1
      rw [List.getElem?_set_self hk, hb]
    · rw [List.getElem?_set_ne (Ne.symm e)]
  | x :: new, p, rest, H, hb, hl, ho => by
    cases rest with
    | nil => simp at hl
    | cons y rest =>
      simp only [List.all_cons, Bool.and_eq_true] at ho
      have hr : r < H.length := (List.getElem?_eq_some_iff.1 hb).1
      have h1 : astore H r g p.length x = some (H.set r (.cells g false e ((p ++ [x]) ++ rest))) := by
        simp [astore, hb, ho.1]
      have h2 := astores_fill new (p ++ [x]) rest (H.set r (.cells g false e ((p ++ [x]) ++ rest))) (by rw [List.getElem?_set_self hr]) (by simpa using hl) ho.2
      simp only [astores, h1, Option.bind_some]
      rw [List.length_append, List.length_singleton] at h2
      rw [h2]
      simp

def aloads (H : AHeap) (r g o n : Nat) : Option (List AVal) :=
  match H[r]? with
  | some (.cells g' _ _ cs) => if g = g' ∧ o + n ≤ cs.length then some ((cs.drop o).take n) else none
  | _ => none

theorem Rel.loads (P : Program) {W0 : World} {ι : Inj} {H : AHeap} {w : World} (hR : Rel W0 ι H w) {r g o n : Nat} {win : Win} (hι : ι r = some (g, win)) {xs : List AVal} (h : aloads H r g o n = some xs) :
    ∃ ys, (loadCells ⟨win.blk, win.off + o, none⟩ n).run P w = .ok (List.toArray ys) w ∧ VRels ι xs ys ∧ ys.length = n ∧ ∀ w', w'.heap[win.blk]? = w.heap[win.blk]? → (loadCells ⟨win.blk, win.off + o, none⟩ n).run P w' = .ok (List.toArray ys) w' := by
  unfold aloads at h
  split at h
  · rename_i g' ro ety cs hb
    split at h
    · rename_i hc
      obtain ⟨rfl, hn⟩ := hc
      cases h
      obtain ⟨g2, win2, h1, h2⟩ := hR.blk r _ hb
      rw [hι] at h1; simp only [Option.some.injEq, Prod.mk.injEq] at h1
      obtain ⟨rfl, rfl⟩ := h1
      obtain ⟨_, hlen, hext, _, _, c, e, fr, hc, hsz, hcs, _⟩ := h2
      let ys := (c.toList.drop (win.off + o)).take n
      have hyl : ys.length = n := by simp [ys]; omega
      have hyg : ∀ j, j < n → ys[j]? = c[win.off + o + j]? := by
        intro j hj
        simp only [ys, List.getElem?_take, hj, if_true, List.getElem?_drop, Array.getElem?_toList]
      have hrun : ∀ w', w'.heap[win.blk]? = w.heap[win.blk]? → (loadCells ⟨win.blk, win.off + o, none⟩ n).run P w' = .ok (List.toArray ys) w' := by
        intro w' hw'
        have := run_loadCells_list (P := P) w' ⟨win.blk, win.off + o, none⟩ ys (fun j v hj => by
          have hjn : j < n := by rw [← hyl]; exact (List.getElem?_eq_some_iff.1 hj).1
          rw [addr_add, cell?_cells (by rw [hw']; exact hc), ← hyg j hjn]; exact hj)
        rw [hyl] at this; exact this
      refine ⟨ys, hrun w rfl, ?_, hyl, hrun⟩
      · refine VRels.of_get (by rw [hyl]; simp; omega) ?_
        intro i x hx
        rw [List.getElem?_take] at hx
        split at hx
        · rename_i hi
          rw [List.getElem?_drop] at hx
          obtain ⟨v, hv, hr⟩ := hcs _ x hx
          exact ⟨v, by rw [hyg i hi]; rw [show win.off + o + i = win.off + (o + i) by omega]; exact hv, hr⟩
        · cases hx
    · cases h
  · cases h

end Go.Proofs.YtalbjkemcckokaaGreat.Ab

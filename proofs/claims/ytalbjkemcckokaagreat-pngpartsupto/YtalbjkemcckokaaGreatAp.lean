/- The abstract layer: what a call leaves behind may be forgotten; a closed call holds in every state. Conditions: none; a library for the texts behind it. -/
import Derived.Test.YtalbjkemcckokaaGreatAo
namespace Go.Proofs.YtalbjkemcckokaaGreat.Ab
open Go.RowKit (Below)
set_option linter.unusedVariables false
set_option linter.unusedSimpArgs false

mutual
def AVal.ren (σ : Nat → Nat) : AVal → AVal
  | .undef => .undef
  | .bool b => .bool b
  | .int k n => .int k n
  | .str s => .str s
  | .nilptr => .nilptr
  | .ptr r g o => .ptr (σ r) g o
  | .nilslice => .nilslice
  | .eslice => .eslice
  | .slice r g o len z => .slice (σ r) g o len z
  | .map r => .map (σ r)
  | .nilmap => .nilmap
  | .func f caps => .func f (AVal.rens σ caps)
  | .nilfunc => .nilfunc
  | .agg cs => .agg (AVal.rens σ cs)
  | .tuple vs => .tuple (AVal.rens σ vs)
def AVal.rens (σ : Nat → Nat) : List AVal → List AVal
  | [] => []
  | v :: vs => AVal.ren σ v :: AVal.rens σ vs
end

theorem rens_map (σ : Nat → Nat) : ∀ l, AVal.rens σ l = l.map (AVal.ren σ)
  | [] => rfl
  | v :: vs => by simp [AVal.rens, rens_map σ vs]

mutual
theorem VRel.unren {ι : Inj} {σ : Nat → Nat} : ∀ {a : AVal} {v : Value}, VRel ι (a.ren σ) v → VRel (fun s => ι (σ s)) a v
  | .undef, _, _ => by simp [VRel]
  | .bool b, _, h => by simpa [VRel, AVal.ren] using h
  | .int k n, _, h => by simpa [VRel, AVal.ren] using h
  | .str s, _, h => by simpa [VRel, AVal.ren] using h
  | .nilptr, _, h => by simpa [VRel, AVal.ren] using h
  | .ptr r g o, _, h => by simpa [VRel, AVal.ren] using h
  | .nilslice, _, h => by simpa [VRel, AVal.ren] using h
  | .eslice, _, h => by simpa [VRel, AVal.ren] using h
  | .slice r g o len z, _, h => by simpa [VRel, AVal.ren] using h
  | .map r, _, h => by simpa [VRel, AVal.ren] using h
  | .nilmap, _, h => by simpa [VRel, AVal.ren] using h
  | .func f caps, _, h => by
    simp only [VRel, AVal.ren] at h ⊢
    obtain ⟨l, e, h⟩ := h
    exact ⟨l, e, VRels.unren h⟩
  | .nilfunc, _, h => by simpa [VRel, AVal.ren] using h
  | .agg cs, _, h => by
    simp only [VRel, AVal.ren] at h ⊢
    obtain ⟨l, e, h⟩ := h
    exact ⟨l, e, VRels.unren h⟩
  | .tuple vs, _, h => by
    simp only [VRel, AVal.ren] at h ⊢
    obtain ⟨l, e, h⟩ := h
    exact ⟨l, e, VRels.unren h⟩
theorem VRels.unren {ι : Inj} {σ : Nat → Nat} : ∀ {as : List AVal} {l : List Value}, VRels ι (AVal.rens σ as) l → VRels (fun s => ι (σ s)) as l
  | [], l, h => by simpa [VRels, AVal.rens] using h
  | a :: as, l, h => by
    simp only [VRels, AVal.rens] at h ⊢
    obtain ⟨v, vs, e, h1, h2⟩ := h
    exact ⟨v, vs, e, VRel.unren h1, VRels.unren h2⟩
end

def ABlk.ren (σ : Nat → Nat) : ABlk → ABlk
  | .cells g ro ety cs => .cells g ro ety (cs.map (AVal.ren σ))
  | .map es => .map (es.map fun p => (p.1.ren σ, p.2.ren σ))

theorem BRel.unren {ι : Inj} {σ : Nat → Nat} {base : Nat} {w : World} {g : Nat} {win : Win} {b : ABlk} (h : BRel ι base w g win (b.ren σ)) : BRel (fun s => ι (σ s)) base w g win b := by
  cases b with
  | cells g' ro ety cs =>
    simp only [ABlk.ren, BRel, List.length_map] at h ⊢
    obtain ⟨h1, h2, h3, h4, h5, c, e, fr, hc, hs, hcs, hf⟩ := h
    refine ⟨h1, h2, h3, h4, h5, c, e, fr, hc, hs, fun i x hx => ?_, hf⟩
    obtain ⟨v, hv, hr⟩ := hcs i (x.ren σ) (by simp [hx])
    exact ⟨v, hv, hr.unren⟩
  | map es =>
    simp only [ABlk.ren, BRel, List.length_map] at h ⊢
    obtain ⟨h1, h2, ents, cl, hc, hs, hcs⟩ := h
    refine ⟨h1, h2, ents, cl, hc, hs, fun i x hx => ?_⟩
    obtain ⟨e, he, hr, hr2⟩ := hcs i (x.1.ren σ, x.2.ren σ) (by simp [hx])
    exact ⟨e, he, hr.unren, hr2.unren⟩

/-- What may be told in place of (v, H'): values and blocks that stand for the same, under other numbers, and fewer. -/
structure Told (H : AHeap) (fp : Nat → Prop) (v : AVal) (H' : AHeap) (v2 : AVal) (H2 : AHeap) : Prop where
  ex : ∃ σ : Nat → Nat, (∀ s, s < H.length → σ s = s) ∧ (∀ s s', s < H2.length → s' < H2.length → σ s = σ s' → s = s') ∧ (∀ s, H2.length ≤ s → H'.length ≤ σ s) ∧ H.length ≤ H2.length ∧
    (∀ s, s < H.length → ¬ fp s → H2[s]? = H[s]?) ∧ (∀ s b, (fp s ∨ H.length ≤ s) → H2[s]? = some b → H'[σ s]? = some (b.ren σ)) ∧ v = v2.ren σ

section
variable {P : Program}

theorem ACall.told {f : FuncId} {args : List AVal} {H : AHeap} {fp : Nat → Prop} {R R' : AVal → AHeap → Prop} (h : ACall P f args H fp R)
    (hr : ∀ v H', R v H' → H.length ≤ H'.length → (∀ r, r < H.length → ¬ fp r → H'[r]? = H[r]?) → ∃ v2 H2, Told H fp v H' v2 H2 ∧ R' v2 H2) : ACall P f args H fp R' := by
  intro W0 ι w vs hR hv o a next Q hn
  refine h W0 ι w vs hR hv o a next Q fun v y ι' H' w' hq hs hR' hy => ?_
  obtain ⟨v2, H2, ⟨σ, s1, s2, s3, s4, s5, s6, s7⟩, hq'⟩ := hr _ _ hq hs.len hs.abs
  subst s7
  have hle : ι.le fun s => ι' (σ s) := by
    intro r g win hι
    have := hR.dom_lt hι
    obtain ⟨g', win', h1, h2, h3⟩ := hs.le r g win hι
    exact ⟨g', win', by simp only [s1 r this]; exact h1, h2, h3⟩
  refine hn v2 y (fun s => ι' (σ s)) H2 w' hq' ⟨hle, ?_, hs.real, hs.size, s4, s5⟩ ⟨hR'.below, ?_, ?_, ?_⟩ hy.unren
  · intro r g' win' h1
    by_cases hlt : r < H.length
    · simp only [s1 r hlt] at h1; exact hs.ext r g' win' h1
    · rcases hs.ext _ _ _ h1 with ⟨g0, w0, h0, e0⟩ | h0
      · have h2 := hR.dom_lt h0
        by_cases hlt2 : r < H2.length
        · have := s2 (σ r) r (by omega) hlt2 (s1 _ h2)
          omega
        · have h3 := s3 r (by omega)
          have h4 := hR'.dom _ h3
          rw [h4] at h1; cases h1
      · exact .inr h0
  · intro r b hb
    by_cases hlt : r < H.length ∧ ¬ fp r
    · have hb0 : H[r]? = some b := by rw [← s5 r hlt.1 hlt.2]; exact hb
      obtain ⟨g, win, h1, h2⟩ := hR.blk r b hb0
      have hsame : w'.heap[win.blk]? = w.heap[win.blk]? := by
        refine hs.real _ (hR.lt h1) ?_
        intro r2 g2 win2 hf h3 hown e
        have := hR.inj r2 r _ _ _ _ h3 h1 e hown
        subst this
        exact hlt.2 hf
      obtain ⟨g', win', h3, h4⟩ := hR'.blk r b (by rw [hs.abs r hlt.1 hlt.2]; exact hb0)
      refine ⟨g', win', by simp only [s1 r hlt.1]; exact h3, ?_⟩
      obtain ⟨g3, win3, h5, h6, h7⟩ := hs.le r g win h1
      rw [h3] at h5
      simp only [Option.some.injEq, Prod.mk.injEq] at h5
      obtain ⟨rfl, rfl⟩ := h5
      have eg : g' = g := by
        cases b with
        | cells g0 ro ety cs => have a1 := h2.1; have a2 := h4.1; omega
        | map es => have a1 := h2.1; have a2 := h4.1; omega
      subst eg
      rw [h7 rfl]
      exact h2.transfer hle hsame
    · have : fp r ∨ H.length ≤ r := by
        by_cases hf : fp r
        · exact .inl hf
        · exact .inr (Nat.le_of_not_lt fun h => hlt ⟨h, hf⟩)
      obtain ⟨g, win, h1, h2⟩ := hR'.blk _ _ (s6 r b this hb)
      exact ⟨g, win, h1, h2.unren⟩
  · intro r hr2
    exact hR'.dom _ (s3 r hr2)
  · intro r r' g g' win win' h1 h2 e hown
    have e1 := hR'.inj _ _ _ _ _ _ h1 h2 e hown
    have l1 : r < H2.length := Nat.lt_of_not_le fun hn => by have := hR'.dom _ (s3 r hn); rw [this] at h1; cases h1
    have l2 : r' < H2.length := Nat.lt_of_not_le fun hn => by have := hR'.dom _ (s3 r' hn); rw [this] at h2; cases h2
    exact s2 _ _ l1 l2 e1

mutual
theorem AVal.flat_ren (σ : Nat → Nat) : ∀ {v : AVal}, v.flat = true → v.ren σ = v
  | .undef, _ => rfl
  | .bool b, _ => rfl
  | .int k n, _ => rfl
  | .str s, _ => rfl
  | .nilptr, _ => rfl
  | .ptr r g o, h => by simp [AVal.flat] at h
  | .nilslice, _ => rfl
  | .eslice, _ => rfl
  | .slice r g o len z, h => by simp [AVal.flat] at h
  | .map r, h => by simp [AVal.flat] at h
  | .nilmap, _ => rfl
  | .func f caps, h => by simp only [AVal.flat] at h; simp only [AVal.ren, AVal.flats_ren σ h]
  | .nilfunc, _ => rfl
  | .agg cs, h => by simp only [AVal.flat] at h; simp only [AVal.ren, AVal.flats_ren σ h]
  | .tuple vs, h => by simp only [AVal.flat] at h; simp only [AVal.ren, AVal.flats_ren σ h]
theorem AVal.flats_ren (σ : Nat → Nat) : ∀ {l : List AVal}, AVal.flats l = true → AVal.rens σ l = l
  | [], _ => rfl
  | v :: vs, h => by simp only [AVal.flats, Bool.and_eq_true] at h; simp only [AVal.rens, AVal.flat_ren σ h.1, AVal.flats_ren σ h.2]
end

theorem flat_list_ren (σ : Nat → Nat) : ∀ {l : List AVal}, AVal.flats l = true → l.map (AVal.ren σ) = l := by
  intro l h; rw [← rens_map]; exact AVal.flats_ren σ h

def ABlk.flat : ABlk → Bool
  | .cells _ _ _ cs => AVal.flats cs
  | .map es => es.all fun p => p.1.flat && p.2.flat

/-- Where nothing was written and the answer names no place, nothing is left. -/
theorem ACall.drop {f : FuncId} {args : List AVal} {H : AHeap} {fp : Nat → Prop} {R : AVal → AHeap → Prop} (h : ACall P f args H (fun _ => False) R) (hf : ∀ v H', R v H' → v.flat = true) :
    ACall P f args H fp fun v H' => H' = H ∧ ∃ H2, R v H2 ∧ H.length ≤ H2.length ∧ ∀ r, r < H.length → H2[r]? = H[r]? := by
  refine (ACall.told h (R' := fun v H' => H' = H ∧ ∃ H2, R v H2 ∧ H.length ≤ H2.length ∧ ∀ r, r < H.length → H2[r]? = H[r]?) fun v H' hq hl hfr => ?_).use (fun r h => h.elim) fun v H' h _ _ => h
  refine ⟨v, H, ⟨fun s => if s < H.length then s else s + H'.length, ?_, ?_, ?_, Nat.le_refl _, fun _ _ _ => rfl, ?_, ?_⟩, rfl, H', hq, hl, fun r hr => hfr r hr (fun h => h)⟩
  · intro s hs; simp [hs]
  · intro s s' h1 h2 e; simpa [h1, h2] using e
  · intro s hs; show H'.length ≤ if s < H.length then s else s + H'.length; rw [if_neg (by omega)]; omega
  · intro s b hs hb
    have : s < H.length := (List.getElem?_eq_some_iff.1 hb).1
    rcases hs with hs | hs
    · exact hs.elim
    · omega
  · exact (AVal.flat_ren _ (hf _ _ hq)).symm

/-- One new block is kept. -/
theorem ACall.keep1 {f : FuncId} {args : List AVal} {H : AHeap} {R : AVal → AHeap → Prop} {R' : AVal → AHeap → Prop} (h : ACall P f args H (fun _ => False) R)
    (hf : ∀ v H', R v H' → H.length ≤ H'.length → (∀ r, r < H.length → H'[r]? = H[r]?) → ∃ (b : ABlk) (r : Nat) (v2 : AVal), b.flat = true ∧ H.length ≤ r ∧ H'[r]? = some b ∧ v = v2.ren (fun s => if s = H.length then r else if s < H.length then s else s + H'.length) ∧ R' v2 (H ++ [b])) :
    ACall P f args H (fun _ => False) R' := by
  refine ACall.told h fun v H' hq hl hfr => ?_
  obtain ⟨b, r, v2, h1, h2, h3, h4, h5⟩ := hf v H' hq hl fun r hr => hfr r hr (fun h => h)
  refine ⟨v2, H ++ [b], ⟨fun s => if s = H.length then r else if s < H.length then s else s + H'.length, ?_, ?_, ?_, by simp, ?_, ?_, h4⟩, h5⟩
  · intro s hs; show (if s = H.length then r else if s < H.length then s else s + H'.length) = s; rw [if_neg (by omega), if_pos hs]
  · intro s s' a1 a2 e
    simp only [List.length_append, List.length_cons, List.length_nil] at a1 a2
    by_cases c1 : s = H.length <;> by_cases c2 : s' = H.length <;> simp only [c1, c2, if_true, if_false] at e ⊢
    · rw [if_pos (by omega)] at e; omega
    · rw [if_pos (by omega)] at e; omega
    · rw [if_pos (by omega), if_pos (by omega)] at e; exact e
  · intro s hs
    simp only [List.length_append, List.length_cons, List.length_nil] at hs
    show H'.length ≤ if s = H.length then r else if s < H.length then s else s + H'.length
    rw [if_neg (by omega), if_neg (by omega)]; omega
  · intro s hs _; rw [List.getElem?_append_left hs]
  · intro s b' hs hb
    rcases hs with hs | hs
    · exact hs.elim
    · rw [List.getElem?_append_right hs] at hb
      have hz : s - H.length = 0 := by
        have := (List.getElem?_eq_some_iff.1 hb).1
        simp at this; omega
      rw [hz] at hb
      simp only [List.getElem?_cons_zero, Option.some.injEq] at hb
      subst hb
      simp only [show s = H.length by omega, if_true, h3, Option.some.injEq]
      cases b with
      | cells g ro ety cs => simp only [ABlk.flat] at h1; simp only [ABlk.ren, flat_list_ren _ h1]
      | map es =>
        simp only [ABlk.flat, List.all_eq_true, Bool.and_eq_true] at h1
        simp only [ABlk.ren, ABlk.map.injEq]
        symm
        rw [List.map_congr_left (g := id)]
        · simp
        · intro p hp; obtain ⟨a1, a2⟩ := h1 p hp; simp [AVal.flat_ren _ a1, AVal.flat_ren _ a2]

mutual
theorem VRel.flat {ι ι' : Inj} : ∀ {a : AVal} {v : Value}, a.flat = true → VRel ι a v → VRel ι' a v
  | .undef, _, _, _ => by simp [VRel]
  | .bool b, _, _, h => by simpa [VRel] using h
  | .int k n, _, _, h => by simpa [VRel] using h
  | .str s, _, _, h => by simpa [VRel] using h
  | .nilptr, _, _, h => by simpa [VRel] using h
  | .ptr r g o, _, hf, h => by simp [AVal.flat] at hf
  | .nilslice, _, _, h => by simpa [VRel] using h
  | .eslice, _, _, h => by simpa [VRel] using h
  | .slice r g o len z, _, hf, h => by simp [AVal.flat] at hf
  | .map r, _, hf, h => by simp [AVal.flat] at hf
  | .nilmap, _, _, h => by simpa [VRel] using h
  | .func f caps, _, hf, h => by
    simp only [AVal.flat] at hf
    simp only [VRel] at h ⊢
    obtain ⟨l, e, h⟩ := h
    exact ⟨l, e, VRels.flat hf h⟩
  | .nilfunc, _, _, h => by simpa [VRel] using h
  | .agg cs, _, hf, h => by
    simp only [AVal.flat] at hf
    simp only [VRel] at h ⊢
    obtain ⟨l, e, h⟩ := h
    exact ⟨l, e, VRels.flat hf h⟩
  | .tuple vs, _, hf, h => by
    simp only [AVal.flat] at hf
    simp only [VRel] at h ⊢
    obtain ⟨l, e, h⟩ := h
    exact ⟨l, e, VRels.flat hf h⟩
theorem VRels.flat {ι ι' : Inj} : ∀ {as : List AVal} {l : List Value}, AVal.flats as = true → VRels ι as l → VRels ι' as l
  | [], l, _, h => by simpa [VRels] using h
  | a :: as, l, hf, h => by
    simp only [AVal.flats, Bool.and_eq_true] at hf
    simp only [VRels] at h ⊢
    obtain ⟨v, vs, e, h1, h2⟩ := h
    exact ⟨v, vs, e, VRel.flat hf.1 h1, VRels.flat hf.2 h2⟩
end

/-- What is known of a call of closed values in an empty state is known in every state. -/
theorem ACall.closed {f : FuncId} {args : List AVal} {fp0 : Nat → Prop} {R0 : AVal → AHeap → Prop} (h : ACall P f args [] fp0 R0) (ha : AVal.flats args = true) (hf : ∀ v H', R0 v H' → v.flat = true) (H : AHeap) (fp : Nat → Prop) :
    ACall P f args H fp fun v H' => H' = H ∧ ∃ H2, R0 v H2 := by
  intro W0 ι w vs hR hv o a next Q hn
  refine h w (fun _ => none) w vs ⟨Below.refl _ _, by simp, by simp, by simp⟩ (hv.flat ha) o a next Q fun v y ι' H' w' hq hs hR' hy => ?_
  have hreal : ∀ k, k < w.heap.size → w'.heap[k]? = w.heap[k]? := fun k hk => hR'.below.block k hk
  refine hn v y ι H w' ⟨rfl, _, hq⟩ ⟨Inj.le_refl _, fun r g win h => .inl ⟨g, win, h, rfl⟩, fun k hk _ => hreal k hk, hs.size, Nat.le_refl _, fun _ _ _ => rfl⟩
    ⟨hR.below.trans (hR'.below.mono hR.size), ?_, hR.dom, hR.inj⟩ (hy.flat (hf _ _ hq))
  intro r b hb
  obtain ⟨g, win, h1, h2⟩ := hR.blk r b hb
  exact ⟨g, win, h1, h2.transfer (Inj.le_refl _) (hreal _ (hR.lt h1))⟩

theorem xcall_good (hm : P.follows .mixedOrders = true) {X : FuncId → Option XFun} (hX : ∀ f xf, X f = some xf → ∃ fn, P.funcs[f]? = some fn ∧ xfun P fn = some xf) {S : Fns} (hS : Good P S) {N : Nat} : ∀ d, Good P (xcall X S N d)
  | 0 => fun f args H v H' W h => by simp [xcall] at h
  | d + 1 => fun f args H v H' W h => by
    simp only [xcall] at h
    split at h
    · rename_i r hr
      cases h
      exact hS _ _ _ _ _ _ hr
    · split at h
      · rename_i xf hxf
        obtain ⟨fn, hf, hx⟩ := hX f xf hxf
        split at h
        · rename_i b hb
          split at h
          · rename_i e l' H1 W1 hex
            split at h
            · rename_i hc
              split at h
              · rename_i vs hvs
                have base : ACall P f args H (fun r => r ∈ W1.filter fun r => decide (r < H.length)) fun v2 H2 => v2 = retVal vs ∧ H2 = H1 := by
                  refine acall_of_vc hm hf hx hc.2 ?_
                  rw [← envOf_entry hb]
                  refine xexec_vc (xcall_good hm hX hS d) xf.body _ _ _ _ _ _ _ hex (fun r hr => ?_) _ ⟨hc.1, vs, hvs, rfl, rfl⟩
                  by_cases hlt : r < H.length
                  · exact .inl (List.mem_filter.2 ⟨hr, by simpa using hlt⟩)
                  · exact .inr (by omega)
                simp only [tell, Option.some.injEq] at h
                split at h
                · rename_i hW
                  rw [hW] at base
                  split at h
                  · rename_i hfl
                    cases h
                    refine (ACall.drop (base.use (fun r h => by simp at h) fun v2 H2 q _ _ => q) fun v2 H2 q => by rw [q.1]; exact hfl).mono ?_
                    rintro v2 H2 ⟨rfl, _, ⟨rfl, _⟩, _⟩
                    exact ⟨rfl, rfl⟩
                  · cases h; exact base
                · cases h; exact base
              · cases h
            · cases h
          · cases h
        · cases h
      · cases h
end
end Go.Proofs.YtalbjkemcckokaaGreat.Ab

/- Inflate: what a beginning of a stream, bytes behind it and a lesser limit change. Conditions: none; for the statements about layers 46 and 47. -/
import Derived.Test.YtdknddicpdhkcaaTl
namespace Go.Proofs.Ytdknddicpdhkcaa.Ab
set_option linter.unusedVariables false
set_option linter.unusedSimpArgs false

section
variable {s : List UInt8} {m M M2 : Nat} {α β : Type}

/-- The second run has stopped for an error of its own, which the first one has gone past. -/
def badS (s2 : List UInt8) (M2 : Nat) (t1 t2 : St) : Prop := (t2.err = 5 ∧ 8 * s2.length < t1.at') ∨ (t2.err = 3 ∧ M2 < t1.out.length)
/-- Two operations that belong together: of the run over the whole text, and of the run over a beginning of it and with a lesser limit. -/
structure OS (z : List UInt8) (M2 : Nat) (f1 f2 : St → α × St) : Prop where
  e1 : ∀ t, t.err ≠ 0 → (f1 t).2.err ≠ 0
  m1 : ∀ t, t.at' ≤ (f1 t).2.at' ∧ t.out.length ≤ (f1 t).2.out.length
  s2 : ∀ t, t.err ≠ 0 → (f2 t).2.err = t.err
  c : ∀ t, t.err = 0 → (f1 t).2.err ≠ 0 ∨ f1 t = f2 t ∨ badS z M2 (f1 t).2 (f2 t).2

variable {z : List UInt8}
theorem OS.bind {f1 f2 : St → α × St} {g1 g2 : α → St → β × St} (h : OS z M2 f1 f2) (k : ∀ a, OS z M2 (g1 a) (g2 a)) : OS z M2 (fun t => g1 (f1 t).1 (f1 t).2) (fun t => g2 (f2 t).1 (f2 t).2) where
  e1 t ht := (k _).e1 _ (h.e1 t ht)
  m1 t := ⟨Nat.le_trans (h.m1 t).1 ((k _).m1 _).1, Nat.le_trans (h.m1 t).2 ((k _).m1 _).2⟩
  s2 t ht := by
    have h1 := h.s2 t ht
    rw [(k _).s2 _ (by rw [h1]; exact ht), h1]
  c t ht := by
    rcases h.c t ht with h1 | h1 | h1
    · exact .inl ((k _).e1 _ h1)
    · by_cases h2 : (f1 t).2.err = 0
      · rw [← h1]
        exact (k _).c _ h2
      · exact .inl ((k _).e1 _ h2)
    · have hm := (k (f1 t).1).m1 (f1 t).2
      rcases h1 with ⟨h2, h3⟩ | ⟨h2, h3⟩
      · exact .inr (.inr (.inl ⟨by rw [(k _).s2 _ (by rw [h2]; decide), h2], by omega⟩))
      · exact .inr (.inr (.inr ⟨by rw [(k _).s2 _ (by rw [h2]; decide), h2], by omega⟩))
theorem OS.pure (a : α) : OS z M2 (fun t => (a, t)) (fun t => (a, t)) := ⟨fun t h => h, fun t => ⟨Nat.le_refl _, Nat.le_refl _⟩, fun t _ => rfl, fun t _ => .inr (.inl rfl)⟩
theorem OS.fail (a : α) (e : Int) (he : e ≠ 0) : OS z M2 (fun t => (a, failM e t)) (fun t => (a, failM e t)) where
  e1 t h := by simp only [failM]; rw [if_neg h]; exact h
  m1 t := by simp
  s2 t h := by simp only [failM]; rw [if_neg h]
  c t h := .inl (by simp only [failM]; rw [if_pos h]; exact he)
theorem OS.ite {f1 f2 g1 g2 : St → α × St} (c : Prop) [Decidable c] (h : OS z M2 f1 f2) (k : OS z M2 g1 g2) : OS z M2 (fun t => if c then f1 t else g1 t) (fun t => if c then f2 t else g2 t) := by
  by_cases hc : c
  · simpa [hc] using h
  · simpa [hc] using k
theorem OS.guard {f1 f2 : St → α × St} (a : α) (h : OS z M2 f1 f2) : OS z M2 (fun t => if t.err ≠ 0 then (a, t) else f1 t) (fun t => if t.err ≠ 0 then (a, t) else f2 t) where
  e1 t ht := by rw [if_pos ht]; exact ht
  m1 t := by
    split
    · exact ⟨Nat.le_refl _, Nat.le_refl _⟩
    · exact h.m1 t
  s2 t ht := by rw [if_pos ht]
  c t ht := by rw [if_neg (by simp [ht]), if_neg (by simp [ht])]; exact h.c t ht

theorem chr_take {i : Nat} (h : i < m) : chr (s.take m) i = chr s i := by
  simp [chr, List.getD_eq_getElem?_getD, List.getElem?_take, h]
theorem bitsV_take (a : Nat) : ∀ n, a + n ≤ 8 * m → bitsV (s.take m) a n = bitsV s a n
  | 0, _ => rfl
  | n + 1, h => by
    rw [bitsV, bitsV, bitsV_take a n (by omega)]
    have : bitAt (s.take m) (a + n) = bitAt s (a + n) := by unfold bitAt; rw [chr_take (by omega)]
    rw [this]

theorem bits_os (n : Nat) : OS (s.take m) M2 (bitsM s n) (bitsM (s.take m) n) where
  e1 t h := by unfold bitsM; rw [if_pos h]; exact h
  m1 t := by
    unfold bitsM
    split
    · simp
    · split <;> simp
  s2 t h := by unfold bitsM; rw [if_pos h]
  c t h := by
    have hn : ¬ t.err ≠ 0 := by simp [h]
    unfold bitsM
    rw [if_neg hn, if_neg hn]
    by_cases c1 : 8 * s.length < t.at' + n
    · rw [if_pos c1]; exact .inl (by simp)
    · rw [if_neg c1]
      by_cases c2 : 8 * (s.take m).length < t.at' + n
      · rw [if_pos c2]; exact .inr (.inr (.inl ⟨rfl, c2⟩))
      · rw [if_neg c2, bitsV_take]
        · exact .inr (.inl rfl)
        · simp at c2; omega

theorem sym_os (l : List Int) : ∀ (n k code first index : Nat), OS (s.take m) M2 (symM s l n k code first index) (symM (s.take m) l n k code first index)
  | 0, k, code, first, index => OS.fail 0 4 (by decide)
  | n + 1, k, code, first, index => by
    have h := OS.bind (bits_os (s := s) (m := m) (M2 := M2) 1)
      (g1 := fun (b : Nat) t => if t.err ≠ 0 then ((0 : Int), t) else if (code : Int) + b - first < cnts l k then ((ordG l 15).getD (index + (code + b) - first) 0, t) else symM s l n (k + 1) ((code + b) * 2) ((first + l.count (k : Int)) * 2) (index + l.count (k : Int)) t)
      (g2 := fun (b : Nat) t => if t.err ≠ 0 then ((0 : Int), t) else if (code : Int) + b - first < cnts l k then ((ordG l 15).getD (index + (code + b) - first) 0, t) else symM (s.take m) l n (k + 1) ((code + b) * 2) ((first + l.count (k : Int)) * 2) (index + l.count (k : Int)) t)
      (fun b => OS.guard 0 (OS.ite _ (OS.pure _) (sym_os l n _ _ _ _)))
    exact h
theorem symG_os (l : List Int) : OS (s.take m) M2 (symG s l) (symG (s.take m) l) := sym_os l _ _ _ _ _

theorem unit_put (hM : M2 ≤ M) (c : UInt8) : OS z M2 (fun t => ((), putM M c t)) (fun t => ((), putM M2 c t)) where
  e1 t h := by
    simp only [putM]; split
    · simp only [failM]; rw [if_neg h]; exact h
    · exact h
  m1 t := by
    simp only [putM]; split <;> simp
  s2 t h := by
    simp only [putM]; split
    · simp only [failM]; rw [if_neg h]
    · rfl
  c t h := by
    simp only [putM]
    by_cases c1 : M ≤ t.out.length
    · rw [if_pos c1]; exact .inl (by simp [failM, h])
    · rw [if_neg c1]
      by_cases c2 : M2 ≤ t.out.length
      · rw [if_pos c2]; exact .inr (.inr (.inr ⟨by simp [failM, h], by simp; omega⟩))
      · rw [if_neg c2]; exact .inr (.inl rfl)
theorem unit_matchE (hM : M2 ≤ M) (len dist : Nat) : OS z M2 (fun t => ((), matchE M len dist t)) (fun t => ((), matchE M2 len dist t)) where
  e1 t h := by simp only [matchE]; rw [if_pos h]; exact h
  m1 t := by
    simp only [matchE]; split
    · simp
    · split
      · simp
      · split
        · simp
        · simp [copyN_len]
  s2 t h := by simp only [matchE]; rw [if_pos h]
  c t h := by
    have hn : ¬ t.err ≠ 0 := by simp [h]
    simp only [matchE]
    rw [if_neg hn, if_neg hn]
    by_cases c0 : t.out.length < dist
    · rw [if_pos c0]; exact .inl (by simp [failM, h])
    · rw [if_neg c0, if_neg c0]
      by_cases c1 : M < t.out.length + len
      · rw [if_pos c1]; exact .inl (by simp [failM, h])
      · rw [if_neg c1]
        by_cases c2 : M2 < t.out.length + len
        · rw [if_pos c2]; exact .inr (.inr (.inr ⟨by simp [failM, h], by simp [copyN_len]; omega⟩))
        · rw [if_neg c2]; exact .inr (.inl rfl)
theorem unit_stored (hM : M2 ≤ M) : OS (s.take m) M2 (fun t => ((), storedM s M t)) (fun t => ((), storedM (s.take m) M2 t)) where
  e1 t h := by
    have hf : ∀ e, (failM e t).err ≠ 0 := fun e => by simp only [failM]; rw [if_neg h]; exact h
    simp only [storedM]
    split
    · exact hf _
    · split
      · exact hf _
      · split
        · exact hf _
        · split
          · exact hf _
          · exact h
  m1 t := by
    simp only [storedM]
    split
    · simp
    · split
      · simp
      · split
        · simp
        · split
          · simp
          · simp; omega
  s2 t h := by
    have hf : ∀ e, (failM e t).err = t.err := fun e => by simp only [failM]; rw [if_neg h]
    simp only [storedM]
    split
    · exact hf _
    · split
      · exact hf _
      · split
        · exact hf _
        · split
          · exact hf _
          · rfl
  c t h := by
    have hf : ∀ e, e ≠ 0 → (failM e t).err ≠ 0 := fun e he => by simp only [failM]; rw [if_pos h]; exact he
    have hf2 : ∀ e, (failM e t).err = e := fun e => by simp only [failM]; rw [if_pos h]
    simp only [storedM]
    generalize (t.at' + 7) / 8 = a
    by_cases c1 : s.length < a + 4
    · rw [if_pos c1]; exact .inl (hf _ (by decide))
    · rw [if_neg c1]
      by_cases c2 : n16 s a + n16 s (a + 2) ≠ 65535
      · rw [if_pos c2]; exact .inl (hf _ (by decide))
      · rw [if_neg c2]
        by_cases c3 : s.length < a + 4 + n16 s a
        · rw [if_pos c3]; exact .inl (hf _ (by decide))
        · rw [if_neg c3]
          by_cases c4 : M < t.out.length + n16 s a
          · rw [if_pos c4]; exact .inl (hf _ (by decide))
          · rw [if_neg c4]
            by_cases d1 : (s.take m).length < a + 4
            · rw [if_pos d1]; exact .inr (.inr (.inl ⟨hf2 _, by simp only []; omega⟩))
            · rw [if_neg d1]
              have hm : a + 4 ≤ m := by simp at d1; omega
              have e1 : n16 (s.take m) a = n16 s a := by unfold n16; rw [chr_take (by omega), chr_take (by omega)]
              have e2 : n16 (s.take m) (a + 2) = n16 s (a + 2) := by unfold n16; rw [chr_take (by omega), chr_take (by omega)]
              rw [e1, e2, if_neg c2]
              by_cases d2 : (s.take m).length < a + 4 + n16 s a
              · rw [if_pos d2]; exact .inr (.inr (.inl ⟨hf2 _, by simp only []; omega⟩))
              · rw [if_neg d2]
                by_cases d3 : M2 < t.out.length + n16 s a
                · rw [if_pos d3]; exact .inr (.inr (.inr ⟨hf2 _, by simp; omega⟩))
                · rw [if_neg d3]
                  refine .inr (.inl ?_)
                  have hm2 : a + 4 + n16 s a ≤ m := by simp at d2; omega
                  have : ((s.take m).drop (a + 4)).take (n16 s a) = (s.drop (a + 4)).take (n16 s a) := by
                    rw [List.drop_take, List.take_take]; congr 1; omega
                  rw [this]

theorem unit_late (d : Int) : OS z M2 (fun t => ((), late (d, t))) (fun t => ((), late (d, t))) := by
  have := OS.ite (z := z) (M2 := M2) (29 < d) (OS.fail () 4 (by decide)) (OS.pure ())
  refine cast ?_ this
  congr 1
  · funext t; unfold late; split <;> rfl
  · funext t; unfold late; split <;> rfl
theorem unit_matchD (hM : M2 ≤ M) (len : Nat) (d : Int) : OS (s.take m) M2 (fun t => ((), matchD s M len d t)) (fun t => ((), matchD (s.take m) M2 len d t)) := by
  have h := OS.guard (z := s.take m) (M2 := M2) () (OS.bind (bits_os (s := s) (m := m) (M2 := M2) (reachG d.toNat).2) (fun b => unit_matchE hM len ((reachG d.toNat).1 + b)))
  refine cast ?_ h
  congr 1
  · funext t; unfold matchD; split <;> rfl
  · funext t; unfold matchD; split <;> rfl
theorem unit_match (hM : M2 ≤ M) (k : Nat) (dl : List Int) : OS (s.take m) M2 (fun t => ((), matchM s M k dl t)) (fun t => ((), matchM (s.take m) M2 k dl t)) := by
  have h := OS.bind (bits_os (s := s) (m := m) (M2 := M2) (spanG k).2) (fun x => OS.bind (symG_os (s := s) (m := m) (M2 := M2) dl) (fun d => OS.bind (unit_late d) (fun _ => unit_matchD hM ((spanG k).1 + x) d)))
  exact h
end
end Go.Proofs.Ytdknddicpdhkcaa.Ab

/- The abstract layer: regions whose order is open: one order is walked, and every order comes to the same. Conditions: none; a library for the texts behind it. -/
import Derived.Test.YtalbjkemcckokaaGreatAk
namespace Go.Proofs.YtalbjkemcckokaaGreat.Ab
set_option linter.unusedVariables false
set_option linter.unusedSimpArgs false

section
variable {P : Program} {ops : Array Oper} {Q : Exit → Act → World → Prop}

theorem aftGo_mono {i j : Nat} : ∀ {n m : Nat}, n ≤ m → j ∈ aftGo ops i n → j ∈ aftGo ops i m := by
  intro n m h hj
  induction m with
  | zero => have : n = 0 := by omega
            subst this; exact hj
  | succ m ih =>
    by_cases e : n = m + 1
    · subst e; exact hj
    · have := ih (by omega)
      simp only [aftGo]
      split
      · split
        · exact List.mem_cons_of_mem _ this
        · exact this
      · exact this

theorem aftGo_spec {i : Nat} : ∀ {n j : Nat}, j ∈ aftGo ops i n → ∃ o, ops[j]? = some o ∧ ∃ e ∈ o.after, Region.binds .any e = true ∧ (e.on = i ∨ e.on ∈ aftGo ops i n)
  | 0, j, h => by simp [aftGo] at h
  | n + 1, j, h => by
    have old : j ∈ aftGo ops i n → ∃ o, ops[j]? = some o ∧ ∃ e ∈ o.after, Region.binds .any e = true ∧ (e.on = i ∨ e.on ∈ aftGo ops i (n + 1)) := by
      intro h
      obtain ⟨o, ho, e, he, hb, hh⟩ := aftGo_spec h
      exact ⟨o, ho, e, he, hb, hh.imp id (aftGo_mono (Nat.le_succ n))⟩
    have h' := h
    simp only [aftGo] at h
    split at h
    · rename_i o ho
      split at h
      · rename_i hany
        rcases List.mem_cons.1 h with e | h
        · subst e
          obtain ⟨e, he, hb⟩ := Array.any_eq_true'.1 hany
          simp only [Bool.and_eq_true, Bool.or_eq_true, beq_iff_eq, List.contains_iff_mem] at hb
          exact ⟨o, ho, e, he, hb.1, hb.2.imp id (aftGo_mono (Nat.le_succ j))⟩
        · exact old h
      · exact old h
    · exact old h

theorem aft_spec {i j : Nat} (h : j ∈ aft ops i) : ∃ o, ops[j]? = some o ∧ ∃ e ∈ o.after, Region.binds .any e = true ∧ (e.on = i ∨ e.on ∈ aft ops i) := aftGo_spec h

/-- Who waits for i cannot come up while i has not. -/
theorem not_aft {i j : Nat} {listed : Array Bool} (hinv : ∀ m, listed.getD m false = true → m ∉ aft ops i) (hi : listed.getD i false = false) (hj : j ∈ Region.ready .any ops listed) : j ∉ aft ops i := by
  intro h
  obtain ⟨o, ho, e, he, hb, hh⟩ := aft_spec h
  obtain ⟨_, o', ho', hall⟩ := mem_ready.1 hj
  rw [ho] at ho'; cases ho'
  have hl := hall e he hb
  rcases hh with hh | hh
  · rw [hh, hi] at hl; cases hl
  · exact hinv _ hl hh

/-- Whatever order is picked from here on; and an operation that does not wait for a read leaves what that one has read. -/
def wpAnyF (P : Program) (ops : Array Oper) (Q : Exit → Act → World → Prop) : List (Nat × Nat) → Nat → Array Bool → Act → World → Prop
  | _, 0, listed, a, w => Region.ready .any ops listed = [] ∧ Q .normal a w
  | B, f + 1, listed, a, w => (Region.ready .any ops listed = [] → Q .normal a w) ∧
      ∀ j ∈ Region.ready .any ops listed, wpOp P ops Q j (fun a' w' => (∀ p ∈ B, j ∉ aft ops p.1 → w'.heap[p.2]? = w.heap[p.2]?) ∧
        wpAnyF P ops Q (B.filter fun p => !(aft ops p.1).contains j) f (listed.setIfInBounds j true) a' w') a w

theorem wpAny_of_F : ∀ (f : Nat) (B : List (Nat × Nat)) (listed : Array Bool) (a : Act) (w : World), wpAnyF P ops Q B f listed a w → wpAny P .any ops Q f listed a w
  | 0, B, listed, a, w, h => h
  | f + 1, B, listed, a, w, h => ⟨h.1, fun j hj => wpOp_mono (fun a' w' h' => wpAny_of_F f _ _ a' w' h'.2) (h.2 j hj)⟩

theorem wpAnyF_mono : ∀ (f : Nat) (B B' : List (Nat × Nat)) (listed : Array Bool) (a : Act) (w : World), (∀ p ∈ B', p ∈ B) → wpAnyF P ops Q B f listed a w → wpAnyF P ops Q B' f listed a w
  | 0, B, B', listed, a, w, hs, h => h
  | f + 1, B, B', listed, a, w, hs, h => ⟨h.1, fun j hj => wpOp_mono (fun a' w' h' => ⟨fun p hp => h'.1 p (hs p hp), wpAnyF_mono f _ _ _ a' w' (fun p hp => by
      rw [List.mem_filter] at hp ⊢; exact ⟨hs p hp.1, hp.2⟩) h'.2⟩) (h.2 j hj)⟩

/-- A quiet operation that may come up may be taken first. -/
theorem wpAnyF_first {i : Nat} {oi : Oper} {v : Value} {ks : List Nat} {W : World} (hi : ops[i]? = some oi) (hsel : ∀ (j : Nat) (o : Oper) cs b, ops[j]? = some o → o.op ≠ .select cs b)
    (hQ : ∀ c a w, ¬ Q (.panic c) a w) : ∀ (f : Nat) (B : List (Nat × Nat)) (listed : Array Bool) (a : Act) (w : World),
      (∀ j oj, ops[j]? = some oj → j ≠ i → listed.getD j true = false → (∀ e ∈ oj.after, Region.binds .any e = true → e.on ≠ i) → oi.apart ops oj = true) →
      (∀ m, listed.getD m false = true → m ∉ aft ops i) → i ∈ Region.ready .any ops listed → (∀ k ∈ ks, w.heap[k]? = W.heap[k]?) → YieldsIf P ops (fun w' => ∀ k ∈ ks, w'.heap[k]? = W.heap[k]?) oi v a →
      wpAnyF P ops Q (ks.map (fun k => (i, k)) ++ B) f (listed.setIfInBounds i true) (a.put oi.dst v) w → wpAnyF P ops Q B (f + 1) listed a w := by
  intro f
  induction f with
  | zero =>
    intro B listed a w hfree hinv hr hS hy H
    refine ⟨fun h => (by rw [h] at hr; cases hr), fun j hj => ?_⟩
    by_cases hji : j = i
    · subst hji; exact hy.wpOp hi hS ⟨fun _ _ _ => rfl, H⟩
    · have := ready_mono hj hji
      rw [H.1] at this
      cases this
  | succ f ih =>
    intro B listed a w hfree hinv hr hS hy H
    have hun := (mem_ready.1 hr).1
    refine ⟨fun h => (by rw [h] at hr; cases hr), fun j hj => ?_⟩
    by_cases hji : j = i
    · subst hji
      exact hy.wpOp hi hS ⟨fun _ _ _ => rfl, wpAnyF_mono (f + 1) _ _ _ _ _ (fun p hp => List.mem_append_right _ (List.mem_filter.1 hp).1) H⟩
    · have hnaft : j ∉ aft ops i := not_aft hinv (getD_both hun) hj
      have h1 := H.2 j (ready_mono hj hji)
      obtain ⟨hjun, oj, hoj, hall⟩ := mem_ready.1 hj
      have hnot : ∀ e ∈ oj.after, Region.binds .any e = true → e.on ≠ i := fun e he hb heq => by
        have h1 := hall e he hb
        rw [heq, getD_both hun] at h1
        cases h1
      have h2 := wpOp_putIf hoj (hfree j oj hoj hji hjun hnot) (fun cs b => hsel i oi cs b hi) (fun cs b => hsel j oj cs b hoj) (fun c a w h => absurd h (hQ c _ w)) hy h1
      refine wpOp_mono (fun a' w' h3 => ?_) h2
      obtain ⟨hy', hB, hrest⟩ := h3
      refine ⟨fun p hp hn => hB p (List.mem_append_right _ hp) hn, ?_⟩
      have hS' : ∀ k ∈ ks, w'.heap[k]? = W.heap[k]? := fun k hk => by
        rw [hB (i, k) (List.mem_append_left _ (List.mem_map_of_mem hk)) hnaft]; exact hS k hk
      refine ih _ (listed.setIfInBounds j true) a' w' ?_ ?_ (ready_mono hr (Ne.symm hji)) hS' hy' ?_
      · intro k ok hk hki hun' hno
        refine hfree k ok hk hki ?_ hno
        by_cases hjk : j = k
        · subst hjk; exact hjun
        · rw [getD_set_ne true hjk] at hun'; exact hun'
      · intro m hm
        by_cases hjm : j = m
        · subst hjm; exact hnaft
        · rw [getD_set_ne false hjm] at hm; exact hinv m hm
      · rw [Array.setIfInBounds_comm _ _ hji]
        rw [List.filter_append] at hrest
        have : (ks.map (fun k => (i, k))).filter (fun p => !(aft ops p.1).contains j) = ks.map (fun k => (i, k)) := by
          rw [List.filter_eq_self]
          intro p hp
          obtain ⟨k, _, rfl⟩ := List.mem_map.1 hp
          simp [hnaft]
        rw [this] at hrest
        exact hrest
end
end Go.Proofs.YtalbjkemcckokaaGreat.Ab

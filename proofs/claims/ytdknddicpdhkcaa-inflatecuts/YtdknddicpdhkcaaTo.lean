/- The law InflateCuts over the abstract layer. Conditions: none; for the statements about layers 46 and 47. -/
import Derived.Test.YtdknddicpdhkcaaTn
namespace Go.Proofs.Ytdknddicpdhkcaa.Ab
set_option linter.unusedVariables false
set_option linter.unusedSimpArgs false

section
variable {s : List UInt8} {m M M2 : Nat} {α β : Type} {z : List UInt8}

theorem OS.congr {f1 f2 g1 g2 : St → α × St} (h : OS z M2 f1 f2) (e1 : ∀ t, g1 t = f1 t) (e2 : ∀ t, g2 t = f2 t) : OS z M2 g1 g2 := by
  rw [funext e1, funext e2]; exact h

theorem unit_data (hM : M2 ≤ M) (ll dl : List Int) : ∀ F, OS (s.take m) M2 (fun t => ((), dataM s M ll dl F t)) (fun t => ((), dataM (s.take m) M2 ll dl F t))
  | 0 => OS.pure ()
  | F + 1 => by
    have h := OS.guard (z := s.take m) (M2 := M2) () (OS.bind (symG_os (s := s) (m := m) (M2 := M2) ll) (fun k => OS.guard (z := s.take m) (M2 := M2) () (OS.ite (k = 256) (OS.pure ())
      (OS.bind (OS.ite (k < 256) (unit_put hM (UInt8.ofNat k.toNat)) (OS.ite (285 < k) (OS.fail () 4 (by decide)) (unit_match hM k.toNat dl))) (fun _ => unit_data hM ll dl F)))))
    refine h.congr (fun t => ?_) (fun t => ?_)
    · simp only [dataM]
      split
      · rfl
      · by_cases c1 : (symG s ll t).2.err ≠ 0
        · rw [if_pos (.inl c1), if_pos c1]
        · by_cases c2 : (symG s ll t).1 = 256
          · rw [if_pos (.inr c2), if_neg c1, if_pos c2]
          · rw [if_neg (fun h => h.elim c1 c2), if_neg c1, if_neg c2]
            split
            · rfl
            · split <;> rfl
    · simp only [dataM]
      split
      · rfl
      · by_cases c1 : (symG (s.take m) ll t).2.err ≠ 0
        · rw [if_pos (.inl c1), if_pos c1]
        · by_cases c2 : (symG (s.take m) ll t).1 = 256
          · rw [if_pos (.inr c2), if_neg c1, if_pos c2]
          · rw [if_neg (fun h => h.elim c1 c2), if_neg c1, if_neg c2]
            split
            · rfl
            · split <;> rfl

theorem len_os (bl : List Int) (n : Nat) : ∀ F (l : List Int), OS (s.take m) M2 (lenM s bl n F l) (lenM (s.take m) bl n F l)
  | 0, l => OS.pure l
  | F + 1, l => by
    by_cases hl : l.length < n
    · have h := OS.guard (z := s.take m) (M2 := M2) l (OS.bind (symG_os (s := s) (m := m) (M2 := M2) bl) (fun k =>
        OS.ite (k = 16) (OS.ite (l = []) (OS.fail [] 4 (by decide)) (OS.bind (bits_os 2) (fun b => len_os bl n F (l ++ List.replicate (3 + b) (l.getD (l.length - 1) 0)))))
        (OS.ite (k = 17) (OS.bind (bits_os 3) (fun b => len_os bl n F (l ++ List.replicate (3 + b) 0)))
        (OS.ite (k = 18) (OS.bind (bits_os 7) (fun b => len_os bl n F (l ++ List.replicate (11 + b) 0))) (len_os bl n F (l ++ [k]))))))
      refine h.congr (fun t => ?_) (fun t => ?_)
      · simp only [lenM]
        by_cases c : t.err = 0
        · rw [if_pos ⟨hl, c⟩, if_neg (show ¬ t.err ≠ 0 by simp [c])]
        · rw [if_neg (fun h => c h.2), if_pos c]
      · simp only [lenM]
        by_cases c : t.err = 0
        · rw [if_pos ⟨hl, c⟩, if_neg (show ¬ t.err ≠ 0 by simp [c])]
        · rw [if_neg (fun h => c h.2), if_pos c]
    · refine (OS.pure l).congr (fun t => ?_) (fun t => ?_)
      · simp only [lenM]; rw [if_neg (fun h => hl h.1)]
      · simp only [lenM]; rw [if_neg (fun h => hl h.1)]
theorem lenF_os (bl : List Int) (n : Nat) : OS (s.take m) M2 (lenF s bl n) (lenF (s.take m) bl n) := by
  have h := OS.bind (len_os (s := s) (m := m) (M2 := M2) bl n (n + 1) []) (fun l => OS.ite (n < l.length) (OS.fail l 4 (by decide)) (OS.pure l))
  refine h.congr (fun t => ?_) (fun t => ?_)
  · simp only [lenF]; split <;> rfl
  · simp only [lenF]; split <;> rfl
theorem sh_os : ∀ i, OS (s.take m) M2 (fun t => shM s t i) (fun t => shM (s.take m) t i)
  | 0 => OS.pure _
  | i + 1 => OS.bind (sh_os i) (fun l => OS.bind (bits_os 3) (fun b => OS.pure (l.set (ord19.getD i 0) (b : Int))))
theorem dynD_os (lit : Nat) (r : List Int) : OS z M2 (fun t => dynD lit (r, t)) (fun t => dynD lit (r, t)) := by
  have h := OS.guard (z := z) (M2 := M2) (([] : List Int), ([] : List Int)) (OS.ite (dynBad (r.take lit) (r.drop lit)) (OS.fail (r.take lit, r.drop lit) 4 (by decide)) (OS.pure (r.take lit, r.drop lit)))
  refine h.congr (fun t => ?_) (fun t => ?_)
  · simp only [dynD]; split
    · rfl
    · split <;> rfl
  · simp only [dynD]; split
    · rfl
    · split <;> rfl
theorem dynC_os (lit dist : Nat) (short : List Int) : OS (s.take m) M2 (dynC s lit dist short) (dynC (s.take m) lit dist short) := by
  have h := OS.guard (z := s.take m) (M2 := M2) (([] : List Int), ([] : List Int)) (OS.bind (lenF_os (s := s) (m := m) (M2 := M2) short (lit + dist)) (fun r => dynD_os lit r))
  exact h.congr (fun t => rfl) (fun t => rfl)
theorem dynB_os (lit dist : Nat) (short : List Int) : OS (s.take m) M2 (fun t => dynB s lit dist (short, t)) (fun t => dynB (s.take m) lit dist (short, t)) := by
  have h := OS.bind (OS.ite (z := s.take m) (M2 := M2) (complG short) (OS.pure ()) (OS.fail () 4 (by decide))) (fun _ => dynC_os (s := s) (m := m) (M2 := M2) lit dist short)
  refine h.congr (fun t => ?_) (fun t => ?_)
  · simp only [dynB]; split <;> rfl
  · simp only [dynB]; split <;> rfl
theorem dyn_os : OS (s.take m) M2 (dynM s) (dynM (s.take m)) := by
  have h := OS.bind (bits_os (s := s) (m := m) (M2 := M2) 5) (fun a => OS.bind (bits_os (s := s) (m := m) (M2 := M2) 5) (fun b => OS.bind (bits_os (s := s) (m := m) (M2 := M2) 4) (fun c =>
    OS.bind (OS.ite (z := s.take m) (M2 := M2) (286 < a + 257 ∨ 30 < b + 1) (OS.fail () 4 (by decide)) (OS.pure ())) (fun _ => OS.bind (sh_os (s := s) (m := m) (M2 := M2) (c + 4)) (fun sh => dynB_os (s := s) (m := m) (M2 := M2) (a + 257) (b + 1) sh)))))
  refine h.congr (fun t => ?_) (fun t => ?_)
  · simp only [dynM]; split <;> rfl
  · simp only [dynM]; split <;> rfl
theorem unit_kind (hM : M2 ≤ M) (F kind : Nat) : OS (s.take m) M2 (fun t => ((), kindM s M F kind t)) (fun t => ((), kindM (s.take m) M2 F kind t)) := by
  have h := OS.ite (z := s.take m) (M2 := M2) (kind = 0) (unit_stored (s := s) (m := m) hM) (OS.ite (kind = 1) (unit_data hM (lits 288) dists F) (OS.ite (kind = 2) (OS.bind (dyn_os (s := s) (m := m) (M2 := M2)) (fun b => unit_data hM b.1 b.2 F)) (OS.fail () 4 (by decide))))
  refine h.congr (fun t => ?_) (fun t => ?_)
  · simp only [kindM]; split
    · rfl
    · split
      · rfl
      · split <;> rfl
  · simp only [kindM]; split
    · rfl
    · split
      · rfl
      · split <;> rfl
theorem unit_loop (hM : M2 ≤ M) (F : Nat) : ∀ G, OS (s.take m) M2 (fun t => ((), loopM s M F G t)) (fun t => ((), loopM (s.take m) M2 F G t))
  | 0 => OS.pure ()
  | G + 1 => by
    have h := OS.guard (z := s.take m) (M2 := M2) () (OS.bind (bits_os (s := s) (m := m) (M2 := M2) 1) (fun last => OS.bind (bits_os (s := s) (m := m) (M2 := M2) 2) (fun kind => OS.guard (z := s.take m) (M2 := M2) ()
      (OS.bind (unit_kind (s := s) (m := m) hM F kind) (fun _ => OS.ite (last = 0) (unit_loop hM F G) (OS.pure ()))))))
    refine h.congr (fun t => ?_) (fun t => ?_)
    · simp only [loopM]; split
      · rfl
      · split
        · rfl
        · split <;> rfl
    · simp only [loopM]; split
      · rfl
      · split
        · rfl
        · split <;> rfl

/-- What a run over a beginning and with a lesser limit comes to, where the whole run ends well. -/
theorem cuts (hM : M2 ≤ M) {F : Nat} (h : (loopM s M F F ⟨0, [], 0⟩).err = 0) : loopM (s.take m) M2 F F ⟨0, [], 0⟩ = loopM s M F F ⟨0, [], 0⟩ ∨ badS (s.take m) M2 (loopM s M F F ⟨0, [], 0⟩) (loopM (s.take m) M2 F F ⟨0, [], 0⟩) := by
  rcases (unit_loop (s := s) (m := m) hM F F).c ⟨0, [], 0⟩ rfl with h1 | h1 | h1
  · exact absurd h h1
  · exact .inl (congrArg Prod.snd h1).symm
  · exact .inr h1
theorem loopM_at {F G : Nat} (hG : 0 < G) (h : (loopM s M F G ⟨0, [], 0⟩).err = 0) (hs : 0 < G) : 1 ≤ (loopM s M F G ⟨0, [], 0⟩).at' := by
  obtain ⟨G', rfl⟩ : ∃ G', G = G' + 1 := ⟨G - 1, by omega⟩
  rw [loopM] at h ⊢
  rw [if_neg (by simp)] at h ⊢
  by_cases c1 : (bitsM s 2 (bitsM s 1 ⟨0, [], 0⟩).2).2.err = 0
  · have h2 := bitsM_at2 s c1
    have h1 := bitsM_at2 s h2.2.1
    rw [if_neg (by simp [c1])] at h ⊢
    have hk := ((unit_kind (s := s) (m := s.length) (M := M) (M2 := M) (Nat.le_refl _) F (bitsM s 2 (bitsM s 1 ⟨0, [], 0⟩).2).1).m1 (bitsM s 2 (bitsM s 1 ⟨0, [], 0⟩).2).2).1
    simp only [] at hk
    split
    · have hl := ((unit_loop (s := s) (m := s.length) (M := M) (M2 := M) (Nat.le_refl _) F G').m1 (kindM s M F (bitsM s 2 (bitsM s 1 ⟨0, [], 0⟩).2).1 (bitsM s 2 (bitsM s 1 ⟨0, [], 0⟩).2).2)).1
      simp only [] at hl
      omega
    · omega
  · rw [if_pos c1] at h; exact absurd h c1
end
end Go.Proofs.Ytdknddicpdhkcaa.Ab

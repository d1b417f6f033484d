/- The abstract layer: what code is asked may be weakened; a piece of code told by what it comes to. Conditions: none; a library for the texts behind it. -/
import Derived.Test.YtalbjkemcckokaaGreatAv
namespace Go.Proofs.YtalbjkemcckokaaGreat.Ab
set_option linter.unusedVariables false
set_option linter.unusedSimpArgs false

section
variable {P : Program}

theorem guarded_mono {env : Env} {g : Option (Nat × Bool)} {a b a' b' : Prop} (h : guarded env g a b) (h1 : a → a') (h2 : b → b') : guarded env g a' b' := by
  unfold guarded at h ⊢
  split at h
  · exact h1 h
  · split at h
    · exact ⟨fun e => h1 (h.1 e), fun e => h2 (h.2 e)⟩
    · exact h2 h
    · exact h.elim

theorem xop_mono {Wr : Nat → Prop} {env : Env} {H : AHeap} {K K' : AVal → AHeap → Prop} (hK : ∀ v H, K v H → K' v H) {x : XOp} (h : x.vc (ACall P) Wr env H K) : x.vc (ACall P) Wr env H K' := by
  cases x <;> simp only [XOp.vc] at h ⊢
  · obtain ⟨v, h1, h2⟩ := h; exact ⟨v, h1, hK _ _ h2⟩
  · obtain ⟨v, H', h1, h2, h3⟩ := h; exact ⟨v, H', h1, h2, hK _ _ h3⟩
  · exact ACall.mono h hK
  · split at h
    · exact ACall.mono h hK
    · exact h.elim

theorem vcOps_mono {Wr : Nat → Prop} {K K' : Env → AHeap → Prop} (hK : ∀ env H, K env H → K' env H) : ∀ (l : List XIns) (env : Env) (H : AHeap), vcOps (ACall P) Wr l K env H → vcOps (ACall P) Wr l K' env H
  | [], env, H, h => hK _ _ h
  | i :: l, env, H, h => guarded_mono h (xop_mono fun v H => vcOps_mono hK l _ _) (vcOps_mono hK l _ _)

theorem vcD_mono {Wr : Nat → Prop} {K K' : Env → AHeap → Prop} (hK : ∀ env H, K env H → K' env H) : ∀ (l : List DIns) (B : List (Nat × List Nat)) (env : Env) (H : AHeap), vcD (ACall P) Wr l B K env H → vcD (ACall P) Wr l B K' env H
  | [], B, env, H, h => hK _ _ h
  | d :: l, B, env, H, h => by
    cases ho : d.ins.op with
    | s o =>
      simp only [vcD, ho] at h ⊢
      exact guarded_mono h (fun ⟨v, h1, h2⟩ => ⟨v, h1, vcD_mono hK l _ _ _ h2⟩) (vcD_mono hK l _ _ _)
    | e o =>
      simp only [vcD, ho] at h ⊢
      exact guarded_mono h (xop_mono fun v H => vcD_mono hK l _ _ _) (vcD_mono hK l _ _ _)
    | call f args =>
      simp only [vcD, ho] at h ⊢
      exact guarded_mono h (xop_mono fun v H => vcD_mono hK l _ _ _) (vcD_mono hK l _ _ _)
    | callv f args =>
      simp only [vcD, ho] at h ⊢
      exact guarded_mono h (xop_mono fun v H => vcD_mono hK l _ _ _) (vcD_mono hK l _ _ _)

theorem vcT_mono {Wr : Nat → Prop} {K K' : Env → AHeap → Prop} (hK : ∀ env H, K env H → K' env H) : ∀ (l : DT) (B : List (Nat × List Nat)) (env : Env) (H : AHeap), vcT (ACall P) Wr l B K env H → vcT (ACall P) Wr l B K' env H
  | .nil, B, env, H, h => hK _ _ h
  | .alt a b, B, env, H, h => ⟨vcT_mono hK a _ _ _ h.1, vcT_mono hK b _ _ _ h.2⟩
  | .cons d l, B, env, H, h => by
    cases ho : d.ins.op with
    | s o =>
      simp only [vcT, ho] at h ⊢
      exact guarded_mono h (fun ⟨v, h1, h2⟩ => ⟨v, h1, vcT_mono hK l _ _ _ h2⟩) (vcT_mono hK l _ _ _)
    | e o =>
      simp only [vcT, ho] at h ⊢
      exact guarded_mono h (xop_mono fun v H => vcT_mono hK l _ _ _) (vcT_mono hK l _ _ _)
    | call f args =>
      simp only [vcT, ho] at h ⊢
      exact guarded_mono h (xop_mono fun v H => vcT_mono hK l _ _ _) (vcT_mono hK l _ _ _)
    | callv f args =>
      simp only [vcT, ho] at h ⊢
      exact guarded_mono h (xop_mono fun v H => vcT_mono hK l _ _ _) (vcT_mono hK l _ _ _)

theorem vc_mono {Wr : Nat → Prop} : ∀ (x : XCode) (Q Q' : XExit → Env → AHeap → Prop) (env : Env) (H : AHeap), (∀ e env H, Q e env H → Q' e env H) → vc (ACall P) Wr x Q env H → vc (ACall P) Wr x Q' env H := by
  intro x
  induction x with
  | skip => intro Q Q' env H hQ h; exact hQ _ _ _ h
  | ret => intro Q Q' env H hQ h; exact hQ _ _ _ h
  | exit id => intro Q Q' env H hQ h; exact hQ _ _ _ h
  | seq x y ihx ihy =>
    intro Q Q' env H hQ h
    refine ihx _ _ env H ?_ h
    intro e env H h
    cases e with
    | normal => exact ihy _ _ _ _ hQ h
    | exit id => exact hQ _ _ _ h
    | ret => exact hQ _ _ _ h
  | cond c x y ihx ihy =>
    intro Q Q' env H hQ h
    simp only [vc] at h ⊢
    split at h
    · exact ⟨fun e => ihx _ _ _ _ hQ (h.1 e), fun e => ihy _ _ _ _ hQ (h.2 e)⟩
    · exact h.elim
  | block id x ih =>
    intro Q Q' env H hQ h
    refine ih _ _ env H ?_ h
    intro e env H h
    cases e with
    | normal => exact hQ _ _ _ h
    | ret => exact hQ _ _ _ h
    | exit id' =>
      simp only [XExit.blk] at h ⊢
      split
      · rename_i e; rw [if_pos e] at h; exact hQ _ _ _ h
      · rename_i e; rw [if_neg e] at h; exact hQ _ _ _ h
  | loop x ih =>
    intro Q Q' env H hQ h
    simp only [vc] at h ⊢
    obtain ⟨I, n, h0, h1⟩ := h
    refine ⟨I, n, h0, fun n env H hI => ih _ _ _ _ ?_ (h1 n env H hI)⟩
    intro e env H h
    cases e with
    | normal => exact h
    | exit id => exact hQ _ _ _ h
    | ret => exact hQ _ _ _ h
  | ops l => intro Q Q' env H hQ h; exact vcOps_mono (hQ _) l _ _ h
  | draw l => intro Q Q' env H hQ h; exact vcD_mono (hQ _) l _ _ _ h
  | drawT t => intro Q Q' env H hQ h; exact vcT_mono (hQ _) t _ _ _ h
  | bad => intro Q Q' env H hQ h; exact h.elim

/-- A loop that is left by one exit, in states that meet J. -/
theorem vc_loop_cut {Wr : Nat → Prop} {x : XCode} {Q : XExit → Env → AHeap → Prop} {env : Env} {H : AHeap} (id : Nat) (J : Env → AHeap → Prop) (I : Nat → Env → AHeap → Prop) (n : Nat) (h0 : I n env H)
    (h1 : ∀ n env H, I n env H → vc (ACall P) Wr x (XExit.then (fun e env H => e = .exit id ∧ J env H) (again I n)) env H) (hQ : ∀ env H, J env H → Q (.exit id) env H) : vc (ACall P) Wr (.loop x) Q env H :=
  vc_mono _ _ _ _ _ (fun e env H h => by obtain ⟨rfl, h⟩ := h; exact hQ env H h) (vc_loop I n h0 h1)
end
@[simp] theorem exit_eq {a b : Nat} : (XExit.exit a = XExit.exit b) = (a = b) := by simp
@[simp] theorem exit_nrm {a : Nat} : (XExit.normal = XExit.exit a) = False := by simp
@[simp] theorem exit_rt {a : Nat} : (XExit.ret = XExit.exit a) = False := by simp

section
variable {B : Nat → Prop} {ety : Nat} {H : AHeap} {w : AVal} {acc : List UInt8}
/-- Bytes of a new block behind those of a slice. -/
theorem OwnX.appendNew (h : OwnX B H ety w (bytesOf acc)) (hB : ∀ r, B r → r < H.length) (l : List UInt8) (hr : acc.length + l.length ≤ roomLim) :
    ∃ w' H', aappend 1 1 ety w (.slice H.length 0 0 l.length 1) (H ++ [.cells 0 false ety (bytesOf l)]) = some (w', H') ∧ OwnX B H' ety w' (bytesOf (acc ++ l)) ∧ H.length ≤ H'.length ∧ ∀ k, B k → H'[k]? = H[k]? := by
  have h2 : OwnX B (H ++ [.cells 0 false ety (bytesOf l)]) ety w (bytesOf acc) := h.keep fun k _ hk => List.getElem?_append_left hk
  obtain ⟨w', H', h3, h4, h5, h6⟩ := h2.append (bytes := 1) (x := .slice H.length 0 0 l.length 1) (new := bytesOf l) (n := l.length) (fun r hr => by have := hB r hr; simp; omega) (by simp [asrc]; exact List.take_of_length_le (by simp)) (by simp) (by simp) (by simpa using hr)
  refine ⟨w', H', h3, by rw [bytesOf_app]; exact h4, by simp at h5; omega, fun k hk => ?_⟩
  rw [h6 k hk, List.getElem?_append_left (hB k hk)]
theorem OwnX.appendStr (h : OwnX B H ety w (bytesOf acc)) (hB : ∀ r, B r → r < H.length) (l : List UInt8) (hr : acc.length + l.length ≤ roomLim) :
    ∃ w' H', aappend 1 1 ety w (.str l) H = some (w', H') ∧ OwnX B H' ety w' (bytesOf (acc ++ l)) ∧ H.length ≤ H'.length ∧ ∀ k, B k → H'[k]? = H[k]? := by
  obtain ⟨w', H', h3, h4, h5, h6⟩ := h.append (bytes := 1) hB (asrc_str (s := l)) (by simp) (by simp) (by simpa using hr)
  exact ⟨w', H', h3, by rw [bytesOf_app]; exact h4, h5, h6⟩
end
end Go.Proofs.YtalbjkemcckokaaGreat.Ab

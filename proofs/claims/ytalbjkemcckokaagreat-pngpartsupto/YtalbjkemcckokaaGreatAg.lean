/- The abstract layer, seventh part: every quiet operation that is got out of the program does what its abstract one computes. Conditions: none; a library for the texts behind it. -/
import Derived.Test.YtalbjkemcckokaaGreatAf
namespace Go.Proofs.YtalbjkemcckokaaGreat.Ab
set_option linter.unusedVariables false
set_option linter.unusedSimpArgs false

section
variable {P : Program} {W0 : World} {ι : Inj} {H : AHeap} {w : World} {env : Env} {a : Act}

theorem sop_bin (hR : Rel W0 ι H w) (hE : ERel ι env a) {op : BinOp} {t : TypeId} {x y : Operand} {s : SOp} (hs : sopBin P op t x y = some s) {v : AVal} (hv : s.val env H = some v) :
    SOk P ι w (s.reads env) (do pure (.value (← (do eqGuard op t x y (a.eval x) (a.eval y); binOp op t (a.eval x) (a.eval y) : Sem Value)))) v := by
  unfold sopBin at hs
  simp only [Option.bind_eq_bind, Option.bind_eq_some_iff] at hs
  obtain ⟨p, hp, q, hq, hs⟩ := hs
  have rx := xopd_rel hE hp
  have ry := xopd_rel hE hq
  have plain : ∀ v rd, abin op (p.ev env) (q.ev env) = some v → SOk P ι w rd (do pure (.value (← (do eqGuard op t x y (a.eval x) (a.eval y); binOp op t (a.eval x) (a.eval y) : Sem Value)))) v := by
    intro v rd hv
    unfold abin at hv
    split at hv
    · rename_i k m k' n e1 e2
      rw [e1] at rx; rw [e2] at ry
      have h1 := rx.int_inv; have h2 := ry.int_inv
      rw [h1, h2]
      split at hv
      · rename_i hsh
        obtain ⟨u, hu, hr⟩ := run_binOp_shift (P := P) (ι := ι) (t := t) (yk := k') hsh hv
        exact .of_val (y := u) (fun w => by rw [Sem.run_bind, eqGuard_plain _ _ _ _ _ _ (by simp) (by simp)]; exact hu w) hr
      · rename_i hsh
        split at hv
        · rename_i ek
          subst ek
          obtain ⟨u, hu, hr⟩ := run_binOp_int (P := P) (ι := ι) (t := t) (op := op) ⟨fun e => hsh (.inl e), fun e => hsh (.inr e)⟩ hv
          exact .of_val (y := u) (fun w => by rw [Sem.run_bind, eqGuard_plain _ _ _ _ _ _ (by simp) (by simp)]; exact hu w) hr
        · cases hv
    · rename_i e1 e2
      rw [e1] at rx; rw [e2] at ry
      have h1 := rx.str_inv; have h2 := ry.str_inv
      rw [h1, h2]
      obtain ⟨u, hu, hr⟩ := run_binOp_str (P := P) (ι := ι) (t := t) hv
      exact .of_val (y := u) (fun w => by rw [Sem.run_bind, eqGuard_plain _ _ _ _ _ _ (by simp) (by simp)]; exact hu w) hr
    · cases hv
  split at hs
  · cases hs; exact plain v _ hv
  · cases hs; exact plain v _ hv
  · -- bools
    rename_i ht
    have key : ∀ (neg : Bool), (SOp.eqB neg p q).val env H = some v → ∃ b1 b2, a.eval x = .bool b1 ∧ a.eval y = .bool b2 ∧ v = .bool (if neg then !(b1 == b2) else b1 == b2) := by
      intro neg hv
      simp only [SOp.val] at hv
      split at hv
      · rename_i b1 b2 e1 e2
        rw [e1] at rx; rw [e2] at ry
        cases hv
        exact ⟨b1, b2, rx.bool_inv, ry.bool_inv, rfl⟩
      · cases hv
    split at hs
    · cases hs
      obtain ⟨b1, b2, h1, h2, rfl⟩ := key _ hv
      rw [h1, h2]
      exact .of_val (y := .bool (b1 == b2)) (fun w => by rw [Sem.run_bind, eqGuard_plain _ _ _ _ _ _ (by simp) (by simp)]; simp [binOp, Op.equal, Op.maxDepth, run_equalIn_bool w 9999 t b1 b2 ht]) (by simp [VRel])
    · cases hs
      obtain ⟨b1, b2, h1, h2, rfl⟩ := key _ hv
      rw [h1, h2]
      exact .of_val (y := .bool (!(b1 == b2))) (fun w => by rw [Sem.run_bind, eqGuard_plain _ _ _ _ _ _ (by simp) (by simp)]; simp [binOp, Op.equal, Op.maxDepth, run_equalIn_bool w 9999 t b1 b2 ht]) (by simp [VRel])
    · cases hs
  · -- pointers
    rename_i el ht
    have hpt : P.underlying t = some (.pointer (P.pointee t)) := by simp [Program.pointee, ht]
    have key : ∀ (neg : Bool) (j : TypeInfo), P.info? el = some j → (SOp.eqNilP neg p q).val env H = some v → ∃ pa pb b, a.eval x = .pointer pa ∧ a.eval y = .pointer pb ∧ (∀ w, (Op.equal t (.pointer pa) (.pointer pb)).run P w = .ok b w) ∧ v = .bool (if neg then !b else b) := by
      intro neg j hj hv
      simp only [SOp.val] at hv
      split at hv
      · rename_i r g o e1 e2
        rw [e1] at rx; rw [e2] at ry
        split at hv
        · rename_i hag
          cases hv
          obtain ⟨win, h1, _⟩ := ageOk_inv hR hag
          simp only [VRel] at ry
          exact ⟨_, none, false, rx.ptr_at h1, ry, fun w => by simp [run_equal_pointer_nil w t _ hpt], by cases neg <;> rfl⟩
        · cases hv
      · rename_i e1 e2
        rw [e1] at rx; rw [e2] at ry
        cases hv
        simp only [VRel] at rx ry
        exact ⟨none, none, true, rx, ry, fun w => by simp [run_equal_pointer_nil w t none hpt], by cases neg <;> rfl⟩
      · rename_i r g o r' g' o' e1 e2
        rw [e1] at rx; rw [e2] at ry
        split at hv
        · rename_i hag
          obtain ⟨rfl, rfl, rfl, hag⟩ := hag
          cases hv
          obtain ⟨win, h1, _⟩ := ageOk_inv hR hag
          refine ⟨_, _, true, rx.ptr_at h1, ry.ptr_at h1, fun w => ?_, by cases neg <;> rfl⟩
          have h : ∀ d : Nat, (Op.equalIn (d + 1) t (.pointer (some ⟨win.blk, win.off + o, none⟩)) (.pointer (some ⟨win.blk, win.off + o, none⟩))).run P w = .ok true w := fun d => by
            simp [Op.equalIn, run_underlying ht, sizeOf, typeInfo, hj, run_sameAddr_same]
          simp [Op.equal, Op.maxDepth, h 9999]
        · cases hv
      · cases hv
    split at hs
    · rename_i j hj
      cases hs
      obtain ⟨pa, pb, b, h1, h2, h3, rfl⟩ := key _ _ hj hv
      rw [h1, h2]
      refine .of_val (y := .bool b) (fun w => ?_) (by simp [VRel])
      rw [Sem.run_bind, eqGuard_plain _ _ _ _ _ _ (by simp) (by simp)]
      simp [binOp, h3]
    · rename_i j hj
      cases hs
      obtain ⟨pa, pb, b, h1, h2, h3, rfl⟩ := key _ _ hj hv
      rw [h1, h2]
      refine .of_val (y := .bool !b) (fun w => ?_) (by simp [VRel])
      rw [Sem.run_bind, eqGuard_plain _ _ _ _ _ _ (by simp) (by simp)]
      simp [binOp, h3]
    · cases hs
  · -- slices against nil
    rename_i el ht
    have key : ∀ (neg : Bool), (SOp.eqNilS neg p q).val env H = some v → ∃ pa l c, a.eval x = .slice pa l c ∧ a.eval y = .slice none 0 0 ∧ v = .bool (if neg then !pa.isNone else pa.isNone) := by
      intro neg hv
      simp only [SOp.val] at hv
      split at hv
      · rename_i r g o len z e1 e2
        rw [e1] at rx; rw [e2] at ry
        split at hv
        · rename_i hag
          cases hv
          obtain ⟨win, h1, _⟩ := ageOk_inv hR hag
          obtain ⟨ad, cap, hx, _⟩ := rx.slice_at h1
          simp only [VRel] at ry
          exact ⟨_, _, _, hx, ry, by cases neg <;> rfl⟩
        · cases hv
      · rename_i e1 e2
        rw [e1] at rx; rw [e2] at ry
        cases hv
        simp only [VRel] at rx ry
        obtain ⟨ad, rx⟩ := rx
        exact ⟨_, _, _, rx, ry, by cases neg <;> rfl⟩
      · rename_i e1 e2
        rw [e1] at rx; rw [e2] at ry
        cases hv
        simp only [VRel] at rx ry
        exact ⟨none, _, _, rx, ry, by cases neg <;> rfl⟩
      · cases hv
    split at hs
    · cases hs
      obtain ⟨pa, l, c, h1, h2, rfl⟩ := key _ hv
      rw [h1, h2]
      refine .of_val (y := .bool pa.isNone) (fun w => ?_) (by simp [VRel])
      rw [Sem.run_bind, eqGuard_plain _ _ _ _ _ _ (by simp) (by simp)]
      simp [binOp, run_equal_slice_nil w t el pa l c ht]
    · cases hs
      obtain ⟨pa, l, c, h1, h2, rfl⟩ := key _ hv
      rw [h1, h2]
      refine .of_val (y := .bool !pa.isNone) (fun w => ?_) (by simp [VRel])
      rw [Sem.run_bind, eqGuard_plain _ _ _ _ _ _ (by simp) (by simp)]
      simp [binOp, run_equal_slice_nil w t el pa l c ht]
    · cases hs
  · -- structs
    rename_i fs ht
    split at hs
    · rename_i hc
      have key : ∀ (neg : Bool) offs, plainFields P fs.toList = some offs → (SOp.eqS neg offs p q).val env H = some v → ∃ l1 l2 r, a.eval x = .agg (List.toArray l1) ∧ a.eval y = .agg (List.toArray l2) ∧ v = .bool (if neg then !r else r) ∧
          (∀ w, (do eqGuard .eql t x y (.agg l1.toArray) (.agg l2.toArray); binOp .eql t (.agg l1.toArray) (.agg l2.toArray) : Sem Value).run P w = .ok (.bool r) w) ∧
          (∀ w, (do eqGuard .neq t x y (.agg l1.toArray) (.agg l2.toArray); binOp .neq t (.agg l1.toArray) (.agg l2.toArray) : Sem Value).run P w = .ok (.bool !r) w) := by
        intro neg offs hpf hv
        simp only [SOp.val] at hv
        split at hv
        · rename_i c1 c2 e1 e2
          rw [e1] at rx; rw [e2] at ry
          simp only [VRel] at rx ry
          obtain ⟨l1, h1, r1⟩ := rx
          obtain ⟨l2, h2, r2⟩ := ry
          simp only [Option.map_eq_some_iff] at hv
          obtain ⟨r, hr, rfl⟩ := hv
          exact ⟨l1, l2, r, h1, h2, rfl, fun w => (run_eqS (P := P) (w := w) ht hc.1 hc.2 hpf r1 r2 hr x y).1, fun w => (run_eqS (P := P) (w := w) ht hc.1 hc.2 hpf r1 r2 hr x y).2⟩
        · cases hv
      split at hs
      · rename_i offs hpf
        cases hs
        obtain ⟨l1, l2, r, h1, h2, rfl, q1, q2⟩ := key _ _ hpf hv
        rw [h1, h2]
        exact .of_val q1 (by simp [VRel])
      · rename_i offs hpf
        cases hs
        obtain ⟨l1, l2, r, h1, h2, rfl, q1, q2⟩ := key _ _ hpf hv
        rw [h1, h2]
        exact .of_val q2 (by simp [VRel])
      · cases hs
    · cases hs
  · cases hs
end
end Go.Proofs.YtalbjkemcckokaaGreat.Ab

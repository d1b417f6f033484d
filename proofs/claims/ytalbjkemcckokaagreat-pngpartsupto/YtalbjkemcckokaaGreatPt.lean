/- The law PngChunks over the layer. Conditions: the text's length. -/
import Derived.Test.YtalbjkemcckokaaGreatPr
namespace Go.Proofs.YtalbjkemcckokaaGreat.Ab
set_option linter.unusedVariables false
set_option linter.unusedSimpArgs false
set_option maxRecDepth 100000

def vEqS (neg : Bool) (offs : List (Nat × PK)) : AVal → AVal → Option AVal
  | .agg a, .agg b => (fieldsEq a b offs).map fun r => .bool (if neg then !r else r)
  | _, _ => none
@[simp ↓] theorem val_eqS {env : Env} {H : AHeap} {neg : Bool} {offs : List (Nat × PK)} {x y : XOpd} : SOp.val env H (.eqS neg offs x y) = vEqS neg offs (x.ev env) (y.ev env) := by
  simp only [SOp.val]; generalize XOpd.ev env x = u; generalize XOpd.ev env y = u2; cases u <;> cases u2 <;> rfl
theorem vEqS_same (x y : List UInt8) : vEqS true [(0, .s), (1, .s)] (.agg [.str x, .str y]) (.agg [.str x, .str y]) = some (.bool false) := by
  simp [vEqS, fieldsEq, cellEq]
theorem Own2.len {B : Nat → Prop} {H : AHeap} {w : AVal} {l : List Chk} (h : Own2 B H w l) : vLen H w = some (.int .i64 l.length) := by
  rcases h with ⟨rfl, rfl⟩ | ⟨r, g, _, rfl, hb⟩
  · rfl
  · simp [vLen, ageOk_at hb]
theorem Own2.get {B : Nat → Prop} {H : AHeap} {w : AVal} {l : List Chk} (h : Own2 B H w l) {i : Nat} (hi : i < l.length) : ∃ q, vIdx H 2 w (.int .i64 (i : Int)) = some q ∧ vLoads H 2 q = some (.agg [.str l[i].1, .str l[i].2]) := by
  rcases h with ⟨rfl, rfl⟩ | ⟨r, g, _, rfl, hb⟩
  · simp at hi
  · refine ⟨.ptr r g (i * 2), by simp [vIdx, ageOk_at hb]; omega, ?_⟩
    rw [vLoads_ptr, aloads_at hb, if_pos (by rw [cellsC_len]; omega), cellsC_get l i hi]; rfl

def inv15 (H : AHeap) (w1 w2 : AVal) (l : List Chk) (n : Nat) (env : Env) (H' : AHeap) : Prop :=
  ∃ i : Nat, n = l.length - i ∧ i ≤ l.length ∧ H' = H ∧ env 0 = w1 ∧ env 1 = w2 ∧ env 12 = .int .i64 l.length ∧ env 13 = .int .i64 i
theorem sameChunks_ok {B B' : Nat → Prop} {H : AHeap} {w1 w2 : AVal} {l : List Chk} (h1 : Own2 B H w1 l) (h2 : Own2 B' H w2 l) (hl : l.length ≤ 2 ^ 60) (fp : Nat → Prop) : ACall Tryz.prog 15 [w1, w2] H fp fun v H' => v = .bool true ∧ H' = H := by
  refine acall_of hmix Tryz.func15 x15_ok (by simp) ?_
  simp (config := {contextual := true, implicitDefEqProofs := false}) (disch := omega) [h1.len, h2.len]
  refine vc_loop (inv15 H w1 w2 l) l.length ?_ ?_
  · exact ⟨0, rfl, by omega, rfl, by simp, by simp, by simp, by simp⟩
  · rintro n env H' ⟨i, rfl, hi, rfl, e0, e1, e12, e13⟩
    simp (config := {contextual := true, implicitDefEqProofs := false}) (disch := omega) [e0, e1, e12, e13]
    refine fun g => ?_
    obtain ⟨q1, a1, a2⟩ := h1.get g
    obtain ⟨q2, b1, b2⟩ := h2.get g
    simp (config := {contextual := true, implicitDefEqProofs := false}) (disch := omega) [e0, e1, e12, e13, a1, a2, b1, b2, vEqS_same, i64_id]
    exact again_iff (l.length - (i + 1)) (by omega) ⟨i + 1, rfl, by omega, rfl, by simp [e0], by simp [e1], by simp [e12], by simp⟩

theorem chunksF_len : ∀ (f : Nat) (s : List UInt8) (acc : List Chk), (chunksF f s acc).1.length ≤ acc.length + f
  | 0, s, acc => by simp [chunksF]
  | f + 1, s, acc => by
    rw [chunksF]
    split
    · split
      · have := chunksF_len f (s.drop (numN s + 12)) (acc ++ [(chkN s, chkD s)])
        simp at this; omega
      · split
        · simp
        · split
          · simp
          · simp
    · simp
theorem chunksP_len (s : List UInt8) : (chunksP s).1.length ≤ s.length + 1 := by
  unfold chunksP
  split
  · have := chunksF_len (s.length + 1) (s.drop 8) []
    simpa using this
  · simp

theorem law3_ok {s : List UInt8} (hs : s.length ≤ 2 ^ 40) (H : AHeap) (fp : Nat → Prop) : ACall Tryz.prog 3 [.str s] H fp fun v' H' => v' = .bool true ∧ H' = H := by
  refine ((ACall.drop (fp := fp) (R := fun v _ => v = .bool true) (?_) fun v H' e => by rw [e]; rfl)).mono fun v H' q => ⟨by obtain ⟨_, _, h, _⟩ := q; exact h, q.1⟩
  refine acall_of hmix Tryz.func3 x3_ok (by simp) ?_
  simp (config := {contextual := true, implicitDefEqProofs := false}) (disch := omega)
  refine call1_of (chunks_ok s hs H (fun _ => False)) (fun r h => h.elim) ?_
  rintro v H1 ⟨w1, rfl, o1, f1⟩ hl1 _
  simp (config := {contextual := true, implicitDefEqProofs := false}) (disch := omega)
  refine call1_of (rchunks_ok s hs H1 (fun _ => False)) (fun r h => h.elim) ?_
  rintro v H2 ⟨w2, rfl, o2, f2⟩ hl2 _
  simp (config := {contextual := true, implicitDefEqProofs := false}) (disch := omega)
  have o1' : Own2 (fun r => r < H.length) H2 w1 (chunksP s).1 := o1.keep fun k _ hk => f2 k hk
  have hll := chunksP_len s
  refine call1_eq (awake_ok _ _) ?_
  simp (config := {contextual := true, implicitDefEqProofs := false}) (disch := omega)
  refine call1_eq (sameChunks_ok o1' o2 (by omega) _) ?_
  simp (config := {contextual := true, implicitDefEqProofs := false}) (disch := omega)
end Go.Proofs.YtalbjkemcckokaaGreat.Ab

/- Layer 49: the Builder at this program; runs of equal bytes; PackBits. Conditions: as each says. -/
import Derived.Test.YtfpnapihhgjgaaaBa
import Derived.Test.YtfpnapihhgjgaaaBb
import Derived.Test.YtfpnapihhgjgaaaHa
import Derived.Test.YtfpnapihhgjgaaaXb
namespace Go.Proofs.Ytfpnapihhgjgaaa.Ab
set_option linter.unusedVariables false
set_option linter.unusedSimpArgs false
set_option maxRecDepth 100000

abbrev BldT (B : Nat → Prop) (H : AHeap) (b : Nat) (s : List UInt8) : Prop := Bld B 52 5 H b s
theorem cc58 : CCok Try.prog 58 52 := fun H b adr buf fp h ha hf => copyCheck_ok hmix Try.func58 (ne := 76) x58_ok (fun _ _ _ => noEscape_ok) h ha hf
section
variable {B : Nat → Prop} {H : AHeap} {b : Nat} {s : List UInt8} {fp : Nat → Prop}
theorem ws_ok (h : BldT B H b s) (hB : ∀ r, B r → r < H.length) {t : List UInt8} (hl : s.length + t.length ≤ roomLim) (hfp : ∀ r, ¬ B r → fp r) :
    ACall Try.prog 25 [.ptr b 0 0, .str t] H fp fun v H' => v = .tuple [.int .i64 t.length, .undef] ∧ BldT B H' b (s ++ t) ∧ H.length ≤ H'.length ∧ ∀ k, B k → H'[k]? = H[k]? :=
  writeString_ok hmix Try.func25 (cc := 58) x25_ok cc58 h hB hl hfp
theorem w_ok (h : BldT B H b s) (hB : ∀ r, B r → r < H.length) {t : List UInt8} {x : AVal} (hxs : Sl H x (bytesOf t)) (hxB : ∀ r, appTarget x r → B r) (hl : s.length + t.length ≤ roomLim) (hfp : ∀ r, ¬ B r → fp r) :
    ACall Try.prog 29 [.ptr b 0 0, x] H fp fun v H' => v = .tuple [.int .i64 t.length, .undef] ∧ BldT B H' b (s ++ t) ∧ H.length ≤ H'.length ∧ ∀ k, B k → H'[k]? = H[k]? :=
  write_ok hmix Try.func29 (cc := 58) x29_ok cc58 h hB hxs hxB hl hfp
theorem wb_ok (h : BldT B H b s) (hB : ∀ r, B r → r < H.length) {c : UInt8} (hl : s.length + 1 ≤ roomLim) (hfp : ∀ r, ¬ B r → fp r) :
    ACall Try.prog 30 [.ptr b 0 0, .int .u8 c.toNat] H fp fun v H' => v = .undef ∧ BldT B H' b (s ++ [c]) ∧ H.length ≤ H'.length ∧ ∀ k, B k → H'[k]? = H[k]? :=
  writeByte_ok hmix Try.func30 (cc := 58) x30_ok cc58 h hB hl hfp
theorem bs_ok (h : BldT B H b s) (hl : s.length ≤ roomLim) (hfp : ∀ r, ¬ B r → fp r) :
    ACall Try.prog 27 [.ptr b 0 0] H fp fun v H' => v = .str s ∧ H'.length = H.length ∧ ∀ k, B k → H'[k]? = H[k]? := bString_ok hmix Try.func27 x27_ok h hl hfp
theorem bl_ok (h : BldT B H b s) : ACall Try.prog 24 [.ptr b 0 0] H fp fun v H' => v = .int .i64 s.length ∧ H' = H := bLen_ok hmix Try.func24 x24_ok h
end

/-- How many bytes c begin a text, at most k. -/
def lead (c : UInt8) : Nat → List UInt8 → Nat
  | 0, _ => 0
  | _ + 1, [] => 0
  | k + 1, b :: t => if b = c then lead c k t + 1 else 0
def runG (s : List UInt8) : Nat := lead (chr s 0) 128 s

theorem lead_le (c : UInt8) : ∀ (k : Nat) (s : List UInt8), lead c k s ≤ k ∧ lead c k s ≤ s.length
  | 0, s => by simp [lead]
  | k + 1, [] => by simp [lead]
  | k + 1, b :: t => by
    simp only [lead]
    have := lead_le c k t
    split <;> simp <;> omega
theorem lead_take (c : UInt8) : ∀ (k : Nat) (s : List UInt8), s.take (lead c k s) = List.replicate (lead c k s) c
  | 0, s => by simp [lead]
  | k + 1, [] => by simp [lead]
  | k + 1, b :: t => by
    simp only [lead]
    split
    · rename_i e; subst e; simp [List.replicate_succ, lead_take b k t]
    · simp
theorem drop_chr {s : List UInt8} {n : Nat} (h : n < s.length) : s.drop n = chr s n :: s.drop (n + 1) := by
  rw [List.drop_eq_getElem_cons h]; simp [chr, h]
theorem runG_pos {s : List UInt8} (h : s ≠ []) : 0 < runG s := by
  cases s with
  | nil => exact absurd rfl h
  | cons a t => simp [runG, lead, chr]
theorem runG_le (s : List UInt8) : runG s ≤ 128 ∧ runG s ≤ s.length := lead_le _ _ _
theorem runG_nil : runG [] = 0 := rfl
theorem chr_drop (s : List UInt8) (n i : Nat) : chr (s.drop n) i = chr s (n + i) := by simp [chr, List.getD_eq_getElem?_getD]

theorem lead_step {c : UInt8} {s : List UInt8} {i : Nat} (h1 : i < s.length) (h2 : i < 128) : lead c (128 - i) (s.drop i) = if chr s i = c then lead c (128 - (i + 1)) (s.drop (i + 1)) + 1 else 0 := by
  rw [drop_chr h1, show 128 - i = (128 - (i + 1)) + 1 by omega, lead]
theorem toNat_inj {a b : UInt8} (h : (a.toNat : Int) = (b.toNat : Int)) : a = b := UInt8.toNat_inj.1 (by omega)
theorem toNat_ne {a b : UInt8} (h : ¬ (a.toNat : Int) = (b.toNat : Int)) : a ≠ b := fun e => h (by rw [e])
theorem lead_nil {c : UInt8} {k : Nat} : lead c k [] = 0 := by cases k <;> rfl
theorem lead_zero {c : UInt8} {s : List UInt8} : lead c 0 s = 0 := rfl

def inv28 (H : AHeap) (s : List UInt8) (n : Nat) (env : Env) (H' : AHeap) : Prop :=
  ∃ i : Nat, n = 128 - i ∧ i ≤ 128 ∧ i ≤ s.length ∧ H' = H ∧ env 0 = .str s ∧ env 3 = .int .i64 i ∧ runG s = i + lead (chr s 0) (128 - i) (s.drop i)

theorem run_ok (s : List UInt8) (H : AHeap) (fp : Nat → Prop) : ACall Try.prog 28 [.str s] H fp fun v' H' => v' = .int .i64 (runG s) ∧ H' = H := by
  refine acall_of hmix Try.func28 x28_ok (by simp) ?_
  simp
  refine vc_loop (inv28 H s) 128 ?_ ?_
  · exact ⟨0, by simp [runG]⟩
  · rintro n env H' ⟨i, rfl, hi, hi2, rfl, e0, e3, hr⟩
    simp (config := {contextual := true, implicitDefEqProofs := false}) (disch := omega) [e0, e3, vIdxStr_nat, vIdxStr_of, i64_id]
    refine ⟨fun h1 => ⟨fun h2 => ⟨fun h3 => ?_, fun h3 => ?_⟩, fun h2 => ?_⟩, fun h1 => ?_⟩
    · rw [lead_step h1 (by omega), if_pos (toNat_inj h3)] at hr
      exact again_iff (128 - (i + 1)) (by omega) ⟨i + 1, rfl, by omega, by omega, rfl, by simp [e0], by simp, by omega⟩
    · rw [lead_step h1 (by omega), if_neg (toNat_ne h3)] at hr
      omega
    · rw [show 128 - i = 0 by omega, lead_zero] at hr; omega
    · rw [List.drop_eq_nil_of_le h1, lead_nil] at hr; omega

def inv31 (H : AHeap) (s : List UInt8) (p : Nat) (n : Nat) (env : Env) (H' : AHeap) : Prop :=
  ∃ i : Nat, n = 128 - i ∧ i ≤ 128 ∧ p + i ≤ s.length ∧ H' = H ∧ env 0 = .str s ∧ env 1 = .int .i64 p ∧ env 5 = .int .i64 i ∧ runG (s.drop p) = i + lead (chr s p) (128 - i) (s.drop (p + i))

theorem rrun_ok (s : List UInt8) (hs : s.length ≤ 2 ^ 60) (p : Nat) (hp : p ≤ s.length) (H : AHeap) (fp : Nat → Prop) : ACall Try.prog 31 [.str s, .int .i64 p] H fp fun v' H' => v' = .int .i64 (runG (s.drop p)) ∧ H' = H := by
  refine acall_of hmix Try.func31 x31_ok (by simp) ?_
  simp
  refine vc_loop (inv31 H s p) 128 ?_ ?_
  · exact ⟨0, by simp [runG, chr_drop]; omega⟩
  · rintro n env H' ⟨i, rfl, hi, hi2, rfl, e0, e1, e5, hr⟩
    simp (config := {contextual := true, implicitDefEqProofs := false}) (disch := omega) [e0, e1, e5, vIdxStr_nat, vIdxStr_of, i64_id]
    have hc : ((p : Int) + (i : Int)).toNat = p + i := by omega
    simp only [hc]
    have key : ∀ (h1 : p + i < s.length), i < 128 → lead (chr s p) (128 - i) (s.drop (p + i)) = if chr s (p + i) = chr s p then lead (chr s p) (128 - (i + 1)) (s.drop (p + (i + 1))) + 1 else 0 := by
      intro h1 h2
      have := lead_step (c := chr s p) (s := s.drop p) (i := i) (by simp; omega) h2
      simpa [chr_drop, List.drop_drop] using this
    refine ⟨fun h1 => ⟨fun h2 => ⟨fun h3 => ?_, fun h3 => ?_⟩, fun h2 => ?_⟩, fun h1 => ?_⟩
    · rw [key (by omega) (by omega), if_pos (toNat_inj h3)] at hr
      exact again_iff (128 - (i + 1)) (by omega) ⟨i + 1, rfl, by omega, by omega, rfl, by simp [e0], by simp [e1], by simp, by omega⟩
    · rw [key (by omega) (by omega), if_neg (toNat_ne h3)] at hr
      omega
    · rw [show 128 - i = 0 by omega, lead_zero] at hr; omega
    · have hz : s.drop (p + i) = [] := List.drop_eq_nil_of_le (by omega)
      rw [hz, lead_nil] at hr; omega

/-- How many more bytes a piece without a run takes, at most k. -/
def litN : Nat → List UInt8 → Nat
  | 0, _ => 0
  | _ + 1, [] => 0
  | k + 1, b :: t => if runG (b :: t) < 3 then litN k t + 1 else 0
def litG (s : List UInt8) : Nat := 1 + litN 127 (s.drop 1)
theorem litN_le : ∀ (k : Nat) (s : List UInt8), litN k s ≤ k ∧ litN k s ≤ s.length
  | 0, s => by simp [litN]
  | k + 1, [] => by simp [litN]
  | k + 1, b :: t => by
    simp only [litN]
    have := litN_le k t
    split <;> simp <;> omega
theorem litN_nil {k : Nat} : litN k [] = 0 := by cases k <;> rfl
theorem litG_le {s : List UInt8} (h : s ≠ []) : 1 ≤ litG s ∧ litG s ≤ 128 ∧ litG s ≤ s.length := by
  have := litN_le 127 (s.drop 1)
  have h2 : 0 < s.length := List.length_pos_iff.2 h
  simp only [List.length_drop] at this
  unfold litG
  omega
theorem litN_step {s : List UInt8} {m : Nat} (h1 : m < s.length) (h2 : m < 128) : litN (128 - m) (s.drop m) = if runG (s.drop m) < 3 then litN (128 - (m + 1)) (s.drop (m + 1)) + 1 else 0 := by
  rw [drop_chr h1, show 128 - m = (128 - (m + 1)) + 1 by omega, litN]

/-- PackBits. -/
def packG (s : List UInt8) : List UInt8 :=
  if h : s = [] then [] else if 1 < runG s then UInt8.ofNat (257 - runG s) :: chr s 0 :: packG (s.drop (runG s)) else UInt8.ofNat (litG s - 1) :: (s.take (litG s) ++ packG (s.drop (litG s)))
termination_by s.length
decreasing_by
  · have := List.length_pos_iff.2 h
    simp only [List.length_drop]; omega
  · have := List.length_pos_iff.2 h
    have := litG_le h
    simp only [List.length_drop]; omega
theorem packG_nil : packG [] = [] := by rw [packG]; simp
theorem packG_run {s : List UInt8} (h : 1 < runG s) : packG s = UInt8.ofNat (257 - runG s) :: chr s 0 :: packG (s.drop (runG s)) := by
  have : s ≠ [] := by rintro rfl; simp [runG_nil] at h
  rw [packG]; simp [this, h]
theorem packG_lit {s : List UInt8} (h0 : s ≠ []) (h : ¬ 1 < runG s) : packG s = UInt8.ofNat (litG s - 1) :: (s.take (litG s) ++ packG (s.drop (litG s))) := by
  rw [packG]; simp [h0, h]
end Go.Proofs.Ytfpnapihhgjgaaa.Ab

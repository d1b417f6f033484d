/- Slices of pairs of texts that are only read; the Builder, four and the search for IEND. Conditions: as each says; for the statements about layer 48. -/
import Derived.Test.YtalbjkemcckokaaGreatPt
import Derived.Test.YtalbjkemcckokaaGreatBa
namespace Go.Proofs.YtalbjkemcckokaaGreat.Ab
set_option linter.unusedVariables false
set_option linter.unusedSimpArgs false
set_option maxRecDepth 100000

section
variable {H H' : AHeap} {w : AVal} {l : List Chk} {B : Nat → Prop}
theorem Own2.ls (h : Own2 B H w l) : Ls2 H w l := by
  rcases h with h | ⟨r, g, _, rfl, hb⟩
  · exact .inl h
  · refine .inr (.inr ⟨r, g, 0, rfl, ?_⟩)
    rw [aloads_at hb, if_pos (by rw [cellsC_len]; omega), List.drop_zero, List.take_of_length_le (by rw [cellsC_len]; omega)]
end

abbrev BldP (B : Nat → Prop) (H : AHeap) (b : Nat) (s : List UInt8) : Prop := Bld B 73 5 H b s
theorem noEscape_ok {x : AVal} {H : AHeap} {fp : Nat → Prop} : ACall Tryz.prog 108 [x] H fp fun v' H' => v' = x ∧ H' = H := acall_noEscape Tryz.func108 (by kernel_rfl) (by kernel_rfl) (by kernel_rfl) (by kernel_rfl)
theorem cc74 : CCok Tryz.prog 74 73 := fun H b adr buf fp h ha hf => copyCheck_ok hmix Tryz.func74 (ne := 108) x74_ok (fun _ _ _ => noEscape_ok) h ha hf
section
variable {B : Nat → Prop} {H : AHeap} {b : Nat} {s : List UInt8} {fp : Nat → Prop}
theorem ws_ok (h : BldP B H b s) (hB : ∀ r, B r → r < H.length) {t : List UInt8} (hl : s.length + t.length ≤ roomLim) (hfp : ∀ r, ¬ B r → fp r) :
    ACall Tryz.prog 41 [.ptr b 0 0, .str t] H fp fun v H' => v = .tuple [.int .i64 t.length, .undef] ∧ BldP B H' b (s ++ t) ∧ H.length ≤ H'.length ∧ ∀ k, B k → H'[k]? = H[k]? :=
  writeString_ok hmix Tryz.func41 (cc := 74) x41_ok cc74 h hB hl hfp
theorem bs_ok (h : BldP B H b s) (hl : s.length ≤ roomLim) (hfp : ∀ r, ¬ B r → fp r) :
    ACall Tryz.prog 44 [.ptr b 0 0] H fp fun v H' => v = .str s ∧ H'.length = H.length ∧ ∀ k, B k → H'[k]? = H[k]? := bString_ok hmix Tryz.func44 x44_ok h hl hfp

theorem shr32n (c k : Nat) (hk : k ≤ 24) (hc : c < 4294967296) : abin .shr (.int .u32 (c : Int)) (.int .u64 (k : Int)) = some (.int .u32 ((c / 2 ^ k : Nat) : Int)) := by
  rw [abin_shr (by omega)]
  have h1 : min (k : Int).toNat IntKind.u32.bits = k := by simp; omega
  have h2 : (0 : Int) ≤ 2 ^ k := Int.pow_nonneg (by omega)
  rw [h1, Int.fdiv_eq_ediv_of_nonneg _ h2]
  simp
theorem four42_ok {n : Nat} (h : n < 4294967296) : ACall Tryz.prog 42 [.int .u32 n] H fp fun v H' => v = .str (fourB n) ∧ H' = H := by
  refine ((ACall.drop (fp := fp) (R := fun v _ => v = .str (fourB n)) (?_) fun v H' e => by rw [e]; rfl)).mono fun v H' q => ⟨by obtain ⟨_, _, h, _⟩ := q; exact h, q.1⟩
  refine acall_of hmix Tryz.func42 x42_ok (by simp) ?_
  have q1 : abin .shr (.int .u32 (n : Int)) (.int .u64 24) = some (.int .u32 ((n / 16777216 : Nat) : Int)) := shr32n n 24 (by omega) h
  have q2 : abin .shr (.int .u32 (n : Int)) (.int .u64 16) = some (.int .u32 ((n / 65536 : Nat) : Int)) := shr32n n 16 (by omega) h
  have q3 : abin .shr (.int .u32 (n : Int)) (.int .u64 8) = some (.int .u32 ((n / 256 : Nat) : Int)) := shr32n n 8 (by omega) h
  have hu : ∀ a : Nat, IntKind.u8.wrap (a : Int) = ((UInt8.ofNat (a % 256)).toNat : Int) := fun a => by
    have e : (UInt8.ofNat (a % 256)).toNat = a % 256 := by simp
    rw [e]; simp [IntKind.wrap, IntKind.bits, IntKind.signed]
  have hcv : vConvBS (H ++ [.cells 0 false 5 [.int .u8 ((UInt8.ofNat (n / 16777216 % 256)).toNat : Int), .int .u8 ((UInt8.ofNat (n / 65536 % 256)).toNat : Int), .int .u8 ((UInt8.ofNat (n / 256 % 256)).toNat : Int), .int .u8 ((UInt8.ofNat (n % 256)).toNat : Int)]]) (.slice H.length 0 0 4 1) = some (.str (fourB n)) := by
    have : Sl (H ++ [.cells 0 false 5 (bytesOf (fourB n))]) (.slice H.length 0 0 4 1) (bytesOf (fourB n)) := .inr (.inr ⟨H.length, 0, 0, rfl, by simp [aloads, fourB]; rfl⟩)
    exact this.toStr
  simp (config := {contextual := true, implicitDefEqProofs := false}) (disch := omega) [q1, q2, q3, hu, afill, zrep, hcv, -Int.natCast_emod, -Int.natCast_ediv, -UInt8.toNat_ofNat']

theorem iend_ok {x y : List UInt8} : ACall Tryz.prog 40 [.agg [.str x, .str y]] H fp fun v H' => v = .bool (decide (x = iend)) ∧ H' = H := by
  refine ((ACall.drop (fp := fp) (R := fun v _ => v = .bool (decide (x = iend))) (?_) fun v H' e => by rw [e]; rfl)).mono fun v H' q => ⟨by obtain ⟨_, _, h, _⟩ := q; exact h, q.1⟩
  refine acall_of hmix Tryz.func40 x40_ok (by simp) ?_
  have l0 : aload (H ++ [.cells 0 false 53 [.str x, .str y]]) H.length 0 0 = some (.str x) := by simp
  simp (config := {contextual := true, implicitDefEqProofs := false}) (disch := omega) [l0, iend, -aload_new0, -aload_new]

def isEnd (c : Chk) : Bool := decide (c.1 = iend)
def idxI (l : List Chk) : Int := if l.findIdx isEnd < l.length then (l.findIdx isEnd : Int) else -1
def inv39 (H : AHeap) (w : AVal) (l : List Chk) (n : Nat) (env : Env) (H' : AHeap) : Prop :=
  ∃ i : Nat, n = l.length - i ∧ i ≤ l.length ∧ H' = H ∧ env 0 = w ∧ env 1 = .func 40 [] ∧ env 6 = w ∧ env 7 = .int .i64 l.length ∧ env 8 = .int .i64 i ∧ ∀ j (h : j < l.length), j < i → isEnd l[j] = false
theorem findIdx_none {l : List Chk} (h : ∀ j (h : j < l.length), isEnd l[j] = false) : l.findIdx isEnd = l.length := by
  rw [List.findIdx_eq_length]
  intro x hx
  obtain ⟨j, hj, rfl⟩ := List.mem_iff_getElem.1 hx
  exact h j hj
theorem indexFunc_ok {w : AVal} {l : List Chk} (h : Ls2 H w l) (hl : l.length ≤ 2 ^ 60) : ACall Tryz.prog 39 [w, .func 40 []] H fp fun v H' => v = .int .i64 (idxI l) ∧ H' = H := by
  refine acall_of hmix Tryz.func39 x39_ok (by simp) ?_
  simp (config := {contextual := true, implicitDefEqProofs := false}) (disch := omega) [h.len]
  refine vc_loop (inv39 H w l) l.length ?_ ?_
  · exact ⟨0, rfl, by omega, rfl, by simp, by simp, by simp, by simp, by simp, fun j _ hj => by omega⟩
  · rintro n env H' ⟨i, rfl, hi, rfl, e0, e1, e6, e7, e8, hj⟩
    simp (config := {contextual := true, implicitDefEqProofs := false}) (disch := omega) [e0, e1, e6, e7, e8]
    refine ⟨fun h1 => ?_, fun h1 => ?_⟩
    · obtain ⟨r, g, o, a1, a2, a3, a4, a5⟩ := h.get h1
      simp (config := {contextual := true, implicitDefEqProofs := false}) (disch := omega) [e0, e1, e6, e7, e8, a1, a5, vLoads]
      refine call1_eq iend_ok ?_
      simp (config := {contextual := true, implicitDefEqProofs := false}) (disch := omega) [e0, e1, e6, e7, e8, i64_id]
      refine ⟨fun h2 => ?_, fun h2 => ?_⟩
      · have e : l.findIdx isEnd = i := (List.findIdx_eq h1).2 ⟨decide_eq_true h2, fun j hji => hj j (by omega) hji⟩
        simp [idxI, e, h1]
      · refine again_iff (l.length - (i + 1)) (by omega) ⟨i + 1, rfl, by omega, rfl, by simp [e0], by simp [e1], by simp [e6], by simp [e7], by simp, fun j hjl hji => ?_⟩
        by_cases e : j = i
        · subst e; exact decide_eq_false h2
        · exact hj j hjl (by omega)
    · have e : l.findIdx isEnd = l.length := findIdx_none fun j hjl => hj j hjl (by omega)
      simp [idxI, e]
end
end Go.Proofs.YtalbjkemcckokaaGreat.Ab

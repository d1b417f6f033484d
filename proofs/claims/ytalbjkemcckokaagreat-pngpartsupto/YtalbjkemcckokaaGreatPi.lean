/- png.Filter and Unfilter: the predictors. Conditions: as each says; for the statements about layer 48. -/
import Derived.Test.YtalbjkemcckokaaGreatPh
import Derived.Test.YtalbjkemcckokaaGreatXc
import Derived.Test.YtalbjkemcckokaaGreatBa
namespace Go.Proofs.YtalbjkemcckokaaGreat.Ab
set_option linter.unusedVariables false
set_option linter.unusedSimpArgs false
set_option maxRecDepth 100000

theorem awake_ok (H : AHeap) (fp : Nat → Prop) : ACall Tryz.prog 14 [] H fp fun v' H' => v' = .bool true ∧ H' = H := acall_true hmix L48_ok S48_good awake14 H fp

def farI (p x : Int) : Int := if p - x > x - p then p - x else x - p
def paethI (a b c : Int) : Int := if farI (a + b - c) a ≤ farI (a + b - c) b ∧ farI (a + b - c) a ≤ farI (a + b - c) c then a else if farI (a + b - c) b ≤ farI (a + b - c) c then b else c
theorem paethI_alt (a b c : Int) : paethI a b c = if farI (a + b - c) c < farI (a + b - c) (if farI (a + b - c) b < farI (a + b - c) a then b else a) then c else (if farI (a + b - c) b < farI (a + b - c) a then b else a) := by
  unfold paethI
  generalize hx : farI (a + b - c) a = x
  generalize hy : farI (a + b - c) b = y
  generalize farI (a + b - c) c = z
  by_cases h1 : y < x
  · simp only [h1, if_true, hy]
    by_cases h2 : z < y
    · rw [if_neg (by omega), if_neg (by omega), if_pos h2]
    · rw [if_neg (by omega), if_pos (by omega), if_neg h2]
  · simp only [h1, if_false, hx]
    by_cases h2 : z < x
    · rw [if_neg (by omega), if_neg (by omega), if_pos h2]
    · rw [if_pos (by omega), if_neg h2]
theorem paethI_mem (a b c : Int) : paethI a b c = a ∨ paethI a b c = b ∨ paethI a b c = c := by
  unfold paethI; split
  · exact .inl rfl
  · split
    · exact .inr (.inl rfl)
    · exact .inr (.inr rfl)

@[simp ↓] theorem val_func {env : Env} {H : AHeap} {f : FuncId} {xs : List XOpd} : SOp.val env H (.func f xs) = some (.func f (xs.map (XOpd.ev env))) := rfl
theorem far_ok {H : AHeap} {r : Nat} {p x : Int} (h : aload H r 0 0 = some (.int .i64 p)) (hp : -1000 ≤ p ∧ p ≤ 1000) (hx : -1000 ≤ x ∧ x ≤ 1000) (fp : Nat → Prop) :
    ACall Tryz.prog 125 [.int .i64 x, .ptr r 0 0] H fp fun v H' => v = .int .i64 (farI p x) ∧ H' = H := by
  refine acall_of hmix Tryz.func125 x125_ok (by simp) ?_
  simp (config := {contextual := true, implicitDefEqProofs := false}) (disch := omega) [h, i64_id, farI]

theorem paeth_ok (a b c : Nat) (ha : a < 256) (hb : b < 256) (hc : c < 256) (H : AHeap) (fp : Nat → Prop) :
    ACall Tryz.prog 109 [.int .i64 a, .int .i64 b, .int .i64 c] H fp fun v H' => v = .int .i64 (paethI a b c) ∧ H' = H := by
  refine ((ACall.drop (fp := fp) (R := fun v _ => v = .int .i64 (paethI a b c)) (?_) fun v H' e => by rw [e]; rfl)).mono fun v H' q => ⟨by obtain ⟨_, _, h, _⟩ := q; exact h, q.1⟩
  refine acall_of hmix Tryz.func109 x109_ok (by simp) ?_
  simp (config := {contextual := true, implicitDefEqProofs := false}) (disch := omega) [i64_id]
  have hl : aload (H ++ [ABlk.cells 0 false 3 [AVal.int IntKind.i64 ((a : Int) + b - c)]]) H.length 0 0 = some (.int .i64 ((a : Int) + b - c)) := by simp
  have hf : ∀ (x : Int) (fp : Nat → Prop), -1000 ≤ x ∧ x ≤ 1000 → ACall Tryz.prog 125 [.int .i64 x, .ptr H.length 0 0] (H ++ [ABlk.cells 0 false 3 [AVal.int IntKind.i64 ((a : Int) + b - c)]]) fp fun v H' => v = .int .i64 (farI ((a : Int) + b - c) x) ∧ H' = H ++ [ABlk.cells 0 false 3 [AVal.int IntKind.i64 ((a : Int) + b - c)]] := fun x fp hx => far_ok hl (by omega) hx fp
  rw [paethI_alt]
  refine call1_eq (hf b _ (by omega)) ?_
  simp (config := {contextual := true, implicitDefEqProofs := false}) (disch := omega) [i64_id]
  refine call1_eq (hf a _ (by omega)) ?_
  simp (config := {contextual := true, implicitDefEqProofs := false}) (disch := omega) [i64_id]
  refine ⟨fun g => ?_, fun g => ?_⟩
  · refine call1_eq (hf c _ (by omega)) ?_
    simp (config := {contextual := true, implicitDefEqProofs := false}) (disch := omega) [i64_id]
    refine call1_eq (hf b _ (by omega)) ?_
    simp (config := {contextual := true, implicitDefEqProofs := false}) (disch := omega) [i64_id, g]
    exact fun g2 g3 => by omega
  · refine call1_eq (hf c _ (by omega)) ?_
    simp (config := {contextual := true, implicitDefEqProofs := false}) (disch := omega) [i64_id]
    refine call1_eq (hf a _ (by omega)) ?_
    simp (config := {contextual := true, implicitDefEqProofs := false}) (disch := omega) [i64_id]
    have hg : ¬ farI ((a : Int) + b - c) b < farI ((a : Int) + b - c) a := by omega
    rw [if_neg hg]
    exact ⟨fun h1 h2 => by omega, fun h1 => by rw [if_neg (by omega)]⟩

/-- The byte that a filter predicts. -/
def predI (kind a b c : Int) : Int := if kind = 1 then a else if kind = 2 then b else if kind = 3 then (a + b) / 2 else if kind = 4 then paethI a b c else 0
theorem predI_nat (kind : Int) {a b c : Nat} (ha : a < 256) (hb : b < 256) (hc : c < 256) : 0 ≤ predI kind a b c ∧ predI kind a b c < 256 := by
  unfold predI
  split
  · omega
  · split
    · omega
    · split
      · omega
      · split
        · rcases paethI_mem (a : Int) b c with h | h | h <;> rw [h] <;> omega
        · omega
theorem bytesOf_get {s : List UInt8} {i : Nat} (h : i < s.length) : (bytesOf s)[i]'(by simpa using h) = .int .u8 ((chr s i).toNat : Int) := by simp [bytesOf, chr, h]
theorem u8_of {x : Int} (h : 0 ≤ x ∧ x < 256) : IntKind.u8.wrap x = x := IntWalk.u8_in _ (by omega)

theorem predict_ok (kind : Int) (bpp i : Nat) (line ab : AVal) (a : Nat) (above : List UInt8) (H : AHeap) (hi : i ≤ 2 ^ 60) (hb : 1 ≤ bpp ∧ bpp ≤ 8) (ha : a < 256)
    (h1 : bpp ≤ i → ∃ q, vIdx H 1 line (.int .i64 ((i : Int) - bpp)) = some q ∧ vLoad H q = some (.int .u8 (a : Int))) (h2 : ¬ bpp ≤ i → a = 0) (hab : Sl H ab (bytesOf above)) (hal : above = [] ∨ i < above.length) (fp : Nat → Prop) :
    ACall Tryz.prog 76 [.int .i64 kind, .int .i64 bpp, .int .i64 i, line, ab] H fp fun v H' => v = .int .u8 (predI kind a (chr above i).toNat (if bpp ≤ i then (chr above (i - bpp)).toNat else 0 : Nat)) ∧ H' = H := by
  obtain ⟨b, hb'⟩ : ∃ b, (chr above i).toNat = b := ⟨_, rfl⟩
  obtain ⟨c, hc'⟩ : ∃ c : Nat, (if bpp ≤ i then (chr above (i - bpp)).toNat else 0) = c := ⟨_, rfl⟩
  have hbl : b < 256 := by rw [← hb']; exact UInt8.toNat_lt _
  have hcl : c < 256 := by rw [← hc']; split; exact UInt8.toNat_lt _; omega
  rw [hb', hc']
  refine acall_of hmix Tryz.func76 x76_ok (by simp) ?_
  have hlen := hab.len
  simp only [bytesOf_len] at hlen
  have hkk : ∀ x y : Nat, ((x : Int) + y).tdiv 2 = ((x : Int) + y) / 2 := fun x y => Int.tdiv_eq_ediv_of_nonneg (by omega)
  rcases hal with hh | hh <;> by_cases hle : bpp ≤ i
  · obtain ⟨q, hq1, hq2⟩ := h1 hle
    subst hh
    have hb0 : b = 0 := by rw [← hb']; rfl
    subst hb0
    have hc0 : c = 0 := by rw [← hc']; split <;> rfl
    subst hc0
    have w4 := u8_of (x := paethI (a : Nat) (0 : Nat) (0 : Nat)) (by rcases paethI_mem ((a : Nat) : Int) (0 : Nat) (0 : Nat) with h | h | h <;> rw [h] <;> omega)
    simp (config := {contextual := true, implicitDefEqProofs := false}) (disch := omega) [i64_id, hle, hq1, hq2, hlen, abin_quo, u8_of, hkk]
    refine ⟨fun k1 => by simp [predI], fun k1 => ⟨fun k2 => by simp [predI], fun k2 => ⟨fun k3 => by simp [predI], fun k3 => ⟨fun k4 => ?_, fun k4 => by simp [predI, k1, k2, k3, k4]⟩⟩⟩⟩
    refine call1_eq (paeth_ok a 0 0 (by omega) (by omega) (by omega) _ _) ?_
    try simp only [Int.natCast_zero, Int.ofNat_zero] at w4
    simp (config := {contextual := true, implicitDefEqProofs := false}) (disch := omega) [predI, w4]
  · have ha0 := h2 hle
    subst ha0
    subst hh
    have hb0 : b = 0 := by rw [← hb']; rfl
    subst hb0
    have hc0 : c = 0 := by rw [← hc']; split <;> rfl
    subst hc0
    have w4 := u8_of (x := paethI (0 : Nat) (0 : Nat) (0 : Nat)) (by rcases paethI_mem ((0 : Nat) : Int) (0 : Nat) (0 : Nat) with h | h | h <;> rw [h] <;> omega)
    simp (config := {contextual := true, implicitDefEqProofs := false}) (disch := omega) [i64_id, hle, hlen, abin_quo, u8_of, hkk]
    refine ⟨fun k1 => by simp [predI], fun k1 => ⟨fun k2 => by simp [predI], fun k2 => ⟨fun k3 => by simp [predI], fun k3 => ⟨fun k4 => ?_, fun k4 => by simp [predI, k1, k2, k3, k4]⟩⟩⟩⟩
    refine call1_eq (paeth_ok 0 0 0 (by omega) (by omega) (by omega) _ _) ?_
    try simp only [Int.natCast_zero, Int.ofNat_zero] at w4
    simp (config := {contextual := true, implicitDefEqProofs := false}) (disch := omega) [predI, w4]
  · obtain ⟨q, hq1, hq2⟩ := h1 hle
    have hb1 : vIdx H 1 ab (.int .i64 (i : Int)) = some (ab.at i) := hab.idxN (by simpa using hh)
    have hb2 : vLoad H (ab.at i) = some (.int .u8 (b : Int)) := by rw [hab.load (by simpa using hh), bytesOf_get hh, hb']
    have hpos : 0 < above.length := by omega
    have hc1 : vIdx H 1 ab (.int .i64 ((i : Int) - bpp)) = some (ab.at (i - bpp)) := by rw [show (i : Int) - bpp = ((i - bpp : Nat) : Int) by omega]; exact hab.idxN (by simp; omega)
    have hc2 : vLoad H (ab.at (i - bpp)) = some (.int .u8 (c : Int)) := by rw [hab.load (by simp; omega), bytesOf_get (by omega), ← hc', if_pos hle]
    have w4 := u8_of (x := paethI (a : Nat) (b : Nat) (c : Nat)) (by rcases paethI_mem ((a : Nat) : Int) (b : Nat) (c : Nat) with h | h | h <;> rw [h] <;> omega)
    simp (config := {contextual := true, implicitDefEqProofs := false}) (disch := omega) [i64_id, hle, hq1, hq2, hlen, abin_quo, u8_of, hkk, hb1, hb2, hpos, hc1, hc2]
    refine ⟨fun k1 => by simp [predI], fun k1 => ⟨fun k2 => by simp [predI], fun k2 => ⟨fun k3 => by simp [predI], fun k3 => ⟨fun k4 => ?_, fun k4 => by simp [predI, k1, k2, k3, k4]⟩⟩⟩⟩
    refine call1_eq (paeth_ok a b c (by omega) (by omega) (by omega) _ _) ?_
    try simp only [Int.natCast_zero, Int.ofNat_zero] at w4
    simp (config := {contextual := true, implicitDefEqProofs := false}) (disch := omega) [predI, w4]
  · have ha0 := h2 hle
    subst ha0
    have hb1 : vIdx H 1 ab (.int .i64 (i : Int)) = some (ab.at i) := hab.idxN (by simpa using hh)
    have hb2 : vLoad H (ab.at i) = some (.int .u8 (b : Int)) := by rw [hab.load (by simpa using hh), bytesOf_get hh, hb']
    have hpos : 0 < above.length := by omega
    have hc0 : c = 0 := by rw [← hc', if_neg hle]
    subst hc0
    have w4 := u8_of (x := paethI (0 : Nat) (b : Nat) (0 : Nat)) (by rcases paethI_mem ((0 : Nat) : Int) (b : Nat) (0 : Nat) with h | h | h <;> rw [h] <;> omega)
    simp (config := {contextual := true, implicitDefEqProofs := false}) (disch := omega) [i64_id, hle, hlen, abin_quo, u8_of, hkk, hb1, hb2, hpos]
    refine ⟨fun k1 => by simp [predI], fun k1 => ⟨fun k2 => by simp [predI], fun k2 => ⟨fun k3 => by simp [predI], fun k3 => ⟨fun k4 => ?_, fun k4 => by simp [predI, k1, k2, k3, k4]⟩⟩⟩⟩
    refine call1_eq (paeth_ok 0 b 0 (by omega) (by omega) (by omega) _ _) ?_
    try simp only [Int.natCast_zero, Int.ofNat_zero] at w4
    simp (config := {contextual := true, implicitDefEqProofs := false}) (disch := omega) [predI, w4]
end Go.Proofs.YtalbjkemcckokaaGreat.Ab

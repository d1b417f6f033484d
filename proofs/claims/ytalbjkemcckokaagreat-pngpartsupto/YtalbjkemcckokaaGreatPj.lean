/- png.Filter and Unfilter. Conditions: the line's length; for the statements about layer 48. -/
import Derived.Test.YtalbjkemcckokaaGreatPi
namespace Go.Proofs.YtalbjkemcckokaaGreat.Ab
set_option linter.unusedVariables false
set_option linter.unusedSimpArgs false
set_option maxRecDepth 100000

/-- Bytes made one behind the other, each out of those before. -/
def genN (f : List UInt8 → Nat → UInt8) : Nat → List UInt8
  | 0 => []
  | k + 1 => genN f k ++ [f (genN f k) k]
theorem genN_len (f : List UInt8 → Nat → UInt8) : ∀ k, (genN f k).length = k
  | 0 => rfl
  | k + 1 => by simp [genN, genN_len f k]
theorem genN_last (f : List UInt8 → Nat → UInt8) (k : Nat) : chr (genN f (k + 1)) k = f (genN f k) k := by
  simp [genN, chr, List.getD_eq_getElem?_getD, List.getElem?_append_right, genN_len]
theorem genN_old (f : List UInt8 → Nat → UInt8) {k j : Nat} (h : j < k) : chr (genN f (k + 1)) j = chr (genN f k) j := by
  simp [genN, chr, List.getD_eq_getElem?_getD, List.getElem?_append_left, genN_len, h]
def byteI (x : Int) : UInt8 := UInt8.ofNat (x % 256).toNat
theorem byteI_nat (x : Int) : ((byteI x).toNat : Int) = x % 256 := by
  have : (byteI x).toNat = (x % 256).toNat := by simp [byteI]; omega
  rw [this]; omega
theorem u8_wrap (x : Int) : IntKind.u8.wrap x = ((byteI x).toNat : Int) := by
  rw [byteI_nat]; simp [IntKind.wrap, IntKind.bits, IntKind.signed]

/-- What a filter predicts at place i, behind the bytes o and below those of 'above'. -/
def pN (kind : Int) (bpp : Nat) (above o : List UInt8) (i : Nat) : Int :=
  predI kind (if bpp ≤ i then (chr o (i - bpp)).toNat else 0 : Nat) (chr above i).toNat (if bpp ≤ i then (chr above (i - bpp)).toNat else 0 : Nat)
def filF (kind : Int) (bpp : Nat) (line above : List UInt8) : List UInt8 → Nat → UInt8 := fun _ i => byteI ((chr line i).toNat - pN kind bpp above line i)
def unfF (kind : Int) (bpp : Nat) (line above : List UInt8) : List UInt8 → Nat → UInt8 := fun o i => byteI ((chr line i).toNat + pN kind bpp above o i)
theorem cells_bytes {cs : List AVal} {s : List UInt8} (hl : cs.length = s.length) (h : ∀ j, j < s.length → cs[j]? = some (.int .u8 ((chr s j).toNat : Int))) : cs = bytesOf s := by
  apply List.ext_getElem?
  intro j
  by_cases hj : j < s.length
  · rw [h j hj, List.getElem?_eq_getElem (by simpa using hj), bytesOf_get hj]
  · rw [List.getElem?_eq_none (by omega), List.getElem?_eq_none (by simp; omega)]

def inv46 (H : AHeap) (kind : Int) (bpp : Nat) (line above : List UInt8) (lv av : AVal) (f : List UInt8 → Nat → UInt8) (n : Nat) (env : Env) (H' : AHeap) : Prop :=
  ∃ (i : Nat) (cs : List AVal), n = line.length - i ∧ i ≤ line.length ∧ env 0 = .int .i64 kind ∧ env 1 = .int .i64 bpp ∧ env 2 = lv ∧ env 3 = av ∧ env 9 = .slice H.length 0 0 line.length 1 ∧ env 15 = lv ∧ env 16 = .int .i64 line.length ∧ env 17 = .int .i64 i ∧
    H'[H.length]? = some (.cells 0 false 5 cs) ∧ cs.length = line.length ∧ (∀ j, j < i → cs[j]? = some (.int .u8 ((chr (genN f i) j).toNat : Int))) ∧ ∀ r, r < H.length → H'[r]? = H[r]?

theorem filter_ok (kind : Int) (bpp : Nat) (line above : List UInt8) (lv av : AVal) (H : AHeap) (hb : 1 ≤ bpp ∧ bpp ≤ 8) (hl : line.length ≤ roomLim) (hlv : Sl H lv (bytesOf line)) (hav : Sl H av (bytesOf above)) (ha : above = [] ∨ above.length = line.length) (fp : Nat → Prop) :
    ACall Tryz.prog 46 [.int .i64 kind, .int .i64 bpp, lv, av] H fp fun v H' => v = .slice H.length 0 0 line.length 1 ∧ H'[H.length]? = some (.cells 0 false 5 (bytesOf (genN (filF kind bpp line above) line.length))) ∧ ∀ r, r < H.length → H'[r]? = H[r]? := by
  unfold roomLim at hl
  refine acall_of hmix Tryz.func46 x46_ok (by simp) ?_
  have hlen := hlv.len
  simp only [bytesOf_len] at hlen
  have hlen2 : ∀ L, vLen (H ++ L) lv = some (.int .i64 line.length) := fun L => by have := (hlv.app (L := L)).len; simpa using this
  simp (config := {contextual := true, implicitDefEqProofs := false}) (disch := omega) [hlen, hlen2, roomLim, hl, show (line.length : Int) ≤ 9223372036854775807 by omega]
  refine vc_loop (inv46 H kind bpp line above lv av (filF kind bpp line above)) line.length ?_ ?_
  · exact ⟨0, zrep line.length [.int .u8 0], rfl, by omega, by simp, by simp, by simp, by simp, by simp, by simp, by simp, by simp, by simp, by simp [zrep_length], fun j hj => by omega, fun r hr => List.getElem?_append_left hr⟩
  · rintro n env H' ⟨i, cs, rfl, hi, e0, e1, e2, e3, e9, e15, e16, e17, hc, hcl, hcs, hk⟩
    simp (config := {contextual := true, implicitDefEqProofs := false}) (disch := omega) [e0, e1, e2, e3, e9, e15, e16, e17]
    have hlv' := hlv.keep hk
    have hav' := hav.keep hk
    refine ⟨fun h1 => ?_, fun h1 => ?_⟩
    · have hx1 : vIdx H' 1 lv (.int .i64 (i : Int)) = some (lv.at i) := hlv'.idxN (by simpa using h1)
      have hx2 : vLoad H' (lv.at i) = some (.int .u8 ((chr line i).toNat : Int)) := by rw [hlv'.load (by simpa using h1), bytesOf_get h1]
      simp (config := {contextual := true, implicitDefEqProofs := false}) (disch := omega) [e0, e1, e2, e3, e9, e15, e16, e17, hx1, hx2]
      refine call1_eq (predict_ok kind bpp i lv av (if bpp ≤ i then (chr line (i - bpp)).toNat else 0) above H' (by omega) hb (by split; exact UInt8.toNat_lt _; omega) (fun hle => ⟨lv.at (i - bpp), ?_, ?_⟩) (fun hle => by rw [if_neg hle]) hav' (by rcases ha with h | h; exact .inl h; exact .inr (by omega)) _) ?_
      · rw [show (i : Int) - bpp = ((i - bpp : Nat) : Int) by omega]; exact hlv'.idxN (by simp; omega)
      · rw [hlv'.load (by simp; omega), bytesOf_get (by omega), if_pos hle]
      · have hst : ∀ x : Int, astore H' H.length 0 i (.int .u8 x) = some (H'.set H.length (.cells 0 false 5 (cs.set i (.int .u8 x)))) := fun x => by rw [astore_at hc]; simp [hcl, h1]
        have hag := ageOk_at hc
        have hp : predI kind ((if bpp ≤ i then (chr line (i - bpp)).toNat else 0 : Nat) : Int) ((chr above i).toNat : Nat) ((if bpp ≤ i then (chr above (i - bpp)).toNat else 0 : Nat) : Int) = pN kind bpp above line i := rfl
        rw [hp]
        generalize hpp : pN kind bpp above line i = pp
        simp (config := {contextual := true, implicitDefEqProofs := false}) (disch := omega) [e0, e1, e2, e3, e9, e15, e16, e17, hag, hst, i64_id, h1, u8_wrap]
        have hlt := (List.getElem?_eq_some_iff.1 hc).1
        refine again_iff (line.length - (i + 1)) (by omega) ⟨i + 1, cs.set i (.int .u8 ((byteI ((chr line i).toNat - pp)).toNat : Int)), rfl, by omega, by simp [e0], by simp [e1], by simp [e2], by simp [e3], by simp [e9], by simp [e15], by simp [e16], by simp, ?_, by simp [hcl], ?_, ?_⟩
        · rw [List.getElem?_set_self hlt]
        · intro j hj
          by_cases e : j = i
          · subst e
            rw [List.getElem?_set_self (by omega), genN_last, filF, hpp]
          · rw [List.getElem?_set_ne (Ne.symm e), genN_old _ (by omega)]; exact hcs j (by omega)
        · intro r hr
          rw [List.getElem?_set_ne (by omega)]; exact hk r hr
    · have hil : i = line.length := by omega
      subst hil
      have := cells_bytes (s := genN (filF kind bpp line above) line.length) (by rw [hcl, genN_len]) (fun j hj => hcs j (by rwa [genN_len] at hj))
      subst this
      exact ⟨hc, fun r hr => by rw [hk r hr]; exact List.getElem?_eq_getElem hr⟩
theorem unfilter_ok (kind : Int) (bpp : Nat) (line above : List UInt8) (lv av : AVal) (H : AHeap) (hb : 1 ≤ bpp ∧ bpp ≤ 8) (hl : line.length ≤ roomLim) (hlv : Sl H lv (bytesOf line)) (hav : Sl H av (bytesOf above)) (ha : above = [] ∨ above.length = line.length) (fp : Nat → Prop) :
    ACall Tryz.prog 50 [.int .i64 kind, .int .i64 bpp, lv, av] H fp fun v H' => v = .slice H.length 0 0 line.length 1 ∧ H'[H.length]? = some (.cells 0 false 5 (bytesOf (genN (unfF kind bpp line above) line.length))) ∧ ∀ r, r < H.length → H'[r]? = H[r]? := by
  unfold roomLim at hl
  refine acall_of hmix Tryz.func50 x50_ok (by simp) ?_
  have hlen := hlv.len
  simp only [bytesOf_len] at hlen
  have hlen2 : ∀ L, vLen (H ++ L) lv = some (.int .i64 line.length) := fun L => by have := (hlv.app (L := L)).len; simpa using this
  simp (config := {contextual := true, implicitDefEqProofs := false}) (disch := omega) [hlen, hlen2, roomLim, hl, show (line.length : Int) ≤ 9223372036854775807 by omega]
  refine vc_loop (inv46 H kind bpp line above lv av (unfF kind bpp line above)) line.length ?_ ?_
  · exact ⟨0, zrep line.length [.int .u8 0], rfl, by omega, by simp, by simp, by simp, by simp, by simp, by simp, by simp, by simp, by simp, by simp [zrep_length], fun j hj => by omega, fun r hr => List.getElem?_append_left hr⟩
  · rintro n env H' ⟨i, cs, rfl, hi, e0, e1, e2, e3, e9, e15, e16, e17, hc, hcl, hcs, hk⟩
    simp (config := {contextual := true, implicitDefEqProofs := false}) (disch := omega) [e0, e1, e2, e3, e9, e15, e16, e17]
    have hlv' := hlv.keep hk
    have hav' := hav.keep hk
    refine ⟨fun h1 => ?_, fun h1 => ?_⟩
    · have hx1 : vIdx H' 1 lv (.int .i64 (i : Int)) = some (lv.at i) := hlv'.idxN (by simpa using h1)
      have hx2 : vLoad H' (lv.at i) = some (.int .u8 ((chr line i).toNat : Int)) := by rw [hlv'.load (by simpa using h1), bytesOf_get h1]
      simp (config := {contextual := true, implicitDefEqProofs := false}) (disch := omega) [e0, e1, e2, e3, e9, e15, e16, e17, hx1, hx2]
      have hv9 : ∀ (q : Nat), q < line.length → vIdx H' 1 (.slice H.length 0 0 line.length 1) (.int .i64 (q : Int)) = some (.ptr H.length 0 q) := by
        intro q hq
        simp [vIdx, ageOk_at hc]; omega
      refine call1_eq (predict_ok kind bpp i (.slice H.length 0 0 line.length 1) av (if bpp ≤ i then (chr (genN (unfF kind bpp line above) i) (i - bpp)).toNat else 0) above H' (by omega) hb (by split; exact UInt8.toNat_lt _; omega) (fun hle => ⟨.ptr H.length 0 (i - bpp), ?_, ?_⟩) (fun hle => by rw [if_neg hle]) hav' (by rcases ha with h | h; exact .inl h; exact .inr (by omega)) _) ?_
      · rw [show (i : Int) - bpp = ((i - bpp : Nat) : Int) by omega]; exact hv9 _ (by omega)
      · rw [vLoad_ptr, aload_at hc, hcs _ (by omega), if_pos hle]
      · have hst : ∀ x : Int, astore H' H.length 0 i (.int .u8 x) = some (H'.set H.length (.cells 0 false 5 (cs.set i (.int .u8 x)))) := fun x => by rw [astore_at hc]; simp [hcl, h1]
        have hag := ageOk_at hc
        have hp : predI kind ((if bpp ≤ i then (chr (genN (unfF kind bpp line above) i) (i - bpp)).toNat else 0 : Nat) : Int) ((chr above i).toNat : Nat) ((if bpp ≤ i then (chr above (i - bpp)).toNat else 0 : Nat) : Int) = pN kind bpp above (genN (unfF kind bpp line above) i) i := rfl
        rw [hp]
        generalize hpp : pN kind bpp above (genN (unfF kind bpp line above) i) i = pp
        simp (config := {contextual := true, implicitDefEqProofs := false}) (disch := omega) [e0, e1, e2, e3, e9, e15, e16, e17, hag, hst, i64_id, h1, u8_wrap]
        have hlt := (List.getElem?_eq_some_iff.1 hc).1
        refine again_iff (line.length - (i + 1)) (by omega) ⟨i + 1, cs.set i (.int .u8 ((byteI ((chr line i).toNat + pp)).toNat : Int)), rfl, by omega, by simp [e0], by simp [e1], by simp [e2], by simp [e3], by simp [e9], by simp [e15], by simp [e16], by simp, ?_, by simp [hcl], ?_, ?_⟩
        · rw [List.getElem?_set_self hlt]
        · intro j hj
          by_cases e : j = i
          · subst e
            rw [List.getElem?_set_self (by omega), genN_last, unfF, hpp]
          · rw [List.getElem?_set_ne (Ne.symm e), genN_old _ (by omega)]; exact hcs j (by omega)
        · intro r hr
          rw [List.getElem?_set_ne (by omega)]; exact hk r hr
    · have hil : i = line.length := by omega
      subst hil
      have := cells_bytes (s := genN (unfF kind bpp line above) line.length) (by rw [hcl, genN_len]) (fun j hj => hcs j (by rwa [genN_len] at hj))
      subst this
      exact ⟨hc, fun r hr => by rw [hk r hr]; exact List.getElem?_eq_getElem hr⟩

/-- The error of the arguments. -/
def errF (kind bpp : Int) (line above : List UInt8) : Int := if kind < 0 ∨ 4 < kind then 8 else if bpp < 1 ∨ 8 < bpp then 2 else if above ≠ [] ∧ above.length ≠ line.length then 15 else 0
theorem errF_zero {kind bpp : Int} {line above : List UInt8} (h : errF kind bpp line above = 0) : (0 ≤ kind ∧ kind ≤ 4) ∧ (1 ≤ bpp ∧ bpp ≤ 8) ∧ (above = [] ∨ above.length = line.length) := by
  unfold errF at h
  split at h
  · cases h
  · split at h
    · cases h
    · split at h
      · cases h
      · rename_i h1 h2 h3
        refine ⟨by omega, by omega, ?_⟩
        by_cases e : above = []
        · exact .inl e
        · right; exact Decidable.byContradiction fun c => h3 ⟨e, c⟩
def pairV (r : List UInt8 × Int) : AVal := .tuple [.str r.1, .int .i64 r.2]
def filP (kind bpp : Int) (line above : List UInt8) : List UInt8 × Int := if errF kind bpp line above = 0 then (genN (filF kind bpp.toNat line above) line.length, 0) else ([], errF kind bpp line above)
def unfP (kind bpp : Int) (line above : List UInt8) : List UInt8 × Int := if errF kind bpp line above = 0 then (genN (unfF kind bpp.toNat line above) line.length, 0) else ([], errF kind bpp line above)

theorem filterable_ok (kind bpp : Int) (line above : List UInt8) (H : AHeap) (fp : Nat → Prop) : ACall Tryz.prog 45 [.int .i64 kind, .int .i64 bpp, .str line, .str above] H fp fun v H' => v = .int .i64 (errF kind bpp line above) ∧ H' = H := by
  refine acall_of hmix Tryz.func45 x45_ok (by simp) ?_
  simp (config := {contextual := true, implicitDefEqProofs := false}) (disch := omega)
  exact ⟨fun a => by rw [errF, if_pos (by omega)], fun a => ⟨fun b => by rw [errF, if_pos (by omega)], fun b => ⟨fun c => by rw [errF, if_neg (by omega), if_pos (by omega)], fun c => ⟨fun d => by rw [errF, if_neg (by omega), if_pos (by omega)], fun d => ⟨fun e => ⟨fun f => by rw [errF, if_neg (by omega), if_neg (by omega), if_pos ⟨e, by omega⟩], fun f => by rw [errF, if_neg (by omega), if_neg (by omega), if_neg (fun q => q.2 (by omega))]⟩, fun e => by rw [errF, if_neg (by omega), if_neg (by omega), if_neg (fun q => q.1 rfl)]⟩⟩⟩⟩⟩
theorem wrong_ok (kind bpp : Int) (line above : List UInt8) (H : AHeap) (fp : Nat → Prop) : ACall Tryz.prog 47 [.int .i64 kind, .int .i64 bpp, .str line, .str above] H fp fun v H' => v = .int .i64 (errF kind bpp line above) ∧ H' = H := by
  refine acall_of hmix Tryz.func47 x47_ok (by simp) ?_
  simp (config := {contextual := true, implicitDefEqProofs := false}) (disch := omega)
  exact ⟨fun a => by rw [errF, if_pos (by omega)], fun a => ⟨fun b => by rw [errF, if_pos (by omega)], fun b => ⟨fun c => by rw [errF, if_neg (by omega), if_pos (by omega)], fun c => ⟨fun d => by rw [errF, if_neg (by omega), if_pos (by omega)], fun d => ⟨fun e => ⟨fun f => by rw [errF, if_neg (by omega), if_neg (by omega), if_pos ⟨e, by omega⟩], fun f => by rw [errF, if_neg (by omega), if_neg (by omega), if_neg (fun q => q.2 (by omega))]⟩, fun e => by rw [errF, if_neg (by omega), if_neg (by omega), if_neg (fun q => q.1 rfl)]⟩⟩⟩⟩⟩

theorem Sl_new {H : AHeap} {cs : List AVal} {e : Nat} {x : ABlk} : Sl (H ++ [.cells 0 false e cs, x]) (.slice H.length 0 0 cs.length 1) cs := .inr (.inr ⟨H.length, 0, 0, rfl, by simp [aloads]⟩)
theorem Sl_new1 {H : AHeap} {cs : List AVal} {e : Nat} {x : ABlk} : Sl (H ++ [x, .cells 0 false e cs]) (.slice (H.length + 1) 0 0 cs.length 1) cs := by
  refine .inr (.inr ⟨H.length + 1, 0, 0, rfl, ?_⟩)
  have : (H ++ [x, ABlk.cells 0 false e cs])[H.length + 1]? = some (.cells 0 false e cs) := by rw [List.getElem?_append_right (by omega), show H.length + 1 - H.length = 1 by omega]; rfl
  rw [aloads_at this]; simp

theorem Filter_ok (kind bpp : Int) (line above : List UInt8) (hl : line.length ≤ roomLim) (H : AHeap) (fp : Nat → Prop) : ACall Tryz.prog 18 [.int .i64 kind, .int .i64 bpp, .str line, .str above] H fp fun v H' => v = pairV (filP kind bpp line above) ∧ H' = H := by
  refine ((ACall.drop (fp := fp) (R := fun v _ => v = pairV (filP kind bpp line above)) (?_) fun v H' e => by rw [e]; rfl)).mono fun v H' q => ⟨by obtain ⟨_, _, h, _⟩ := q; exact h, q.1⟩
  refine acall_of hmix Tryz.func18 x18_ok (by simp) ?_
  simp (config := {contextual := true, implicitDefEqProofs := false}) (disch := omega)
  refine call1_eq (filterable_ok kind bpp line above _ _) ?_
  simp (config := {contextual := true, implicitDefEqProofs := false}) (disch := omega)
  refine ⟨fun h => by simp [filP, h, pairV], fun h => ?_⟩
  obtain ⟨hk, hb, ha⟩ := errF_zero h
  obtain ⟨b, rfl⟩ := Int.eq_ofNat_of_zero_le (by omega : 0 ≤ bpp)
  have s1 : Sl (H ++ [ABlk.cells 0 false 5 (bytesOf line), ABlk.cells 0 false 5 (bytesOf above)]) (.slice H.length 0 0 line.length 1) (bytesOf line) := by
    have := Sl_new (H := H) (cs := bytesOf line) (e := 5) (x := .cells 0 false 5 (bytesOf above)); simpa using this
  have s2 : Sl (H ++ [ABlk.cells 0 false 5 (bytesOf line), ABlk.cells 0 false 5 (bytesOf above)]) (.slice (H.length + 1) 0 0 above.length 1) (bytesOf above) := by
    have := Sl_new1 (H := H) (cs := bytesOf above) (e := 5) (x := .cells 0 false 5 (bytesOf line)); simpa using this
  refine call1_of (filter_ok kind b line above _ _ _ (fp := fun _ => False) (by omega) hl s1 s2 ha) (fun r h => h.elim) ?_
  rintro v H2 ⟨rfl, hc, hk2⟩ _ _
  have s3 : Sl H2 (.slice (H ++ [ABlk.cells 0 false 5 (bytesOf line), ABlk.cells 0 false 5 (bytesOf above)]).length 0 0 line.length 1) (bytesOf (genN (filF kind b line above) line.length)) :=
    .inr (.inr ⟨_, 0, 0, by rw [bytesOf_len, genN_len], by rw [aloads_at hc]; simp [genN_len]; exact List.take_of_length_le (by simp [genN_len])⟩)
  have := s3.toStr
  simp (config := {contextual := true, implicitDefEqProofs := false}) (disch := omega) at this
  simp (config := {contextual := true, implicitDefEqProofs := false}) (disch := omega) [this, filP, h, pairV]
theorem Unfilter_ok (kind bpp : Int) (line above : List UInt8) (hl : line.length ≤ roomLim) (H : AHeap) (fp : Nat → Prop) : ACall Tryz.prog 20 [.int .i64 kind, .int .i64 bpp, .str line, .str above] H fp fun v H' => v = pairV (unfP kind bpp line above) ∧ H' = H := by
  refine ((ACall.drop (fp := fp) (R := fun v _ => v = pairV (unfP kind bpp line above)) (?_) fun v H' e => by rw [e]; rfl)).mono fun v H' q => ⟨by obtain ⟨_, _, h, _⟩ := q; exact h, q.1⟩
  refine acall_of hmix Tryz.func20 x20_ok (by simp) ?_
  simp (config := {contextual := true, implicitDefEqProofs := false}) (disch := omega)
  refine call1_eq (filterable_ok kind bpp line above _ _) ?_
  simp (config := {contextual := true, implicitDefEqProofs := false}) (disch := omega)
  refine ⟨fun h => by simp [unfP, h, pairV], fun h => ?_⟩
  obtain ⟨hk, hb, ha⟩ := errF_zero h
  obtain ⟨b, rfl⟩ := Int.eq_ofNat_of_zero_le (by omega : 0 ≤ bpp)
  have s1 : Sl (H ++ [ABlk.cells 0 false 5 (bytesOf line), ABlk.cells 0 false 5 (bytesOf above)]) (.slice H.length 0 0 line.length 1) (bytesOf line) := by
    have := Sl_new (H := H) (cs := bytesOf line) (e := 5) (x := .cells 0 false 5 (bytesOf above)); simpa using this
  have s2 : Sl (H ++ [ABlk.cells 0 false 5 (bytesOf line), ABlk.cells 0 false 5 (bytesOf above)]) (.slice (H.length + 1) 0 0 above.length 1) (bytesOf above) := by
    have := Sl_new1 (H := H) (cs := bytesOf above) (e := 5) (x := .cells 0 false 5 (bytesOf line)); simpa using this
  refine call1_of (unfilter_ok kind b line above _ _ _ (fp := fun _ => False) (by omega) hl s1 s2 ha) (fun r h => h.elim) ?_
  rintro v H2 ⟨rfl, hc, hk2⟩ _ _
  have s3 : Sl H2 (.slice (H ++ [ABlk.cells 0 false 5 (bytesOf line), ABlk.cells 0 false 5 (bytesOf above)]).length 0 0 line.length 1) (bytesOf (genN (unfF kind b line above) line.length)) :=
    .inr (.inr ⟨_, 0, 0, by rw [bytesOf_len, genN_len], by rw [aloads_at hc]; simp [genN_len]; exact List.take_of_length_le (by simp [genN_len])⟩)
  have := s3.toStr
  simp (config := {contextual := true, implicitDefEqProofs := false}) (disch := omega) at this
  simp (config := {contextual := true, implicitDefEqProofs := false}) (disch := omega) [this, unfP, h, pairV]
end Go.Proofs.YtalbjkemcckokaaGreat.Ab

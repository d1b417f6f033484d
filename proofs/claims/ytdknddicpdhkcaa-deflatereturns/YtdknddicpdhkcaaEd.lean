/- Deflate: a block with fixed codes is decoded to its text. Conditions: none; for the statements about layer 47. -/
import Derived.Test.YtdknddicpdhkcaaEc
import Derived.Test.YtdknddicpdhkcaaM2
namespace Go.Proofs.Ytdknddicpdhkcaa.Ab
set_option linter.unusedVariables false
set_option linter.unusedSimpArgs false

/-- The bits of a text from a place on. -/
def Bits (S : List UInt8) (a : Nat) (l : List Nat) : Prop := a + l.length ≤ 8 * S.length ∧ ∀ i, i < l.length → bitAt S (a + i) = l.getD i 0

section
variable {S : List UInt8} {a : Nat} {x y : List Nat} {t : St}
theorem getD_left {i : Nat} (h : i < x.length) : (x ++ y).getD i 0 = x.getD i 0 := by
  simp only [List.getD_eq_getElem?_getD]; rw [List.getElem?_append_left h]
theorem getD_right {i : Nat} : (x ++ y).getD (x.length + i) 0 = y.getD i 0 := by
  simp only [List.getD_eq_getElem?_getD]; rw [List.getElem?_append_right (by omega)]; congr 2; omega
theorem Bits.left (h : Bits S a (x ++ y)) : Bits S a x := by
  obtain ⟨h1, h2⟩ := h
  rw [List.length_append] at h1
  refine ⟨by omega, fun i hi => ?_⟩
  rw [h2 i (by rw [List.length_append]; omega), getD_left hi]
theorem Bits.right (h : Bits S a (x ++ y)) : Bits S (a + x.length) y := by
  obtain ⟨h1, h2⟩ := h
  rw [List.length_append] at h1
  refine ⟨by omega, fun i hi => ?_⟩
  rw [Nat.add_assoc, h2 (x.length + i) (by rw [List.length_append]; omega), getD_right]
theorem Bits.head {b : Nat} (h : Bits S a (b :: x)) : bitAt S a = b ∧ a + 1 ≤ 8 * S.length := by
  obtain ⟨h1, h2⟩ := h
  rw [List.length_cons] at h1
  refine ⟨?_, by omega⟩
  have := h2 0 (by simp)
  simpa using this
theorem Bits.tail {b : Nat} (h : Bits S a (b :: x)) : Bits S (a + 1) x := Bits.right (x := [b]) h
theorem bitsM_bit {b : Nat} (he : t.err = 0) (h : Bits S t.at' (b :: x)) : bitsM S 1 t = (b, { t with at' := t.at' + 1 }) := by
  obtain ⟨h1, h2⟩ := h.head
  unfold bitsM
  rw [if_neg (by simp [he]), if_neg (by omega)]
  simp [bitsV, h1]
theorem bitsM_num {v N : Nat} (he : t.err = 0) (hv : v < 2 ^ N) (h : Bits S t.at' (numB v N)) : bitsM S N t = (v, { t with at' := t.at' + N }) := by
  obtain ⟨h1, h2⟩ := h
  rw [numB_len] at h1 h2
  unfold bitsM
  rw [if_neg (by simp [he]), if_neg (by omega)]
  have : bitsV S t.at' N = v % 2 ^ N := bitsV_num N fun i hi => by
    rw [h2 i hi]; simp [numB, List.getD_eq_getElem?_getD, hi]
  rw [this, Nat.mod_eq_of_lt hv]

/-- A code, read of bits alone. -/
def symP (cn : List Nat) (od : List Int) : Nat → Nat → Nat → Nat → Nat → List Nat → Option (Int × Nat)
  | 0, _, _, _, _, _ => none
  | m + 1, k, code, first, index, [] => none
  | m + 1, k, code, first, index, b :: bits =>
    if code + b < first + cn.getD k 0 then some (od.getD (index + (code + b) - first) 0, 1)
    else (symP cn od m (k + 1) ((code + b) * 2) ((first + cn.getD k 0) * 2) (index + cn.getD k 0) bits).map fun r => (r.1, r.2 + 1)

theorem symM_bits {l : List Int} {cn : List Nat} (hc : ∀ k : Nat, 1 ≤ k → k ≤ 15 → l.count (k : Int) = cn.getD k 0) : ∀ (m k code first index : Nat) (bits : List Nat) (t : St) (v : Int) (n : Nat), 1 ≤ k → k + m ≤ 16 → t.err = 0 → Bits S t.at' bits →
    symP cn (ordG l 15) m k code first index bits = some (v, n) → symM S l m k code first index t = (v, { t with at' := t.at' + n })
  | 0, k, code, first, index, bits, t, v, n, hk, hk2, he, hb, h => by simp [symP] at h
  | m + 1, k, code, first, index, [], t, v, n, hk, hk2, he, hb, h => by simp [symP] at h
  | m + 1, k, code, first, index, b :: bits, t, v, n, hk, hk2, he, hb, h => by
    have hc1 := hc k hk (by omega)
    have hcn : cnts l k = ((cn.getD k 0 : Nat) : Int) := by rw [cnts, if_neg (by omega), cntOf, hc1]
    rw [symP] at h
    rw [symM, bitsM_bit he hb]
    simp only []
    rw [if_neg (by simp [he]), hcn, hc1]
    by_cases c : code + b < first + cn.getD k 0
    · rw [if_pos c] at h
      rw [if_pos (by omega)]
      simp only [Option.some.injEq, Prod.mk.injEq] at h
      rw [← h.1, ← h.2]
    · rw [if_neg c] at h
      rw [if_neg (by omega)]
      cases hr : symP cn (ordG l 15) m (k + 1) ((code + b) * 2) ((first + cn.getD k 0) * 2) (index + cn.getD k 0) bits with
      | none => rw [hr] at h; cases h
      | some r =>
        rw [hr] at h
        simp only [Option.map_some, Option.some.injEq, Prod.mk.injEq] at h
        obtain ⟨rfl, rfl⟩ := h
        rw [symM_bits hc m (k + 1) _ _ _ bits { t with at' := t.at' + 1 } r.1 r.2 (by omega) (by omega) he hb.tail hr]
        simp only [Prod.mk.injEq, St.mk.injEq, true_and, and_true]; omega

def cnL : List Nat := [0, 0, 0, 0, 0, 0, 0, 24, 152, 112, 0, 0, 0, 0, 0, 0]
def cnD : List Nat := [0, 0, 0, 0, 0, 32, 0, 0, 0, 0, 0, 0, 0, 0, 0, 0]
theorem cnL_ok : ∀ k : Fin 16, 1 ≤ k.val → (lits 288).count (k.val : Int) = cnL.getD k.val 0 := by decide +kernel
theorem cnD_ok : ∀ k : Fin 16, 1 ≤ k.val → dists.count (k.val : Int) = cnD.getD k.val 0 := by decide +kernel
def odL : List Int := ordG (lits 288) 15
def odD : List Int := ordG dists 15
theorem mostL : mostG (lits 288) 15 = 9 := by kernel_rfl
theorem mostD : mostG dists 15 = 5 := by kernel_rfl
theorem symL_ok : ∀ v : Fin 288, symP cnL odL 9 1 0 0 0 (symB v.val) = some ((v.val : Int), (symB v.val).length) := by decide +kernel
theorem symD_ok : ∀ v : Fin 32, symP cnD odD 5 1 0 0 0 (codeB v.val 5) = some ((v.val : Int), 5) := by decide +kernel

theorem symG_lit {v : Nat} (hv : v < 288) (he : t.err = 0) (h : Bits S t.at' (symB v)) : symG S (lits 288) t = ((v : Int), { t with at' := t.at' + (symB v).length }) := by
  rw [symG, mostL]
  exact symM_bits (cn := cnL) (fun k h1 h2 => cnL_ok ⟨k, by omega⟩ h1) 9 1 0 0 0 _ t _ _ (by omega) (by omega) he h (symL_ok ⟨v, hv⟩)
theorem symG_dist {v : Nat} (hv : v < 32) (he : t.err = 0) (h : Bits S t.at' (codeB v 5)) : symG S dists t = ((v : Int), { t with at' := t.at' + 5 }) := by
  rw [symG, mostD]
  exact symM_bits (cn := cnD) (fun k h1 h2 => cnD_ok ⟨k, by omega⟩ h1) 5 1 0 0 0 _ t _ _ (by omega) (by omega) he h (symD_ok ⟨v, hv⟩)

/-! ### Lengths and distances -/
theorem span_len0 : ∀ n : Fin 259, 3 ≤ n.val → spanG (lenR n.val).1 = (lenR n.val).2 := by decide +kernel
theorem span_len {n : Nat} (h : 3 ≤ n) (h2 : n ≤ 258) : spanG (lenR n).1 = (lenR n).2 := span_len0 ⟨n, by omega⟩ h
theorem reach_dist0 : ∀ x : Fin 64, ∀ y : Fin 65, 1 ≤ x.val * 64 + y.val → reachG (distR (x.val * 64 + y.val)).1 = (distR (x.val * 64 + y.val)).2 := by decide +kernel
theorem reach_dist {d : Nat} (h1 : 1 ≤ d) (h2 : d ≤ 4096) : reachG (distR d).1 = (distR d).2 := by
  by_cases c : d = 4096
  · subst c; exact reach_dist0 63 64 (by decide)
  · have := reach_dist0 ⟨d / 64, by omega⟩ ⟨d % 64, by omega⟩ (by simp only []; omega)
    simp only [show d / 64 * 64 + d % 64 = d by omega] at this
    exact this

/-! ### Matches -/
theorem comF_eq (s : List UInt8) (p q : Nat) : ∀ f n, ∀ i, n ≤ i → i < comF s p q f n → chr s (p + i) = chr s (q + i)
  | 0, n, i, h1, h2 => by simp only [comF] at h2; omega
  | f + 1, n, i, h1, h2 => by
    rw [comF] at h2
    split at h2
    · rename_i hc
      by_cases e : i = n
      · subst e; exact hc.2
      · exact comF_eq s p q f (n + 1) i (by omega) h2
    · omega
theorem com_eq {s : List UInt8} {p q i : Nat} (h : i < com s p q) : chr s (p + i) = chr s (q + i) := comF_eq s p q 258 0 i (by omega) h
theorem refScan_eq (s : List UInt8) (p : Nat) : ∀ D, (refScan s p D).1 ≠ 0 → (refScan s p D).1 = com s p (p - (refScan s p D).2)
  | 0, h => by simp [refScan] at h
  | D + 1, h => by
    rw [refScan] at h ⊢
    split
    · rfl
    · rename_i hc
      rw [if_neg hc] at h
      exact refScan_eq s p D h
theorem matchR_eq {s : List UInt8} {p : Nat} (h : (matchR s p).1 ≠ 0) : (matchR s p).2 ≤ p ∧ ∀ i, i < (matchR s p).1 → chr s (p + i) = chr s (p - (matchR s p).2 + i) := by
  unfold matchR at h ⊢
  split
  · rename_i c; rw [if_pos c] at h; simp at h
  · rename_i c
    have h1 := (refScan_le s p (min 4096 p)).2
    refine ⟨by omega, fun i hi => com_eq ?_⟩
    rw [← refScan_eq s p _ (by omega)]; exact hi
theorem take_snoc {s : List UInt8} {q : Nat} (h : q < s.length) : s.take (q + 1) = s.take q ++ [chr s q] := by
  rw [List.take_add_one, List.getElem?_eq_getElem h]
  simp [chr, List.getD_eq_getElem?_getD, List.getElem?_eq_getElem h]
theorem chr_take {s : List UInt8} {q i : Nat} (h : i < q) : chr (s.take q) i = chr s i := by
  simp [chr, List.getD_eq_getElem?_getD, List.getElem?_take, h]
theorem copy_take {s : List UInt8} {d : Nat} (hd : 1 ≤ d) : ∀ (n q : Nat), d ≤ q → q + n ≤ s.length → (∀ i, i < n → chr s (q + i) = chr s (q - d + i)) → copyN (s.take q) d n = s.take (q + n)
  | 0, q, h1, h2, h3 => by simp [copyN]
  | n + 1, q, h1, h2, h3 => by
    have hl : (s.take q).length = q := by rw [List.length_take]; omega
    rw [copyN, hl, chr_take (by omega)]
    have h0 := h3 0 (by omega)
    rw [Nat.add_zero, Nat.add_zero] at h0
    rw [← h0, ← take_snoc (by omega), copy_take hd n (q + 1) (by omega) (by omega) ?_]
    · congr 1; omega
    · intro i hi
      have := h3 (i + 1) (by omega)
      rw [show q + (i + 1) = q + 1 + i by omega, show q - d + (i + 1) = q + 1 - d + i by omega] at this
      exact this

theorem data_fix {s : List UInt8} {M : Nat} (hM : s.length ≤ M) : ∀ (n q a F : Nat), s.length - q < n → q ≤ s.length → s.length - q < F → Bits S a (bodyB s n q ++ symB 256) →
    dataM S M (lits 288) dists F ⟨a, s.take q, 0⟩ = ⟨a + (bodyB s n q ++ symB 256).length, s, 0⟩
  | 0, q, a, F, hn, hq, hF, h => by omega
  | n + 1, q, a, 0, hn, hq, hF, h => by omega
  | n + 1, q, a, F + 1, hn, hq, hF, h => by
    rw [bodyB] at h ⊢
    rw [dataM, if_neg (by simp)]
    by_cases c : q < s.length
    · rw [if_pos c] at h ⊢
      by_cases hm : (matchR s q).1 = 0
      · rw [if_pos hm] at h ⊢
        rw [List.append_assoc] at h ⊢
        have hc := UInt8.toNat_lt (chr s q)
        have hg := symG_lit (S := S) (t := ⟨a, s.take q, 0⟩) (v := (chr s q).toNat) (by omega) rfl h.left
        rw [hg]
        simp only []
        rw [if_neg (by simp; omega), if_pos (by omega)]
        have hp : putM M (UInt8.ofNat ((chr s q).toNat : Int).toNat) ⟨a + (symB (chr s q).toNat).length, s.take q, 0⟩ = ⟨a + (symB (chr s q).toNat).length, s.take (q + 1), 0⟩ := by
          unfold putM
          rw [if_neg (by simp only [List.length_take]; omega)]
          simp only [Int.toNat_natCast, UInt8.ofNat_toNat, take_snoc c]
        rw [hp, data_fix hM n (q + 1) _ F (by omega) (by omega) (by omega) h.right]
        simp only [List.length_append, St.mk.injEq, and_self, and_true]; omega
      · rw [if_neg hm] at h ⊢
        obtain ⟨b1, b2, b3, b4, b5⟩ := matchR_bounds s q hm
        obtain ⟨e1, e2⟩ := matchR_eq hm
        generalize (matchR s q).1 = mn at *
        generalize (matchR s q).2 = md at *
        obtain ⟨f1, f2, f3, f4⟩ := len_facts b1 b2
        obtain ⟨g1, g2, g3⟩ := dist_facts b3 b4
        have f5 := len_more b1 b2
        have g5 := dist_more b3 b4
        have hsp := span_len b1 b2
        have hre := reach_dist b3 b4
        have hlen : (matchB mn md ++ bodyB s n (q + mn) ++ symB 256).length = (symB (lenR mn).1).length + (lenR mn).2.2 + 5 + (distR md).2.2 + (bodyB s n (q + mn) ++ symB 256).length := by
          simp [matchB]; omega
        rw [hlen]
        simp only [matchB, List.append_assoc] at h
        have k1 := h.left
        have h2 := h.right
        have k2 := h2.left
        have h3 := h2.right
        have k3 := h3.left
        have h4 := h3.right
        have k4 := h4.left
        have h5 := h4.right
        rw [numB_len] at h3 h4 h5 k3 k4
        rw [codeB_len] at h4 h5 k4
        rw [numB_len] at h5
        have hg := symG_lit (S := S) (t := ⟨a, s.take q, 0⟩) (v := (lenR mn).1) (by omega) rfl k1
        rw [hg]
        simp only []
        rw [if_neg (by simp; omega), if_neg (by omega), if_neg (by omega)]
        have hmt : matchM S M ((lenR mn).1 : Int).toNat dists ⟨a + (symB (lenR mn).1).length, s.take q, 0⟩ = ⟨a + (symB (lenR mn).1).length + (lenR mn).2.2 + 5 + (distR md).2.2, s.take (q + mn), 0⟩ := by
          unfold matchM
          rw [Int.toNat_natCast, hsp, bitsM_num (t := ⟨a + (symB (lenR mn).1).length, s.take q, 0⟩) rfl f5 k2]
          simp only []
          rw [symG_dist (v := (distR md).1) (t := ⟨a + (symB (lenR mn).1).length + (lenR mn).2.2, s.take q, 0⟩) (by omega) rfl k3]
          unfold late matchD
          simp only []
          rw [if_neg (show ¬ 29 < (((distR md).1 : Nat) : Int) by omega), if_neg (by simp), Int.toNat_natCast, hre, bitsM_num (t := ⟨a + (symB (lenR mn).1).length + (lenR mn).2.2 + 5, s.take q, 0⟩) rfl g5 k4]
          unfold matchE
          have hl : (s.take q).length = q := by rw [List.length_take]; omega
          simp only [hl]
          rw [if_neg (by simp), if_neg (by omega), if_neg (by omega), show (distR md).2.1 + (md - (distR md).2.1) = md by omega, show (lenR mn).2.1 + (mn - (lenR mn).2.1) = mn by omega, copy_take b3 mn q e1 b5 e2]
        rw [hmt, data_fix hM n (q + mn) _ F (by omega) (by omega) (by omega) h5]
        simp only [St.mk.injEq, and_self, and_true]; omega
    · rw [if_neg c, List.nil_append] at h ⊢
      have hq2 : q = s.length := by omega
      have hg := symG_lit (S := S) (t := ⟨a, s.take q, 0⟩) (v := 256) (by omega) rfl h
      rw [hg]
      simp only []
      rw [if_pos (.inr (by rfl)), hq2, List.take_length]

/-- A block with fixed codes, and whatever comes behind. -/
theorem infl_fix {s post : List UInt8} {n : Int} (hn : n = s.length) (hs : s.length ≤ 1048576) {F : Nat} (hF : s.length < F) : inflM (pack (fixB s) ++ post) n F = (s, (pack (fixB s)).length, 0) := by
  obtain ⟨hb, hbl⟩ := fixB_facts s
  have hpl := (pk_facts (fixB s) hb).1
  have hB : Bits (pack (fixB s) ++ post) 0 (fixB s) := by
    refine ⟨by rw [List.length_append]; omega, fun i hi => ?_⟩
    have e : bitAt (pack (fixB s) ++ post) (0 + i) = bitAt (pack (fixB s)) i := by unfold bitAt; rw [Nat.zero_add, chrL (by omega)]
    rw [e, bitAt_pack _ hb]
  have hM : clampN n = s.length := by unfold clampN; omega
  obtain ⟨F', rfl⟩ : ∃ F', F = F' + 1 := ⟨F - 1, by omega⟩
  generalize pack (fixB s) ++ post = S at *
  have hfix : fixB s = numB 1 1 ++ (numB 1 2 ++ (bodyB s (s.length + 1) 0 ++ symB 256)) := by simp [fixB, List.append_assoc]
  have hB2 := hB
  rw [hfix] at hB2
  have h1 := bitsM_num (t := ⟨0, [], 0⟩) rfl (show 1 < 2 ^ 1 by decide) hB2.left
  have h2 := bitsM_num (t := ⟨0 + 1, [], 0⟩) rfl (show 1 < 2 ^ 2 by decide) hB2.right.left
  have h3 := data_fix (S := S) (M := s.length) (Nat.le_refl _) (s.length + 1) 0 (0 + 1 + 2) (F' + 1) (by omega) (by omega) (by omega) hB2.right.right
  rw [List.take_zero] at h3
  have hl : (fixB s).length = 3 + (bodyB s (s.length + 1) 0 ++ symB 256).length := by rw [hfix]; simp; omega
  have key : loopM S s.length (F' + 1) (F' + 1) ⟨0, [], 0⟩ = ⟨(fixB s).length, s, 0⟩ := by
    rw [loopM, if_neg (by simp), h1]
    simp only [h2]
    rw [if_neg (by simp), if_neg (by simp), kindM, if_neg (by simp), if_pos rfl, h3, hl]
  rw [inflM, hM, key]
  simp only [hpl]
  rfl
end
end Go.Proofs.Ytdknddicpdhkcaa.Ab

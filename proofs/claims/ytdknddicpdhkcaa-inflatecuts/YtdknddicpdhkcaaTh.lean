/- Inflate: the codes of a dynamic block: what is computed, and lemmas. Conditions: none; for the statements about layers 46 and 47. -/
import Derived.Test.YtdknddicpdhkcaaTg
namespace Go.Proofs.Ytdknddicpdhkcaa.Ab
set_option linter.unusedVariables false
set_option linter.unusedSimpArgs false

def ord19 : List Nat := [16, 17, 18, 0, 8, 7, 9, 6, 10, 5, 11, 4, 12, 3, 13, 2, 14, 1, 15]
def shM (s : List UInt8) (t : St) : Nat → List Int × St
  | 0 => (List.replicate 19 0, t)
  | i + 1 => ((shM s t i).1.set (ord19.getD i 0) (bitsM s 3 (shM s t i).2).1, (bitsM s 3 (shM s t i).2).2)
def dynBad (a b : List Int) : Prop := ¬ complG a ∨ a.getD 256 0 = 0 ∨ (¬ complG b ∧ ¬ fewG b)
instance (a b : List Int) : Decidable (dynBad a b) := inferInstanceAs (Decidable (_ ∨ _))
def dynD (lit : Nat) (r : List Int × St) : (List Int × List Int) × St :=
  if r.2.err ≠ 0 then (([], []), r.2) else ((r.1.take lit, r.1.drop lit), if dynBad (r.1.take lit) (r.1.drop lit) then failM 4 r.2 else r.2)
def dynC (s : List UInt8) (lit dist : Nat) (short : List Int) (t : St) : (List Int × List Int) × St :=
  if t.err ≠ 0 then (([], []), t) else dynD lit (lenF s short (lit + dist) t)
def dynB (s : List UInt8) (lit dist : Nat) (sh : List Int × St) : (List Int × List Int) × St := dynC s lit dist sh.1 (if complG sh.1 then sh.2 else failM 4 sh.2)
def dynM (s : List UInt8) (t : St) : (List Int × List Int) × St :=
  dynB s ((bitsM s 5 t).1 + 257) ((bitsM s 5 (bitsM s 5 t).2).1 + 1) (shM s (if 286 < (bitsM s 5 t).1 + 257 ∨ 30 < (bitsM s 5 (bitsM s 5 t).2).1 + 1 then failM 4 (bitsM s 4 (bitsM s 5 (bitsM s 5 t).2).2).2 else (bitsM s 4 (bitsM s 5 (bitsM s 5 t).2).2).2)
    ((bitsM s 4 (bitsM s 5 (bitsM s 5 t).2).2).1 + 4))

theorem shM_facts (s : List UInt8) (t : St) (hat : t.at' ≤ 8 * s.length) : ∀ i, (shM s t i).1.length = 19 ∧ (∀ k ∈ (shM s t i).1, 0 ≤ k ∧ k ≤ 15) ∧ (shM s t i).2.at' ≤ 8 * s.length ∧ t.at' ≤ (shM s t i).2.at' ∧ (shM s t i).2.out = t.out
  | 0 => by refine ⟨by simp [shM], ?_, by simpa [shM] using hat, by simp [shM], rfl⟩; intro k hk; have := List.eq_of_mem_replicate hk; omega
  | i + 1 => by
    obtain ⟨h1, h2, h3, h4, h5⟩ := shM_facts s t hat i
    have hb := bitsM_at s 3 (shM s t i).2 h3
    have hl := bitsM_lt s 3 (shM s t i).2
    refine ⟨by simp [shM, h1], ?_, hb.1, by simp only [shM]; omega, by simp [shM, h5]⟩
    intro k hk
    rcases List.mem_or_eq_of_mem_set hk with h | h
    · exact h2 k h
    · omega

theorem lenM_facts (s : List UInt8) (bl : List Int) (hbl : bl.length ≤ 19) (N : Nat) : ∀ (F : Nat) (l : List Int) (t : St), N - l.length < F → t.at' ≤ 8 * s.length → (∀ k ∈ l, 0 ≤ k ∧ k ≤ 15) → l.length ≤ N + 200 →
    (∀ k ∈ (lenM s bl N F l t).1, 0 ≤ k ∧ k ≤ 15) ∧ (lenM s bl N F l t).1.length ≤ N + 200 ∧ (lenM s bl N F l t).2.at' ≤ 8 * s.length ∧ t.at' ≤ (lenM s bl N F l t).2.at' ∧ (lenM s bl N F l t).2.out = t.out ∧ ((lenM s bl N F l t).2.err = 0 → N ≤ (lenM s bl N F l t).1.length ∧ t.err = 0)
  | 0, l, t, hF, _, _, _ => by omega
  | F + 1, l, t, hF, hat, hin, hll => by
    have hs := symG_facts s bl t hat
    have hrep : ∀ (v : Int) (n : Nat), 0 ≤ v ∧ v ≤ 15 → ∀ k ∈ l ++ List.replicate n v, 0 ≤ k ∧ k ≤ 15 := by
      intro v n hv k hk
      rcases List.mem_append.1 hk with h | h
      · exact hin k h
      · have := List.eq_of_mem_replicate h; omega
    rw [lenM]
    split
    · rename_i hc
      have more : ∀ (v : Int) (A n b : Nat), 0 ≤ v ∧ v ≤ 15 → 1 ≤ A → A ≤ 11 → b ≤ 7 → n = A + (bitsM s b (symG s bl t).2).1 →
          (∀ k ∈ (lenM s bl N F (l ++ List.replicate n v) (bitsM s b (symG s bl t).2).2).1, 0 ≤ k ∧ k ≤ 15) ∧ (lenM s bl N F (l ++ List.replicate n v) (bitsM s b (symG s bl t).2).2).1.length ≤ N + 200 ∧ (lenM s bl N F (l ++ List.replicate n v) (bitsM s b (symG s bl t).2).2).2.at' ≤ 8 * s.length ∧
          t.at' ≤ (lenM s bl N F (l ++ List.replicate n v) (bitsM s b (symG s bl t).2).2).2.at' ∧ (lenM s bl N F (l ++ List.replicate n v) (bitsM s b (symG s bl t).2).2).2.out = t.out ∧ ((lenM s bl N F (l ++ List.replicate n v) (bitsM s b (symG s bl t).2).2).2.err = 0 → N ≤ (lenM s bl N F (l ++ List.replicate n v) (bitsM s b (symG s bl t).2).2).1.length ∧ t.err = 0) := by
        intro v A n b hv h1 h2 h3 hn
        have hb := bitsM_at s b (symG s bl t).2 hs.2.2.1
        have hl := bitsM_lt s b (symG s bl t).2
        have hp : 2 ^ b ≤ 2 ^ 7 := Nat.pow_le_pow_right (by omega) h3
        have ih := lenM_facts s bl hbl N F (l ++ List.replicate n v) (bitsM s b (symG s bl t).2).2 (by simp; omega) hb.1 (hrep v n hv) (by simp; omega)
        exact ⟨ih.1, ih.2.1, ih.2.2.1, by omega, by rw [ih.2.2.2.2.1, bitsM_out, hs.2.1], fun h => ⟨(ih.2.2.2.2.2 h).1, hc.2⟩⟩
      split
      · split
        · refine ⟨by simp, by simp, by simpa using hs.2.2.1, by simpa using hs.2.2.2.1, by simpa using hs.2.1, ?_⟩
          intro h
          unfold failM at h
          split at h
          · cases h
          · rename_i h2; exact absurd h h2
        · rename_i hne
          have hl0 : 0 < l.length := List.length_pos_iff.2 hne
          refine more _ 3 _ 2 ?_ (by omega) (by omega) (by omega) rfl
          rw [List.getD_eq_getElem?_getD, List.getElem?_eq_getElem (by omega)]
          exact hin _ (List.getElem_mem _)
      · split
        · exact more _ 3 _ 3 (by omega) (by omega) (by omega) (by omega) rfl
        · split
          · exact more _ 11 _ 7 (by omega) (by omega) (by omega) (by omega) rfl
          · have ih := lenM_facts s bl hbl N F (l ++ [(symG s bl t).1]) (symG s bl t).2 (by simp; omega) hs.2.2.1 (hrep _ 1 (by omega)) (by simp; omega)
            exact ⟨ih.1, ih.2.1, ih.2.2.1, by omega, by rw [ih.2.2.2.2.1, hs.2.1], fun h => ⟨(ih.2.2.2.2.2 h).1, hc.2⟩⟩
    · rename_i hc
      exact ⟨hin, hll, hat, Nat.le_refl _, rfl, fun (h : t.err = 0) => ⟨by show N ≤ l.length; have h2 : ¬ l.length < N := fun c => hc ⟨c, h⟩; omega, h⟩⟩
theorem lenF_facts (s : List UInt8) {bl : List Int} (hbl : bl.length ≤ 19) {N : Nat} {t : St} (hat : t.at' ≤ 8 * s.length) :
    (∀ k ∈ (lenF s bl N t).1, 0 ≤ k ∧ k ≤ 15) ∧ (lenF s bl N t).1.length ≤ N + 200 ∧ (lenF s bl N t).2.at' ≤ 8 * s.length ∧ t.at' ≤ (lenF s bl N t).2.at' ∧ (lenF s bl N t).2.out = t.out ∧ ((lenF s bl N t).2.err = 0 → (lenF s bl N t).1.length = N ∧ t.err = 0) := by
  have h := lenM_facts s bl hbl N (N + 1) [] t (by simp) hat (by simp) (by simp)
  unfold lenF
  simp only []
  split
  · rename_i hc
    refine ⟨h.1, h.2.1, by simpa using h.2.2.1, by simpa using h.2.2.2.1, by simpa using h.2.2.2.2.1, ?_⟩
    intro h2
    unfold failM at h2
    split at h2
    · cases h2
    · rename_i h3; exact absurd h2 h3
  · exact ⟨h.1, h.2.1, h.2.2.1, h.2.2.2.1, h.2.2.2.2.1, fun h2 => ⟨by have := (h.2.2.2.2.2 h2).1; omega, (h.2.2.2.2.2 h2).2⟩⟩

theorem dynM_facts (s : List UInt8) {t : St} (hat : t.at' ≤ 8 * s.length) : (dynM s t).1.1.length ≤ 1000 ∧ (dynM s t).1.2.length ≤ 1000 ∧ (∀ k ∈ (dynM s t).1.1, 0 ≤ k ∧ k ≤ 15) ∧ (∀ k ∈ (dynM s t).1.2, 0 ≤ k ∧ k ≤ 15) ∧
    (dynM s t).2.at' ≤ 8 * s.length ∧ t.at' ≤ (dynM s t).2.at' ∧ (dynM s t).2.out = t.out := by
  have h1 := bitsM_at s 5 t hat
  have h2 := bitsM_at s 5 (bitsM s 5 t).2 h1.1
  have h3 := bitsM_at s 4 (bitsM s 5 (bitsM s 5 t).2).2 h2.1
  have l1 := bitsM_lt s 5 t
  have l2 := bitsM_lt s 5 (bitsM s 5 t).2
  have o3 : (bitsM s 4 (bitsM s 5 (bitsM s 5 t).2).2).2.out = t.out := by simp
  unfold dynM
  generalize (bitsM s 4 (bitsM s 5 (bitsM s 5 t).2).2).1 + 4 = n
  generalize (bitsM s 4 (bitsM s 5 (bitsM s 5 t).2).2).2 = t3 at *
  generalize hlit : (bitsM s 5 t).1 + 257 = lit at *
  generalize hdist : (bitsM s 5 (bitsM s 5 t).2).1 + 1 = dist at *
  have h4 : (if 286 < lit ∨ 30 < dist then failM 4 t3 else t3).at' = t3.at' ∧ (if 286 < lit ∨ 30 < dist then failM 4 t3 else t3).out = t3.out := by split <;> simp
  generalize (if 286 < lit ∨ 30 < dist then failM 4 t3 else t3) = t4 at *
  have h5 := shM_facts s t4 (by omega) n
  generalize shM s t4 n = sh at *
  unfold dynB
  have h6 : (if complG sh.1 then sh.2 else failM 4 sh.2).at' = sh.2.at' ∧ (if complG sh.1 then sh.2 else failM 4 sh.2).out = sh.2.out := by split <;> simp
  generalize (if complG sh.1 then sh.2 else failM 4 sh.2) = t5 at *
  unfold dynC
  split
  · exact ⟨by simp, by simp, by simp, by simp, by simp only []; omega, by simp only []; omega, by simp only []; rw [h6.2, h5.2.2.2.2, h4.2, o3]⟩
  · have h7 := lenF_facts s (bl := sh.1) (N := lit + dist) (t := t5) (by omega) (by omega)
    generalize lenF s sh.1 (lit + dist) t5 = r at *
    unfold dynD
    split
    · exact ⟨by simp, by simp, by simp, by simp, by simp only []; omega, by simp only []; omega, by simp only []; rw [h7.2.2.2.2.1, h6.2, h5.2.2.2.2, h4.2, o3]⟩
    · have h8 : (if dynBad (r.1.take lit) (r.1.drop lit) then failM 4 r.2 else r.2).at' = r.2.at' ∧ (if dynBad (r.1.take lit) (r.1.drop lit) then failM 4 r.2 else r.2).out = r.2.out := by split <;> simp
      refine ⟨by simp; omega, by simp; omega, fun k hk => h7.1 k (List.mem_of_mem_take hk), fun k hk => h7.1 k (List.mem_of_mem_drop hk), by simp only []; omega, by simp only []; omega, by simp only []; rw [h8.2, h7.2.2.2.2.1, h6.2, h5.2.2.2.2, h4.2, o3]⟩

/-! ### Slices of slices and arrays -/
section
variable {env : Env} {H : AHeap}
def vSlArr (H : AHeap) (n z : Nat) : AVal → Option AVal → Option AVal → Option AVal
  | .ptr r g o, lo, hi => match bnd lo 0, bnd hi n with
      | some l, some h => match H[r]? with
        | some (.cells g' _ _ cs) => if g = g' ∧ cs.length = o + n * z ∧ 0 ≤ l ∧ l ≤ h ∧ h ≤ n then some (.slice r g (o + l.toNat * z) (h.toNat - l.toNat) z) else none
        | _ => none
      | _, _ => none
  | _, _, _ => none
@[simp ↓] theorem val_slArr {n z : Nat} {x : XOpd} {lo hi : Option XOpd} : SOp.val env H (.slice (.arr n z) x lo hi) = vSlArr H n z (x.ev env) (lo.map (XOpd.ev env)) (hi.map (XOpd.ev env)) := by
  simp only [SOp.val]; generalize XOpd.ev env x = u; cases u <;> rfl
theorem vSlArr_hi {r g e n : Nat} {ro : Bool} {cs : List AVal} {k : IntKind} {h : Nat} (hb : H[r]? = some (.cells g ro e cs)) (hl : cs.length = n) (hh : h ≤ n) : vSlArr H n 1 (.ptr r g 0) none (some (.int k h)) = some (.slice r g 0 h 1) := by
  simp only [vSlArr, bnd, hb]
  rw [if_pos ⟨trivial, by omega, by omega, by omega, by omega⟩]; simp
def vSlSl (H : AHeap) (z : Nat) : AVal → Option AVal → Option AVal → Option AVal
  | .nilslice, lo, hi => match bnd lo 0, bnd hi 0 with
      | some l, some h => if l = 0 ∧ h = 0 then some .nilslice else none
      | _, _ => none
  | .eslice, lo, hi => match bnd lo 0, bnd hi 0 with
      | some l, some h => if l = 0 ∧ h = 0 then some .eslice else none
      | _, _ => none
  | .slice r g o len z', lo, hi => match bnd lo 0, bnd hi len with
      | some l, some h =>
        if ageOk H r g = true ∧ z' = z ∧ 0 ≤ l ∧ l ≤ h ∧ (h ≤ len ∨ ((aloads H r g o (h.toNat * z)).isSome = true ∧ 0 < z)) then some (.slice r g (o + l.toNat * z) (h.toNat - l.toNat) z) else none
      | _, _ => none
  | _, _, _ => none
@[simp ↓] theorem val_slSl {z : Nat} {x : XOpd} {lo hi : Option XOpd} : SOp.val env H (.slice (.sl z) x lo hi) = vSlSl H z (x.ev env) (lo.map (XOpd.ev env)) (hi.map (XOpd.ev env)) := by
  simp only [SOp.val]; generalize XOpd.ev env x = u; cases u <;> rfl

theorem aloads_sub {r g o n a b : Nat} {xs : List AVal} (h : aloads H r g o n = some xs) (hab : a + b ≤ n) : aloads H r g (o + a) b = some ((xs.drop a).take b) := by
  unfold aloads at h ⊢
  split at h
  · rename_i g' ro e cs hb
    split at h
    · rename_i hc
      cases h
      rw [if_pos ⟨hc.1, by omega⟩]
      congr 1
      apply List.ext_getElem?
      intro i
      simp only [List.getElem?_take, List.getElem?_drop]
      by_cases hi : i < b
      · rw [if_pos hi, if_pos hi, if_pos (by omega)]; congr 1; omega
      · rw [if_neg hi, if_neg hi]
    · cases h
  · cases h
theorem Sl.take {v : AVal} {xs : List AVal} (h : Sl H v xs) {k : IntKind} {n : Nat} (hn : n ≤ xs.length) : ∃ w, vSlSl H 1 v none (some (.int k n)) = some w ∧ Sl H w (xs.take n) ∧ ∀ r, appTarget w r → appTarget v r := by
  rcases h with ⟨rfl, rfl⟩ | ⟨rfl, rfl⟩ | ⟨r, g, o, rfl, h⟩
  · have h0 : n = 0 := by simpa using hn
    subst h0
    exact ⟨.nilslice, rfl, .inl ⟨rfl, rfl⟩, fun r h => h⟩
  · have h0 : n = 0 := by simpa using hn
    subst h0
    exact ⟨.eslice, rfl, .inr (.inl ⟨rfl, rfl⟩), fun r h => h⟩
  · refine ⟨.slice r g o n 1, ?_, .inr (.inr ⟨r, g, o, by simp; omega, ?_⟩), fun r h => h⟩
    · simp only [vSlSl, bnd]
      rw [if_pos ⟨aloads_age h, trivial, by omega, by omega, .inl (by omega)⟩]; simp
    · have := aloads_sub h (a := 0) (b := n) (by omega)
      simpa [show min n xs.length = n by omega] using this
theorem Sl.drop {v : AVal} {xs : List AVal} (h : Sl H v xs) {k : IntKind} {n : Nat} (hn : n ≤ xs.length) : ∃ w, vSlSl H 1 v (some (.int k n)) none = some w ∧ Sl H w (xs.drop n) ∧ ∀ r, appTarget w r → appTarget v r := by
  rcases h with ⟨rfl, rfl⟩ | ⟨rfl, rfl⟩ | ⟨r, g, o, rfl, h⟩
  · have h0 : n = 0 := by simpa using hn
    subst h0
    exact ⟨.nilslice, rfl, .inl ⟨rfl, rfl⟩, fun r h => h⟩
  · have h0 : n = 0 := by simpa using hn
    subst h0
    exact ⟨.eslice, rfl, .inr (.inl ⟨rfl, rfl⟩), fun r h => h⟩
  · refine ⟨.slice r g (o + n) (xs.length - n) 1, ?_, .inr (.inr ⟨r, g, o + n, by simp, ?_⟩), fun r h => h⟩
    · simp only [vSlSl, bnd]
      rw [if_pos ⟨aloads_age h, trivial, by omega, by omega, .inl (by omega)⟩]; simp
    · have := aloads_sub h (a := n) (b := xs.length - n) (by omega)
      rw [List.length_drop, this, List.take_of_length_le (by simp)]

/-- Two books are laid into their places. -/
theorem stores2 {q0 q1 e : Nat} {z y B1 B2 : List AVal} (h0 : H[q0]? = some (.cells 0 false e z)) (hz : z.length = 18) (h1 : H[q1]? = some (.cells 0 false e y)) (hy : y.length = 18) (hne : q0 ≠ q1) (l1 : B1.length = 18) (l2 : B2.length = 18) (a1 : B1.all AVal.one = true) (a2 : B2.all AVal.one = true) :
    ∃ H3 H4, vStore H 18 (.agg B1) (.ptr q0 0 0) = some (.tuple [], H3) ∧ vStore H3 18 (.agg B2) (.ptr q1 0 0) = some (.tuple [], H4) ∧ aloads H4 q0 0 0 18 = some B1 ∧ aloads H4 q1 0 0 18 = some B2 ∧ H4.length = H.length ∧ ∀ r, r ≠ q0 → r ≠ q1 → H4[r]? = H[r]? := by
  have hl0 := (List.getElem?_eq_some_iff.1 h0).1
  have hl1 := (List.getElem?_eq_some_iff.1 h1).1
  have f2 : (H.set q0 (.cells 0 false e B1))[q1]? = some (.cells 0 false e y) := by rw [List.getElem?_set_ne hne]; exact h1
  have f3 : ((H.set q0 (.cells 0 false e B1)).set q1 (.cells 0 false e B2))[q0]? = some (.cells 0 false e B1) := by
    rw [List.getElem?_set_ne (Ne.symm hne), List.getElem?_set_self hl0]
  have f4 : ((H.set q0 (.cells 0 false e B1)).set q1 (.cells 0 false e B2))[q1]? = some (.cells 0 false e B2) := by
    rw [List.getElem?_set_self (by simpa using hl1)]
  refine ⟨H.set q0 (.cells 0 false e B1), (H.set q0 (.cells 0 false e B1)).set q1 (.cells 0 false e B2), ?_, ?_, ?_, ?_, by simp, fun r h2 h3 => by rw [List.getElem?_set_ne (Ne.symm h3), List.getElem?_set_ne (Ne.symm h2)]⟩
  · rw [vStore_ptr, if_pos ⟨rfl, l1, ageOk_at h0⟩]; simp only [cells_agg]; rw [astores_at_all h0 (hz.trans l1.symm) a1]; rfl
  · rw [vStore_ptr, if_pos ⟨rfl, l2, ageOk_at f2⟩]; simp only [cells_agg]; rw [astores_at_all f2 (hy.trans l2.symm) a2]; rfl
  · rw [aloads_at f3, if_pos (by omega), List.drop_zero, List.take_of_length_le (by omega)]
  · rw [aloads_at f4, if_pos (by omega), List.drop_zero, List.take_of_length_le (by omega)]
end
end Go.Proofs.Ytdknddicpdhkcaa.Ab

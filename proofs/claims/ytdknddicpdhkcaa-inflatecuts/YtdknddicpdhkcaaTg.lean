/- Inflate: the reading of code lengths. Conditions: none; for the statements about layers 46 and 47. -/
import Derived.Test.YtdknddicpdhkcaaTf
namespace Go.Proofs.Ytdknddicpdhkcaa.Ab
set_option linter.unusedVariables false
set_option linter.unusedSimpArgs false

def lenM (s : List UInt8) (bl : List Int) (n : Nat) : Nat → List Int → St → List Int × St
  | 0, l, t => (l, t)
  | F + 1, l, t =>
    if l.length < n ∧ t.err = 0 then
      if (symG s bl t).1 = 16 then
        if l = [] then ([], failM 4 (symG s bl t).2)
        else lenM s bl n F (l ++ List.replicate (3 + (bitsM s 2 (symG s bl t).2).1) (l.getD (l.length - 1) 0)) (bitsM s 2 (symG s bl t).2).2
      else if (symG s bl t).1 = 17 then lenM s bl n F (l ++ List.replicate (3 + (bitsM s 3 (symG s bl t).2).1) 0) (bitsM s 3 (symG s bl t).2).2
      else if (symG s bl t).1 = 18 then lenM s bl n F (l ++ List.replicate (11 + (bitsM s 7 (symG s bl t).2).1) 0) (bitsM s 7 (symG s bl t).2).2
      else lenM s bl n F (l ++ [(symG s bl t).1]) (symG s bl t).2
    else (l, t)
def lenF (s : List UInt8) (bl : List Int) (n : Nat) (t : St) : List Int × St :=
  ((lenM s bl n (n + 1) [] t).1, if n < (lenM s bl n (n + 1) [] t).1.length then failM 4 (lenM s bl n (n + 1) [] t).2 else (lenM s bl n (n + 1) [] t).2)

def complG (l : List Int) : Prop := sumG l 0 = some 32768
instance (l : List Int) : Decidable (complG l) := inferInstanceAs (Decidable (_ = _))
def fewG (l : List Int) : Prop := sumG l 0 = some 0 ∨ sumG l 0 = some 16384 ∧ cnts l 1 = 1
instance (l : List Int) : Decidable (fewG l) := inferInstanceAs (Decidable (_ ∨ _))

section
variable {B : Nat → Prop} {s : List UInt8} {t : St} {w bw v : AVal} {most p : Nat} {H : AHeap} {l bl : List Int} {fp : Nat → Prop}

theorem compl_raw (h : Ints H v l) (hl : l.length ≤ 1000) {o : Option Int} (hs : sumG l 0 = o) : ACall Try.prog 64 [v] H fp fun v' H' => v' = .bool (decide (o = some 32768)) ∧ H' = H := by
  have hsum := sum_ok l v H (fun r => fp r ∨ H.length ≤ r) h (by omega)
  cases o with
  | none =>
    have hr : sumR l = .tuple [.int .i64 0, .bool false] := by simp [sumR, hs]
    rw [hr] at hsum
    refine acall_of hmix Try.func64 x64_ok (by simp) ?_
    simp
    refine call1_eq hsum ?_
    simp
  | some n =>
    have hr : sumR l = .tuple [.int .i64 n, .bool true] := by simp [sumR, hs]
    rw [hr] at hsum
    refine acall_of hmix Try.func64 x64_ok (by simp) ?_
    simp
    refine call1_eq hsum ?_
    simp
theorem compl_ok (h : Ints H v l) (hl : l.length ≤ 1000) : ACall Try.prog 64 [v] H fp fun v' H' => v' = .bool (decide (complG l)) ∧ H' = H :=
  (compl_raw h hl rfl).mono fun v' H' q => ⟨q.1, q.2⟩
theorem few_raw (h : Ints H v l) (hl : l.length ≤ 1000) (hin : ∀ k ∈ l, 0 ≤ k ∧ k ≤ 15) {o : Option Int} (hs : sumG l 0 = o) : ACall Try.prog 66 [v] H fp fun v' H' => v' = .bool (decide (o = some 0 ∨ o = some 16384 ∧ cnts l 1 = 1)) ∧ H' = H := by
  have hsum := sum_ok l v H (fun r => fp r ∨ H.length ≤ r) h (by omega)
  cases o with
  | none =>
    have hr : sumR l = .tuple [.int .i64 0, .bool false] := by simp [sumR, hs]
    rw [hr] at hsum
    refine acall_of hmix Try.func66 x66_ok (by simp) ?_
    simp
    refine call1_eq hsum ?_
    simp
  | some n =>
    have hr : sumR l = .tuple [.int .i64 n, .bool true] := by simp [sumR, hs]
    rw [hr] at hsum
    refine acall_of hmix Try.func66 x66_ok (by simp) ?_
    simp
    refine call1_eq hsum ?_
    by_cases c1 : n = 0
    · simp [c1]
    · by_cases c2 : n = 16384
      · simp [c2]
        refine call1_eq (counts_ok l v H _ h (by omega) hin) ?_
        by_cases c3 : cnts l 1 = 1 <;> simp [c3]
      · simp [c1, c2]
theorem few_ok (h : Ints H v l) (hl : l.length ≤ 1000) (hin : ∀ k ∈ l, 0 ≤ k ∧ k ≤ 15) : ACall Try.prog 66 [v] H fp fun v' H' => v' = .bool (decide (fewG l)) ∧ H' = H :=
  (few_raw h hl hin rfl).mono fun v' H' q => ⟨q.1, q.2⟩

abbrev lp65 : XCode := (.seq (.ops [⟨some 52, none, (.s (.bin .lss (.t 51) (.t 50)))⟩]) (.seq (.cond (.t 52) .skip (.exit 3)) (.seq (.block 4 (.ops [⟨some 53, none, (.s (.move (.t 7)))⟩, ⟨some 54, none, (.s (.move (.t 9)))⟩, ⟨some 55, none, (.e (.buildSlice 3 1 1 [(.int .i64 0)] [(0, 1, (.t 54))]))⟩, ⟨some 56, none, (.e (.append 1 8 3 (.t 53) (.t 55)))⟩, ⟨some 7, none, (.s (.move (.t 56)))⟩])) (.ops [⟨some 57, none, (.s (.bin .add (.t 51) (.c (.int .i64 1))))⟩, ⟨some 51, none, (.s (.move (.t 57)))⟩]))))

def inv65b (m : Nat) (H : AHeap) (l : List Int) (value : Int) (times : Nat) (env : Env) (n : Nat) (env' : Env) (H' : AHeap) : Prop :=
  ∃ (i : Nat) (lv : AVal), i ≤ times ∧ n = times - i ∧ Own1 m H' 3 lv ((l ++ List.replicate i value).map (.int .i64)) ∧ (∀ k, k < m → H'[k]? = H[k]?) ∧ H.length ≤ H'.length ∧ env' 7 = lv ∧ env' 9 = .int .i64 value ∧ env' 50 = .int .i64 times ∧ env' 51 = .int .i64 i ∧ ∀ j, j < 7 → env' j = env j

theorem inner65 {Wr : Nat → Prop} {Q : XExit → Env → AHeap → Prop} {env : Env} {m : Nat} {lv : AVal} {value : Int} {times : Nat} (hW : ∀ r, m ≤ r → Wr r) (hm : m ≤ H.length) (hlv : Own1 m H 3 lv (l.map (.int .i64))) (hl : l.length ≤ 2000) (ht : times ≤ 2000)
    (e7 : env 7 = lv) (e9 : env 9 = .int .i64 value) (e50 : env 50 = .int .i64 times) (e51 : env 51 = .int .i64 0)
    (hk : ∀ env' H' lv', Own1 m H' 3 lv' ((l ++ List.replicate times value).map (.int .i64)) → (∀ k, k < m → H'[k]? = H[k]?) → H.length ≤ H'.length → env' 7 = lv' → (∀ j, j < 7 → env' j = env j) → Q (.exit 3) env' H') :
    vc (ACall Try.prog) Wr (.loop lp65) Q env H := by
  refine vc_loop (inv65b m H l value times env) times ⟨0, lv, by omega, by omega, by simpa using hlv, fun k _ => rfl, Nat.le_refl _, e7, e9, e50, by simpa using e51, fun j _ => rfl⟩ ?_
  rintro n env1 H1 ⟨i, lv1, hi, rfl, hlv1, hf1, hl1, f7, f9, f50, f51, fj⟩
  by_cases hlt : i < times
  · obtain ⟨w', H2, ha, hw2, hlen2, hfr2⟩ := (hlv1.app [.cells 0 false 3 [.int .i64 value]]).append (x := .slice H1.length 0 0 1 1) (a := .int .i64 value) (bytes := 8) (by rw [List.length_append]; omega) (by simp [asrc]) rfl (by simp [roomLim]; omega)
    rw [List.length_append] at hlen2
    simp (config := {contextual := true, implicitDefEqProofs := false}) (disch := omega) [f7, f9, f50, f51, hlt, afill, zrep]
    refine e1_of ha ?_ ?_
    · intro r ht2
      exact hW r (hlv1.own.target (by simpa [f7] using ht2))
    simp (config := {contextual := true, implicitDefEqProofs := false}) (disch := omega) [f7, f9, f50, f51, i64_id]
    refine again_iff (times - (i + 1)) (by omega) ⟨i + 1, w', hlt, rfl, ?_, ?_, by omega, by simp, by simp [f9], by simp [f50], by simp, ?_⟩
    · rw [List.replicate_succ', ← List.append_assoc]; simpa using hw2
    · intro k hk2
      rw [hfr2 k hk2, List.getElem?_append_left (by omega)]; exact hf1 k hk2
    · intro j hj
      have h1 : ¬ j = 52 := by omega
      have h2 : ¬ j = 53 := by omega
      have h3 : ¬ j = 54 := by omega
      have h4 : ¬ j = 55 := by omega
      have h5 : ¬ j = 56 := by omega
      have h6 : ¬ j = 57 := by omega
      have h7 : ¬ j = 7 := by omega
      have h8 : ¬ j = 51 := by omega
      simp [h1, h2, h3, h4, h5, h6, h7, h8, fj j hj]
  · have hi2 : i = times := by omega
    subst hi2
    simp (config := {contextual := true, implicitDefEqProofs := false}) (disch := omega) [f7, f9, f50, f51]
    refine hk _ _ lv1 hlv1 hf1 hl1 (by simp [f7]) ?_
    intro j hj
    have h1 : ¬ j = 52 := by omega
    simp [h1, fj j hj]

def inv65 (p : Nat) (s : List UInt8) (bl : List Int) (N : Nat) (R : List Int × St) (H : AHeap) (K : ABlk) (w : AVal) (most : Nat) (n : Nat) (env : Env) (H' : AHeap) : Prop :=
  ∃ (l : List Int) (t : St) (lv : AVal), Own1 (H.length + 1) H' 3 lv (l.map (.int .i64)) ∧ l.length ≤ N + 200 ∧ t.at' ≤ 8 * s.length ∧ R = lenM s bl N n l t ∧ N - l.length < n ∧ env 0 = .ptr p 0 0 ∧ env 2 = .int .i64 N ∧ env 4 = .ptr H.length 0 0 ∧ env 7 = lv ∧
    H'[H.length]? = some K ∧ H'[p]? = some (rdBlk s t w most) ∧ H.length + 1 ≤ H'.length ∧ ∀ r, r < H.length → r ≠ p → H'[r]? = H[r]?

theorem lens_ok (hp : H[p]? = some (rdBlk s t w most)) (hs : s.length ≤ 2 ^ 50) (hat : t.at' ≤ 8 * s.length) (hi : Ints H bw (ordG bl 15)) (hbp : ¬ appTarget bw p) (hbl : bl.length ≤ 19) {N : Nat} (hN : N ≤ 400) :
    ACall Try.prog 65 [.ptr p 0 0, .agg (bookCells bl bw (mostG bl 15)), .int .i64 N] H (fun r => r = p) fun v H' => Ints H' v (lenF s bl N t).1 ∧ (∀ r, appTarget v r → H.length ≤ r) ∧ H'[p]? = some (rdBlk s (lenF s bl N t).2 w most) := by
  refine acall_of hmix Try.func65 x65_ok (by simp) ?_
  have hpl := (List.getElem?_eq_some_iff.1 hp).1
  generalize hRR : lenM s bl N (N + 1) [] t = R
  have hFF : lenF s bl N t = (R.1, if N < R.1.length then failM 4 R.2 else R.2) := by rw [lenF, hRR]
  rw [hFF]
  simp
  refine vc_loop (inv65 p s bl N R H (.cells 0 false 69 (bookCells bl bw (mostG bl 15))) w most) (N + 1) ⟨[], t, .nilslice, .inl ⟨rfl, rfl⟩, by simp, hat, hRR.symm, by simp, by simp, by simp, by simp, by simp, by simp, by rw [List.getElem?_append_left hpl]; exact hp, by simp, fun r hr _ => List.getElem?_append_left hr⟩ ?_
  rintro n env H1 ⟨l, t1, lv, hlv, hll, hat1, hR, hn, e0, e2, e4, e7, hK, hp1, hl1, hF1⟩
  obtain ⟨n', rfl⟩ : ∃ n', n = n' + 1 := ⟨n - 1, by omega⟩
  rw [lenM] at hR
  have hlen := hlv.own.sl.len
  simp at hlen
  have gK := ageOk_at hK
  have hL := aloads_at hK (o := 0) (n := 18)
  simp at hL
  have hne : H.length ≠ p := by omega
  by_cases c1 : l.length < N
  · by_cases c2 : t1.err = 0
    · rw [if_pos ⟨c1, c2⟩] at hR
      simp (config := {contextual := true, implicitDefEqProofs := false}) (disch := omega) [e0, e2, e4, e7, hlen, c1]
      refine call1_eq (ok_ok hp1) ?_
      simp (config := {contextual := true, implicitDefEqProofs := false}) (disch := omega) [e0, e2, e4, e7, c1, c2, hL]
      have hi1 : Ints H1 bw (ordG bl 15) := hi.keepAt fun r hr hrl => hF1 r hrl (fun c => hbp (c ▸ hr))
      refine call1_of (sym_ok hp1 hs hat1 hi1 hbp (by omega)) (fun r h => .inl (.inl h)) ?_
      rintro v H2 ⟨rfl, hp2⟩ hl2 hF2
      have hsf := symG_facts s bl t1 hat1
      generalize hd2 : symG s bl t1 = dd at *
      obtain ⟨k, t2⟩ := dd
      simp only [] at *
      have hlv2 : Own1 (H.length + 1) H2 3 lv (l.map (.int .i64)) := hlv.keep fun k h1 h2 => hF2 k h2 (by omega)
      have hK2 : H2[H.length]? = some (.cells 0 false 69 (bookCells bl bw (mostG bl 15))) := by rw [hF2 _ (by omega) hne]; exact hK
      have hF2' : ∀ r, r < H.length → r ≠ p → H2[r]? = H[r]? := fun r h1 h2 => by rw [hF2 r (by omega) h2, hF1 r h1 h2]
      -- behind the choice: the values are appended
      have fin : ∀ (t3 : St) (value : Int) (times : Nat), t3.at' ≤ 8 * s.length → 1 ≤ times → times ≤ 150 → R = lenM s bl N n' (l ++ List.replicate times value) t3 →
          ∀ (env' : Env) (H4 : AHeap) (lv' : AVal), Own1 (H.length + 1) H4 3 lv' ((l ++ List.replicate times value).map (.int .i64)) → (∀ k, k < H.length + 1 → H4[k]? = (H2.set p (rdBlk s t3 w most))[k]?) → (H2.set p (rdBlk s t3 w most)).length ≤ H4.length → env' 7 = lv' → env' 0 = .ptr p 0 0 → env' 2 = .int .i64 N → env' 4 = .ptr H.length 0 0 →
          again (inv65 p s bl N R H (.cells 0 false 69 (bookCells bl bw (mostG bl 15))) w most) (n' + 1) env' H4 := by
        intro t3 value times h1 ht0 ht1 h2 env' H4 lv' h3 h4 h5 f7 f0 f2 f4
        rw [List.length_set] at h5
        refine again_iff n' (by omega) ⟨l ++ List.replicate times value, t3, lv', h3, by simp; omega, h1, h2, by simp; omega, f0, f2, f4, f7, ?_, ?_, by omega, ?_⟩
        · rw [h4 _ (by omega), List.getElem?_set_ne (by omega)]; exact hK2
        · rw [h4 _ (by omega), List.getElem?_set_self (by omega)]
        · intro r h6 h7
          rw [h4 r (by omega), List.getElem?_set_ne (by omega)]; exact hF2' r h6 h7
      have hbits : ∀ (N' : Nat), N' ≤ 30 → ACall Try.prog 47 [.ptr p 0 0, .int .i64 N'] H2 (fun r => r = p ∨ H.length ≤ r) fun v H' => v = .int .i64 ((bitsM s N' t2).1 : Nat) ∧ H' = H2.set p (rdBlk s (bitsM s N' t2).2 w most) := fun N' h =>
        (bits_ok hp2 h hs hsf.2.2.1).use (fun r h => .inl (.inl h)) fun v H' q _ _ => q
      have hlv3 : ∀ t3, Own1 (H.length + 1) (H2.set p (rdBlk s t3 w most)) 3 lv (l.map (.int .i64)) := fun t3 => hlv2.keep fun k h1 h2 => List.getElem?_set_ne (by omega)
      have hlen2 := hlv2.own.sl.len
      simp at hlen2
      by_cases c3 : k = 16
      · rw [if_pos c3] at hR
        by_cases c4 : l = []
        · rw [if_pos c4] at hR
          have hp3 : ∀ A : ABlk, (H2.set p A)[p]? = some A := fun A => List.getElem?_set_self (by omega)
          simp (config := {contextual := true, implicitDefEqProofs := false}) (disch := omega) [e0, e2, e4, e7, c3, hlen2, c4]
          refine call1_eq ((fail_ok hp2).use (fun r h => Or.inl (Or.inl h)) fun v H' q _ _ => q) ?_
          simp (config := {contextual := true, implicitDefEqProofs := false}) (disch := omega) [hp3, hR]
          exact ⟨.inl ⟨rfl, rfl⟩, fun r h => h.elim⟩
        · rw [if_neg c4] at hR
          have hlp : 0 < l.length := List.length_pos_iff.2 c4
          have hbl2 := bitsM_lt s 2 t2
          have hba := bitsM_at s 2 t2 hsf.2.2.1
          have hix := hlv2.own.sl.idxN (k := .i64) (n := l.length - 1) (by simp; omega)
          have hld := hlv2.own.sl.load (i := l.length - 1) (by simp; omega)
          simp only [List.getElem_map] at hld
          have a1 : abin .sub (.int .i64 (l.length : Int)) (.int .i64 1) = some (.int .i64 ((l.length - 1 : Nat) : Int)) := by
            rw [abin_sub, i64_id (by omega) (by omega)]; congr 2; omega
          have hgd : l[l.length - 1] = l.getD (l.length - 1) 0 := by
            rw [List.getD_eq_getElem?_getD, List.getElem?_eq_getElem (by omega)]; rfl
          have a2 : abin .add (.int .i64 3) (.int .i64 (((bitsM s 2 t2).1 : Nat) : Int)) = some (.int .i64 ((3 + (bitsM s 2 t2).1 : Nat) : Int)) := by
            rw [abin_add, i64_id (by omega) (by omega)]; rfl
          simp (config := {contextual := true, implicitDefEqProofs := false}) (disch := omega) [e0, e2, e4, e7, c3, hlen2, show ¬ (l.length : Int) = 0 by omega, a1, hix, hld, c4, -abin_sub]
          refine dcall1_eq ((bits_ok hp2 (N := 2) (by omega) hs hsf.2.2.1).use (fun r h => ?_) fun v H' q _ _ => q) ?_
          · left
            subst h
            refine ⟨.inl rfl, ?_⟩
            rcases hlv2 with ⟨_, hc⟩ | ⟨r', hr', _, rfl, _⟩
            · exact absurd (List.map_eq_nil_iff.1 hc) c4
            · simp [SOp.reads, AVal.at, e7]
              omega
          simp (config := {contextual := true, implicitDefEqProofs := false}) (disch := omega) [e0, e2, e4, e7, a2, -abin_add, -Int.natCast_add]
          refine inner65 (m := H.length + 1) (fun r h => .inr (by omega)) (by rw [List.length_set]; omega) (hlv3 _) (by omega) (times := 3 + (bitsM s 2 t2).1) (value := l[l.length - 1]) (by omega) (by simp [e7]) (by simp) (by simp) (by simp) ?_
          intro env' H4 lv' g1 g2 g3 g4 g5
          simp
          refine fin _ _ _ hba.1 (by omega) (by omega) (by rw [hgd]; exact hR) _ _ _ g1 g2 g3 g4 ?_ ?_ ?_
          · rw [g5 0 (by omega)]; simp [e0]
          · rw [g5 2 (by omega)]; simp [e2]
          · rw [g5 4 (by omega)]; simp [e4]
      · rw [if_neg c3] at hR
        have tail : ∀ (A : Nat) (z : Int) (N' : Nat), N' ≤ 7 → A ≤ 11 → 1 ≤ A → R = lenM s bl N n' (l ++ List.replicate (A + (bitsM s N' t2).1) 0) (bitsM s N' t2).2 → ∀ (Q : XExit → Env → AHeap → Prop) (env' : Env), env' 0 = .ptr p 0 0 → env' 2 = .int .i64 N → env' 4 = .ptr H.length 0 0 → env' 7 = lv → env' 9 = .int .i64 0 →
            env' 50 = .int .i64 ((A + (bitsM s N' t2).1 : Nat) : Int) → env' 51 = .int .i64 0 → Q (.exit 3) = again (inv65 p s bl N R H (.cells 0 false 69 (bookCells bl bw (mostG bl 15))) w most) (n' + 1) → vc (ACall Try.prog) (fun r => r = p ∨ H.length ≤ r) (.loop lp65) Q env' (H2.set p (rdBlk s (bitsM s N' t2).2 w most)) := by
          intro A z N' h1 h2 h3 h4 Q env' f0 f2 f4 f7 f9 f50 f51 hQ
          have hbl2 := bitsM_lt s N' t2
          have hpw : 2 ^ N' ≤ 2 ^ 7 := Nat.pow_le_pow_right (by omega) h1
          have hba := bitsM_at s N' t2 hsf.2.2.1
          refine inner65 (m := H.length + 1) (fun r h => .inr (by omega)) (by rw [List.length_set]; omega) (hlv3 _) (by omega) (times := A + (bitsM s N' t2).1) (by omega) f7 f9 f50 f51 ?_
          intro env'' H4 lv' g1 g2 g3 g4 g5
          rw [hQ]
          exact fin _ _ _ hba.1 (by omega) (by omega) h4 _ _ _ g1 g2 g3 g4 (by rw [g5 0 (by omega), f0]) (by rw [g5 2 (by omega), f2]) (by rw [g5 4 (by omega), f4])
        by_cases c5 : k = 17
        · rw [if_pos c5] at hR
          have hbl2 := bitsM_lt s 3 t2
          have a2 : abin .add (.int .i64 3) (.int .i64 (((bitsM s 3 t2).1 : Nat) : Int)) = some (.int .i64 ((3 + (bitsM s 3 t2).1 : Nat) : Int)) := by
            rw [abin_add, i64_id (by omega) (by omega)]; rfl
          simp (config := {contextual := true, implicitDefEqProofs := false}) (disch := omega) [e0, e2, e4, e7, c3, c5]
          refine call1_eq ((bits_ok hp2 (N := 3) (by omega) hs hsf.2.2.1).use (fun r h => .inl (.inl h)) fun v H' q _ _ => q) ?_
          simp (config := {contextual := true, implicitDefEqProofs := false}) (disch := omega) [e0, e2, e4, e7, a2, -abin_add, -Int.natCast_add]
          exact tail 3 3 3 (by omega) (by omega) (by omega) hR _ _ (by simp [e0]) (by simp [e2]) (by simp [e4]) (by simp [e7]) (by simp) (by simp) (by simp) (by simp)
        · rw [if_neg c5] at hR
          by_cases c6 : k = 18
          · rw [if_pos c6] at hR
            have hbl2 := bitsM_lt s 7 t2
            have a2 : abin .add (.int .i64 11) (.int .i64 (((bitsM s 7 t2).1 : Nat) : Int)) = some (.int .i64 ((11 + (bitsM s 7 t2).1 : Nat) : Int)) := by
              rw [abin_add, i64_id (by omega) (by omega)]; rfl
            simp (config := {contextual := true, implicitDefEqProofs := false}) (disch := omega) [e0, e2, e4, e7, c3, c5, c6]
            refine call1_eq ((bits_ok hp2 (N := 7) (by omega) hs hsf.2.2.1).use (fun r h => .inl (.inl h)) fun v H' q _ _ => q) ?_
            simp (config := {contextual := true, implicitDefEqProofs := false}) (disch := omega) [e0, e2, e4, e7, a2, -abin_add, -Int.natCast_add]
            exact tail 11 11 7 (by omega) (by omega) (by omega) hR _ _ (by simp [e0]) (by simp [e2]) (by simp [e4]) (by simp [e7]) (by simp) (by simp) (by simp) (by simp)
          · rw [if_neg c6] at hR
            simp (config := {contextual := true, implicitDefEqProofs := false}) (disch := omega) [e0, e2, e4, e7, c3, c5, c6]
            rw [← set_same hp2]
            refine inner65 (m := H.length + 1) (fun r h => .inr (by omega)) (by rw [List.length_set]; omega) (hlv3 _) (by omega) (times := 1) (value := k) (by omega) (by simp [e7]) (by simp) (by simp) (by simp) ?_
            intro env' H4 lv' g1 g2 g3 g4 g5
            simp
            refine fin t2 k 1 hsf.2.2.1 (by omega) (by omega) hR _ _ _ g1 g2 g3 g4 ?_ ?_ ?_
            · rw [g5 0 (by omega)]; simp [e0]
            · rw [g5 2 (by omega)]; simp [e2]
            · rw [g5 4 (by omega)]; simp [e4]
    · rw [if_neg (by simp [c2])] at hR
      simp (config := {contextual := true, implicitDefEqProofs := false}) (disch := omega) [e0, e2, e4, e7, hlen, c1]
      refine call1_eq (ok_ok hp1) ?_
      simp (config := {contextual := true, implicitDefEqProofs := false}) (disch := omega) [e0, e2, e4, e7, c1, c2, hlen, hR, show ¬ (N : Int) < l.length by omega, show ¬ N < l.length by omega]
      first | exact ⟨hlv.own.sl, fun r h => by have := hlv.own.target h; omega, hp1⟩ | exact ⟨hlv.own.sl, fun r h => by have := hlv.own.target h; omega, (List.getElem?_eq_some_iff.1 hp1).2⟩ | exact fun _ => ⟨hlv.own.sl, fun r h => by have := hlv.own.target h; omega, (List.getElem?_eq_some_iff.1 hp1).2⟩
  · rw [if_neg (by simp [c1])] at hR
    by_cases c3 : N < l.length
    · simp (config := {contextual := true, implicitDefEqProofs := false}) (disch := omega) [e0, e2, e4, e7, c1, hlen, hR, show (N : Int) < l.length by omega, c3]
      refine call1_eq ((fail_ok hp1).use (fun r h => Or.inl (Or.inl h)) fun v H' q _ _ => q) ?_
      simp (config := {contextual := true, implicitDefEqProofs := false}) (disch := omega) [e0, e2, e4, e7, c1]
      first | exact ⟨(hlv.keep fun k h1 h2 => List.getElem?_set_ne (by omega)).own.sl, fun r h => by have := hlv.own.target h; omega, List.getElem?_set_self (by omega)⟩ | exact ⟨(hlv.keep fun k h1 h2 => List.getElem?_set_ne (by omega)).own.sl, fun r h => by have := hlv.own.target h; omega⟩
    · simp (config := {contextual := true, implicitDefEqProofs := false}) (disch := omega) [e0, e2, e4, e7, c1, hlen, hR, show ¬ (N : Int) < l.length by omega, c3]
      first | exact ⟨hlv.own.sl, fun r h => by have := hlv.own.target h; omega, hp1⟩ | exact ⟨hlv.own.sl, fun r h => by have := hlv.own.target h; omega, (List.getElem?_eq_some_iff.1 hp1).2⟩ | exact fun _ => ⟨hlv.own.sl, fun r h => by have := hlv.own.target h; omega, (List.getElem?_eq_some_iff.1 hp1).2⟩
end
end Go.Proofs.Ytdknddicpdhkcaa.Ab

/- Inflate: the data of a block. Conditions: none; for the statements about layers 46 and 47. -/
import Derived.Test.YtdknddicpdhkcaaTe
namespace Go.Proofs.Ytdknddicpdhkcaa.Ab
set_option linter.unusedVariables false
set_option linter.unusedSimpArgs false

theorem copyN_len : ∀ (n : Nat) (o : List UInt8) (d : Nat), (copyN o d n).length = o.length + n
  | 0, o, d => rfl
  | n + 1, o, d => by rw [copyN, copyN_len n]; simp; omega
def dataM (s : List UInt8) (most : Nat) (ll dl : List Int) : Nat → St → St
  | 0, t => t
  | F + 1, t =>
    if t.err ≠ 0 then t
    else if (symG s ll t).2.err ≠ 0 ∨ (symG s ll t).1 = 256 then (symG s ll t).2
    else dataM s most ll dl F (if (symG s ll t).1 < 256 then putM most (UInt8.ofNat (symG s ll t).1.toNat) (symG s ll t).2
      else if 285 < (symG s ll t).1 then failM 4 (symG s ll t).2
      else matchM s most (symG s ll t).1.toNat dl (symG s ll t).2)

theorem putM_facts (s : List UInt8) {most : Nat} {c : UInt8} {t : St} (ho : t.out.length ≤ most) : (putM most c t).at' = t.at' ∧ (putM most c t).out.length ≤ most := by
  unfold putM; split
  · simp [ho]
  · simp; omega
theorem matchE_facts {most len dist : Nat} {t : St} (ho : t.out.length ≤ most) : (matchE most len dist t).at' = t.at' ∧ (matchE most len dist t).out.length ≤ most := by
  unfold matchE; split
  · simp [ho]
  · split
    · simp [ho]
    · split
      · simp [ho]
      · simp [copyN_len]; omega
theorem late_facts (d : Int × St) : (late d).at' = d.2.at' ∧ (late d).out = d.2.out := by
  unfold late; split <;> simp
theorem matchM_facts (s : List UInt8) {most k : Nat} {dl : List Int} {t : St} (ho : t.out.length ≤ most) (hat : t.at' ≤ 8 * s.length) : t.at' ≤ (matchM s most k dl t).at' ∧ (matchM s most k dl t).at' ≤ 8 * s.length ∧ (matchM s most k dl t).out.length ≤ most := by
  have h1 := bitsM_at s (spanG k).2 t hat
  have h2 := symG_facts s dl (bitsM s (spanG k).2 t).2 h1.1
  have h3 := late_facts (symG s dl (bitsM s (spanG k).2 t).2)
  have ho3 : (late (symG s dl (bitsM s (spanG k).2 t).2)).out.length ≤ most := by rw [h3.2, h2.2.1, bitsM_out]; exact ho
  unfold matchM matchD
  split
  · exact ⟨by omega, by omega, ho3⟩
  · have h4 := bitsM_at s (reachG (symG s dl (bitsM s (spanG k).2 t).2).1.toNat).2 (late (symG s dl (bitsM s (spanG k).2 t).2)) (by omega)
    have h5 := matchE_facts (most := most) (len := (spanG k).1 + (bitsM s (spanG k).2 t).1) (dist := (reachG (symG s dl (bitsM s (spanG k).2 t).2).1.toNat).1 + (bitsM s (reachG (symG s dl (bitsM s (spanG k).2 t).2).1.toNat).2 (late (symG s dl (bitsM s (spanG k).2 t).2))).1)
      (t := (bitsM s (reachG (symG s dl (bitsM s (spanG k).2 t).2).1.toNat).2 (late (symG s dl (bitsM s (spanG k).2 t).2))).2) (by rw [bitsM_out]; exact ho3)
    exact ⟨by omega, by omega, h5.2⟩

section
variable {B : Nat → Prop} {s : List UInt8} {t : St} {w lw dw : AVal} {most p : Nat} {H : AHeap} {ll dl : List Int} {fp : Nat → Prop}

def inv49 (B : Nat → Prop) (p : Nat) (s : List UInt8) (most : Nat) (ll dl : List Int) (R : St) (H : AHeap) (K1 K2 : ABlk) (n : Nat) (env : Env) (H' : AHeap) : Prop :=
  ∃ (t : St), Rd (fun r => B r ∨ r = H.length ∨ r = H.length + 1) p H' s t most ∧ t.at' ≤ 8 * s.length ∧ t.out.length ≤ most ∧ R = dataM s most ll dl n t ∧ 8 * s.length - t.at' < n ∧ env 0 = .ptr p 0 0 ∧ env 4 = .ptr H.length 0 0 ∧ env 5 = .ptr (H.length + 1) 0 0 ∧
    H'[H.length]? = some K1 ∧ H'[H.length + 1]? = some K2 ∧ H.length + 2 ≤ H'.length ∧ ∀ r, B r → r ≠ p → H'[r]? = H[r]?

theorem data_ok (hB : ∀ r, B r → r < H.length) (hBp : B p) (h : Rd B p H s t most) (hs : s.length ≤ 2 ^ 50) (hat : t.at' ≤ 8 * s.length) (hmost : most ≤ 2 ^ 40) (hout : t.out.length ≤ most) {F : Nat} (hF : 8 * s.length - t.at' < F)
    (hi : Ints H lw (ordG ll 15)) (hlw : ∀ r, appTarget lw r → B r ∧ r ≠ p) (hl : ll.length ≤ 1000) (hid : Ints H dw (ordG dl 15)) (hdw : ∀ r, appTarget dw r → B r ∧ r ≠ p) (hdl : dl.length ≤ 1000) :
    ACall Try.prog 49 [.ptr p 0 0, .agg (bookCells ll lw (mostG ll 15)), .agg (bookCells dl dw (mostG dl 15))] H (fun r => r = p ∨ ¬ B r) fun v H' => v = .tuple [] ∧ Rd B p H' s (dataM s most ll dl F t) most := by
  obtain ⟨w, hp, hw⟩ := h
  refine acall_of hmix Try.func49 x49_ok (by simp) ?_
  have hpl := hB _ hBp
  simp
  have hw1 : OwnX (fun r => B r ∨ r = H.length ∨ r = H.length + 1) (H ++ [.cells 0 false 69 (bookCells ll lw (mostG ll 15)), .cells 0 false 69 (bookCells dl dw (mostG dl 15))]) 5 w (bytesOf t.out) := by
    have : OwnX (fun r => B r ∨ r = H.length ∨ r = H.length + 1) H 5 w (bytesOf t.out) := hw.sub fun r h1 h2 => by rcases h2 with h2 | h2 | h2 <;> first | exact h2 | omega
    exact this.keep fun k _ hk => List.getElem?_append_left hk
  refine vc_loop (inv49 B p s most ll dl (dataM s most ll dl F t) H (.cells 0 false 69 (bookCells ll lw (mostG ll 15))) (.cells 0 false 69 (bookCells dl dw (mostG dl 15)))) F
    ⟨t, ⟨w, by rw [List.getElem?_append_left hpl]; exact hp, hw1⟩, hat, hout, rfl, hF, by simp, by simp, by simp, by simp, by simp, by simp, fun r hr _ => List.getElem?_append_left (hB r hr)⟩ ?_
  rintro n env H1 ⟨t1, hR1, hat1, hout1, hdat, hn, e0, e4, e5, hK1, hK2, hl1, hF1⟩
  have hB1 : ∀ r, (B r ∨ r = H.length ∨ r = H.length + 1) → r < H1.length := by
    rintro r (h | h | h)
    · have := hB r h; omega
    · omega
    · omega
  have hw2B : ∀ {H2 : AHeap} {t2 : St}, Rd (fun r => B r ∨ r = H.length ∨ r = H.length + 1) p H2 s t2 most → Rd B p H2 s t2 most := by
    rintro H2 t2 ⟨w2, h1, h2⟩
    exact ⟨w2, h1, h2.sub fun r _ h => .inl h⟩
  have hne1 : H.length ≠ p := by omega
  have hne2 : H.length + 1 ≠ p := by omega
  obtain ⟨w1, hp1, hw1⟩ := id hR1
  have hL1 := aloads_at hK1 (o := 0) (n := 18)
  simp at hL1
  have hL2 := aloads_at hK2 (o := 0) (n := 18)
  simp at hL2
  have gK1 := ageOk_at hK1
  have gK2 := ageOk_at hK2
  obtain ⟨n', rfl⟩ : ∃ n', n = n' + 1 := ⟨n - 1, by omega⟩
  rw [dataM] at hdat
  simp (config := {contextual := true, implicitDefEqProofs := false}) (disch := omega) [e0, e4, e5]
  refine call1_eq (ok_ok hp1) ?_
  by_cases c1 : t1.err = 0
  · rw [if_neg (by simp [c1])] at hdat
    simp (config := {contextual := true, implicitDefEqProofs := false}) (disch := omega) [e0, e4, e5, c1, hL1]
    have hi1 : Ints H1 lw (ordG ll 15) := hi.keepAt fun r hr _ => hF1 r (hlw r hr).1 (hlw r hr).2
    have hid1 : Ints H1 dw (ordG dl 15) := hid.keepAt fun r hr _ => hF1 r (hdw r hr).1 (hdw r hr).2
    refine call1_of (sym_ok hp1 hs hat1 hi1 (fun c => (hlw p c).2 rfl) hl) (fun r h => .inl (.inl (.inl h))) ?_
    rintro v H2 ⟨rfl, hp2⟩ hl2 hF2
    have hsf := symG_facts s ll t1 hat1
    generalize hd2 : symG s ll t1 = dd at *
    obtain ⟨k, t2⟩ := dd
    simp only [] at *
    have hR2 : Rd (fun r => B r ∨ r = H.length ∨ r = H.length + 1) p H2 s t2 most := Rd.keep hw1 hp2 hsf.2.1 (fun r h1 h2 => hF2 r h2 h1) (.inl hBp)
    have hB2 : ∀ r, (B r ∨ r = H.length ∨ r = H.length + 1) → r < H2.length := fun r hr => by have := hB1 r hr; omega
    have hK12 : H2[H.length]? = some (.cells 0 false 69 (bookCells ll lw (mostG ll 15))) := by rw [hF2 _ (by omega) hne1]; exact hK1
    have hK22 : H2[H.length + 1]? = some (.cells 0 false 69 (bookCells dl dw (mostG dl 15))) := by rw [hF2 _ (by omega) hne2]; exact hK2
    have hF2' : ∀ r, B r → r ≠ p → H2[r]? = H[r]? := fun r h1 h2 => by rw [hF2 r (hB1 r (.inl h1)) h2, hF1 r h1 h2]
    have ho2 : t2.out.length ≤ most := by rw [hsf.2.1]; exact hout1
    have hL22 := aloads_at hK22 (o := 0) (n := 18)
    simp at hL22
    simp (config := {contextual := true, implicitDefEqProofs := false}) (disch := omega) [e0, e4, e5, c1]
    refine call1_eq (ok_ok hp2) ?_
    by_cases c2 : t2.err = 0
    · have hsa := hsf.2.2.2.2 c2
      by_cases c3 : k = 256
      · rw [if_pos (.inr c3)] at hdat
        simp (config := {contextual := true, implicitDefEqProofs := false}) (disch := omega) [e0, e4, e5, c1, c2, c3]
        rw [hdat]; exact hw2B hR2
      · rw [if_neg (by simp [c2, c3])] at hdat
        -- the state behind the call
        have fin : ∀ (t3 : St) (H3 : AHeap), Rd (fun r => B r ∨ r = H.length ∨ r = H.length + 1) p H3 s t3 most → t2.at' ≤ t3.at' → t3.at' ≤ 8 * s.length → t3.out.length ≤ most → dataM s most ll dl (n' + 1) t = dataM s most ll dl (n' + 1) t →
            dataM s most ll dl F t = dataM s most ll dl n' t3 → H2.length ≤ H3.length → (∀ r, r < H2.length → ¬ (r = p ∨ ¬ (B r ∨ r = H.length ∨ r = H.length + 1)) → H3[r]? = H2[r]?) → ∀ env' : Env, env' 0 = .ptr p 0 0 → env' 4 = .ptr H.length 0 0 → env' 5 = .ptr (H.length + 1) 0 0 →
            again (inv49 B p s most ll dl (dataM s most ll dl F t) H (.cells 0 false 69 (bookCells ll lw (mostG ll 15))) (.cells 0 false 69 (bookCells dl dw (mostG dl 15)))) (n' + 1) env' H3 := by
          intro t3 H3 hR3 h1 h2 h3 _ h4 h5 h6 env' f0 f4 f5
          refine again_iff n' (by omega) ⟨t3, hR3, h2, h3, h4, by omega, f0, f4, f5, ?_, ?_, by omega, ?_⟩
          · rw [h6 _ (by omega) (by simp [hne1])]; exact hK12
          · rw [h6 _ (by omega) (by simp [hne2])]; exact hK22
          · intro r hr hrp
            rw [h6 r (hB2 r (.inl hr)) (by simp [hrp, hr])]; exact hF2' r hr hrp
        have hfp : ∀ r, (r = p ∨ ¬ (B r ∨ r = H.length ∨ r = H.length + 1)) → ((r = p ∨ ¬ B r) ∨ H.length ≤ r) ∨ H2.length ≤ r := by
          rintro r (h | h)
          · exact .inl (.inl (.inl h))
          · exact .inl (.inl (.inr fun c => h (.inl c)))
        have hkn : k = (k.toNat : Int) := by omega
        by_cases c4 : k < 256
        · rw [if_pos c4] at hdat
          have hc : ((UInt8.ofNat k.toNat).toNat : Int) = IntKind.u8.wrap k := by
            have h2 : k.toNat < 256 := by omega
            have h3 : (UInt8.ofNat k.toNat).toNat = k.toNat := by simp [Nat.mod_eq_of_lt h2]
            rw [h3]
            have h5 := u8_nat (n := k.toNat) (by omega)
            rw [← hkn] at h5
            rw [h5]; omega
          have hpf := putM_facts s (c := UInt8.ofNat k.toNat) ho2
          simp (config := {contextual := true, implicitDefEqProofs := false}) (disch := omega) [e0, e4, e5, c1, c2, c3, c4]
          have hput := put_ok hB2 (.inl hBp) hR2 c2 hmost (c := UInt8.ofNat k.toNat)
          rw [hc] at hput
          refine call1_of hput hfp ?_
          rintro v H3 ⟨rfl, hR3⟩ hl3 hF3
          simp (config := {contextual := true, implicitDefEqProofs := false}) (disch := omega) [e0, e4, e5]
          exact fin _ H3 hR3 (by omega) (by omega) hpf.2 rfl hdat hl3 hF3 _ (by simp [e0]) (by simp [e4]) (by simp [e5])
        · rw [if_neg c4] at hdat
          by_cases c5 : 285 < k
          · rw [if_pos c5] at hdat
            simp (config := {contextual := true, implicitDefEqProofs := false}) (disch := omega) [e0, e4, e5, c1, c2, c3, c4, c5]
            refine call1_of (fail_rd hB2 (.inl hBp) hR2) hfp ?_
            rintro v H3 ⟨rfl, hR3⟩ hl3 hF3
            simp (config := {contextual := true, implicitDefEqProofs := false}) (disch := omega) [e0, e4, e5]
            exact fin _ H3 hR3 (by simp) (by simp; omega) (by simpa using ho2) rfl hdat hl3 hF3 _ (by simp [e0]) (by simp [e4]) (by simp [e5])
          · rw [if_neg c5] at hdat
            have hmf := matchM_facts s (k := k.toNat) (dl := dl) ho2 hsf.2.2.1
            simp (config := {contextual := true, implicitDefEqProofs := false}) (disch := omega) [e0, e4, e5, c1, c2, c3, c4, c5, hL22]
            have hid2 : Ints H2 dw (ordG dl 15) := hid.keepAt fun r hr _ => hF2' r (hdw r hr).1 (hdw r hr).2
            have hm := match_ok hB2 (.inl hBp) hR2 c2 hs hsf.2.2.1 hmost ho2 (k := k.toNat) (by omega) (by omega) hid2 (fun r hr => ⟨.inl (hdw r hr).1, (hdw r hr).2⟩) hdl
            rw [← hkn] at hm
            refine call1_of hm hfp ?_
            rintro v H3 ⟨rfl, hR3⟩ hl3 hF3
            simp (config := {contextual := true, implicitDefEqProofs := false}) (disch := omega) [e0, e4, e5]
            exact fin _ H3 hR3 hmf.1 hmf.2.1 hmf.2.2 rfl hdat hl3 hF3 _ (by simp [e0]) (by simp [e4]) (by simp [e5])
    · rw [if_pos (.inl c2)] at hdat
      simp (config := {contextual := true, implicitDefEqProofs := false}) (disch := omega) [e0, e4, e5, c1, c2]
      rw [hdat]; exact hw2B hR2
  · rw [if_pos c1] at hdat
    simp (config := {contextual := true, implicitDefEqProofs := false}) (disch := omega) [e0, e4, e5, c1]
    rw [hdat]; exact hw2B hR1
end
end Go.Proofs.Ytdknddicpdhkcaa.Ab

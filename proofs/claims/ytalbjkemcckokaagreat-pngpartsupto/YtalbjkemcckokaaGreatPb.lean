/- digest.Crc. Conditions: the text's length; for the statements about layer 48. -/
import Derived.Test.YtalbjkemcckokaaGreatPa
import Derived.Test.YtalbjkemcckokaaGreatPf
namespace Go.Proofs.YtalbjkemcckokaaGreat.Ab
set_option linter.unusedVariables false
set_option linter.unusedSimpArgs false
set_option maxRecDepth 100000

def tabV : List AVal := (List.range 256).map fun j => .int .u32 ((crcK 8 j : Nat) : Int)
theorem tabV_len : tabV.length = 256 := by simp [tabV]
theorem tabV_get {j : Nat} (h : j < 256) : tabV[j]? = some (.int .u32 ((crcK 8 j : Nat) : Int)) := by simp [tabV, h]
theorem tabV_of {cs : List AVal} (hl : cs.length = 256) (h : ∀ j, j < 256 → cs[j]? = some (.int .u32 ((crcK 8 j : Nat) : Int))) : cs = tabV := by
  apply List.ext_getElem?
  intro j
  by_cases hj : j < 256
  · rw [h j hj, tabV_get hj]
  · rw [List.getElem?_eq_none (by omega), List.getElem?_eq_none (by rw [tabV_len]; omega)]

def inv75 (H : AHeap) (n : Nat) (env : Env) (H' : AHeap) : Prop :=
  ∃ (i : Nat) (z cs : List AVal), n = 256 - i ∧ i ≤ 256 ∧ env 0 = .ptr H.length 0 0 ∧ env 1 = .ptr (H.length + 1) 0 0 ∧ env 4 = .int .i64 i ∧ H'[H.length]? = some (.cells 0 false 104 z) ∧ z.length = 256 ∧ H'[H.length + 1]? = some (.cells 0 false 104 cs) ∧ cs.length = 256 ∧ ∀ j, j < i → cs[j]? = some (.int .u32 ((crcK 8 j : Nat) : Int))
def inv75b (H : AHeap) (H1 : AHeap) (i : Nat) (n : Nat) (env : Env) (H' : AHeap) : Prop :=
  ∃ (k c : Nat), n = 8 - k ∧ k ≤ 8 ∧ c < 4294967296 ∧ crcK 8 i = crcK (8 - k) c ∧ H' = H1 ∧ env 0 = .ptr H.length 0 0 ∧ env 1 = .ptr (H.length + 1) 0 0 ∧ env 4 = .int .i64 i ∧ env 2 = .int .i64 i ∧ env 3 = .int .u32 c ∧ env 9 = .int .i64 k

theorem fdiv_nat (a b : Nat) : Int.fdiv (a : Int) ((2 : Int) ^ b) = ((a / 2 ^ b : Nat) : Int) := by
  rw [show (2 : Int) ^ b = ((2 ^ b : Nat) : Int) by simp, Int.fdiv_eq_ediv_of_nonneg _ (Int.natCast_nonneg _)]; simp
theorem shr32a (c : Nat) : abin .shr (.int .u32 (c : Int)) (.int .u64 1) = some (.int .u32 ((c / 2 : Nat) : Int)) := by
  rw [abin_shr (by omega)]
  have := fdiv_nat c 1
  simp only [bits_u32, show min (1 : Int).toNat 32 = 1 by decide] at this ⊢
  rw [this, show (2 : Nat) ^ 1 = 2 by rfl]
theorem shr32b (c : Nat) : abin .shr (.int .u32 (c : Int)) (.int .u64 8) = some (.int .u32 ((c / 256 : Nat) : Int)) := by
  rw [abin_shr (by omega)]
  have := fdiv_nat c 8
  simp only [bits_u32, show min (8 : Int).toNat 32 = 8 by decide] at this ⊢
  rw [this, show (2 : Nat) ^ 8 = 256 by rfl]
theorem and1 {c : Nat} (hc : c < 4294967296) : abin .and (.int .u32 (c : Int)) (.int .u32 1) = some (.int .u32 ((c % 2 : Nat) : Int)) := by
  have := and32 hc (b := 1) (by omega)
  rw [Nat.and_one_is_mod] at this
  exact this

theorem table_ok (H : AHeap) (fp : Nat → Prop) : ACall Tryz.prog 75 [] H fp fun v H' => v = .agg tabV ∧ H' = H := by
  refine ((ACall.drop (fp := fp) (R := fun v _ => v = .agg tabV) (?_) fun v H' e => by rw [e]; rfl)).mono fun v H' q => ⟨by obtain ⟨_, _, h, _⟩ := q; exact h, q.1⟩
  refine acall_of hmix Tryz.func75 x75_ok (by simp) ?_
  simp
  refine vc_loop (inv75 H) 256 ?_ ?_
  · refine ⟨0, List.replicate 256 (.int .u32 0), List.replicate 256 (.int .u32 0), rfl, by omega, by simp, by simp, by simp, ?_, List.length_replicate, ?_, List.length_replicate, fun j hj => by omega⟩
    · rw [List.getElem?_append_right (Nat.le_refl _), Nat.sub_self]; rfl
    · rw [List.getElem?_append_right (by omega), show H.length + 1 - H.length = 1 by omega]; rfl
  · rintro n env H' ⟨i, z, cs, rfl, hi, e0, e1, e4, hz, hzl, hc, hcl, hcs⟩
    simp (config := {contextual := true, implicitDefEqProofs := false}) (disch := omega) [e0, e1, e4]
    refine ⟨fun h1 => ?_, fun h1 => ?_⟩
    · have hi2 : i < 256 := by omega
      refine vc_loop_cut 2 (inv75b H H' i 0) (inv75b H H' i) 8 ?_ ?_ ?_
      · exact ⟨0, i, rfl, by omega, by omega, rfl, rfl, by simp [e0], by simp [e1], by simp [e4], by simp, by simp [u32_nat (show i < 4294967296 by omega)], by simp⟩
      · rintro n env2 H2 ⟨k, c, rfl, hk, hc1, hc2, rfl, f0, f1, f4, f2, f3, f9⟩
        have hx : abin .xor (.int .u32 ((c / 2 : Nat) : Int)) (.int .u32 3988292384) = some (.int .u32 ((c / 2 ^^^ 3988292384 : Nat) : Int)) := xor32 (a := c / 2) (b := 3988292384) (by omega) (by omega)
        simp (config := {contextual := true, implicitDefEqProofs := false}) (disch := omega) [f0, f1, f4, f2, f3, f9, and1 hc1, shr32a, hx, i64_id, -abin_xor, -Int.natCast_ediv, -Int.natCast_emod]
        refine ⟨fun g1 => ?_, fun g1 => ?_⟩
        · have hs : crcK (8 - k) c = crcK (8 - (k + 1)) (crc1 c) := by rw [show 8 - k = (8 - (k + 1)) + 1 by omega, crcK]
          rw [hs] at hc2
          refine ⟨fun g2 => ?_, fun g2 => ?_⟩
          · have e : crc1 c = c / 2 ^^^ 3988292384 := by unfold crc1; rw [if_pos (by omega)]
            rw [e] at hc2
            exact again_iff (8 - (k + 1)) (by omega) ⟨k + 1, _, rfl, by omega, by rw [← e]; exact crc1_lt hc1, hc2, rfl, by simp [f0], by simp [f1], by simp [f4], by simp [f2], by simp, by simp⟩
          · have e : crc1 c = c / 2 := by unfold crc1; rw [if_neg (by omega)]
            rw [e] at hc2
            exact again_iff (8 - (k + 1)) (by omega) ⟨k + 1, _, rfl, by omega, by omega, hc2, rfl, by simp [f0], by simp [f1], by simp [f4], by simp [f2], by simp, by simp⟩
        · have : k = 8 := by omega
          subst this
          exact ⟨8, c, rfl, by omega, hc1, hc2, rfl, by simp [f0], by simp [f1], by simp [f4], by simp [f2], by simp [f3], by simp [f9]⟩
      · rintro env2 H2 ⟨k, c, hk0, hk, hc1, hc2, rfl, f0, f1, f4, f2, f3, f9⟩
        have hk8 : k = 8 := by omega
        subst hk8
        simp only [crcK, Nat.sub_self] at hc2
        have hag := ageOk_at hc
        have hst : astore H2 (H.length + 1) 0 i (.int .u32 (c : Int)) = some (H2.set (H.length + 1) (.cells 0 false 104 (cs.set i (.int .u32 (c : Int))))) := by rw [astore_at hc]; simp [hcl, hi2]
        simp (config := {contextual := true, implicitDefEqProofs := false}) (disch := omega) [f0, f1, f4, f2, f3, f9, hag, hst, i64_id, h1, hi2]
        have hlt := (List.getElem?_eq_some_iff.1 hc).1

        refine again_iff (256 - (i + 1)) (by omega) ⟨i + 1, z, cs.set i (.int .u32 (c : Int)), rfl, by omega, by simp [f0], by simp [f1], by simp, ?_, hzl, ?_, by simp [hcl], ?_⟩
        · rw [List.getElem?_set_ne (by omega)]; exact hz
        · rw [List.getElem?_set_self hlt]
        · intro j hj
          by_cases e : j = i
          · subst e
            rw [List.getElem?_set_self (by omega), ← hc2]; rfl
          · rw [List.getElem?_set_ne (by omega)]; exact hcs j (by omega)
    · have : i = 256 := by omega
      subst this
      have he := tabV_of hcl hcs
      subst he
      have hlt := (List.getElem?_eq_some_iff.1 hz).1
      have hl1 : aloads H' (H.length + 1) 0 0 256 = some tabV := by
        rw [aloads_at hc, if_pos (by rw [hcl]; omega), List.drop_zero, List.take_of_length_le (by omega)]
      have hag := ageOk_at hz
      have hst : astores H' H.length 0 0 tabV = some (H'.set H.length (.cells 0 false 104 tabV)) := astores_at_all hz (by rw [hzl, tabV_len]) (by simp [tabV, AVal.one])
      have hl2 : aloads (H'.set H.length (.cells 0 false 104 tabV)) H.length 0 0 256 = some tabV := by
        rw [aloads_at (List.getElem?_set_self hlt), if_pos (by rw [tabV_len]; omega), List.drop_zero, List.take_of_length_le (by omega)]
      simp (config := {contextual := true, implicitDefEqProofs := false}) (disch := omega) [e0, e1, hl1, hag, tabV_len, hst, resVal, hl2]

def z256 : List AVal := List.replicate 256 (.int .u32 0)
def x43s : XFun := ⟨26, [(.tmp 2)], (.seq (.ops [⟨some 2, none, (.s (.move (.c (.int .u32 0))))⟩]) (.seq (.ops [⟨some 6, none, (.call 75 [])⟩, ⟨some 3, none, (.e (.new 104 z256))⟩, ⟨none, none, (.e (.store 256 (.t 3) (.t 6)))⟩]) (.seq (.ops [⟨some 4, none, (.s (.move (.c (.int .u32 4294967295))))⟩]) (.seq (.seq (.ops [⟨some 7, none, (.s (.move (.t 0)))⟩, ⟨some 8, none, (.s (.lenS (.t 7)))⟩, ⟨some 9, none, (.s (.move (.c (.int .i64 0))))⟩]) (.block 0 (.loop (.seq (.ops [⟨some 10, none, (.s (.bin .lss (.t 9) (.t 8)))⟩]) (.seq (.cond (.t 10) .skip (.exit 0)) (.seq (.block 1 (.seq (.ops [⟨some 11, none, (.s (.move (.t 9)))⟩, ⟨some 5, none, (.s (.move (.t 11)))⟩]) (.ops [⟨some 12, none, (.s (.move (.t 4)))⟩, ⟨some 13, none, (.s (.convI .u8 (.t 12)))⟩, ⟨some 14, none, (.s (.move (.t 0)))⟩, ⟨some 15, none, (.s (.move (.t 5)))⟩, ⟨some 16, none, (.s (.idxStr (.t 14) (.t 15)))⟩, ⟨some 17, none, (.s (.bin .xor (.t 13) (.t 16)))⟩, ⟨some 18, none, (.s (.idxA 256 1 (.t 3) (.t 17)))⟩, ⟨some 19, none, (.s (.load1 (.t 18)))⟩, ⟨some 20, none, (.s (.move (.t 4)))⟩, ⟨some 21, none, (.s (.bin .shr (.t 20) (.c (.int .u64 8))))⟩, ⟨some 22, none, (.s (.bin .xor (.t 19) (.t 21)))⟩, ⟨some 4, none, (.s (.move (.t 22)))⟩]))) (.ops [⟨some 23, none, (.s (.bin .add (.t 9) (.c (.int .i64 1))))⟩, ⟨some 9, none, (.s (.move (.t 23)))⟩]))))))) (.seq (.ops [⟨some 24, none, (.s (.move (.t 4)))⟩, ⟨some 25, none, (.s (.un .xor (.t 24)))⟩, ⟨some 2, none, (.s (.move (.t 25)))⟩]) .ret)))))⟩
theorem x43s_ok : xfun Tryz.prog Tryz.f43 = some x43s := x43_ok
def inv43c (H : AHeap) (s : List UInt8) (n : Nat) (env : Env) (H' : AHeap) : Prop :=
  ∃ (i c : Nat), n = s.length - i ∧ i ≤ s.length ∧ c < 4294967296 ∧ crcN s 4294967295 = crcN (s.drop i) c ∧ env 0 = .str s ∧ env 3 = .ptr H.length 0 0 ∧ env 4 = .int .u32 c ∧ env 8 = .int .i64 s.length ∧ env 9 = .int .i64 i ∧ H'[H.length]? = some (.cells 0 false 104 tabV)

theorem crc_ok (s : List UInt8) (hs : s.length ≤ 2 ^ 60) (H : AHeap) (fp : Nat → Prop) : ACall Tryz.prog 43 [.str s] H fp fun v H' => v = .int .u32 (crcG s) ∧ H' = H := by
  refine ((ACall.drop (fp := fp) (R := fun v _ => v = .int .u32 (crcG s)) (?_) fun v H' e => by rw [e]; rfl)).mono fun v H' q => ⟨by obtain ⟨_, _, h, _⟩ := q; exact h, q.1⟩
  refine acall_of hmix Tryz.func43 x43s_ok (by simp) ?_
  simp
  refine call1_eq (table_ok _ _) ?_
  have hz : astores [.cells 0 false 104 z256] 0 0 0 tabV = some [.cells 0 false 104 tabV] := by
    rw [astores_at_all (H := [.cells 0 false 104 z256]) (r := 0) rfl (by rw [tabV_len]; exact List.length_replicate) (by simp [tabV, AVal.one])]
    rfl
  simp (config := {contextual := true, implicitDefEqProofs := false}) (disch := omega) [tabV_len, hz]
  refine vc_loop (inv43c H s) s.length ?_ ?_
  · exact ⟨0, 4294967295, rfl, by omega, by omega, rfl, by simp, by simp, by simp, by simp, by simp, by simp⟩
  · rintro n env H' ⟨i, c, rfl, hi, hc, he, e0, e3, e4, e8, e9, hb⟩
    simp (config := {contextual := true, implicitDefEqProofs := false}) (disch := omega) [e0, e3, e4, e8, e9]
    refine ⟨fun h1 => ?_, fun h1 => ?_⟩
    · obtain ⟨b, hb2⟩ : ∃ b, chr s i = b := ⟨_, rfl⟩
      have hbl := UInt8.toNat_lt b
      have hidx : vIdxStr (.str s) (.int .i64 (i : Int)) = some (.int .u8 (b.toNat : Int)) := by rw [vIdxStr_nat h1, hb2]
      have hw : IntKind.u8.wrap (c : Int) = ((c % 256 : Nat) : Int) := by simp [IntKind.wrap, IntKind.bits, IntKind.signed]
      have hx := xorB (a := c % 256) (b := b.toNat) (by omega) (by omega)
      have hxl : (c % 256) ^^^ b.toNat < 256 := Nat.xor_lt_two_pow (n := 8) (by omega) (by omega)
      have hag := ageOk_at hb
      have hld : aload H' H.length 0 ((c % 256) ^^^ b.toNat) = some (.int .u32 ((crcK 8 ((c % 256) ^^^ b.toNat) : Nat) : Int)) := by rw [aload_at hb, tabV_get hxl]
      have hidxA : vIdxA H' 256 1 (.ptr H.length 0 0) (.int .u8 (((c % 256) ^^^ b.toNat : Nat) : Int)) = some (.ptr H.length 0 ((c % 256) ^^^ b.toNat)) := by
        rw [vIdxA_ptr hag (by omega) (by omega)]; simp
      have hx2 := xor32 (a := crcK 8 ((c % 256) ^^^ b.toNat)) (b := c / 256) (crcK_lt 8 (by omega)) (by omega)
      simp (config := {contextual := true, implicitDefEqProofs := false}) (disch := omega) [e0, e3, e4, e9, hidx, hw, hx, hidxA, hld, shr32b, hx2, i64_id, -abin_xor, -Int.natCast_ediv, -Int.natCast_emod, -vIdxA_ptr']
      have hd : s.drop i = b :: s.drop (i + 1) := by rw [← hb2, chr, List.getD_eq_getElem?_getD, List.getElem?_eq_getElem h1]; exact List.drop_eq_getElem_cons h1
      rw [hd, crcN, crc_step _ _ (by omega)] at he
      exact again_iff (s.length - (i + 1)) (by omega) ⟨i + 1, _, rfl, by omega, xor_lt32 (crcK_lt 8 (by omega)) (by omega), he, by simp [e0], by simp [e3], by simp, by simp [e8], by simp, hb⟩
    · have : s.drop i = [] := List.drop_eq_nil_of_le (by omega)
      rw [this, crcN] at he
      simp (config := {contextual := true, implicitDefEqProofs := false}) (disch := omega) [e4, not32 hc, crcG, he]
end Go.Proofs.YtalbjkemcckokaaGreat.Ab

/- Deflate: the specification's writer of bits. Conditions: none; for the statements about layer 47. -/
import Derived.Test.YtdknddicpdhkcaaDa
namespace Go.Proofs.Ytdknddicpdhkcaa.Ab
set_option linter.unusedVariables false
set_option linter.unusedSimpArgs false

def rest59 : XCode := (.seq (.seq (.ops [⟨some 19, none, (.s (.move (.t 1)))⟩, ⟨some 20, none, (.s (.bin .eql (.t 19) (.c (.int .i64 1))))⟩]) (.cond (.t 20) (.draw [⟨⟨some 21, none, (.s (.move (.t 0)))⟩, 0, []⟩, ⟨⟨some 22, none, (.s (.nilCheck (.t 21)))⟩, 1, []⟩, ⟨⟨some 23, none, (.s (.fieldAddr 0 (.t 22)))⟩, 2, []⟩, ⟨⟨some 24, none, (.s (.load1 (.t 23)))⟩, 3, []⟩, ⟨⟨some 25, none, (.s (.move (.t 0)))⟩, 4, []⟩, ⟨⟨some 26, none, (.s (.nilCheck (.t 25)))⟩, 5, []⟩, ⟨⟨some 27, none, (.s (.fieldAddr 1 (.t 26)))⟩, 6, []⟩, ⟨⟨some 28, none, (.s (.load1 (.t 27)))⟩, 7, []⟩, ⟨⟨some 29, none, (.s (.bin .quo (.t 28) (.c (.int .i64 8))))⟩, 8, []⟩, ⟨⟨some 30, none, (.s (.move (.t 0)))⟩, 9, []⟩, ⟨⟨some 31, none, (.s (.nilCheck (.t 30)))⟩, 10, []⟩, ⟨⟨some 32, none, (.s (.fieldAddr 0 (.t 31)))⟩, 11, []⟩, ⟨⟨some 33, none, (.s (.load1 (.t 32)))⟩, 12, []⟩, ⟨⟨some 34, none, (.s (.move (.t 0)))⟩, 13, []⟩, ⟨⟨some 35, none, (.s (.nilCheck (.t 34)))⟩, 14, []⟩, ⟨⟨some 36, none, (.s (.fieldAddr 1 (.t 35)))⟩, 15, []⟩, ⟨⟨some 37, none, (.s (.load1 (.t 36)))⟩, 16, []⟩, ⟨⟨some 38, none, (.s (.bin .quo (.t 37) (.c (.int .i64 8))))⟩, 17, []⟩, ⟨⟨some 39, none, (.s (.idxS 1 (.t 33) (.t 38)))⟩, 18, []⟩, ⟨⟨some 40, none, (.s (.load1 (.t 39)))⟩, 19, []⟩, ⟨⟨some 41, none, (.s (.move (.t 0)))⟩, 20, []⟩, ⟨⟨some 42, none, (.s (.nilCheck (.t 41)))⟩, 21, []⟩, ⟨⟨some 43, none, (.s (.fieldAddr 1 (.t 42)))⟩, 22, []⟩, ⟨⟨some 44, none, (.s (.load1 (.t 43)))⟩, 23, []⟩, ⟨⟨some 45, none, (.s (.bin .rem (.t 44) (.c (.int .i64 8))))⟩, 24, []⟩, ⟨⟨some 46, none, (.s (.bin .shl (.c (.int .u8 1)) (.t 45)))⟩, 25, []⟩, ⟨⟨some 47, none, (.s (.bin .add (.t 40) (.t 46)))⟩, 26, []⟩, ⟨⟨some 48, none, (.s (.idxS 1 (.t 24) (.t 29)))⟩, 27, []⟩, ⟨⟨none, none, (.e (.store 1 (.t 48) (.t 47)))⟩, 28, []⟩]) .skip)) (.ops [⟨some 49, none, (.s (.move (.t 0)))⟩, ⟨some 50, none, (.s (.nilCheck (.t 49)))⟩, ⟨some 51, none, (.s (.fieldAddr 1 (.t 50)))⟩, ⟨some 52, none, (.s (.load1 (.t 51)))⟩, ⟨some 53, none, (.s (.bin .add (.t 52) (.c (.int .i64 1))))⟩, ⟨some 54, none, (.s (.nilCheck (.t 49)))⟩, ⟨some 55, none, (.s (.fieldAddr 1 (.t 54)))⟩, ⟨none, none, (.e (.store 1 (.t 55) (.t 53)))⟩]))
def x59s : XFun := ⟨56, [], (.seq (.seq (.ops [⟨some 4, none, (.s (.move (.t 0)))⟩, ⟨some 5, none, (.s (.nilCheck (.t 4)))⟩, ⟨some 6, none, (.s (.fieldAddr 1 (.t 5)))⟩, ⟨some 7, none, (.s (.load1 (.t 6)))⟩, ⟨some 8, none, (.s (.bin .rem (.t 7) (.c (.int .i64 8))))⟩, ⟨some 9, none, (.s (.bin .eql (.t 8) (.c (.int .i64 0))))⟩]) (.cond (.t 9) (.ops [⟨some 10, none, (.s (.move (.t 0)))⟩, ⟨some 11, none, (.s (.move (.t 0)))⟩, ⟨some 12, none, (.s (.nilCheck (.t 11)))⟩, ⟨some 13, none, (.s (.fieldAddr 0 (.t 12)))⟩, ⟨some 14, none, (.s (.load1 (.t 13)))⟩, ⟨some 15, none, (.e (.buildSlice 5 1 1 [(.int .u8 0)] [(0, 1, (.c (.int .u8 0)))]))⟩, ⟨some 16, none, (.e (.append 1 1 5 (.t 14) (.t 15)))⟩, ⟨some 17, none, (.s (.nilCheck (.t 10)))⟩, ⟨some 18, none, (.s (.fieldAddr 0 (.t 17)))⟩, ⟨none, none, (.e (.store 1 (.t 18) (.t 16)))⟩]) .skip)) rest59)⟩
theorem x59s_ok : xfun Try.prog Try.f59 = some x59s := x59_ok

section
variable {B : Nat → Prop} {p : Nat} {H : AHeap} {l : List Nat} {ety : Nat} {w : AVal} {n : Nat}
theorem rest59_ok {H0 : AHeap} {o : List UInt8} {x : Nat} {env : Env} (hB : ∀ r, B r → r < H.length) (hBp : B p) (hH : H0.length ≤ H.length) (hp : H[p]? = some (wrBlk ety w n)) (hw : OwnX B H 5 w (bytesOf o)) (ho : 0 < o.length) (hol : o.length ≤ 2 ^ 40) (hlast : (chr o (o.length - 1)).toNat < 2 ^ (n % 8)) (hn : n < 2 ^ 40) (hx : x ≤ 1) (hon : o.length - 1 = n / 8)
    (hl : l.length = n + 1) (hbl : ∀ b ∈ l, b ≤ 1) (hpk : pack l = o.set (o.length - 1) (UInt8.ofNat ((chr o (o.length - 1)).toNat + x * 2 ^ (n % 8)))) (e0 : env 0 = .ptr p 0 0) (e1' : env 1 = .int .i64 x) :
    vc (ACall Try.prog) (fun r => (r = p ∨ ¬ B r) ∨ H0.length ≤ r) rest59 (rpost [] fun v H' => v = .tuple [] ∧ Wd ety B p H' l) env H := by
  have h1 := ageOk_at hp
  have hpl := hB _ hBp
  have hlen := hw.sl.len
  rw [bytesOf_len] at hlen
  rcases hw with ⟨_, hc⟩ | ⟨r, g, hr, rfl, hb⟩
  · have : o = [] := by simpa [bytesOf] using hc
    subst this; simp at ho
  have hrp : r ≠ p := by intro c; subst c; exact hr hBp
  have hrl := (List.getElem?_eq_some_iff.1 hb).1
  have gb := ageOk_at hb
  have a1 : abin .rem (.int .i64 (n : Int)) (.int .i64 8) = some (.int .i64 ((n % 8 : Nat) : Int)) := by rw [abin_rem (by omega), Int.tmod_eq_emod_of_nonneg (by omega)]; rfl
  have a4 : abin .quo (.int .i64 (n : Int)) (.int .i64 8) = some (.int .i64 ((o.length - 1 : Nat) : Int)) := by
    rw [abin_quo (by omega), Int.tdiv_eq_ediv_of_nonneg (by omega), i64_id (by omega) (by omega), hon]; rfl
  have hld : aload H r g (o.length - 1) = some (.int .u8 (chr o (o.length - 1)).toNat) := by
    rw [aload_at hb]
    simp [bytesOf, chr, List.getD_eq_getElem?_getD, show o.length - 1 < o.length by omega]
  have hpw : 2 ^ (n % 8 + 1) ≤ 2 ^ 8 := Nat.pow_le_pow_right (by omega) (by omega)
  have hpe : 2 ^ (n % 8 + 1) = 2 ^ (n % 8) * 2 := Nat.pow_succ ..
  have hbm : x * 2 ^ (n % 8) ≤ 1 * 2 ^ (n % 8) := Nat.mul_le_mul_right _ (by omega)
  have a5 : abin .shl (.int .u8 1) (.int .i64 ((n % 8 : Nat) : Int)) = some (.int .u8 ((2 ^ (n % 8) : Nat) : Int)) := by
    rw [abin_shl (by omega)]
    simp only [bits_u8, Int.toNat_natCast, show min (n % 8) 8 = n % 8 by omega]
    rw [show (1 : Int) * 2 ^ (n % 8) = ((2 ^ (n % 8) : Nat) : Int) by simp, u8_nat (by omega)]
  have hv : ((UInt8.ofNat ((chr o (o.length - 1)).toNat + x * 2 ^ (n % 8))).toNat : Int) = (((chr o (o.length - 1)).toNat + x * 2 ^ (n % 8) : Nat) : Int) := by
    have : (UInt8.ofNat ((chr o (o.length - 1)).toNat + x * 2 ^ (n % 8))).toNat = ((chr o (o.length - 1)).toNat + x * 2 ^ (n % 8)) % 256 := by simp
    rw [this, Nat.mod_eq_of_lt (by omega)]
  have a9 : abin .add (.int .i64 (n : Int)) (.int .i64 1) = some (.int .i64 ((n + 1 : Nat) : Int)) := by rw [abin_add, i64_id (by omega) (by omega)]; rfl
  have hst : ∀ c : UInt8, astore H r g (o.length - 1) (.int .u8 (c.toNat : Nat)) = some (H.set r (.cells g false 5 (bytesOf (o.set (o.length - 1) c)))) := by
    intro c
    rw [astore_at hb, if_pos ⟨by rw [bytesOf_len]; omega, rfl⟩, bytesOf_set]
  have a9' := a9
  unfold rest59
  rw [bytesOf_len] at *
  by_cases hx1 : x = 1
  · subst hx1
    rw [Nat.one_mul] at hpk hv hbm
    have a6 : abin .add (.int .u8 ((chr o (o.length - 1)).toNat : Int)) (.int .u8 ((2 ^ (n % 8) : Nat) : Int)) = some (.int .u8 ((UInt8.ofNat ((chr o (o.length - 1)).toNat + 2 ^ (n % 8))).toNat : Int)) := by
      rw [abin_add, hv, ← Int.natCast_add, u8_nat (by omega)]
    have hst2 := hst (UInt8.ofNat ((chr o (o.length - 1)).toNat + 2 ^ (n % 8)))
    rw [← hpk] at hst2
    have hp2 : (H.set r (.cells g false 5 (bytesOf (pack l))))[p]? = some (wrBlk ety (.slice r g 0 o.length 1) n) := by
      rw [List.getElem?_set_ne hrp]; exact hp
    have hw2 : OwnX B (H.set r (.cells g false 5 (bytesOf (pack l)))) 5 (.slice r g 0 o.length 1) (bytesOf (pack l)) :=
      .inr ⟨r, g, hr, by rw [hpk]; simp, List.getElem?_set_self hrl⟩
    have g2 := ageOk_at hp2
    have s1 := ww1 hp2 (m := n + 1)
    have hpl2 : p < (H.set r (.cells g false 5 (bytesOf (pack l)))).length := by simpa using hpl
    generalize hvv : UInt8.ofNat ((chr o (o.length - 1)).toNat + 2 ^ (n % 8)) = vv at *
    simp (config := {contextual := true, implicitDefEqProofs := false}) (disch := omega) [e0, e1', h1, wd0 hp, wd1 hp, gb, a1, a4, a5, a6, hld, hst2, show ((o.length - 1 : Nat) : Int) < o.length by omega, show o.length - 1 < o.length by omega, -abin_add, -Int.natCast_emod, -Int.natCast_mul, -Int.natCast_pow]
    refine ⟨.inl (.inr hr), ?_⟩
    simp (config := {contextual := true, implicitDefEqProofs := false}) (disch := omega) [e0, e1', g2, wd1 hp2, a9, s1, -abin_add, -Int.natCast_add]
    exact Wd.set hw2 hl.symm hbl (by omega) hBp hpl2
  · have hx0 : x = 0 := by omega
    subst hx0
    have hpk2 : pack l = o := by
      rw [hpk, Nat.zero_mul, Nat.add_zero]
      have e : UInt8.ofNat (chr o (o.length - 1)).toNat = o[o.length - 1]'(by omega) := by simp [chr, List.getD_eq_getElem?_getD, show o.length - 1 < o.length by omega]
      rw [e]; simp
    have hw2 : OwnX B H 5 (.slice r g 0 o.length 1) (bytesOf (pack l)) := by rw [hpk2]; exact .inr ⟨r, g, hr, by simp, hb⟩
    have s1 := ww1 hp (m := n + 1)
    simp (config := {contextual := true, implicitDefEqProofs := false}) (disch := omega) [e0, e1', h1, wd0 hp, wd1 hp, a9, s1, -abin_add, -Int.natCast_add]
    exact Wd.set hw2 hl.symm hbl (by omega) hBp hpl

theorem rbit_ok (hB : ∀ r, B r → r < H.length) (hBp : B p) (h : Wd ety B p H l) {x : Nat} (hx : x ≤ 1) (hl : l.length < 2 ^ 40) :
    ACall Try.prog 59 [.ptr p 0 0, .int .i64 x] H (fun r => r = p ∨ ¬ B r) fun v H' => v = .tuple [] ∧ Wd ety B p H' (l ++ [x]) := by
  obtain ⟨⟨w, hp, hw⟩, hbits, _⟩ := h
  refine acall_of hmix Try.func59 x59s_ok (by simp) ?_
  have h1 := ageOk_at hp
  have hpl := hB _ hBp
  have hf := pk_facts l hbits
  have a1 : abin .rem (.int .i64 (l.length : Int)) (.int .i64 8) = some (.int .i64 ((l.length % 8 : Nat) : Int)) := by rw [abin_rem (by omega), Int.tmod_eq_emod_of_nonneg (by omega)]; rfl
  have hb2 : ∀ b ∈ l ++ [x], b ≤ 1 := by
    intro b hb
    rcases List.mem_append.1 hb with hb | hb
    · exact hbits b hb
    · simp at hb; omega
  have hpk : pack (l ++ [x]) = if l.length % 8 = 0 then pack l ++ [UInt8.ofNat (x)] else (pack l).set ((pack l).length - 1) (UInt8.ofNat ((chr (pack l) ((pack l).length - 1)).toNat + x * 2 ^ (l.length % 8))) := by
    unfold pack; rw [pk_snoc]; simp only [wstep, pk_two]
  by_cases c : l.length % 8 = 0
  · rw [if_pos c] at hpk
    have hw1 : OwnX B (H ++ [.cells 0 false 5 [.int .u8 0]]) 5 w (bytesOf (pack l)) := hw.keep fun k _ hk => List.getElem?_append_left hk
    have hp1 : (H ++ [.cells 0 false 5 [.int .u8 0]])[p]? = some (wrBlk ety w l.length) := by rw [List.getElem?_append_left hpl]; exact hp
    obtain ⟨w', H2, ha, hw2, hlen2, hfr2⟩ := hw1.append (fun r hr => by have := hB r hr; rw [List.length_append]; omega) (x := .slice H.length 0 0 1 1) (new := bytesOf [0]) (n := 1) (bytes := 1) (by simp [asrc, bytesOf]) (by simp) (by simp) (by rw [bytesOf_len]; simp [roomLim]; omega)
    rw [← bytesOf_app] at hw2
    have hp2 : H2[p]? = some (wrBlk ety w l.length) := by rw [hfr2 p hBp]; exact hp1
    have hpl2 : p < H2.length := (List.getElem?_eq_some_iff.1 hp2).1
    have s1 := ww0 hp2 hw2.one
    have g2 := ageOk_at hp2
    simp (config := {contextual := true, implicitDefEqProofs := false}) (disch := omega) [h1, wd0 hp, wd1 hp, a1, c, afill, zrep, -Int.natCast_emod]
    refine e1_of ha ?_ ?_
    · intro r ht
      have ht2 : appTarget w r := by simpa using ht
      exact .inl (.inr (hw.target ht2))
    have hp3 : (H2.set p (wrBlk ety w' l.length))[p]? = some (wrBlk ety w' l.length) := List.getElem?_set_self hpl2
    have hw3 : OwnX B (H2.set p (wrBlk ety w' l.length)) 5 w' (bytesOf (pack l ++ [0])) := hw2.keep fun k hk _ => List.getElem?_set_ne (by intro c; subst c; exact hk hBp)
    have hlen3 : H.length ≤ (H2.set p (wrBlk ety w' l.length)).length := by rw [List.length_append] at hlen2; simp; omega
    have hch : chr (pack l ++ [0]) ((pack l ++ [0]).length - 1) = 0 := by simp [chr, List.getD_eq_getElem?_getD, List.getElem?_append_right]
    simp (config := {contextual := true, implicitDefEqProofs := false}) (disch := omega) [g2, s1, hw2.known, hw2.cells]
    refine rest59_ok (o := pack l ++ [0]) (n := l.length) (w := w') (x := x) (fun r hr => by have := hB r hr; omega) hBp hlen3 hp3 hw3 (by simp) (by simp; omega) (by rw [hch, c]; decide) hl hx (by simp; omega) (by simp) hb2 ?_ (by simp) (by simp)
    rw [hpk, hch, c]
    simp [List.set_append]
  · rw [if_neg c] at hpk
    simp (config := {contextual := true, implicitDefEqProofs := false}) (disch := omega) [h1, wd0 hp, wd1 hp, a1, show ¬ ((l.length % 8 : Nat) : Int) = 0 by omega, c, -Int.natCast_emod]
    exact rest59_ok (o := pack l) (n := l.length) (w := w) (x := x) hB hBp (Nat.le_refl _) hp hw (by omega) (by omega) (hf.2 c) hl hx (by omega) (by simp) hb2 hpk (by simp) (by simp)

def inv35 (ety : Nat) (B : Nat → Prop) (p : Nat) (l : List Nat) (x N hl : Nat) (n : Nat) (env : Env) (H' : AHeap) : Prop :=
  ∃ i, i ≤ N ∧ n = N - i ∧ Wd ety B p H' (l ++ numB x i) ∧ hl ≤ H'.length ∧ env 0 = .ptr p 0 0 ∧ env 1 = .int .i64 x ∧ env 2 = .int .i64 N ∧ env 6 = .int .i64 i
theorem and1_i64 {x : Nat} (hx : x < 2 ^ 63) : abin .and (.int .i64 (x : Int)) (.int .i64 1) = some (.int .i64 ((x % 2 : Nat) : Int)) := by
  rw [abin_and]
  refine congrArg (fun x => some (AVal.int .i64 x)) ?_
  have := and_i64 (a := x) (b := 1) (by omega) (by omega)
  rw [Nat.and_two_pow_sub_one_eq_mod _ 1] at this
  exact this

theorem rnum_ok (hB : ∀ r, B r → r < H.length) (hBp : B p) (h : Wd ety B p H l) {x N : Nat} (hx : x < 2 ^ 62) (hN : N ≤ 60) (hl : l.length + 100 < 2 ^ 40) :
    ACall Try.prog 35 [.ptr p 0 0, .int .i64 x, .int .i64 N] H (fun r => r = p ∨ ¬ B r) fun v H' => v = .tuple [] ∧ Wd ety B p H' (l ++ numB x N) := by
  refine acall_of hmix Try.func35 x35_ok (by simp) ?_
  simp
  refine vc_loop (inv35 ety B p l x N H.length) N ⟨0, by omega, by omega, by simpa [numB] using h, Nat.le_refl _, by simp, by simp, by simp, by simp⟩ ?_
  rintro n env H1 ⟨i, hi, rfl, hW, hl1, e0, e1', e2, e6⟩
  by_cases hlt : i < N
  · have hdiv : x / 2 ^ i < 2 ^ 62 := Nat.lt_of_le_of_lt (Nat.div_le_self _ _) hx
    have hs := shr_nat (x := x) (i := i) (by omega)
    have a5 : abin .add (.int .i64 (i : Int)) (.int .i64 1) = some (.int .i64 ((i + 1 : Nat) : Int)) := by rw [abin_add, i64_id (by omega) (by omega)]; rfl
    simp (config := {contextual := true, implicitDefEqProofs := false}) (disch := omega) [e0, e1', e2, e6, hlt, hs, and1_i64, -abin_and, -Int.natCast_emod, -Int.natCast_ediv]
    refine call1_of (rbit_ok (fun r hr => by have := hB r hr; omega) hBp hW (x := x / 2 ^ i % 2) (by omega) (by simp; omega)) (fun r h => .inl (.inl h)) ?_
    rintro v H2 ⟨rfl, hW2⟩ hl2 _
    simp (config := {contextual := true, implicitDefEqProofs := false}) (disch := omega) [e0, e1', e2, e6, a5, -abin_add, -Int.natCast_add]
    exact again_iff (N - (i + 1)) (by omega) ⟨i + 1, hlt, rfl, by rw [numB_take x hlt, ← List.append_assoc]; exact hW2, by omega, by simp [e0], by simp [e1'], by simp [e2], by simp⟩
  · have : i = N := by omega
    subst this
    simp (config := {contextual := true, implicitDefEqProofs := false}) (disch := omega) [e0, e1', e2, e6]
    exact hW

theorem rcode_ok (hB : ∀ r, B r → r < H.length) (hBp : B p) (h : Wd ety B p H l) {x N : Nat} (hx : x < 2 ^ 62) (hN : N ≤ 60) (hl : l.length + 100 < 2 ^ 40) :
    ACall Try.prog 37 [.ptr p 0 0, .int .i64 x, .int .i64 N] H (fun r => r = p ∨ ¬ B r) fun v H' => v = .tuple [] ∧ Wd ety B p H' (l ++ codeB x N) := by
  refine acall_of hmix Try.func37 x37_ok (by simp) ?_
  simp (config := {contextual := true, implicitDefEqProofs := false}) (disch := omega) [i64_id]
  refine vc_loop (inv71 ety B p l x N H.length) N ⟨Nat.le_refl _, by simpa using h, Nat.le_refl _, by simp, by simp, by simp⟩ ?_
  rintro n env H1 ⟨hn, hW, hl1, e0, e1', e6⟩
  by_cases hlt : 0 < n
  · obtain ⟨n', rfl⟩ : ∃ n', n = n' + 1 := ⟨n - 1, by omega⟩
    have hdiv : x / 2 ^ n' < 2 ^ 62 := Nat.lt_of_le_of_lt (Nat.div_le_self _ _) hx
    have hs := shr_nat (x := x) (i := n') (by omega)
    have e6' : env 6 = .int .i64 (n' : Int) := by rw [e6]; congr 1; omega
    simp (config := {contextual := true, implicitDefEqProofs := false}) (disch := omega) [e0, e1', e6', hs, and1_i64, -abin_and, -Int.natCast_emod, -Int.natCast_ediv]
    refine call1_of (rbit_ok (fun r hr => by have := hB r hr; omega) hBp hW (x := x / 2 ^ n' % 2) (by omega) (by simp; omega)) (fun r h => .inl (.inl h)) ?_
    rintro v H2 ⟨rfl, hW2⟩ hl2 _
    simp (config := {contextual := true, implicitDefEqProofs := false}) (disch := omega) [e0, e1', e6', i64_id]
    exact again_iff n' (by omega) ⟨by omega, by rw [codeB_take x (by omega), ← List.append_assoc]; exact hW2, by omega, by simp [e0], by simp [e1'], by simp⟩
  · have : n = 0 := by omega
    subst this
    simp (config := {contextual := true, implicitDefEqProofs := false}) (disch := omega) [e0, e1', e6]
    rw [Nat.sub_zero, List.take_of_length_le (by simp)] at hW
    exact hW

theorem rsym_ok (hB : ∀ r, B r → r < H.length) (hBp : B p) (h : Wd ety B p H l) {v : Nat} (hv : v < 400) (hl : l.length + 100 < 2 ^ 40) :
    ACall Try.prog 36 [.ptr p 0 0, .int .i64 v] H (fun r => r = p ∨ ¬ B r) fun u H' => u = .tuple [] ∧ Wd ety B p H' (l ++ symB v) := by
  refine acall_of hmix Try.func36 x36_ok (by simp) ?_
  unfold symB
  by_cases c1 : v < 144
  · have a1 : abin .add (.int .i64 48) (.int .i64 (v : Int)) = some (.int .i64 ((48 + v : Nat) : Int)) := by rw [abin_add, i64_id (by omega) (by omega)]; rfl
    simp (config := {contextual := true, implicitDefEqProofs := false}) (disch := omega) [show (v : Int) < 144 by omega, a1, c1, -abin_add, -Int.natCast_add]
    refine call1_of (rcode_ok hB hBp h (x := 48 + v) (N := 8) (by omega) (by omega) hl) (fun r h => .inl (.inl h)) ?_
    rintro u H2 ⟨rfl, hW2⟩ _ _
    simpa using hW2
  · by_cases c2 : v < 256
    · have a1 : abin .add (.int .i64 400) (.int .i64 (v : Int)) = some (.int .i64 ((400 + v : Nat) : Int)) := by rw [abin_add, i64_id (by omega) (by omega)]; rfl
      have a2 : abin .sub (.int .i64 ((400 + v : Nat) : Int)) (.int .i64 144) = some (.int .i64 ((400 + v - 144 : Nat) : Int)) := by rw [abin_sub, i64_id (by omega) (by omega)]; congr 2; omega
      simp (config := {contextual := true, implicitDefEqProofs := false}) (disch := omega) [show ¬ (v : Int) < 144 by omega, show (v : Int) < 256 by omega, a1, a2, c1, c2, -abin_add, -abin_sub, -Int.natCast_add]
      refine call1_of (rcode_ok hB hBp h (x := 400 + v - 144) (N := 9) (by omega) (by omega) hl) (fun r h => .inl (.inl h)) ?_
      rintro u H2 ⟨rfl, hW2⟩ _ _
      simpa using hW2
    · by_cases c3 : v < 280
      · have a2 : abin .sub (.int .i64 (v : Int)) (.int .i64 256) = some (.int .i64 ((v - 256 : Nat) : Int)) := by rw [abin_sub, i64_id (by omega) (by omega)]; congr 2; omega
        simp (config := {contextual := true, implicitDefEqProofs := false}) (disch := omega) [show ¬ (v : Int) < 144 by omega, show ¬ (v : Int) < 256 by omega, show (v : Int) < 280 by omega, a2, c1, c2, c3, -abin_sub]
        refine call1_of (rcode_ok hB hBp h (x := v - 256) (N := 7) (by omega) (by omega) hl) (fun r h => .inl (.inl h)) ?_
        rintro u H2 ⟨rfl, hW2⟩ _ _
        simpa using hW2
      · have a1 : abin .add (.int .i64 192) (.int .i64 (v : Int)) = some (.int .i64 ((192 + v : Nat) : Int)) := by rw [abin_add, i64_id (by omega) (by omega)]; rfl
        have a2 : abin .sub (.int .i64 ((192 + v : Nat) : Int)) (.int .i64 280) = some (.int .i64 ((192 + v - 280 : Nat) : Int)) := by rw [abin_sub, i64_id (by omega) (by omega)]; congr 2; omega
        simp (config := {contextual := true, implicitDefEqProofs := false}) (disch := omega) [show ¬ (v : Int) < 144 by omega, show ¬ (v : Int) < 256 by omega, show ¬ (v : Int) < 280 by omega, a1, a2, c1, c2, c3, -abin_add, -abin_sub, -Int.natCast_add]
        refine call1_of (rcode_ok hB hBp h (x := 192 + v - 280) (N := 8) (by omega) (by omega) hl) (fun r h => .inl (.inl h)) ?_
        rintro u H2 ⟨rfl, hW2⟩ _ _
        simpa using hW2
end
end Go.Proofs.Ytdknddicpdhkcaa.Ab

/- Several texts of a library in one. Conditions: none. -/
import Derived.Test.YtdknddicpdhkcaaM1
import Derived.Test.YtdknddicpdhkcaaXb
import Derived.WalkArith
import Derived.Test.YtdknddicpdhkcaaSh
/- Deflate: bits are written: the program's writer and the specification's. Conditions: none; for the statements about layer 47. -/
namespace Go.Proofs.Ytdknddicpdhkcaa.Ab
set_option linter.unusedVariables false
set_option linter.unusedSimpArgs false

/-- A bit is written behind others. -/
def wstep (o : List UInt8 × Nat) (b : Nat) : List UInt8 × Nat :=
  (if o.2 % 8 = 0 then o.1 ++ [UInt8.ofNat b] else o.1.set (o.1.length - 1) (UInt8.ofNat ((chr o.1 (o.1.length - 1)).toNat + b * 2 ^ (o.2 % 8))), o.2 + 1)
/-- The bytes that bits come to. -/
def pk (l : List Nat) : List UInt8 × Nat := l.foldl wstep ([], 0)
def pack (l : List Nat) : List UInt8 := (pk l).1
theorem pk_snoc (l : List Nat) (b : Nat) : pk (l ++ [b]) = wstep (pk l) b := by simp [pk, List.foldl_append]
theorem list_snoc_ind {α : Type} {P : List α → Prop} (h0 : P []) (h1 : ∀ l a, P l → P (l ++ [a])) : ∀ l, P l := by
  intro l
  have : ∀ n (l : List α), l.length = n → P l := by
    intro n
    induction n with
    | zero => intro l hl; rw [List.eq_nil_of_length_eq_zero hl]; exact h0
    | succ n ih =>
      intro l hl
      have hne : l ≠ [] := by intro c; subst c; simp at hl
      rw [← List.dropLast_concat_getLast hne]
      exact h1 _ _ (ih _ (by simp; omega))
  exact this _ _ rfl
theorem pk_two (l : List Nat) : (pk l).2 = l.length := by
  refine list_snoc_ind (P := fun l => (pk l).2 = l.length) rfl ?_ l
  intro l a ih
  rw [pk_snoc]; simp [wstep, ih]
theorem pk_facts (l : List Nat) : (∀ b ∈ l, b ≤ 1) → (pack l).length = (l.length + 7) / 8 ∧ (l.length % 8 ≠ 0 → (chr (pack l) ((pack l).length - 1)).toNat < 2 ^ (l.length % 8)) := by
  refine list_snoc_ind (P := fun l => (∀ b ∈ l, b ≤ 1) → (pack l).length = (l.length + 7) / 8 ∧ (l.length % 8 ≠ 0 → (chr (pack l) ((pack l).length - 1)).toNat < 2 ^ (l.length % 8))) ?_ ?_ l
  · intro _; exact ⟨rfl, fun h => absurd rfl h⟩
  · intro l b ih hb
    obtain ⟨h1, h2⟩ := ih fun x hx => hb x (List.mem_append_left _ hx)
    have hb1 : b ≤ 1 := hb b (by simp)
    have hp : pack (l ++ [b]) = if l.length % 8 = 0 then pack l ++ [UInt8.ofNat b] else (pack l).set ((pack l).length - 1) (UInt8.ofNat ((chr (pack l) ((pack l).length - 1)).toNat + b * 2 ^ (l.length % 8))) := by
      unfold pack; rw [pk_snoc]; simp only [wstep, pk_two]
    rw [hp]
    by_cases c : l.length % 8 = 0
    · rw [if_pos c]
      refine ⟨by simp; omega, fun _ => ?_⟩
      have : chr (pack l ++ [UInt8.ofNat b]) ((pack l ++ [UInt8.ofNat b]).length - 1) = UInt8.ofNat b := by
        simp [chr, List.getD_eq_getElem?_getD, List.getElem?_append_right]
      rw [this, List.length_append, List.length_singleton, show (l.length + 1) % 8 = 1 by omega]
      have : (UInt8.ofNat b).toNat = b % 256 := by simp
      rw [this]; omega
    · rw [if_neg c]
      have h3 := h2 c
      have hl0 : 0 < (pack l).length := by omega
      refine ⟨by simp; omega, fun hne => ?_⟩
      have hpw : 2 ^ (l.length % 8 + 1) ≤ 2 ^ 8 := Nat.pow_le_pow_right (by omega) (by omega)
      have hpe : 2 ^ (l.length % 8 + 1) = 2 ^ (l.length % 8) * 2 := Nat.pow_succ ..
      have hbm : b * 2 ^ (l.length % 8) ≤ 1 * 2 ^ (l.length % 8) := Nat.mul_le_mul_right _ hb1
      have hv : chr ((pack l).set ((pack l).length - 1) (UInt8.ofNat ((chr (pack l) ((pack l).length - 1)).toNat + b * 2 ^ (l.length % 8)))) ((pack l).length - 1) = UInt8.ofNat ((chr (pack l) ((pack l).length - 1)).toNat + b * 2 ^ (l.length % 8)) := by
        simp only [chr, List.getD_eq_getElem?_getD]
        rw [List.getElem?_set_self (by omega)]; rfl
      rw [List.length_set, hv]
      have : (UInt8.ofNat ((chr (pack l) ((pack l).length - 1)).toNat + b * 2 ^ (l.length % 8))).toNat = ((chr (pack l) ((pack l).length - 1)).toNat + b * 2 ^ (l.length % 8)) % 256 := by simp
      rw [this, List.length_append, List.length_singleton, show (l.length + 1) % 8 = l.length % 8 + 1 by simp at hne; omega]
      omega

/-- n bits of x, the least significant one first. -/
def numB (x n : Nat) : List Nat := (List.range n).map fun i => x / 2 ^ i % 2
def codeB (x n : Nat) : List Nat := (numB x n).reverse
def symB (v : Nat) : List Nat := if v < 144 then codeB (48 + v) 8 else if v < 256 then codeB (400 + v - 144) 9 else if v < 280 then codeB (v - 256) 7 else codeB (192 + v - 280) 8
@[simp] theorem numB_len (x n : Nat) : (numB x n).length = n := by simp [numB]
@[simp] theorem codeB_len (x n : Nat) : (codeB x n).length = n := by simp [codeB]
theorem numB_bit (x n : Nat) : ∀ b ∈ numB x n, b ≤ 1 := by
  intro b hb
  obtain ⟨i, _, rfl⟩ := List.mem_map.1 hb
  omega
theorem codeB_bit (x n : Nat) : ∀ b ∈ codeB x n, b ≤ 1 := fun b hb => numB_bit x n b (List.mem_reverse.1 hb)
theorem symB_bit (v : Nat) : ∀ b ∈ symB v, b ≤ 1 := by
  unfold symB
  split
  · exact codeB_bit _ _
  · split
    · exact codeB_bit _ _
    · split <;> exact codeB_bit _ _
theorem symB_len (v : Nat) : (symB v).length ≤ 9 := by
  unfold symB
  split
  · simp
  · split
    · simp
    · split <;> simp
theorem numB_take (x : Nat) {i n : Nat} (h : i < n) : numB x (i + 1) = numB x i ++ [x / 2 ^ i % 2] := by simp [numB, List.range_succ]

def rest67 : XCode := (.seq (.draw [⟨⟨some 19, none, (.s (.move (.t 0)))⟩, 0, []⟩, ⟨⟨some 20, none, (.s (.nilCheck (.t 19)))⟩, 1, []⟩, ⟨⟨some 21, none, (.s (.fieldAddr 0 (.t 20)))⟩, 2, []⟩, ⟨⟨some 22, none, (.s (.load1 (.t 21)))⟩, 3, []⟩, ⟨⟨some 23, none, (.s (.move (.t 0)))⟩, 4, []⟩, ⟨⟨some 24, none, (.s (.nilCheck (.t 23)))⟩, 5, []⟩, ⟨⟨some 25, none, (.s (.fieldAddr 0 (.t 24)))⟩, 6, []⟩, ⟨⟨some 26, none, (.s (.load1 (.t 25)))⟩, 7, []⟩, ⟨⟨some 27, none, (.s (.lenSl (.t 26)))⟩, 8, []⟩, ⟨⟨some 28, none, (.s (.bin .sub (.t 27) (.c (.int .i64 1))))⟩, 9, []⟩, ⟨⟨some 29, none, (.s (.idxS 1 (.t 22) (.t 28)))⟩, 10, []⟩, ⟨⟨some 30, none, (.s (.load1 (.t 29)))⟩, 11, []⟩, ⟨⟨some 31, none, (.s (.move (.t 1)))⟩, 12, []⟩, ⟨⟨some 32, none, (.s (.bin .and (.t 31) (.c (.int .i64 1))))⟩, 13, []⟩, ⟨⟨some 33, none, (.s (.convI .u8 (.t 32)))⟩, 14, []⟩, ⟨⟨some 34, none, (.s (.move (.t 0)))⟩, 15, []⟩, ⟨⟨some 35, none, (.s (.nilCheck (.t 34)))⟩, 16, []⟩, ⟨⟨some 36, none, (.s (.fieldAddr 1 (.t 35)))⟩, 17, []⟩, ⟨⟨some 37, none, (.s (.load1 (.t 36)))⟩, 18, []⟩, ⟨⟨some 38, none, (.s (.bin .rem (.t 37) (.c (.int .i64 8))))⟩, 19, []⟩, ⟨⟨some 39, none, (.s (.bin .shl (.t 33) (.t 38)))⟩, 20, []⟩, ⟨⟨some 40, none, (.s (.bin .or (.t 30) (.t 39)))⟩, 21, []⟩, ⟨⟨some 41, none, (.s (.idxS 1 (.t 22) (.t 28)))⟩, 22, []⟩, ⟨⟨none, none, (.e (.store 1 (.t 41) (.t 40)))⟩, 23, []⟩]) (.ops [⟨some 42, none, (.s (.move (.t 0)))⟩, ⟨some 43, none, (.s (.nilCheck (.t 42)))⟩, ⟨some 44, none, (.s (.fieldAddr 1 (.t 43)))⟩, ⟨some 45, none, (.s (.load1 (.t 44)))⟩, ⟨some 46, none, (.s (.bin .add (.t 45) (.c (.int .i64 1))))⟩, ⟨some 47, none, (.s (.nilCheck (.t 42)))⟩, ⟨some 48, none, (.s (.fieldAddr 1 (.t 47)))⟩, ⟨none, none, (.e (.store 1 (.t 48) (.t 46)))⟩]))
def x67s : XFun := ⟨49, [], (.seq (.seq (.ops [⟨some 4, none, (.s (.move (.t 0)))⟩, ⟨some 5, none, (.s (.nilCheck (.t 4)))⟩, ⟨some 6, none, (.s (.fieldAddr 1 (.t 5)))⟩, ⟨some 7, none, (.s (.load1 (.t 6)))⟩, ⟨some 8, none, (.s (.bin .rem (.t 7) (.c (.int .i64 8))))⟩, ⟨some 9, none, (.s (.bin .eql (.t 8) (.c (.int .i64 0))))⟩]) (.cond (.t 9) (.ops [⟨some 10, none, (.s (.move (.t 0)))⟩, ⟨some 11, none, (.s (.move (.t 0)))⟩, ⟨some 12, none, (.s (.nilCheck (.t 11)))⟩, ⟨some 13, none, (.s (.fieldAddr 0 (.t 12)))⟩, ⟨some 14, none, (.s (.load1 (.t 13)))⟩, ⟨some 15, none, (.e (.buildSlice 5 1 1 [(.int .u8 0)] [(0, 1, (.c (.int .u8 0)))]))⟩, ⟨some 16, none, (.e (.append 1 1 5 (.t 14) (.t 15)))⟩, ⟨some 17, none, (.s (.nilCheck (.t 10)))⟩, ⟨some 18, none, (.s (.fieldAddr 0 (.t 17)))⟩, ⟨none, none, (.e (.store 1 (.t 18) (.t 16)))⟩]) .skip)) rest67)⟩
theorem x67s_ok : xfun Try.prog Try.f67 = some x67s := x67_ok

def wrBlk (ety : Nat) (w : AVal) (n : Nat) : ABlk := .cells 0 false ety [w, .int .i64 n]
/-- The writer at p, which has written these bits; its bytes lie in no block of B. -/
def Wd (ety : Nat) (B : Nat → Prop) (p : Nat) (H : AHeap) (l : List Nat) : Prop := (∃ w, H[p]? = some (wrBlk ety w l.length) ∧ OwnX B H 5 w (bytesOf (pack l))) ∧ (∀ b ∈ l, b ≤ 1) ∧ l.length ≤ 2 ^ 40

section
variable {B : Nat → Prop} {p : Nat} {H : AHeap} {l : List Nat} {ety : Nat} {w : AVal} {n : Nat}
theorem wd0 (hp : H[p]? = some (wrBlk ety w n)) : aload H p 0 0 = some w := by rw [aload_at hp]; rfl
theorem wd1 (hp : H[p]? = some (wrBlk ety w n)) : aload H p 0 1 = some (.int .i64 n) := by rw [aload_at hp]; rfl
theorem ww0 (hp : H[p]? = some (wrBlk ety w n)) {w' : AVal} (h : w'.one = true) : astore H p 0 0 w' = some (H.set p (wrBlk ety w' n)) := by rw [astore_at hp]; simp [wrBlk, h]
theorem ww1 (hp : H[p]? = some (wrBlk ety w n)) {m : Nat} : astore H p 0 1 (.int .i64 m) = some (H.set p (wrBlk ety w m)) := by rw [astore_at hp]; simp [wrBlk]
theorem Wd.set {n : Nat} (h : OwnX B H 5 w (bytesOf (pack l))) (hn : n = l.length) (hb : ∀ b ∈ l, b ≤ 1) (hl : l.length ≤ 2 ^ 40) (hB : B p) (hpl : p < H.length) : Wd ety B p (H.set p (wrBlk ety w n)) l := by
  subst hn
  exact ⟨⟨w, List.getElem?_set_self hpl, h.keep fun k hk _ => List.getElem?_set_ne (by intro c; subst c; exact hk hB)⟩, hb, hl⟩
theorem Wd.app (h : Wd ety B p H l) (L : AHeap) (hpl : p < H.length) : Wd ety B p (H ++ L) l := by
  obtain ⟨⟨w, h1, h2⟩, h3⟩ := h
  exact ⟨⟨w, by rw [List.getElem?_append_left hpl]; exact h1, h2.keep fun k _ hk => List.getElem?_append_left hk⟩, h3⟩
theorem OwnX.stored {ety' : Nat} {xs ys : List AVal} {r g : Nat} (hb : H[r]? = some (.cells g false ety' xs)) (hr : ¬ B r) (hl : xs.length = ys.length) : OwnX B (H.set r (.cells g false ety' ys)) ety' (.slice r g 0 xs.length 1) ys := by
  refine .inr ⟨r, g, hr, by rw [hl], ?_⟩
  rw [List.getElem?_set_self (List.getElem?_eq_some_iff.1 hb).1]
theorem bytesOf_set (s : List UInt8) (i : Nat) (c : UInt8) : (bytesOf s).set i (.int .u8 (c.toNat : Nat)) = bytesOf (s.set i c) := by simp [bytesOf, List.map_set]

theorem rest67_ok {H0 : AHeap} {o : List UInt8} {x : Nat} {env : Env} (hB : ∀ r, B r → r < H.length) (hBp : B p) (hH : H0.length ≤ H.length) (hp : H[p]? = some (wrBlk ety w n)) (hw : OwnX B H 5 w (bytesOf o)) (ho : 0 < o.length) (hol : o.length ≤ 2 ^ 40) (hlast : (chr o (o.length - 1)).toNat < 2 ^ (n % 8)) (hn : n < 2 ^ 40) (hx : x < 2 ^ 62)
    (hl : l.length = n + 1) (hbl : ∀ b ∈ l, b ≤ 1) (hpk : pack l = o.set (o.length - 1) (UInt8.ofNat ((chr o (o.length - 1)).toNat + x % 2 * 2 ^ (n % 8)))) (e0 : env 0 = .ptr p 0 0) (e1' : env 1 = .int .i64 x) :
    vc (ACall Try.prog) (fun r => (r = p ∨ ¬ B r) ∨ H0.length ≤ r) rest67 (rpost [] fun v H' => v = .tuple [] ∧ Wd ety B p H' l) env H := by
  have h1 := ageOk_at hp
  have hpl := hB _ hBp
  have hlen := hw.sl.len
  rw [bytesOf_len] at hlen
  rcases hw with ⟨_, hc⟩ | ⟨r, g, hr, rfl, hb⟩
  · have : o = [] := by simpa [bytesOf] using hc
    subst this; simp at ho
  have hrp : r ≠ p := by intro c; subst c; exact hr hBp
  have hrl := (List.getElem?_eq_some_iff.1 hb).1
  have gb := ageOk_at hb
  have a1 : abin .rem (.int .i64 (n : Int)) (.int .i64 8) = some (.int .i64 ((n % 8 : Nat) : Int)) := by rw [abin_rem (by omega), Int.tmod_eq_emod_of_nonneg (by omega)]; rfl
  have a2 : abin .and (.int .i64 (x : Int)) (.int .i64 1) = some (.int .i64 ((x % 2 : Nat) : Int)) := by
    rw [abin_and]
    refine congrArg (fun x => some (AVal.int .i64 x)) ?_
    have := and_i64 (a := x) (b := 1) (by omega) (by omega)
    rw [Nat.and_two_pow_sub_one_eq_mod _ 1] at this
    exact this
  have a3 : IntKind.u8.wrap ((x % 2 : Nat) : Int) = ((x % 2 : Nat) : Int) := u8_nat (by omega)
  have a4 : abin .sub (.int .i64 (o.length : Int)) (.int .i64 1) = some (.int .i64 ((o.length - 1 : Nat) : Int)) := by rw [abin_sub, i64_id (by omega) (by omega)]; congr 2; omega
  have hld : aload H r g (o.length - 1) = some (.int .u8 (chr o (o.length - 1)).toNat) := by
    rw [aload_at hb]
    simp [bytesOf, chr, List.getD_eq_getElem?_getD, show o.length - 1 < o.length by omega]
  have hpw : 2 ^ (n % 8 + 1) ≤ 2 ^ 8 := Nat.pow_le_pow_right (by omega) (by omega)
  have hpe : 2 ^ (n % 8 + 1) = 2 ^ (n % 8) * 2 := Nat.pow_succ ..
  have hbm : x % 2 * 2 ^ (n % 8) ≤ 1 * 2 ^ (n % 8) := Nat.mul_le_mul_right _ (by omega)
  have a5 : abin .shl (.int .u8 ((x % 2 : Nat) : Int)) (.int .i64 ((n % 8 : Nat) : Int)) = some (.int .u8 ((x % 2 * 2 ^ (n % 8) : Nat) : Int)) := by
    rw [abin_shl (by omega)]
    simp only [bits_u8, Int.toNat_natCast, show min (n % 8) 8 = n % 8 by omega]
    rw [show ((x % 2 : Nat) : Int) * 2 ^ (n % 8) = ((x % 2 * 2 ^ (n % 8) : Nat) : Int) by simp, u8_nat (by omega)]
  have hv : ((UInt8.ofNat ((chr o (o.length - 1)).toNat + x % 2 * 2 ^ (n % 8))).toNat : Int) = (((chr o (o.length - 1)).toNat + x % 2 * 2 ^ (n % 8) : Nat) : Int) := by
    have : (UInt8.ofNat ((chr o (o.length - 1)).toNat + x % 2 * 2 ^ (n % 8))).toNat = ((chr o (o.length - 1)).toNat + x % 2 * 2 ^ (n % 8)) % 256 := by simp
    rw [this, Nat.mod_eq_of_lt (by omega)]
  have a6 : abin .or (.int .u8 ((chr o (o.length - 1)).toNat : Int)) (.int .u8 ((x % 2 * 2 ^ (n % 8) : Nat) : Int)) = some (.int .u8 ((UInt8.ofNat ((chr o (o.length - 1)).toNat + x % 2 * 2 ^ (n % 8))).toNat : Int)) := by
    rw [abin_or, hv]
    refine congrArg (fun x => some (AVal.int .u8 x)) ?_
    rw [bits_u8, ofInt_nat, ofInt_nat, BitVec.toNat_or, BitVec.toNat_ofNat, BitVec.toNat_ofNat, Nat.mod_eq_of_lt (by omega), Nat.mod_eq_of_lt (by omega), or_add hlast]
    exact u8_nat (by omega)
  have a9 : abin .add (.int .i64 (n : Int)) (.int .i64 1) = some (.int .i64 ((n + 1 : Nat) : Int)) := by rw [abin_add, i64_id (by omega) (by omega)]; rfl
  have hst : ∀ c : UInt8, astore H r g (o.length - 1) (.int .u8 (c.toNat : Nat)) = some (H.set r (.cells g false 5 (bytesOf (o.set (o.length - 1) c)))) := by
    intro c
    rw [astore_at hb, if_pos ⟨by rw [bytesOf_len]; omega, rfl⟩, bytesOf_set]
  have hst2 := hst (UInt8.ofNat ((chr o (o.length - 1)).toNat + x % 2 * 2 ^ (n % 8)))
  rw [← hpk] at hst2
  have hp2 : (H.set r (.cells g false 5 (bytesOf (pack l))))[p]? = some (wrBlk ety (.slice r g 0 o.length 1) n) := by
    rw [List.getElem?_set_ne hrp]; simpa using hp
  have hw2 : OwnX B (H.set r (.cells g false 5 (bytesOf (pack l)))) 5 (.slice r g 0 o.length 1) (bytesOf (pack l)) :=
    .inr ⟨r, g, hr, by rw [hpk]; simp, List.getElem?_set_self hrl⟩
  have g2 := ageOk_at hp2
  have s1 := ww1 hp2 (m := n + 1)
  have hpl2 : p < (H.set r (.cells g false 5 (bytesOf (pack l)))).length := by simpa using hpl
  unfold rest67
  rw [bytesOf_len] at *
  generalize hvv : UInt8.ofNat ((chr o (o.length - 1)).toNat + x % 2 * 2 ^ (n % 8)) = vv at *
  simp (config := {contextual := true, implicitDefEqProofs := false}) (disch := omega) [e0, e1', h1, wd0 hp, wd1 hp, gb, a1, a2, a3, a4, a5, a6, hld, hst2, show ((o.length - 1 : Nat) : Int) < o.length by omega, show o.length - 1 < o.length by omega, -abin_sub, -abin_and, -abin_or, -Int.natCast_emod, -Int.natCast_mul, -Int.natCast_pow]
  refine ⟨.inl (.inr hr), ?_⟩
  simp (config := {contextual := true, implicitDefEqProofs := false}) (disch := omega) [e0, e1', g2, wd1 hp2, a9, s1, -abin_add, -Int.natCast_add]
  exact Wd.set hw2 hl.symm hbl (by omega) hBp hpl2

theorem wbit_ok (hB : ∀ r, B r → r < H.length) (hBp : B p) (h : Wd ety B p H l) {x : Nat} (hx : x < 2 ^ 62) (hl : l.length < 2 ^ 40) :
    ACall Try.prog 67 [.ptr p 0 0, .int .i64 x] H (fun r => r = p ∨ ¬ B r) fun v H' => v = .tuple [] ∧ Wd ety B p H' (l ++ [x % 2]) := by
  obtain ⟨⟨w, hp, hw⟩, hbits, _⟩ := h
  refine acall_of hmix Try.func67 x67s_ok (by simp) ?_
  have h1 := ageOk_at hp
  have hpl := hB _ hBp
  have hf := pk_facts l hbits
  have a1 : abin .rem (.int .i64 (l.length : Int)) (.int .i64 8) = some (.int .i64 ((l.length % 8 : Nat) : Int)) := by rw [abin_rem (by omega), Int.tmod_eq_emod_of_nonneg (by omega)]; rfl
  have hb2 : ∀ b ∈ l ++ [x % 2], b ≤ 1 := by
    intro b hb
    rcases List.mem_append.1 hb with hb | hb
    · exact hbits b hb
    · simp at hb; omega
  have hpk : pack (l ++ [x % 2]) = if l.length % 8 = 0 then pack l ++ [UInt8.ofNat (x % 2)] else (pack l).set ((pack l).length - 1) (UInt8.ofNat ((chr (pack l) ((pack l).length - 1)).toNat + x % 2 * 2 ^ (l.length % 8))) := by
    unfold pack; rw [pk_snoc]; simp only [wstep, pk_two]
  by_cases c : l.length % 8 = 0
  · rw [if_pos c] at hpk
    have hw1 : OwnX B (H ++ [.cells 0 false 5 [.int .u8 0]]) 5 w (bytesOf (pack l)) := hw.keep fun k _ hk => List.getElem?_append_left hk
    have hp1 : (H ++ [.cells 0 false 5 [.int .u8 0]])[p]? = some (wrBlk ety w l.length) := by rw [List.getElem?_append_left hpl]; exact hp
    obtain ⟨w', H2, ha, hw2, hlen2, hfr2⟩ := hw1.append (fun r hr => by have := hB r hr; rw [List.length_append]; omega) (x := .slice H.length 0 0 1 1) (new := bytesOf [0]) (n := 1) (bytes := 1) (by simp [asrc, bytesOf]) (by simp) (by simp) (by rw [bytesOf_len]; simp [roomLim]; omega)
    rw [← bytesOf_app] at hw2
    have hp2 : H2[p]? = some (wrBlk ety w l.length) := by rw [hfr2 p hBp]; exact hp1
    have hpl2 : p < H2.length := (List.getElem?_eq_some_iff.1 hp2).1
    have s1 := ww0 hp2 hw2.one
    have g2 := ageOk_at hp2
    simp (config := {contextual := true, implicitDefEqProofs := false}) (disch := omega) [h1, wd0 hp, wd1 hp, a1, c, afill, zrep, -Int.natCast_emod]
    refine e1_of ha ?_ ?_
    · intro r ht
      have ht2 : appTarget w r := by simpa using ht
      exact .inl (.inr (hw.target ht2))
    have hp3 : (H2.set p (wrBlk ety w' l.length))[p]? = some (wrBlk ety w' l.length) := List.getElem?_set_self hpl2
    have hw3 : OwnX B (H2.set p (wrBlk ety w' l.length)) 5 w' (bytesOf (pack l ++ [0])) := hw2.keep fun k hk _ => List.getElem?_set_ne (by intro c; subst c; exact hk hBp)
    have hlen3 : H.length ≤ (H2.set p (wrBlk ety w' l.length)).length := by rw [List.length_append] at hlen2; simp; omega
    have hch : chr (pack l ++ [0]) ((pack l ++ [0]).length - 1) = 0 := by simp [chr, List.getD_eq_getElem?_getD, List.getElem?_append_right]
    simp (config := {contextual := true, implicitDefEqProofs := false}) (disch := omega) [g2, s1, hw2.known, hw2.cells]
    refine rest67_ok (o := pack l ++ [0]) (n := l.length) (w := w') (x := x) (fun r hr => by have := hB r hr; omega) hBp hlen3 hp3 hw3 (by simp) (by simp; omega) (by rw [hch, c]; decide) hl hx (by simp) hb2 ?_ (by simp) (by simp)
    rw [hpk, hch, c]
    simp [List.set_append]
  · rw [if_neg c] at hpk
    simp (config := {contextual := true, implicitDefEqProofs := false}) (disch := omega) [h1, wd0 hp, wd1 hp, a1, show ¬ ((l.length % 8 : Nat) : Int) = 0 by omega, c, -Int.natCast_emod]
    exact rest67_ok (o := pack l) (n := l.length) (w := w) (x := x) hB hBp (Nat.le_refl _) hp hw (by omega) (by omega) (hf.2 c) hl hx (by simp) hb2 hpk (by simp) (by simp)

def inv54 (ety : Nat) (B : Nat → Prop) (p : Nat) (l : List Nat) (x N hl : Nat) (n : Nat) (env : Env) (H' : AHeap) : Prop :=
  ∃ i, i ≤ N ∧ n = N - i ∧ Wd ety B p H' (l ++ numB x i) ∧ hl ≤ H'.length ∧ env 0 = .ptr p 0 0 ∧ env 1 = .int .i64 x ∧ env 7 = .int .i64 N ∧ env 8 = .int .i64 i
theorem shr_nat {x i : Nat} (hi : i < 64) : abin .shr (.int .i64 (x : Int)) (.int .i64 (i : Int)) = some (.int .i64 ((x / 2 ^ i : Nat) : Int)) := by
  rw [abin_shr (by omega)]
  simp only [bits_i64, Int.toNat_natCast, show min i 64 = i by omega]
  rw [fdiv_nat]

theorem wnum_ok (hB : ∀ r, B r → r < H.length) (hBp : B p) (h : Wd ety B p H l) {x N : Nat} (hx : x < 2 ^ 62) (hN : N ≤ 60) (hl : l.length + 100 < 2 ^ 40) :
    ACall Try.prog 54 [.ptr p 0 0, .int .i64 x, .int .i64 N] H (fun r => r = p ∨ ¬ B r) fun v H' => v = .tuple [] ∧ Wd ety B p H' (l ++ numB x N) := by
  refine acall_of hmix Try.func54 x54_ok (by simp) ?_
  simp
  refine vc_loop (inv54 ety B p l x N H.length) N ⟨0, by omega, by omega, by simpa [numB] using h, Nat.le_refl _, by simp, by simp, by simp, by simp⟩ ?_
  rintro n env H1 ⟨i, hi, rfl, hW, hl1, e0, e1', e7, e8⟩
  by_cases hlt : i < N
  · have hdiv : x / 2 ^ i < 2 ^ 62 := Nat.lt_of_le_of_lt (Nat.div_le_self _ _) hx
    have hs := shr_nat (x := x) (i := i) (by omega)
    have a5 : abin .add (.int .i64 (i : Int)) (.int .i64 1) = some (.int .i64 ((i + 1 : Nat) : Int)) := by rw [abin_add, i64_id (by omega) (by omega)]; rfl
    simp (config := {contextual := true, implicitDefEqProofs := false}) (disch := omega) [e0, e1', e7, e8, hlt, hs, -Int.natCast_ediv]
    refine call1_of (wbit_ok (fun r hr => by have := hB r hr; omega) hBp hW hdiv (by simp; omega)) (fun r h => .inl (.inl h)) ?_
    rintro v H2 ⟨rfl, hW2⟩ hl2 _
    simp (config := {contextual := true, implicitDefEqProofs := false}) (disch := omega) [e0, e1', e7, e8, a5, -abin_add, -Int.natCast_add]
    exact again_iff (N - (i + 1)) (by omega) ⟨i + 1, hlt, rfl, by rw [numB_take x hlt, ← List.append_assoc]; exact hW2, by omega, by simp [e0], by simp [e1'], by simp [e7], by simp⟩
  · have : i = N := by omega
    subst this
    simp (config := {contextual := true, implicitDefEqProofs := false}) (disch := omega) [e0, e1', e7, e8]
    exact hW

def inv71 (ety : Nat) (B : Nat → Prop) (p : Nat) (l : List Nat) (x N hl : Nat) (n : Nat) (env : Env) (H' : AHeap) : Prop :=
  n ≤ N ∧ Wd ety B p H' (l ++ (codeB x N).take (N - n)) ∧ hl ≤ H'.length ∧ env 0 = .ptr p 0 0 ∧ env 1 = .int .i64 x ∧ env 6 = .int .i64 ((n : Int) - 1)
theorem codeB_take (x : Nat) {n N : Nat} (h : n < N) : (codeB x N).take (N - n) = (codeB x N).take (N - (n + 1)) ++ [x / 2 ^ n % 2] := by
  rw [show N - n = (N - (n + 1)) + 1 by omega, List.take_succ_eq_append_getElem (by simp; omega)]
  congr 2
  simp only [codeB, List.getElem_reverse, numB, List.getElem_map, List.getElem_range, List.length_map, List.length_range]
  congr 2; congr 1; omega

theorem wcode_ok (hB : ∀ r, B r → r < H.length) (hBp : B p) (h : Wd ety B p H l) {x N : Nat} (hx : x < 2 ^ 62) (hN : N ≤ 60) (hl : l.length + 100 < 2 ^ 40) :
    ACall Try.prog 71 [.ptr p 0 0, .int .i64 x, .int .i64 N] H (fun r => r = p ∨ ¬ B r) fun v H' => v = .tuple [] ∧ Wd ety B p H' (l ++ codeB x N) := by
  refine acall_of hmix Try.func71 x71_ok (by simp) ?_
  simp (config := {contextual := true, implicitDefEqProofs := false}) (disch := omega) [i64_id]
  refine vc_loop (inv71 ety B p l x N H.length) N ⟨Nat.le_refl _, by simpa using h, Nat.le_refl _, by simp, by simp, by simp⟩ ?_
  rintro n env H1 ⟨hn, hW, hl1, e0, e1', e6⟩
  by_cases hlt : 0 < n
  · obtain ⟨n', rfl⟩ : ∃ n', n = n' + 1 := ⟨n - 1, by omega⟩
    have hdiv : x / 2 ^ n' < 2 ^ 62 := Nat.lt_of_le_of_lt (Nat.div_le_self _ _) hx
    have hs := shr_nat (x := x) (i := n') (by omega)
    have e6' : env 6 = .int .i64 (n' : Int) := by rw [e6]; congr 1; omega
    simp (config := {contextual := true, implicitDefEqProofs := false}) (disch := omega) [e0, e1', e6', hs, -Int.natCast_ediv]
    refine call1_of (wbit_ok (fun r hr => by have := hB r hr; omega) hBp hW hdiv (by simp; omega)) (fun r h => .inl (.inl h)) ?_
    rintro v H2 ⟨rfl, hW2⟩ hl2 _
    simp (config := {contextual := true, implicitDefEqProofs := false}) (disch := omega) [e0, e1', e6', i64_id]
    exact again_iff n' (by omega) ⟨by omega, by rw [codeB_take x (by omega), ← List.append_assoc]; exact hW2, by omega, by simp [e0], by simp [e1'], by simp⟩
  · have : n = 0 := by omega
    subst this
    simp (config := {contextual := true, implicitDefEqProofs := false}) (disch := omega) [e0, e1', e6]
    rw [Nat.sub_zero, List.take_of_length_le (by simp)] at hW
    exact hW

theorem wsym_ok (hB : ∀ r, B r → r < H.length) (hBp : B p) (h : Wd ety B p H l) {v : Nat} (hv : v < 400) (hl : l.length + 100 < 2 ^ 40) :
    ACall Try.prog 57 [.ptr p 0 0, .int .i64 v] H (fun r => r = p ∨ ¬ B r) fun u H' => u = .tuple [] ∧ Wd ety B p H' (l ++ symB v) := by
  refine acall_of hmix Try.func57 x57_ok (by simp) ?_
  unfold symB
  by_cases c1 : v < 144
  · have a1 : abin .add (.int .i64 48) (.int .i64 (v : Int)) = some (.int .i64 ((48 + v : Nat) : Int)) := by rw [abin_add, i64_id (by omega) (by omega)]; rfl
    simp (config := {contextual := true, implicitDefEqProofs := false}) (disch := omega) [show (v : Int) < 144 by omega, a1, c1, -abin_add, -Int.natCast_add]
    refine call1_of (wcode_ok hB hBp h (x := 48 + v) (N := 8) (by omega) (by omega) hl) (fun r h => .inl (.inl h)) ?_
    rintro u H2 ⟨rfl, hW2⟩ _ _
    simpa using hW2
  · by_cases c2 : v < 256
    · have a1 : abin .add (.int .i64 400) (.int .i64 (v : Int)) = some (.int .i64 ((400 + v : Nat) : Int)) := by rw [abin_add, i64_id (by omega) (by omega)]; rfl
      have a2 : abin .sub (.int .i64 ((400 + v : Nat) : Int)) (.int .i64 144) = some (.int .i64 ((400 + v - 144 : Nat) : Int)) := by rw [abin_sub, i64_id (by omega) (by omega)]; congr 2; omega
      simp (config := {contextual := true, implicitDefEqProofs := false}) (disch := omega) [show ¬ (v : Int) < 144 by omega, show (v : Int) < 256 by omega, a1, a2, c1, c2, -abin_add, -abin_sub, -Int.natCast_add]
      refine call1_of (wcode_ok hB hBp h (x := 400 + v - 144) (N := 9) (by omega) (by omega) hl) (fun r h => .inl (.inl h)) ?_
      rintro u H2 ⟨rfl, hW2⟩ _ _
      simpa using hW2
    · by_cases c3 : v < 280
      · have a2 : abin .sub (.int .i64 (v : Int)) (.int .i64 256) = some (.int .i64 ((v - 256 : Nat) : Int)) := by rw [abin_sub, i64_id (by omega) (by omega)]; congr 2; omega
        simp (config := {contextual := true, implicitDefEqProofs := false}) (disch := omega) [show ¬ (v : Int) < 144 by omega, show ¬ (v : Int) < 256 by omega, show (v : Int) < 280 by omega, a2, c1, c2, c3, -abin_sub]
        refine call1_of (wcode_ok hB hBp h (x := v - 256) (N := 7) (by omega) (by omega) hl) (fun r h => .inl (.inl h)) ?_
        rintro u H2 ⟨rfl, hW2⟩ _ _
        simpa using hW2
      · have a1 : abin .add (.int .i64 192) (.int .i64 (v : Int)) = some (.int .i64 ((192 + v : Nat) : Int)) := by rw [abin_add, i64_id (by omega) (by omega)]; rfl
        have a2 : abin .sub (.int .i64 ((192 + v : Nat) : Int)) (.int .i64 280) = some (.int .i64 ((192 + v - 280 : Nat) : Int)) := by rw [abin_sub, i64_id (by omega) (by omega)]; congr 2; omega
        simp (config := {contextual := true, implicitDefEqProofs := false}) (disch := omega) [show ¬ (v : Int) < 144 by omega, show ¬ (v : Int) < 256 by omega, show ¬ (v : Int) < 280 by omega, a1, a2, c1, c2, c3, -abin_add, -abin_sub, -Int.natCast_add]
        refine call1_of (wcode_ok hB hBp h (x := 192 + v - 280) (N := 8) (by omega) (by omega) hl) (fun r h => .inl (.inl h)) ?_
        rintro u H2 ⟨rfl, hW2⟩ _ _
        simpa using hW2
end
end Go.Proofs.Ytdknddicpdhkcaa.Ab

/- Deflate: the specification's writer of bits. Conditions: none; for the statements about layer 47. -/
namespace Go.Proofs.Ytdknddicpdhkcaa.Ab
set_option linter.unusedVariables false
set_option linter.unusedSimpArgs false

def rest59 : XCode := (.seq (.seq (.ops [⟨some 19, none, (.s (.move (.t 1)))⟩, ⟨some 20, none, (.s (.bin .eql (.t 19) (.c (.int .i64 1))))⟩]) (.cond (.t 20) (.draw [⟨⟨some 21, none, (.s (.move (.t 0)))⟩, 0, []⟩, ⟨⟨some 22, none, (.s (.nilCheck (.t 21)))⟩, 1, []⟩, ⟨⟨some 23, none, (.s (.fieldAddr 0 (.t 22)))⟩, 2, []⟩, ⟨⟨some 24, none, (.s (.load1 (.t 23)))⟩, 3, []⟩, ⟨⟨some 25, none, (.s (.move (.t 0)))⟩, 4, []⟩, ⟨⟨some 26, none, (.s (.nilCheck (.t 25)))⟩, 5, []⟩, ⟨⟨some 27, none, (.s (.fieldAddr 1 (.t 26)))⟩, 6, []⟩, ⟨⟨some 28, none, (.s (.load1 (.t 27)))⟩, 7, []⟩, ⟨⟨some 29, none, (.s (.bin .quo (.t 28) (.c (.int .i64 8))))⟩, 8, []⟩, ⟨⟨some 30, none, (.s (.move (.t 0)))⟩, 9, []⟩, ⟨⟨some 31, none, (.s (.nilCheck (.t 30)))⟩, 10, []⟩, ⟨⟨some 32, none, (.s (.fieldAddr 0 (.t 31)))⟩, 11, []⟩, ⟨⟨some 33, none, (.s (.load1 (.t 32)))⟩, 12, []⟩, ⟨⟨some 34, none, (.s (.move (.t 0)))⟩, 13, []⟩, ⟨⟨some 35, none, (.s (.nilCheck (.t 34)))⟩, 14, []⟩, ⟨⟨some 36, none, (.s (.fieldAddr 1 (.t 35)))⟩, 15, []⟩, ⟨⟨some 37, none, (.s (.load1 (.t 36)))⟩, 16, []⟩, ⟨⟨some 38, none, (.s (.bin .quo (.t 37) (.c (.int .i64 8))))⟩, 17, []⟩, ⟨⟨some 39, none, (.s (.idxS 1 (.t 33) (.t 38)))⟩, 18, []⟩, ⟨⟨some 40, none, (.s (.load1 (.t 39)))⟩, 19, []⟩, ⟨⟨some 41, none, (.s (.move (.t 0)))⟩, 20, []⟩, ⟨⟨some 42, none, (.s (.nilCheck (.t 41)))⟩, 21, []⟩, ⟨⟨some 43, none, (.s (.fieldAddr 1 (.t 42)))⟩, 22, []⟩, ⟨⟨some 44, none, (.s (.load1 (.t 43)))⟩, 23, []⟩, ⟨⟨some 45, none, (.s (.bin .rem (.t 44) (.c (.int .i64 8))))⟩, 24, []⟩, ⟨⟨some 46, none, (.s (.bin .shl (.c (.int .u8 1)) (.t 45)))⟩, 25, []⟩, ⟨⟨some 47, none, (.s (.bin .add (.t 40) (.t 46)))⟩, 26, []⟩, ⟨⟨some 48, none, (.s (.idxS 1 (.t 24) (.t 29)))⟩, 27, []⟩, ⟨⟨none, none, (.e (.store 1 (.t 48) (.t 47)))⟩, 28, []⟩]) .skip)) (.ops [⟨some 49, none, (.s (.move (.t 0)))⟩, ⟨some 50, none, (.s (.nilCheck (.t 49)))⟩, ⟨some 51, none, (.s (.fieldAddr 1 (.t 50)))⟩, ⟨some 52, none, (.s (.load1 (.t 51)))⟩, ⟨some 53, none, (.s (.bin .add (.t 52) (.c (.int .i64 1))))⟩, ⟨some 54, none, (.s (.nilCheck (.t 49)))⟩, ⟨some 55, none, (.s (.fieldAddr 1 (.t 54)))⟩, ⟨none, none, (.e (.store 1 (.t 55) (.t 53)))⟩]))
def x59s : XFun := ⟨56, [], (.seq (.seq (.ops [⟨some 4, none, (.s (.move (.t 0)))⟩, ⟨some 5, none, (.s (.nilCheck (.t 4)))⟩, ⟨some 6, none, (.s (.fieldAddr 1 (.t 5)))⟩, ⟨some 7, none, (.s (.load1 (.t 6)))⟩, ⟨some 8, none, (.s (.bin .rem (.t 7) (.c (.int .i64 8))))⟩, ⟨some 9, none, (.s (.bin .eql (.t 8) (.c (.int .i64 0))))⟩]) (.cond (.t 9) (.ops [⟨some 10, none, (.s (.move (.t 0)))⟩, ⟨some 11, none, (.s (.move (.t 0)))⟩, ⟨some 12, none, (.s (.nilCheck (.t 11)))⟩, ⟨some 13, none, (.s (.fieldAddr 0 (.t 12)))⟩, ⟨some 14, none, (.s (.load1 (.t 13)))⟩, ⟨some 15, none, (.e (.buildSlice 5 1 1 [(.int .u8 0)] [(0, 1, (.c (.int .u8 0)))]))⟩, ⟨some 16, none, (.e (.append 1 1 5 (.t 14) (.t 15)))⟩, ⟨some 17, none, (.s (.nilCheck (.t 10)))⟩, ⟨some 18, none, (.s (.fieldAddr 0 (.t 17)))⟩, ⟨none, none, (.e (.store 1 (.t 18) (.t 16)))⟩]) .skip)) rest59)⟩
theorem x59s_ok : xfun Try.prog Try.f59 = some x59s := x59_ok

section
variable {B : Nat → Prop} {p : Nat} {H : AHeap} {l : List Nat} {ety : Nat} {w : AVal} {n : Nat}
theorem rest59_ok {H0 : AHeap} {o : List UInt8} {x : Nat} {env : Env} (hB : ∀ r, B r → r < H.length) (hBp : B p) (hH : H0.length ≤ H.length) (hp : H[p]? = some (wrBlk ety w n)) (hw : OwnX B H 5 w (bytesOf o)) (ho : 0 < o.length) (hol : o.length ≤ 2 ^ 40) (hlast : (chr o (o.length - 1)).toNat < 2 ^ (n % 8)) (hn : n < 2 ^ 40) (hx : x ≤ 1) (hon : o.length - 1 = n / 8)
    (hl : l.length = n + 1) (hbl : ∀ b ∈ l, b ≤ 1) (hpk : pack l = o.set (o.length - 1) (UInt8.ofNat ((chr o (o.length - 1)).toNat + x * 2 ^ (n % 8)))) (e0 : env 0 = .ptr p 0 0) (e1' : env 1 = .int .i64 x) :
    vc (ACall Try.prog) (fun r => (r = p ∨ ¬ B r) ∨ H0.length ≤ r) rest59 (rpost [] fun v H' => v = .tuple [] ∧ Wd ety B p H' l) env H := by
  have h1 := ageOk_at hp
  have hpl := hB _ hBp
  have hlen := hw.sl.len
  rw [bytesOf_len] at hlen
  rcases hw with ⟨_, hc⟩ | ⟨r, g, hr, rfl, hb⟩
  · have : o = [] := by simpa [bytesOf] using hc
    subst this; simp at ho
  have hrp : r ≠ p := by intro c; subst c; exact hr hBp
  have hrl := (List.getElem?_eq_some_iff.1 hb).1
  have gb := ageOk_at hb
  have a1 : abin .rem (.int .i64 (n : Int)) (.int .i64 8) = some (.int .i64 ((n % 8 : Nat) : Int)) := by rw [abin_rem (by omega), Int.tmod_eq_emod_of_nonneg (by omega)]; rfl
  have a4 : abin .quo (.int .i64 (n : Int)) (.int .i64 8) = some (.int .i64 ((o.length - 1 : Nat) : Int)) := by
    rw [abin_quo (by omega), Int.tdiv_eq_ediv_of_nonneg (by omega), i64_id (by omega) (by omega), hon]; rfl
  have hld : aload H r g (o.length - 1) = some (.int .u8 (chr o (o.length - 1)).toNat) := by
    rw [aload_at hb]
    simp [bytesOf, chr, List.getD_eq_getElem?_getD, show o.length - 1 < o.length by omega]
  have hpw : 2 ^ (n % 8 + 1) ≤ 2 ^ 8 := Nat.pow_le_pow_right (by omega) (by omega)
  have hpe : 2 ^ (n % 8 + 1) = 2 ^ (n % 8) * 2 := Nat.pow_succ ..
  have hbm : x * 2 ^ (n % 8) ≤ 1 * 2 ^ (n % 8) := Nat.mul_le_mul_right _ (by omega)
  have a5 : abin .shl (.int .u8 1) (.int .i64 ((n % 8 : Nat) : Int)) = some (.int .u8 ((2 ^ (n % 8) : Nat) : Int)) := by
    rw [abin_shl (by omega)]
    simp only [bits_u8, Int.toNat_natCast, show min (n % 8) 8 = n % 8 by omega]
    rw [show (1 : Int) * 2 ^ (n % 8) = ((2 ^ (n % 8) : Nat) : Int) by simp, u8_nat (by omega)]
  have hv : ((UInt8.ofNat ((chr o (o.length - 1)).toNat + x * 2 ^ (n % 8))).toNat : Int) = (((chr o (o.length - 1)).toNat + x * 2 ^ (n % 8) : Nat) : Int) := by
    have : (UInt8.ofNat ((chr o (o.length - 1)).toNat + x * 2 ^ (n % 8))).toNat = ((chr o (o.length - 1)).toNat + x * 2 ^ (n % 8)) % 256 := by simp
    rw [this, Nat.mod_eq_of_lt (by omega)]
  have a9 : abin .add (.int .i64 (n : Int)) (.int .i64 1) = some (.int .i64 ((n + 1 : Nat) : Int)) := by rw [abin_add, i64_id (by omega) (by omega)]; rfl
  have hst : ∀ c : UInt8, astore H r g (o.length - 1) (.int .u8 (c.toNat : Nat)) = some (H.set r (.cells g false 5 (bytesOf (o.set (o.length - 1) c)))) := by
    intro c
    rw [astore_at hb, if_pos ⟨by rw [bytesOf_len]; omega, rfl⟩, bytesOf_set]
  have a9' := a9
  unfold rest59
  rw [bytesOf_len] at *
  by_cases hx1 : x = 1
  · subst hx1
    rw [Nat.one_mul] at hpk hv hbm
    have a6 : abin .add (.int .u8 ((chr o (o.length - 1)).toNat : Int)) (.int .u8 ((2 ^ (n % 8) : Nat) : Int)) = some (.int .u8 ((UInt8.ofNat ((chr o (o.length - 1)).toNat + 2 ^ (n % 8))).toNat : Int)) := by
      rw [abin_add, hv, ← Int.natCast_add, u8_nat (by omega)]
    have hst2 := hst (UInt8.ofNat ((chr o (o.length - 1)).toNat + 2 ^ (n % 8)))
    rw [← hpk] at hst2
    have hp2 : (H.set r (.cells g false 5 (bytesOf (pack l))))[p]? = some (wrBlk ety (.slice r g 0 o.length 1) n) := by
      rw [List.getElem?_set_ne hrp]; exact hp
    have hw2 : OwnX B (H.set r (.cells g false 5 (bytesOf (pack l)))) 5 (.slice r g 0 o.length 1) (bytesOf (pack l)) :=
      .inr ⟨r, g, hr, by rw [hpk]; simp, List.getElem?_set_self hrl⟩
    have g2 := ageOk_at hp2
    have s1 := ww1 hp2 (m := n + 1)
    have hpl2 : p < (H.set r (.cells g false 5 (bytesOf (pack l)))).length := by simpa using hpl
    generalize hvv : UInt8.ofNat ((chr o (o.length - 1)).toNat + 2 ^ (n % 8)) = vv at *
    simp (config := {contextual := true, implicitDefEqProofs := false}) (disch := omega) [e0, e1', h1, wd0 hp, wd1 hp, gb, a1, a4, a5, a6, hld, hst2, show ((o.length - 1 : Nat) : Int) < o.length by omega, show o.length - 1 < o.length by omega, -abin_add, -Int.natCast_emod, -Int.natCast_mul, -Int.natCast_pow]
    refine ⟨.inl (.inr hr), ?_⟩
    simp (config := {contextual := true, implicitDefEqProofs := false}) (disch := omega) [e0, e1', g2, wd1 hp2, a9, s1, -abin_add, -Int.natCast_add]
    exact Wd.set hw2 hl.symm hbl (by omega) hBp hpl2
  · have hx0 : x = 0 := by omega
    subst hx0
    have hpk2 : pack l = o := by
      rw [hpk, Nat.zero_mul, Nat.add_zero]
      have e : UInt8.ofNat (chr o (o.length - 1)).toNat = o[o.length - 1]'(by omega) := by simp [chr, List.getD_eq_getElem?_getD, show o.length - 1 < o.length by omega]
      rw [e]; simp
    have hw2 : OwnX B H 5 (.slice r g 0 o.length 1) (bytesOf (pack l)) := by rw [hpk2]; exact .inr ⟨r, g, hr, by simp, hb⟩
    have s1 := ww1 hp (m := n + 1)
    simp (config := {contextual := true, implicitDefEqProofs := false}) (disch := omega) [e0, e1', h1, wd0 hp, wd1 hp, a9, s1, -abin_add, -Int.natCast_add]
    exact Wd.set hw2 hl.symm hbl (by omega) hBp hpl

theorem rbit_ok (hB : ∀ r, B r → r < H.length) (hBp : B p) (h : Wd ety B p H l) {x : Nat} (hx : x ≤ 1) (hl : l.length < 2 ^ 40) :
    ACall Try.prog 59 [.ptr p 0 0, .int .i64 x] H (fun r => r = p ∨ ¬ B r) fun v H' => v = .tuple [] ∧ Wd ety B p H' (l ++ [x]) := by
  obtain ⟨⟨w, hp, hw⟩, hbits, _⟩ := h
  refine acall_of hmix Try.func59 x59s_ok (by simp) ?_
  have h1 := ageOk_at hp
  have hpl := hB _ hBp
  have hf := pk_facts l hbits
  have a1 : abin .rem (.int .i64 (l.length : Int)) (.int .i64 8) = some (.int .i64 ((l.length % 8 : Nat) : Int)) := by rw [abin_rem (by omega), Int.tmod_eq_emod_of_nonneg (by omega)]; rfl
  have hb2 : ∀ b ∈ l ++ [x], b ≤ 1 := by
    intro b hb
    rcases List.mem_append.1 hb with hb | hb
    · exact hbits b hb
    · simp at hb; omega
  have hpk : pack (l ++ [x]) = if l.length % 8 = 0 then pack l ++ [UInt8.ofNat (x)] else (pack l).set ((pack l).length - 1) (UInt8.ofNat ((chr (pack l) ((pack l).length - 1)).toNat + x * 2 ^ (l.length % 8))) := by
    unfold pack; rw [pk_snoc]; simp only [wstep, pk_two]
  by_cases c : l.length % 8 = 0
  · rw [if_pos c] at hpk
    have hw1 : OwnX B (H ++ [.cells 0 false 5 [.int .u8 0]]) 5 w (bytesOf (pack l)) := hw.keep fun k _ hk => List.getElem?_append_left hk
    have hp1 : (H ++ [.cells 0 false 5 [.int .u8 0]])[p]? = some (wrBlk ety w l.length) := by rw [List.getElem?_append_left hpl]; exact hp
    obtain ⟨w', H2, ha, hw2, hlen2, hfr2⟩ := hw1.append (fun r hr => by have := hB r hr; rw [List.length_append]; omega) (x := .slice H.length 0 0 1 1) (new := bytesOf [0]) (n := 1) (bytes := 1) (by simp [asrc, bytesOf]) (by simp) (by simp) (by rw [bytesOf_len]; simp [roomLim]; omega)
    rw [← bytesOf_app] at hw2
    have hp2 : H2[p]? = some (wrBlk ety w l.length) := by rw [hfr2 p hBp]; exact hp1
    have hpl2 : p < H2.length := (List.getElem?_eq_some_iff.1 hp2).1
    have s1 := ww0 hp2 hw2.one
    have g2 := ageOk_at hp2
    simp (config := {contextual := true, implicitDefEqProofs := false}) (disch := omega) [h1, wd0 hp, wd1 hp, a1, c, afill, zrep, -Int.natCast_emod]
    refine e1_of ha ?_ ?_
    · intro r ht
      have ht2 : appTarget w r := by simpa using ht
      exact .inl (.inr (hw.target ht2))
    have hp3 : (H2.set p (wrBlk ety w' l.length))[p]? = some (wrBlk ety w' l.length) := List.getElem?_set_self hpl2
    have hw3 : OwnX B (H2.set p (wrBlk ety w' l.length)) 5 w' (bytesOf (pack l ++ [0])) := hw2.keep fun k hk _ => List.getElem?_set_ne (by intro c; subst c; exact hk hBp)
    have hlen3 : H.length ≤ (H2.set p (wrBlk ety w' l.length)).length := by rw [List.length_append] at hlen2; simp; omega
    have hch : chr (pack l ++ [0]) ((pack l ++ [0]).length - 1) = 0 := by simp [chr, List.getD_eq_getElem?_getD, List.getElem?_append_right]
    simp (config := {contextual := true, implicitDefEqProofs := false}) (disch := omega) [g2, s1, hw2.known, hw2.cells]
    refine rest59_ok (o := pack l ++ [0]) (n := l.length) (w := w') (x := x) (fun r hr => by have := hB r hr; omega) hBp hlen3 hp3 hw3 (by simp) (by simp; omega) (by rw [hch, c]; decide) hl hx (by simp; omega) (by simp) hb2 ?_ (by simp) (by simp)
    rw [hpk, hch, c]
    simp [List.set_append]
  · rw [if_neg c] at hpk
    simp (config := {contextual := true, implicitDefEqProofs := false}) (disch := omega) [h1, wd0 hp, wd1 hp, a1, show ¬ ((l.length % 8 : Nat) : Int) = 0 by omega, c, -Int.natCast_emod]
    exact rest59_ok (o := pack l) (n := l.length) (w := w) (x := x) hB hBp (Nat.le_refl _) hp hw (by omega) (by omega) (hf.2 c) hl hx (by omega) (by simp) hb2 hpk (by simp) (by simp)

def inv35 (ety : Nat) (B : Nat → Prop) (p : Nat) (l : List Nat) (x N hl : Nat) (n : Nat) (env : Env) (H' : AHeap) : Prop :=
  ∃ i, i ≤ N ∧ n = N - i ∧ Wd ety B p H' (l ++ numB x i) ∧ hl ≤ H'.length ∧ env 0 = .ptr p 0 0 ∧ env 1 = .int .i64 x ∧ env 2 = .int .i64 N ∧ env 6 = .int .i64 i
theorem and1_i64 {x : Nat} (hx : x < 2 ^ 63) : abin .and (.int .i64 (x : Int)) (.int .i64 1) = some (.int .i64 ((x % 2 : Nat) : Int)) := by
  rw [abin_and]
  refine congrArg (fun x => some (AVal.int .i64 x)) ?_
  have := and_i64 (a := x) (b := 1) (by omega) (by omega)
  rw [Nat.and_two_pow_sub_one_eq_mod _ 1] at this
  exact this

theorem rnum_ok (hB : ∀ r, B r → r < H.length) (hBp : B p) (h : Wd ety B p H l) {x N : Nat} (hx : x < 2 ^ 62) (hN : N ≤ 60) (hl : l.length + 100 < 2 ^ 40) :
    ACall Try.prog 35 [.ptr p 0 0, .int .i64 x, .int .i64 N] H (fun r => r = p ∨ ¬ B r) fun v H' => v = .tuple [] ∧ Wd ety B p H' (l ++ numB x N) := by
  refine acall_of hmix Try.func35 x35_ok (by simp) ?_
  simp
  refine vc_loop (inv35 ety B p l x N H.length) N ⟨0, by omega, by omega, by simpa [numB] using h, Nat.le_refl _, by simp, by simp, by simp, by simp⟩ ?_
  rintro n env H1 ⟨i, hi, rfl, hW, hl1, e0, e1', e2, e6⟩
  by_cases hlt : i < N
  · have hdiv : x / 2 ^ i < 2 ^ 62 := Nat.lt_of_le_of_lt (Nat.div_le_self _ _) hx
    have hs := shr_nat (x := x) (i := i) (by omega)
    have a5 : abin .add (.int .i64 (i : Int)) (.int .i64 1) = some (.int .i64 ((i + 1 : Nat) : Int)) := by rw [abin_add, i64_id (by omega) (by omega)]; rfl
    simp (config := {contextual := true, implicitDefEqProofs := false}) (disch := omega) [e0, e1', e2, e6, hlt, hs, and1_i64, -abin_and, -Int.natCast_emod, -Int.natCast_ediv]
    refine call1_of (rbit_ok (fun r hr => by have := hB r hr; omega) hBp hW (x := x / 2 ^ i % 2) (by omega) (by simp; omega)) (fun r h => .inl (.inl h)) ?_
    rintro v H2 ⟨rfl, hW2⟩ hl2 _
    simp (config := {contextual := true, implicitDefEqProofs := false}) (disch := omega) [e0, e1', e2, e6, a5, -abin_add, -Int.natCast_add]
    exact again_iff (N - (i + 1)) (by omega) ⟨i + 1, hlt, rfl, by rw [numB_take x hlt, ← List.append_assoc]; exact hW2, by omega, by simp [e0], by simp [e1'], by simp [e2], by simp⟩
  · have : i = N := by omega
    subst this
    simp (config := {contextual := true, implicitDefEqProofs := false}) (disch := omega) [e0, e1', e2, e6]
    exact hW

theorem rcode_ok (hB : ∀ r, B r → r < H.length) (hBp : B p) (h : Wd ety B p H l) {x N : Nat} (hx : x < 2 ^ 62) (hN : N ≤ 60) (hl : l.length + 100 < 2 ^ 40) :
    ACall Try.prog 37 [.ptr p 0 0, .int .i64 x, .int .i64 N] H (fun r => r = p ∨ ¬ B r) fun v H' => v = .tuple [] ∧ Wd ety B p H' (l ++ codeB x N) := by
  refine acall_of hmix Try.func37 x37_ok (by simp) ?_
  simp (config := {contextual := true, implicitDefEqProofs := false}) (disch := omega) [i64_id]
  refine vc_loop (inv71 ety B p l x N H.length) N ⟨Nat.le_refl _, by simpa using h, Nat.le_refl _, by simp, by simp, by simp⟩ ?_
  rintro n env H1 ⟨hn, hW, hl1, e0, e1', e6⟩
  by_cases hlt : 0 < n
  · obtain ⟨n', rfl⟩ : ∃ n', n = n' + 1 := ⟨n - 1, by omega⟩
    have hdiv : x / 2 ^ n' < 2 ^ 62 := Nat.lt_of_le_of_lt (Nat.div_le_self _ _) hx
    have hs := shr_nat (x := x) (i := n') (by omega)
    have e6' : env 6 = .int .i64 (n' : Int) := by rw [e6]; congr 1; omega
    simp (config := {contextual := true, implicitDefEqProofs := false}) (disch := omega) [e0, e1', e6', hs, and1_i64, -abin_and, -Int.natCast_emod, -Int.natCast_ediv]
    refine call1_of (rbit_ok (fun r hr => by have := hB r hr; omega) hBp hW (x := x / 2 ^ n' % 2) (by omega) (by simp; omega)) (fun r h => .inl (.inl h)) ?_
    rintro v H2 ⟨rfl, hW2⟩ hl2 _
    simp (config := {contextual := true, implicitDefEqProofs := false}) (disch := omega) [e0, e1', e6', i64_id]
    exact again_iff n' (by omega) ⟨by omega, by rw [codeB_take x (by omega), ← List.append_assoc]; exact hW2, by omega, by simp [e0], by simp [e1'], by simp⟩
  · have : n = 0 := by omega
    subst this
    simp (config := {contextual := true, implicitDefEqProofs := false}) (disch := omega) [e0, e1', e6]
    rw [Nat.sub_zero, List.take_of_length_le (by simp)] at hW
    exact hW

theorem rsym_ok (hB : ∀ r, B r → r < H.length) (hBp : B p) (h : Wd ety B p H l) {v : Nat} (hv : v < 400) (hl : l.length + 100 < 2 ^ 40) :
    ACall Try.prog 36 [.ptr p 0 0, .int .i64 v] H (fun r => r = p ∨ ¬ B r) fun u H' => u = .tuple [] ∧ Wd ety B p H' (l ++ symB v) := by
  refine acall_of hmix Try.func36 x36_ok (by simp) ?_
  unfold symB
  by_cases c1 : v < 144
  · have a1 : abin .add (.int .i64 48) (.int .i64 (v : Int)) = some (.int .i64 ((48 + v : Nat) : Int)) := by rw [abin_add, i64_id (by omega) (by omega)]; rfl
    simp (config := {contextual := true, implicitDefEqProofs := false}) (disch := omega) [show (v : Int) < 144 by omega, a1, c1, -abin_add, -Int.natCast_add]
    refine call1_of (rcode_ok hB hBp h (x := 48 + v) (N := 8) (by omega) (by omega) hl) (fun r h => .inl (.inl h)) ?_
    rintro u H2 ⟨rfl, hW2⟩ _ _
    simpa using hW2
  · by_cases c2 : v < 256
    · have a1 : abin .add (.int .i64 400) (.int .i64 (v : Int)) = some (.int .i64 ((400 + v : Nat) : Int)) := by rw [abin_add, i64_id (by omega) (by omega)]; rfl
      have a2 : abin .sub (.int .i64 ((400 + v : Nat) : Int)) (.int .i64 144) = some (.int .i64 ((400 + v - 144 : Nat) : Int)) := by rw [abin_sub, i64_id (by omega) (by omega)]; congr 2; omega
      simp (config := {contextual := true, implicitDefEqProofs := false}) (disch := omega) [show ¬ (v : Int) < 144 by omega, show (v : Int) < 256 by omega, a1, a2, c1, c2, -abin_add, -abin_sub, -Int.natCast_add]
      refine call1_of (rcode_ok hB hBp h (x := 400 + v - 144) (N := 9) (by omega) (by omega) hl) (fun r h => .inl (.inl h)) ?_
      rintro u H2 ⟨rfl, hW2⟩ _ _
      simpa using hW2
    · by_cases c3 : v < 280
      · have a2 : abin .sub (.int .i64 (v : Int)) (.int .i64 256) = some (.int .i64 ((v - 256 : Nat) : Int)) := by rw [abin_sub, i64_id (by omega) (by omega)]; congr 2; omega
        simp (config := {contextual := true, implicitDefEqProofs := false}) (disch := omega) [show ¬ (v : Int) < 144 by omega, show ¬ (v : Int) < 256 by omega, show (v : Int) < 280 by omega, a2, c1, c2, c3, -abin_sub]
        refine call1_of (rcode_ok hB hBp h (x := v - 256) (N := 7) (by omega) (by omega) hl) (fun r h => .inl (.inl h)) ?_
        rintro u H2 ⟨rfl, hW2⟩ _ _
        simpa using hW2
      · have a1 : abin .add (.int .i64 192) (.int .i64 (v : Int)) = some (.int .i64 ((192 + v : Nat) : Int)) := by rw [abin_add, i64_id (by omega) (by omega)]; rfl
        have a2 : abin .sub (.int .i64 ((192 + v : Nat) : Int)) (.int .i64 280) = some (.int .i64 ((192 + v - 280 : Nat) : Int)) := by rw [abin_sub, i64_id (by omega) (by omega)]; congr 2; omega
        simp (config := {contextual := true, implicitDefEqProofs := false}) (disch := omega) [show ¬ (v : Int) < 144 by omega, show ¬ (v : Int) < 256 by omega, show ¬ (v : Int) < 280 by omega, a1, a2, c1, c2, c3, -abin_add, -abin_sub, -Int.natCast_add]
        refine call1_of (rcode_ok hB hBp h (x := 192 + v - 280) (N := 8) (by omega) (by omega) hl) (fun r h => .inl (.inl h)) ?_
        rintro u H2 ⟨rfl, hW2⟩ _ _
        simpa using hW2
end
end Go.Proofs.Ytdknddicpdhkcaa.Ab

/- Deflate: how long two places agree, the longest match by the specification, and the symbols of lengths and distances. Conditions: none; for the statements about layer 47. -/
namespace Go.Proofs.Ytdknddicpdhkcaa.Ab
set_option linter.unusedVariables false
set_option linter.unusedSimpArgs false

def comF (s : List UInt8) (p q : Nat) : Nat → Nat → Nat
  | 0, n => n
  | f + 1, n => if p + n < s.length ∧ chr s (p + n) = chr s (q + n) then comF s p q f (n + 1) else n
/-- How many bytes from p on are those from q on, at most 258. -/
def com (s : List UInt8) (p q : Nat) : Nat := comF s p q 258 0
theorem comF_le (s : List UInt8) (p q : Nat) : ∀ f n, comF s p q f n ≤ n + f ∧ n ≤ comF s p q f n
  | 0, n => by simp [comF]
  | f + 1, n => by
    rw [comF]; split
    · have := comF_le s p q f (n + 1); omega
    · omega
theorem com_le (s : List UInt8) (p q : Nat) : com s p q ≤ 258 := by have := (comF_le s p q 258 0).1; simpa [com] using this

def refScan (s : List UInt8) (p : Nat) : Nat → Nat × Nat
  | 0 => (0, 0)
  | D + 1 => if (refScan s p D).1 < com s p (p - (D + 1)) then (com s p (p - (D + 1)), D + 1) else refScan s p D
def matchR (s : List UInt8) (p : Nat) : Nat × Nat := if (refScan s p (min 4096 p)).1 < 3 then (0, 0) else refScan s p (min 4096 p)
theorem refScan_le (s : List UInt8) (p : Nat) : ∀ D, (refScan s p D).1 ≤ 258 ∧ (refScan s p D).2 ≤ D
  | 0 => by simp [refScan]
  | D + 1 => by
    have := refScan_le s p D
    have h2 := com_le s p (p - (D + 1))
    rw [refScan]; split
    · exact ⟨h2, Nat.le_refl _⟩
    · omega

def lenL (n : Nat) : Nat → Nat → Nat → Nat → Nat × Nat × Nat
  | 0, y, b, e => (y, b, e)
  | f + 1, y, b, e => if y < 284 ∧ b + 2 ^ e ≤ n then lenL n f (y + 1) (b + 2 ^ e) (if 265 ≤ y + 1 then (y + 1 - 261) / 4 else e) else (y, b, e)
def lenR (n : Nat) : Nat × Nat × Nat := if n = 258 then (285, 258, 0) else lenL n 27 257 3 0
def distL (d : Nat) : Nat → Nat → Nat → Nat → Nat × Nat × Nat
  | 0, y, b, e => (y, b, e)
  | f + 1, y, b, e => if y < 29 ∧ b + 2 ^ e ≤ d then distL d f (y + 1) (b + 2 ^ e) (if 4 ≤ y + 1 then (y + 1 - 2) / 2 else e) else (y, b, e)
def distR (d : Nat) : Nat × Nat × Nat := distL d 29 0 1 0
def rkX (plain group y : Nat) : Nat := if y < plain then 0 else (y - plain) / group + 1
def rankL (x plain group : Nat) : Nat → Nat → Nat → Nat × Nat × Nat
  | 0, y, b => (y, b, rkX plain group y)
  | f + 1, y, b => if x < b + 2 ^ rkX plain group y then (y, b, rkX plain group y) else rankL x plain group f (y + 1) (b + 2 ^ rkX plain group y)

section
variable {s : List UInt8} {H : AHeap} {fp : Nat → Prop}

def inv39 (H : AHeap) (s : List UInt8) (p d R : Nat) (n : Nat) (env : Env) (H' : AHeap) : Prop :=
  ∃ k, k + n = 258 ∧ H' = H ∧ R = comF s p (p - d) n k ∧ env 0 = .str s ∧ env 1 = .int .i64 p ∧ env 2 = .int .i64 d ∧ env 7 = .int .i64 k

theorem u8_eq {a b : UInt8} : ((a.toNat : Nat) : Int) = ((b.toNat : Nat) : Int) ↔ a = b := by
  constructor
  · intro h; exact UInt8.toNat_inj.1 (by omega)
  · intro h; rw [h]

theorem common_ok {p d : Nat} (hs : s.length ≤ 2 ^ 40) (hp : p ≤ 2 ^ 40) (hd : d ≤ p) : ACall Try.prog 39 [.str s, .int .i64 p, .int .i64 d] H fp fun v H' => v = .int .i64 (com s p (p - d)) ∧ H' = H := by
  refine acall_of hmix Try.func39 x39_ok (by simp) ?_
  simp
  refine vc_loop (inv39 H s p d (com s p (p - d))) 258 ⟨0, rfl, rfl, rfl, by simp, by simp, by simp, by simp⟩ ?_
  rintro n env H1 ⟨k, hk, rfl, hR, e0, e1', e2, e7⟩
  have a1 : abin .add (.int .i64 (p : Int)) (.int .i64 (k : Int)) = some (.int .i64 ((p + k : Nat) : Int)) := by rw [abin_add, i64_id (by omega) (by omega)]; rfl
  have a2 : abin .sub (.int .i64 ((p + k : Nat) : Int)) (.int .i64 (d : Int)) = some (.int .i64 ((p - d + k : Nat) : Int)) := by rw [abin_sub, i64_id (by omega) (by omega)]; congr 2; omega
  have a3 : abin .add (.int .i64 (k : Int)) (.int .i64 1) = some (.int .i64 ((k + 1 : Nat) : Int)) := by rw [abin_add, i64_id (by omega) (by omega)]; rfl
  cases n with
  | zero =>
    rw [comF] at hR
    simp (config := {contextual := true, implicitDefEqProofs := false}) (disch := omega) [e0, e1', e2, e7, show ¬ (k : Int) < 258 by omega]
    rw [hR]
  | succ n =>
    rw [comF] at hR
    by_cases c1 : p + k < s.length
    · have i1 := vIdxStr_nat (s := s) (k := .i64) (n := p + k) c1
      have i2 := vIdxStr_nat (s := s) (k := .i64) (n := p - d + k) (by omega)
      by_cases c2 : chr s (p + k) = chr s (p - d + k)
      · rw [if_pos ⟨c1, c2⟩] at hR
        have c3 := u8_eq.2 c2
        simp (config := {contextual := true, implicitDefEqProofs := false}) (disch := omega) [e0, e1', e2, e7, show (k : Int) < 258 by omega, a1, a2, a3, i1, i2, show ((p + k : Nat) : Int) < s.length by omega, c3, -abin_add, -abin_sub, -Int.natCast_add]
        exact again_iff n (by omega) ⟨k + 1, by omega, rfl, hR, by simp [e0], by simp [e1'], by simp [e2], by simp⟩
      · rw [if_neg (fun h => c2 h.2)] at hR
        have c3 : ¬ ((chr s (p + k)).toNat : Int) = ((chr s (p - d + k)).toNat : Int) := fun h => c2 (u8_eq.1 h)
        simp (config := {contextual := true, implicitDefEqProofs := false}) (disch := omega) [e0, e1', e2, e7, show (k : Int) < 258 by omega, a1, a2, i1, i2, show ((p + k : Nat) : Int) < s.length by omega, c3, -abin_add, -abin_sub, -Int.natCast_add]
        rw [hR]
    · rw [if_neg (fun h => c1 h.1)] at hR
      simp (config := {contextual := true, implicitDefEqProofs := false}) (disch := omega) [e0, e1', e2, e7, show (k : Int) < 258 by omega, a1, show ¬ ((p + k : Nat) : Int) < s.length by omega, -abin_add, -Int.natCast_add]
      rw [hR]

def inv69 (H : AHeap) (r : Nat) (p q R : Nat) (s : List UInt8) (n : Nat) (env : Env) (H' : AHeap) : Prop :=
  ∃ k, k + n = 258 ∧ H' = H ∧ R = comF s p q n k ∧ env 0 = .ptr r 0 0 ∧ env 1 = .int .i64 p ∧ env 2 = .int .i64 q ∧ env 7 = .int .i64 k

theorem flen_ok {p q r : Nat} (hs : s.length ≤ 2 ^ 40) (hp : p ≤ 2 ^ 40) (hq : q ≤ p) (hr : ageOk H r 0 = true) (hl : aload H r 0 0 = some (.str s)) : ACall Try.prog 69 [.ptr r 0 0, .int .i64 p, .int .i64 q] H fp fun v H' => v = .int .i64 (com s p q) ∧ H' = H := by
  refine acall_of hmix Try.func69 x69_ok (by simp) ?_
  simp
  refine vc_loop (inv69 H r p q (com s p q) s) 258 ⟨0, rfl, rfl, rfl, by simp, by simp, by simp, by simp⟩ ?_
  rintro n env H1 ⟨k, hk, rfl, hR, e0, e1', e2, e7⟩
  have a1 : abin .add (.int .i64 (p : Int)) (.int .i64 (k : Int)) = some (.int .i64 ((p + k : Nat) : Int)) := by rw [abin_add, i64_id (by omega) (by omega)]; rfl
  have a2 : abin .add (.int .i64 (q : Int)) (.int .i64 (k : Int)) = some (.int .i64 ((q + k : Nat) : Int)) := by rw [abin_add, i64_id (by omega) (by omega)]; rfl
  have a3 : abin .add (.int .i64 (k : Int)) (.int .i64 1) = some (.int .i64 ((k + 1 : Nat) : Int)) := by rw [abin_add, i64_id (by omega) (by omega)]; rfl
  cases n with
  | zero =>
    rw [comF] at hR
    simp (config := {contextual := true, implicitDefEqProofs := false}) (disch := omega) [e0, e1', e2, e7, show ¬ (k : Int) < 258 by omega]
    rw [hR]
  | succ n =>
    rw [comF] at hR
    by_cases c1 : p + k < s.length
    · have i1 := vIdxStr_nat (s := s) (k := .i64) (n := p + k) c1
      have i2 := vIdxStr_nat (s := s) (k := .i64) (n := q + k) (by omega)
      by_cases c2 : chr s (p + k) = chr s (q + k)
      · rw [if_pos ⟨c1, c2⟩] at hR
        have c3 := u8_eq.2 c2
        simp (config := {contextual := true, implicitDefEqProofs := false}) (disch := omega) [e0, e1', e2, e7, hr, hl, show (k : Int) < 258 by omega, a1, a2, a3, i1, i2, show ((p + k : Nat) : Int) < s.length by omega, c3, -abin_add, -abin_sub, -Int.natCast_add]
        exact again_iff n (by omega) ⟨k + 1, by omega, rfl, hR, by simp [e0], by simp [e1'], by simp [e2], by simp⟩
      · rw [if_neg (fun h => c2 h.2)] at hR
        have c3 : ¬ ((chr s (p + k)).toNat : Int) = ((chr s (q + k)).toNat : Int) := fun h => c2 (u8_eq.1 h)
        simp (config := {contextual := true, implicitDefEqProofs := false}) (disch := omega) [e0, e1', e2, e7, hr, hl, show (k : Int) < 258 by omega, a1, a2, i1, i2, show ((p + k : Nat) : Int) < s.length by omega, c3, -abin_add, -abin_sub, -Int.natCast_add]
        rw [hR]
    · rw [if_neg (fun h => c1 h.1)] at hR
      simp (config := {contextual := true, implicitDefEqProofs := false}) (disch := omega) [e0, e1', e2, e7, hr, hl, show (k : Int) < 258 by omega, a1, show ¬ ((p + k : Nat) : Int) < s.length by omega, -abin_add, -Int.natCast_add]
      rw [hR]

def inv15 (H : AHeap) (s : List UInt8) (p : Nat) (n : Nat) (env : Env) (H' : AHeap) : Prop :=
  ∃ D, D ≤ min 4096 p ∧ n = min 4096 p - D ∧ H' = H ∧ env 0 = .str s ∧ env 1 = .int .i64 p ∧ env 6 = .int .i64 (refScan s p D).1 ∧ env 7 = .int .i64 (refScan s p D).2 ∧ env 8 = .int .i64 ((D + 1 : Nat) : Int)

theorem match15_ok {p : Nat} (hs : s.length ≤ 2 ^ 40) (hp : p ≤ 2 ^ 40) : ACall Try.prog 15 [.str s, .int .i64 p] H fp fun v H' => v = .tuple [.int .i64 (matchR s p).1, .int .i64 (matchR s p).2] ∧ H' = H := by
  refine acall_of hmix Try.func15 x15_ok (by simp) ?_
  simp
  refine vc_loop (inv15 H s p) (min 4096 p) ⟨0, by omega, by omega, rfl, by simp, by simp, by simp [refScan], by simp [refScan], by simp⟩ ?_
  rintro n env H1 ⟨D, hD, rfl, rfl, e0, e1', e6, e7, e8⟩
  by_cases hlt : D < min 4096 p
  · have a3 : abin .add (.int .i64 ((D + 1 : Nat) : Int)) (.int .i64 1) = some (.int .i64 ((D + 1 + 1 : Nat) : Int)) := by rw [abin_add, i64_id (by omega) (by omega)]; rfl
    simp (config := {contextual := true, implicitDefEqProofs := false}) (disch := omega) [e0, e1', e6, e7, e8, show ((D + 1 : Nat) : Int) ≤ 4096 by omega, show ((D + 1 : Nat) : Int) ≤ p by omega, show D + 1 ≤ p by omega, -Int.natCast_add]
    refine call1_eq (common_ok hs hp (d := D + 1) (by omega)) ?_
    by_cases c : (refScan s p D).1 < com s p (p - (D + 1))
    · simp (config := {contextual := true, implicitDefEqProofs := false}) (disch := omega) [e0, e1', e6, e7, e8, show ((refScan s p D).1 : Int) < com s p (p - (D + 1)) by omega, c, a3, -abin_add, -Int.natCast_add]
      exact again_iff (min 4096 p - (D + 1)) (by omega) ⟨D + 1, by omega, rfl, rfl, by simp [e0], by simp [e1'], by simp [refScan, c], by rw [refScan, if_pos c]; simp, by simp⟩
    · simp (config := {contextual := true, implicitDefEqProofs := false}) (disch := omega) [e0, e1', e6, e7, e8, show ¬ ((refScan s p D).1 : Int) < com s p (p - (D + 1)) by omega, c, a3, -abin_add, -Int.natCast_add]
      exact again_iff (min 4096 p - (D + 1)) (by omega) ⟨D + 1, by omega, rfl, rfl, by simp [e0], by simp [e1'], by simp [refScan, c, e6], by rw [refScan, if_neg c]; simp [e7], by simp⟩
  · have hD2 : D = min 4096 p := by omega
    have hl := refScan_le s p D
    have hf : ((refScan s p D).1 < 3 → matchR s p = (0, 0)) ∧ (¬ (refScan s p D).1 < 3 → matchR s p = refScan s p D) := by
      unfold matchR; rw [← hD2]
      exact ⟨fun h => if_pos h, fun h => if_neg h⟩
    by_cases c0 : D + 1 ≤ 4096
    · by_cases c : (refScan s p D).1 < 3
      · simp (config := {contextual := true, implicitDefEqProofs := false}) (disch := omega) [e0, e1', e6, e7, e8, show ((D + 1 : Nat) : Int) ≤ 4096 by omega, show ¬ ((D + 1 : Nat) : Int) ≤ p by omega, show ¬ D + 1 ≤ p by omega, c0, show ((refScan s p D).1 : Int) < 3 by omega, c, hf.1 c, -Int.natCast_add]
      · simp (config := {contextual := true, implicitDefEqProofs := false}) (disch := omega) [e0, e1', e6, e7, e8, show ((D + 1 : Nat) : Int) ≤ 4096 by omega, show ¬ ((D + 1 : Nat) : Int) ≤ p by omega, show ¬ D + 1 ≤ p by omega, c0, show ¬ ((refScan s p D).1 : Int) < 3 by omega, c, hf.2 c, -Int.natCast_add]
    · by_cases c : (refScan s p D).1 < 3
      · simp (config := {contextual := true, implicitDefEqProofs := false}) (disch := omega) [e0, e1', e6, e7, e8, show ¬ ((D + 1 : Nat) : Int) ≤ 4096 by omega, c0, show ((refScan s p D).1 : Int) < 3 by omega, c, hf.1 c, -Int.natCast_add]
      · simp (config := {contextual := true, implicitDefEqProofs := false}) (disch := omega) [e0, e1', e6, e7, e8, show ¬ ((D + 1 : Nat) : Int) ≤ 4096 by omega, c0, show ¬ ((refScan s p D).1 : Int) < 3 by omega, c, hf.2 c, -Int.natCast_add]

theorem addN {a b : Nat} (h : a + b < 2 ^ 62) : abin .add (.int .i64 (a : Int)) (.int .i64 (b : Int)) = some (.int .i64 ((a + b : Nat) : Int)) := by rw [abin_add, ← Int.natCast_add, i64_nat (by omega)]
theorem shl1 {e : Nat} (h : e ≤ 60) : abin .shl (.int .i64 1) (.int .i64 (e : Int)) = some (.int .i64 ((2 ^ e : Nat) : Int)) := by
  have hp : 2 ^ e ≤ 2 ^ 60 := Nat.pow_le_pow_right (by omega) h
  rw [abin_shl (by omega)]
  simp only [bits_i64, Int.toNat_natCast, show min e 64 = e by omega]
  rw [show (1 : Int) * 2 ^ e = ((2 ^ e : Nat) : Int) by simp, i64_nat (by omega)]

def inv17 (H : AHeap) (x : Nat) (R : Nat × Nat × Nat) (n : Nat) (env : Env) (H' : AHeap) : Prop :=
  ∃ y b e, y + n = 284 ∧ b ≤ 10000 ∧ e ≤ 5 ∧ H' = H ∧ R = lenL x n y b e ∧ env 0 = .int .i64 x ∧ env 5 = .int .i64 y ∧ env 6 = .int .i64 b ∧ env 7 = .int .i64 e
theorem length_ok {x : Nat} (hx : x ≤ 300) : ACall Try.prog 17 [.int .i64 x] H fp fun v H' => v = .tuple [.int .i64 (lenR x).1, .int .i64 (lenR x).2.1, .int .i64 (lenR x).2.2] ∧ H' = H := by
  refine acall_of hmix Try.func17 x17_ok (by simp) ?_
  unfold lenR
  by_cases c : x = 258
  · subst c; simp
  · rw [if_neg c]
    simp (config := {contextual := true, implicitDefEqProofs := false}) (disch := omega) [show ¬ (x : Int) = 258 by omega, c]
    generalize hR : lenL x 27 257 3 0 = R
    refine vc_loop (inv17 H x R) 27 ⟨257, 3, 0, rfl, by omega, by omega, rfl, hR.symm, by simp, by simp, by simp, by simp⟩ ?_
    rintro n env H1 ⟨y, b, e, hy, hb, he, rfl, hL, e0, e5, e6, e7⟩
    have hp : 2 ^ e ≤ 2 ^ 5 := Nat.pow_le_pow_right (by omega) he
    have s1 := shl1 (e := e) (by omega)
    have a1 : abin .add (.int .i64 (b : Int)) (.int .i64 ((2 ^ e : Nat) : Int)) = some (.int .i64 ((b + 2 ^ e : Nat) : Int)) := addN (by omega)
    cases n with
    | zero =>
      rw [lenL] at hL
      simp (config := {contextual := true, implicitDefEqProofs := false}) (disch := omega) [e0, e5, e6, e7, show ¬ (y : Int) < 284 by omega]
      rw [hL]; simp
    | succ n =>
      rw [lenL] at hL
      have a2 : abin .add (.int .i64 (y : Int)) (.int .i64 1) = some (.int .i64 ((y + 1 : Nat) : Int)) := by rw [abin_add, i64_id (by omega) (by omega)]; rfl
      by_cases c2 : b + 2 ^ e ≤ x
      · rw [if_pos ⟨by omega, c2⟩] at hL
        by_cases c3 : 265 ≤ y + 1
        · rw [if_pos c3] at hL
          have a3 : abin .sub (.int .i64 ((y + 1 : Nat) : Int)) (.int .i64 261) = some (.int .i64 ((y + 1 - 261 : Nat) : Int)) := by rw [abin_sub, i64_id (by omega) (by omega)]; congr 2; omega
          have a4 : ∀ z : Nat, z ≤ 1000 → abin .quo (.int .i64 (z : Int)) (.int .i64 4) = some (.int .i64 ((z / 4 : Nat) : Int)) := by
            intro z hz; rw [abin_quo (by omega), Int.tdiv_eq_ediv_of_nonneg (by omega), i64_id (by omega) (by omega)]; rfl
          simp (config := {contextual := true, implicitDefEqProofs := false}) (disch := omega) [e0, e5, e6, e7, show (y : Int) < 284 by omega, s1, a1, show ((b + 2 ^ e : Nat) : Int) ≤ x by omega, c2, a2, show (265 : Int) ≤ ((y + 1 : Nat) : Int) by omega, c3, a3, a4, -abin_add, -abin_sub, -Int.natCast_add, -Int.natCast_ediv, -Int.natCast_pow]
          exact again_iff n (by omega) ⟨y + 1, b + 2 ^ e, (y + 1 - 261) / 4, by omega, by omega, by omega, rfl, hL, by simp [e0], by simp, by simp, by simp⟩
        · rw [if_neg c3] at hL
          simp (config := {contextual := true, implicitDefEqProofs := false}) (disch := omega) [e0, e5, e6, e7, show (y : Int) < 284 by omega, s1, a1, show ((b + 2 ^ e : Nat) : Int) ≤ x by omega, c2, a2, show ¬ (265 : Int) ≤ ((y + 1 : Nat) : Int) by omega, show ¬ 264 ≤ y by omega, c3, -abin_add, -abin_sub, -Int.natCast_add, -Int.natCast_ediv, -Int.natCast_pow]
          exact again_iff n (by omega) ⟨y + 1, b + 2 ^ e, e, by omega, by omega, by omega, rfl, hL, by simp [e0], by simp, by simp, by simp [e7]⟩
      · rw [if_neg (fun h => c2 h.2)] at hL
        simp (config := {contextual := true, implicitDefEqProofs := false}) (disch := omega) [e0, e5, e6, e7, show (y : Int) < 284 by omega, s1, a1, show ¬ ((b + 2 ^ e : Nat) : Int) ≤ x by omega, c2, -abin_add, -Int.natCast_add, -Int.natCast_pow]
        rw [hL]; simp

def inv18 (H : AHeap) (x : Nat) (R : Nat × Nat × Nat) (n : Nat) (env : Env) (H' : AHeap) : Prop :=
  ∃ y b e, y + n = 29 ∧ b ≤ 10000000 ∧ (y = 0 ∨ b ≤ x) ∧ e ≤ 13 ∧ H' = H ∧ R = distL x n y b e ∧ env 0 = .int .i64 x ∧ env 5 = .int .i64 y ∧ env 6 = .int .i64 b ∧ env 7 = .int .i64 e
theorem distance_ok {x : Nat} (hx : x ≤ 100000) : ACall Try.prog 18 [.int .i64 x] H fp fun v H' => v = .tuple [.int .i64 (distR x).1, .int .i64 (distR x).2.1, .int .i64 (distR x).2.2] ∧ H' = H := by
  refine acall_of hmix Try.func18 x18_ok (by simp) ?_
  unfold distR
  simp
  generalize hR : distL x 29 0 1 0 = R
  refine vc_loop (inv18 H x R) 29 ⟨0, 1, 0, rfl, by omega, .inl rfl, by omega, rfl, hR.symm, by simp, by simp, by simp, by simp⟩ ?_
  rintro n env H1 ⟨y, b, e, hy, hb, hb2, he, rfl, hL, e0, e5, e6, e7⟩
  have hp : 2 ^ e ≤ 2 ^ 13 := Nat.pow_le_pow_right (by omega) he
  have s1 := shl1 (e := e) (by omega)
  have a1 : abin .add (.int .i64 (b : Int)) (.int .i64 ((2 ^ e : Nat) : Int)) = some (.int .i64 ((b + 2 ^ e : Nat) : Int)) := addN (by omega)
  cases n with
  | zero =>
    rw [distL] at hL
    simp (config := {contextual := true, implicitDefEqProofs := false}) (disch := omega) [e0, e5, e6, e7, show ¬ (y : Int) < 29 by omega]
    rw [hL]; simp
  | succ n =>
    rw [distL] at hL
    have a2 : abin .add (.int .i64 (y : Int)) (.int .i64 1) = some (.int .i64 ((y + 1 : Nat) : Int)) := by rw [abin_add, i64_id (by omega) (by omega)]; rfl
    by_cases c2 : b + 2 ^ e ≤ x
    · rw [if_pos ⟨by omega, c2⟩] at hL
      by_cases c3 : 4 ≤ y + 1
      · rw [if_pos c3] at hL
        have a3 : abin .sub (.int .i64 ((y + 1 : Nat) : Int)) (.int .i64 2) = some (.int .i64 ((y + 1 - 2 : Nat) : Int)) := by rw [abin_sub, i64_id (by omega) (by omega)]; congr 2; omega
        have a4 : ∀ z : Nat, z ≤ 1000 → abin .quo (.int .i64 (z : Int)) (.int .i64 2) = some (.int .i64 ((z / 2 : Nat) : Int)) := by
          intro z hz; rw [abin_quo (by omega), Int.tdiv_eq_ediv_of_nonneg (by omega), i64_id (by omega) (by omega)]; rfl
        simp (config := {contextual := true, implicitDefEqProofs := false}) (disch := omega) [e0, e5, e6, e7, show (y : Int) < 29 by omega, s1, a1, show ((b + 2 ^ e : Nat) : Int) ≤ x by omega, c2, a2, show (4 : Int) ≤ ((y + 1 : Nat) : Int) by omega, c3, a3, a4, -abin_add, -abin_sub, -Int.natCast_add, -Int.natCast_ediv, -Int.natCast_pow]
        exact again_iff n (by omega) ⟨y + 1, b + 2 ^ e, (y + 1 - 2) / 2, by omega, by omega, .inr c2, by omega, rfl, hL, by simp [e0], by simp, by simp, by simp⟩
      · rw [if_neg c3] at hL
        simp (config := {contextual := true, implicitDefEqProofs := false}) (disch := omega) [e0, e5, e6, e7, show (y : Int) < 29 by omega, s1, a1, show ((b + 2 ^ e : Nat) : Int) ≤ x by omega, c2, a2, show ¬ (4 : Int) ≤ ((y + 1 : Nat) : Int) by omega, show ¬ 3 ≤ y by omega, c3, -abin_add, -abin_sub, -Int.natCast_add, -Int.natCast_ediv, -Int.natCast_pow]
        exact again_iff n (by omega) ⟨y + 1, b + 2 ^ e, e, by omega, by omega, .inr c2, by omega, rfl, hL, by simp [e0], by simp, by simp, by simp [e7]⟩
    · rw [if_neg (fun h => c2 h.2)] at hL
      simp (config := {contextual := true, implicitDefEqProofs := false}) (disch := omega) [e0, e5, e6, e7, show (y : Int) < 29 by omega, s1, a1, show ¬ ((b + 2 ^ e : Nat) : Int) ≤ x by omega, c2, -abin_add, -Int.natCast_add, -Int.natCast_pow]
      rw [hL]; simp

def inv70 (H : AHeap) (x plain group : Nat) (R : Nat × Nat × Nat) (n : Nat) (env : Env) (H' : AHeap) : Prop :=
  ∃ y b, b ≤ x ∧ x + 1 - b ≤ n ∧ y ≤ b ∧ rkX plain group y ≤ 25 ∧ H' = H ∧ R = rankL x plain group n y b ∧ env 0 = .int .i64 x ∧ env 2 = .int .i64 plain ∧ env 3 = .int .i64 group ∧ env 8 = .int .i64 y ∧ env 9 = .int .i64 b
theorem rank_ok {x first plain group : Nat} (hx : x ≤ 100000) (hf : first ≤ x) (hg : group = 4 ∨ group = 2) (hpl : plain ≤ 10) : ACall Try.prog 70 [.int .i64 x, .int .i64 first, .int .i64 plain, .int .i64 group] H fp fun v H' =>
    v = .tuple [.int .i64 (rankL x plain group (x + 1) 0 first).1, .int .i64 (rankL x plain group (x + 1) 0 first).2.1, .int .i64 (rankL x plain group (x + 1) 0 first).2.2] ∧ H' = H := by
  refine acall_of hmix Try.func70 x70_ok (by simp) ?_
  simp
  generalize hR : rankL x plain group (x + 1) 0 first = R
  have hk0 : rkX plain group 0 ≤ 25 := by unfold rkX; split <;> simp
  refine vc_loop (inv70 H x plain group R) (x + 1) ⟨0, first, hf, by omega, by omega, hk0, rfl, hR.symm, by simp, by simp, by simp, by simp, by simp⟩ ?_
  rintro n env H1 ⟨y, b, hb, hn, hyb, hk, rfl, hL, e0, e2, e3, e8, e9⟩
  obtain ⟨n', rfl⟩ : ∃ n', n = n' + 1 := ⟨n - 1, by omega⟩
  rw [rankL] at hL
  have hknext : rkX plain group (y + 1) ≤ rkX plain group y + 1 := by
    unfold rkX
    rcases hg with rfl | rfl
    · split
      · split <;> omega
      · split <;> omega
    · split
      · split <;> omega
      · split <;> omega
  have hp : 2 ^ rkX plain group y ≤ 2 ^ 25 := Nat.pow_le_pow_right (by omega) hk
  have hp0 : 0 < 2 ^ rkX plain group y := Nat.two_pow_pos _
  have s1 := shl1 (e := rkX plain group y) (by omega)
  have a1 : abin .add (.int .i64 (b : Int)) (.int .i64 ((2 ^ rkX plain group y : Nat) : Int)) = some (.int .i64 ((b + 2 ^ rkX plain group y : Nat) : Int)) := addN (by omega)
  have a2 : abin .add (.int .i64 (y : Int)) (.int .i64 1) = some (.int .i64 ((y + 1 : Nat) : Int)) := by rw [abin_add, i64_id (by omega) (by omega)]; rfl
  have hgi : (group : Int) ≠ 0 := by omega
  have more : b + 2 ^ rkX plain group y ≤ x → rkX plain group (y + 1) ≤ 25 := by
    intro h
    have : rkX plain group y ≤ 20 := by
      by_cases c : rkX plain group y ≤ 20
      · exact c
      · have : 2 ^ 21 ≤ 2 ^ rkX plain group y := Nat.pow_le_pow_right (by omega) (by omega)
        omega
    omega
  by_cases c1 : y < plain
  · have hk1 : rkX plain group y = 0 := by unfold rkX; rw [if_pos c1]
    rw [hk1] at s1 a1 hL more
    simp only [Nat.pow_zero] at s1 a1 hL more
    by_cases c2 : x < b + 1
    · rw [if_pos c2] at hL
      simp (config := {contextual := true, implicitDefEqProofs := false}) (disch := omega) [e0, e2, e3, e8, e9, abin_quo, hgi, show (y : Int) < plain by omega, c1, show abin .shl (.int .i64 1) (.int .i64 0) = some (.int .i64 1) from s1, show abin .add (.int .i64 (b : Int)) (.int .i64 1) = some (.int .i64 ((b + 1 : Nat) : Int)) from a1, show (x : Int) < ((b + 1 : Nat) : Int) by omega, c2, -Int.natCast_add]
      rw [hL]; simp
    · rw [if_neg c2] at hL
      simp (config := {contextual := true, implicitDefEqProofs := false}) (disch := omega) [e0, e2, e3, e8, e9, abin_quo, hgi, show (y : Int) < plain by omega, c1, show abin .shl (.int .i64 1) (.int .i64 0) = some (.int .i64 1) from s1, show abin .add (.int .i64 (b : Int)) (.int .i64 1) = some (.int .i64 ((b + 1 : Nat) : Int)) from a1, show ¬ (x : Int) < ((b + 1 : Nat) : Int) by omega, c2, a2, -Int.natCast_add]
      exact again_iff n' (by omega) ⟨y + 1, b + 1, by omega, by omega, by omega, more (by omega), rfl, hL, by simp [e0], by simp [e2], by simp [e3], by simp, by simp⟩
  · have hk1 : rkX plain group y = (y - plain) / group + 1 := by unfold rkX; rw [if_neg c1]
    have b1 : abin .sub (.int .i64 (y : Int)) (.int .i64 (plain : Int)) = some (.int .i64 ((y - plain : Nat) : Int)) := by rw [abin_sub, i64_id (by omega) (by omega)]; congr 2; omega
    have b2 : abin .quo (.int .i64 ((y - plain : Nat) : Int)) (.int .i64 (group : Int)) = some (.int .i64 (((y - plain) / group : Nat) : Int)) := by
      have hle : (y - plain) / group ≤ y - plain := Nat.div_le_self _ _
      rw [abin_quo hgi, Int.tdiv_eq_ediv_of_nonneg (by omega), show ((y - plain : Nat) : Int) / (group : Int) = (((y - plain) / group : Nat) : Int) from rfl, i64_nat (by omega)]
    have hle := Nat.div_le_self (y - plain) group
    have b3 : abin .add (.int .i64 (((y - plain) / group : Nat) : Int)) (.int .i64 1) = some (.int .i64 ((rkX plain group y : Nat) : Int)) := by rw [hk1]; exact addN (b := 1) (by omega)
    have hkpos : 1 ≤ rkX plain group y := by rw [hk1]; exact Nat.le_add_left 1 _
    have b4 : vMax (.int .i64 0) (.int .i64 ((rkX plain group y : Nat) : Int)) = some (.int .i64 ((rkX plain group y : Nat) : Int)) := by
      simp only [vMax_int]; rw [if_pos (by omega)]
    generalize hkk : rkX plain group y = k at *
    by_cases c2 : x < b + 2 ^ k
    · rw [if_pos c2] at hL
      simp (config := {contextual := true, implicitDefEqProofs := false}) (disch := omega) [e0, e2, e3, e8, e9, b1, b2, b3, b4, show ¬ (y : Int) < plain by omega, c1, s1, a1, show (x : Int) < ((b + 2 ^ k : Nat) : Int) by omega, c2, -abin_add, -abin_sub, -vMax_int, -Int.natCast_add, -Int.natCast_pow, -Int.natCast_ediv]
      rw [hL]; simp
    · rw [if_neg c2] at hL
      simp (config := {contextual := true, implicitDefEqProofs := false}) (disch := omega) [e0, e2, e3, e8, e9, b1, b2, b3, b4, show ¬ (y : Int) < plain by omega, c1, s1, a1, show ¬ (x : Int) < ((b + 2 ^ k : Nat) : Int) by omega, c2, a2, -abin_add, -abin_sub, -vMax_int, -Int.natCast_add, -Int.natCast_pow, -Int.natCast_ediv]
      exact again_iff n' (by omega) ⟨y + 1, b + 2 ^ k, by omega, by omega, by omega, more (by omega), rfl, hL, by simp [e0], by simp [e2], by simp [e3], by simp, by simp⟩
end
end Go.Proofs.Ytdknddicpdhkcaa.Ab

/- Deflate: the finder of matches. Conditions: none; for the statements about layer 47. -/
namespace Go.Proofs.Ytdknddicpdhkcaa.Ab
set_option linter.unusedVariables false
set_option linter.unusedSimpArgs false

/-! ### What it computes -/
def key3 (s : List UInt8) (q : Nat) : Int × Int × Int := (((chr s q).toNat : Nat), ((chr s (q + 1)).toNat : Nat), ((chr s (q + 2)).toNat : Nat))
def lastP (s : List UInt8) (l : Int × Int × Int) : Nat → Option Nat
  | 0 => none
  | p + 1 => if p + 3 ≤ s.length ∧ key3 s p = l then some p else lastP s l p
def asI : Option Nat → Int
  | some q => q
  | none => -1
def prevV (s : List UInt8) (q : Nat) : Int := if q + 3 ≤ s.length then asI (lastP s (key3 s q) q) else -1
def scanC (s : List UInt8) (p : Nat) : Nat → Nat × Nat
  | 0 => (0, 0)
  | D + 1 => if key3 s (p - (D + 1)) = key3 s p ∧ (scanC s p D).1 < com s p (p - (D + 1)) then (com s p (p - (D + 1)), D + 1) else scanC s p D
def findM (s : List UInt8) (p : Nat) : Nat × Nat := if p + 3 ≤ s.length then scanC s p (min 4096 p) else (0, 0)

theorem lastP_some {s : List UInt8} {l : Int × Int × Int} : ∀ {n q : Nat}, lastP s l n = some q → q < n ∧ q + 3 ≤ s.length ∧ key3 s q = l ∧ ∀ r, q < r → r < n → r + 3 ≤ s.length → key3 s r ≠ l
  | 0, q, h => by simp [lastP] at h
  | n + 1, q, h => by
    rw [lastP] at h
    split at h
    · rename_i hc
      cases h
      exact ⟨by omega, hc.1, hc.2, fun r h1 h2 => by omega⟩
    · rename_i hc
      obtain ⟨h1, h2, h3, h4⟩ := lastP_some h
      refine ⟨by omega, h2, h3, fun r g1 g2 g3 g4 => ?_⟩
      by_cases e : r = n
      · subst e; exact hc ⟨g3, g4⟩
      · exact h4 r g1 (by omega) g3 g4
theorem lastP_none {s : List UInt8} {l : Int × Int × Int} : ∀ {n : Nat}, lastP s l n = none → ∀ r, r < n → r + 3 ≤ s.length → key3 s r ≠ l
  | 0, _, r, h, _ => by omega
  | n + 1, h, r, h1, h2 => by
    rw [lastP] at h
    split at h
    · cases h
    · rename_i hc
      intro g
      by_cases e : r = n
      · subst e; exact hc ⟨h2, g⟩
      · exact lastP_none h r (by omega) h2 g
theorem scanC_le (s : List UInt8) (p : Nat) : ∀ D, (scanC s p D).1 ≤ 258 ∧ (scanC s p D).2 ≤ D ∧ ((scanC s p D).1 = 0 ∨ 1 ≤ (scanC s p D).2)
  | 0 => by simp [scanC]
  | D + 1 => by
    have := scanC_le s p D
    have h2 := com_le s p (p - (D + 1))
    rw [scanC]; split
    · exact ⟨h2, Nat.le_refl _, .inr (by simp only []; omega)⟩
    · exact ⟨this.1, by omega, this.2.2⟩
theorem scanC_skip {s : List UInt8} {p D : Nat} : ∀ {D2 : Nat}, D ≤ D2 → (∀ d, D < d → d ≤ D2 → key3 s (p - d) = key3 s p → 258 ≤ (scanC s p D).1) → scanC s p D2 = scanC s p D
  | 0, h, _ => by rw [show D = 0 by omega]
  | D2 + 1, h, hk => by
    by_cases e : D = D2 + 1
    · rw [e]
    · have ih := scanC_skip (s := s) (p := p) (D := D) (D2 := D2) (by omega) fun d h1 h2 => hk d h1 (by omega)
      rw [scanC, ih]
      rw [if_neg]
      rintro ⟨h1, h2⟩
      have := hk (D2 + 1) (by omega) (Nat.le_refl _) h1
      have := com_le s p (p - (D2 + 1))
      omega

section
variable {s : List UInt8} {H : AHeap} {fp : Nat → Prop} {f m v p : Nat}

theorem key3_wf (s : List UInt8) (q : Nat) : akey3 .u8 (.agg [.int .u8 (key3 s q).1, .int .u8 (key3 s q).2.1, .int .u8 (key3 s q).2.2]) = some (key3 s q) := by
  have w : ∀ c : UInt8, (Lit.int .u8 ((c.toNat : Nat) : Int)).wf = true := fun c => by
    have := UInt8.toNat_lt c
    exact WalkArith.wf_u8 (by omega)
  unfold akey3 key3
  dsimp only
  rw [if_pos ⟨rfl, rfl, rfl, w _, w _, w _⟩]
def keyA (s : List UInt8) (q : Nat) : AVal := .agg [.int .u8 (key3 s q).1, .int .u8 (key3 s q).2.1, .int .u8 (key3 s q).2.2]

theorem key_ok (hs : s.length ≤ 2 ^ 40) (hp : p + 3 ≤ s.length) (hr : ageOk H f 0 = true) (hl : aload H f 0 0 = some (.str s)) : ACall Try.prog 68 [.ptr f 0 0, .int .i64 p] H fp fun v H' => v = keyA s p ∧ H' = H := by
  refine (ACall.drop (R := fun v' _ => v' = keyA s p) ?_ (by rintro v' H' rfl; rfl)).mono fun v' H' q => ⟨q.2.elim fun _ q => q.1, q.1⟩
  refine acall_of hmix Try.func68 x68_ok (by simp) ?_
  have hfl : f < H.length := by
    unfold ageOk at hr
    split at hr
    · rename_i hb; exact (List.getElem?_eq_some_iff.1 hb).1
    · cases hr
  have g0 : ∀ L, ageOk (H ++ L) f 0 = true := fun L => by unfold ageOk at hr ⊢; rw [List.getElem?_append_left hfl]; exact hr
  have g1 : ∀ L, aload (H ++ L) f 0 0 = some (.str s) := fun L => by unfold aload at hl ⊢; rw [List.getElem?_append_left hfl]; exact hl
  have a1 : abin .add (.int .i64 (p : Int)) (.int .i64 1) = some (.int .i64 ((p + 1 : Nat) : Int)) := addN (b := 1) (by omega)
  have a2 : abin .add (.int .i64 (p : Int)) (.int .i64 2) = some (.int .i64 ((p + 2 : Nat) : Int)) := addN (b := 2) (by omega)
  have i0 := vIdxStr_nat (s := s) (k := .i64) (n := p) (by omega)
  have i1 := vIdxStr_nat (s := s) (k := .i64) (n := p + 1) (by omega)
  have i2 := vIdxStr_nat (s := s) (k := .i64) (n := p + 2) (by omega)
  have hst : ∀ a b c : AVal, a.one = true → b.one = true → c.one = true → astores [.cells 0 false 87 [.int .u8 0, .int .u8 0, .int .u8 0]] 0 0 0 [a, b, c] = some [.cells 0 false 87 [a, b, c]] := by
    intro a b c h1 h2 h3
    exact astores_all (L := []) (cs := [.int .u8 0, .int .u8 0, .int .u8 0]) (new := [a, b, c]) rfl (by simp [h1, h2, h3])
  simp (config := {contextual := true, implicitDefEqProofs := false}) (disch := omega) [g0, g1, a1, a2, i0, i1, i2, afill, hst (.int .u8 ((chr s p).toNat : Nat)) (.int .u8 ((chr s (p + 1)).toNat : Nat)) (.int .u8 ((chr s (p + 2)).toNat : Nat)) rfl rfl rfl, resVal, keyA, key3, -abin_add, -Int.natCast_add]

/-- The finder at f, with its map m and its list v: all places before p are known. -/
def FD (H : AHeap) (f m v : Nat) (s : List UInt8) (p : Nat) : Prop :=
  H[f]? = some (.cells 0 false 79 [.str s, .map m, .slice v 0 0 s.length 1]) ∧ v ≠ f ∧
  (∃ es, H[m]? = some (.map es) ∧ mkeys .u8 es = true ∧ ∀ l, mget .u8 l es = (lastP s l p).map fun q => .int .i64 (q : Int)) ∧
  ∃ g : Nat → Int, H[v]? = some (.cells 0 false 3 (Arr s.length g)) ∧ ∀ q, q < p → g q = prevV s q

theorem vLookup_def {env : Env} {kd : IntKind} {zero : AVal} {ok : Bool} {x i : XOpd} : SOp.val env H (.lookup kd zero ok x i) = (match x.ev env, akey3 kd (i.ev env) with
    | .map r, some l => match H[r]? with
      | some (.map es) => if mkeys kd es = true then some (if ok = true then .tuple [(mget kd l es).getD zero, .bool (mget kd l es).isSome] else (mget kd l es).getD zero) else none
      | _ => none
    | _, _ => none) := rfl
def vLook (H : AHeap) (kd : IntKind) (zero : AVal) (ok : Bool) (x i : AVal) : Option AVal := match x, akey3 kd i with
    | .map r, some l => match H[r]? with
      | some (.map es) => if mkeys kd es = true then some (if ok = true then .tuple [(mget kd l es).getD zero, .bool (mget kd l es).isSome] else (mget kd l es).getD zero) else none
      | _ => none
    | _, _ => none
@[simp ↓] theorem val_lookup {env : Env} {kd : IntKind} {zero : AVal} {ok : Bool} {x i : XOpd} : SOp.val env H (.lookup kd zero ok x i) = vLook H kd zero ok (x.ev env) (i.ev env) := rfl
def vMapPut (H : AHeap) (kd : IntKind) (x k v : AVal) : Option (AVal × AHeap) := match x, akey3 kd k with
    | .map r, some l => match H[r]? with
      | some (.map es) => if mkeys kd es = true ∧ v.one = true then some (.tuple [], H.set r (.map (mput kd l k v es))) else none
      | _ => none
    | _, _ => none
@[simp ↓] theorem val_mapPut {env : Env} {kd : IntKind} {x k v : XOpd} : EOp.val env H (.mapPut kd x k v) = vMapPut H kd (x.ev env) (k.ev env) (v.ev env) := rfl
def mTarget (x : AVal) (k : Nat) : Prop := match x with
  | .map r => k = r
  | _ => False
@[simp] theorem mTarget_map {r k : Nat} : mTarget (.map r) k = (k = r) := rfl
@[simp ↓] theorem target_mapPut {env : Env} {kd : IntKind} {x k v : XOpd} {i : Nat} : EOp.target env (.mapPut kd x k v) i = mTarget (x.ev env) i := by
  simp only [EOp.target]; generalize XOpd.ev env x = u; cases u <;> rfl
@[simp ↓] theorem val_makeMap {env : Env} : EOp.val env H .makeMap = some (.map H.length, H ++ [.map []]) := rfl
@[simp ↓] theorem target_makeMap {env : Env} {i : Nat} : EOp.target env .makeMap i = False := rfl

theorem look_ok {es : List (AVal × AVal)} {zero : AVal} (hm : H[m]? = some (.map es)) (hk : mkeys .u8 es = true) (q : Nat) : vLook H .u8 zero true (.map m) (keyA s q) = some (.tuple [(mget .u8 (key3 s q) es).getD zero, .bool (mget .u8 (key3 s q) es).isSome]) := by
  simp only [vLook, keyA, key3_wf, hm, hk, if_true]
theorem mput_get {l l' : Int × Int × Int} {k v : AVal} (hk : akey3 .u8 k = some l) : ∀ {es : List (AVal × AVal)}, mkeys .u8 es = true → mget .u8 l' (mput .u8 l k v es) = if l' = l then some v else mget .u8 l' es
  | [], _ => by
    simp only [mput, mget, hk, Option.some.injEq]
    by_cases e : l = l'
    · rw [if_pos e, if_pos e.symm]
    · rw [if_neg e, if_neg (Ne.symm e)]
  | (k0, v0) :: es, hm => by
    simp only [mkeys] at hm
    split at hm
    · rename_i l0 h0
      simp only [Bool.and_eq_true, Option.isNone_iff_eq_none] at hm
      by_cases e : l0 = l
      · subst e
        simp only [mput, h0, if_true, mget, hk, Option.some.injEq]
        by_cases e2 : l0 = l'
        · rw [if_pos e2, if_pos e2.symm]
        · rw [if_neg e2, if_neg (Ne.symm e2), if_neg e2]
      · have ih := mput_get (l' := l') (v := v) hk hm.2
        simp only [mput, h0, Option.some.injEq, e, if_false, mget, ih]
        by_cases e2 : l0 = l'
        · subst e2; rw [if_pos rfl, if_neg e, if_pos rfl]
        · rw [if_neg e2, if_neg e2]
    · cases hm
theorem mput_keys {l : Int × Int × Int} {k v : AVal} (hk : akey3 .u8 k = some l) : ∀ {es : List (AVal × AVal)}, mkeys .u8 es = true → mkeys .u8 (mput .u8 l k v es) = true
  | [], _ => by simp [mput, mkeys, hk, mget]
  | (k0, v0) :: es, hm => by
    have hm0 := hm
    simp only [mkeys] at hm
    split at hm
    · rename_i l0 h0
      simp only [Bool.and_eq_true, Option.isNone_iff_eq_none] at hm
      by_cases e : l0 = l
      · subst e
        simp only [mput, h0, if_true, mkeys, hk, hm.1, hm.2, Option.isNone_none, Bool.and_self]
      · simp only [mput, h0, Option.some.injEq, e, if_false, mkeys, mput_get hk hm.2, hm.1, Option.isNone_none, mput_keys hk hm.2, Bool.and_self]
    · cases hm

theorem add_ok (hs : s.length ≤ 2 ^ 40) (hF : FD H f m v s p) (hp : p < s.length) : ACall Try.prog 58 [.ptr f 0 0, .int .i64 p] H (fun r => r = m ∨ r = v) fun u H' => u = .tuple [] ∧ FD H' f m v s (p + 1) := by
  obtain ⟨hf, hvf, ⟨es, hm, hk, hget⟩, g, hv, hg⟩ := hF
  refine acall_of hmix Try.func58 x58_ok (by simp) ?_
  have hmf : m ≠ f := by intro c; subst c; rw [hm] at hf; cases hf
  have hmv : m ≠ v := by intro c; subst c; rw [hm] at hv; cases hv
  have hvl := (List.getElem?_eq_some_iff.1 hv).1
  have hfl := (List.getElem?_eq_some_iff.1 hf).1
  have hml := (List.getElem?_eq_some_iff.1 hm).1
  have gf := ageOk_at hf
  have gv := ageOk_at hv
  have lf0 : aload H f 0 0 = some (.str s) := by rw [aload_at hf]; rfl
  have lf2 : aload H f 0 2 = some (.slice v 0 0 s.length 1) := by rw [aload_at hf]; rfl
  have st : ∀ x : Int, astore H v 0 p (.int .i64 x) = some (H.set v (.cells 0 false 3 (Arr s.length fun k => if k = p then x else g k))) := by
    intro x; rw [astore_at hv, if_pos ⟨by simpa using hp, rfl⟩, Arr_set]
  -- behind the first store
  have hf1 : ∀ b : ABlk, (H.set v b)[f]? = some (.cells 0 false 79 [.str s, .map m, .slice v 0 0 s.length 1]) := fun b => by rw [List.getElem?_set_ne hvf]; exact hf
  have gf1 := fun b => ageOk_at (hf1 b)
  have lf10 : ∀ b, aload (H.set v b) f 0 0 = some (.str s) := fun b => by rw [aload_at (hf1 b)]; rfl
  have a3 : abin .add (.int .i64 (p : Int)) (.int .i64 3) = some (.int .i64 ((p + 3 : Nat) : Int)) := addN (b := 3) (by omega)
  by_cases c : p + 3 ≤ s.length
  · have kst : astores [.cells 0 false 87 [.int .u8 0, .int .u8 0, .int .u8 0]] 0 0 0 [.int .u8 (key3 s p).1, .int .u8 (key3 s p).2.1, .int .u8 (key3 s p).2.2] = some [.cells 0 false 87 [.int .u8 (key3 s p).1, .int .u8 (key3 s p).2.1, .int .u8 (key3 s p).2.2]] :=
      astores_all (L := []) (cs := [.int .u8 0, .int .u8 0, .int .u8 0]) (new := [.int .u8 (key3 s p).1, .int .u8 (key3 s p).2.1, .int .u8 (key3 s p).2.2]) rfl rfl
    have hkA : keyA s p = .agg [.int .u8 (key3 s p).1, .int .u8 (key3 s p).2.1, .int .u8 (key3 s p).2.2] := rfl
    simp (config := {contextual := true, implicitDefEqProofs := false}) (disch := omega) [gf, gv, lf0, lf2, hp, show (p : Int) < s.length by omega, st, gf1, lf10, a3, show ¬ (s.length : Int) < ((p + 3 : Nat) : Int) by omega, show ¬ s.length < p + 3 by omega, -abin_add, -Int.natCast_add]
    refine call1_eq (key_ok hs c (gf1 _) (lf10 _)) ?_
    rw [hkA]
    have hG1 := hf1 (.cells 0 false 3 (Arr s.length fun k => if k = p then -1 else g k))
    have hG2 : (H.set v (.cells 0 false 3 (Arr s.length fun k => if k = p then -1 else g k)))[m]? = some (.map es) := by rw [List.getElem?_set_ne (Ne.symm hmv)]; exact hm
    have hG3 : (H.set v (.cells 0 false 3 (Arr s.length fun k => if k = p then -1 else g k)))[v]? = some (.cells 0 false 3 (Arr s.length fun k => if k = p then -1 else g k)) := List.getElem?_set_self hvl
    have hG4 : (H.set v (.cells 0 false 3 (Arr s.length fun k => if k = p then -1 else g k))).length = H.length := by simp
    generalize H.set v (.cells 0 false 3 (Arr s.length fun k => if k = p then -1 else g k)) = G at *
    have hG1' : ∀ L, (G ++ L)[f]? = some (.cells 0 false 79 [.str s, .map m, .slice v 0 0 s.length 1]) := fun L => by rw [List.getElem?_append_left (by omega)]; exact hG1
    have hG2' : ∀ L, (G ++ L)[m]? = some (.map es) := fun L => by rw [List.getElem?_append_left (by omega)]; exact hG2
    have hG3' : ∀ L, (G ++ L)[v]? = some (.cells 0 false 3 (Arr s.length fun k => if k = p then -1 else g k)) := fun L => by rw [List.getElem?_append_left (by omega)]; exact hG3
    have gf2 := fun L => ageOk_at (hG1' L)
    have gv2 := fun L => ageOk_at (hG3' L)
    have lf21 : ∀ L, aload (G ++ L) f 0 1 = some (.map m) := fun L => by rw [aload_at (hG1' L)]; rfl
    have lf22 : ∀ L, aload (G ++ L) f 0 2 = some (.slice v 0 0 s.length 1) := fun L => by rw [aload_at (hG1' L)]; rfl
    have lk := fun L => look_ok (s := s) (zero := .int .i64 0) (hG2' L) hk p
    rw [hget, hkA] at lk
    have hkw : akey3 .u8 (keyA s p) = some (key3 s p) := key3_wf s p
    have fin : ∀ (G5 : AHeap) (g5 : Nat → Int), G5[f]? = some (.cells 0 false 79 [.str s, .map m, .slice v 0 0 s.length 1]) → G5[v]? = some (.cells 0 false 3 (Arr s.length g5)) → m < G5.length → (∀ q, q < p → g5 q = g q) → g5 p = asI (lastP s (key3 s p) p) →
        FD (G5.set m (.map (mput .u8 (key3 s p) (keyA s p) (.int .i64 p) es))) f m v s (p + 1) := by
      intro G5 g5 h1 h2 h3 h4 h5
      refine ⟨by rw [List.getElem?_set_ne hmf]; exact h1, hvf, ⟨_, List.getElem?_set_self h3, mput_keys hkw hk, fun l => ?_⟩, g5, by rw [List.getElem?_set_ne hmv]; exact h2, fun q hq => ?_⟩
      · rw [mput_get hkw hk, lastP]
        by_cases e : l = key3 s p
        · rw [if_pos e, if_pos ⟨c, e.symm⟩]; rfl
        · rw [if_neg e, if_neg (fun h => e h.2.symm)]; exact hget l
      · by_cases e : q = p
        · subst e; rw [h5, prevV, if_pos c]
        · rw [h4 q (by omega)]; exact hg q (by omega)
    have mp : ∀ G5 : AHeap, G5[m]? = some (.map es) → vMapPut G5 .u8 (.map m) (.agg [.int .u8 (key3 s p).1, .int .u8 (key3 s p).2.1, .int .u8 (key3 s p).2.2]) (.int .i64 p) = some (.tuple [], G5.set m (.map (mput .u8 (key3 s p) (keyA s p) (.int .i64 p) es))) := by
      intro G5 h
      simp only [vMapPut, key3_wf, h]
      rw [if_pos ⟨hk, rfl⟩]; rfl
    cases hlast : lastP s (key3 s p) p with
    | none =>
      rw [hlast] at lk
      simp (config := {contextual := true, implicitDefEqProofs := false}) (disch := omega) [kst, gf2, lf21, lk, mp _ (hG2' _), -List.set_append_left, -List.set_append_right]
      exact ⟨.inr (by omega), fin _ (fun k => if k = p then (-1 : Int) else g k) (hG1' _) (hG3' _) (by rw [List.length_append]; omega) (fun q hq => by show (if q = p then (-1 : Int) else g q) = g q; rw [if_neg (by omega)]) (by show (if p = p then (-1 : Int) else g p) = _; rw [if_pos rfl, hlast]; rfl)⟩
    | some q =>
      rw [hlast] at lk
      have st2 : ∀ L, astore (G ++ L) v 0 p (.int .i64 (q : Int)) = some ((G ++ L).set v (.cells 0 false 3 (Arr s.length fun k => if k = p then (q : Int) else g k))) := by
        intro L
        rw [astore_at (hG3' L), if_pos ⟨by simpa using hp, rfl⟩, Arr_set]
        congr 3
        apply Arr_congr
        intro k _
        by_cases e : k = p
        · rw [if_pos e, if_pos e]
        · rw [if_neg e, if_neg e, if_neg e]
      have hH1 : ∀ L b, ((G ++ L).set v b)[f]? = some (.cells 0 false 79 [.str s, .map m, .slice v 0 0 s.length 1]) := fun L b => by rw [List.getElem?_set_ne hvf]; exact hG1' L
      have gf3 := fun L b => ageOk_at (hH1 L b)
      have lf31 : ∀ L b, aload ((G ++ L).set v b) f 0 1 = some (.map m) := fun L b => by rw [aload_at (hH1 L b)]; rfl
      have hH2 : ∀ L b, ((G ++ L).set v b)[m]? = some (.map es) := fun L b => by rw [List.getElem?_set_ne (Ne.symm hmv)]; exact hG2' L
      have hvG : v < G.length := by omega
      have lk3 : ∀ b : ABlk, aloads ((G ++ [ABlk.cells 0 false 87 [.int .u8 (key3 s p).1, .int .u8 (key3 s p).2.1, .int .u8 (key3 s p).2.2]]).set v b) G.length 0 0 3 = some [.int .u8 (key3 s p).1, .int .u8 (key3 s p).2.1, .int .u8 (key3 s p).2.2] := by
        intro b
        have hb : ((G ++ [ABlk.cells 0 false 87 [AVal.int .u8 (key3 s p).1, AVal.int .u8 (key3 s p).2.1, AVal.int .u8 (key3 s p).2.2]]).set v b)[G.length]? = some (.cells 0 false 87 [.int .u8 (key3 s p).1, .int .u8 (key3 s p).2.1, .int .u8 (key3 s p).2.2]) := by
          rw [List.getElem?_set_ne (by omega)]; simp
        rw [aloads_at hb]; rfl
      simp (config := {contextual := true, implicitDefEqProofs := false}) (disch := omega) [kst, gf2, lf21, lf22, lk, gv2, hp, show (p : Int) < s.length by omega, st2, gf3, lf31, lk3, mp _ (hH2 _ _), -List.set_append_left, -List.set_append_right]
      exact ⟨.inr (by omega), fin _ (fun k => if k = p then (q : Int) else g k) (hH1 _ _) (List.getElem?_set_self (by rw [List.length_append]; omega)) (by rw [List.length_set, List.length_append]; omega) (fun r hr => by show (if r = p then (q : Int) else g r) = g r; rw [if_neg (by omega)]) (by show (if p = p then (q : Int) else g p) = _; rw [if_pos rfl, hlast]; rfl)⟩
  · simp (config := {contextual := true, implicitDefEqProofs := false}) (disch := omega) [gf, gv, lf0, lf2, hp, show (p : Int) < s.length by omega, st, gf1, lf10, a3, show (s.length : Int) < ((p + 3 : Nat) : Int) by omega, show s.length < p + 3 by omega, -abin_add, -Int.natCast_add]
    refine ⟨hf1 _, hvf, ⟨es, by rw [List.getElem?_set_ne (Ne.symm hmv)]; exact hm, hk, fun l => ?_⟩, _, List.getElem?_set_self hvl, fun q hq => ?_⟩
    · rw [hget l, lastP, if_neg (fun h => c h.1)]
    · by_cases e : q = p
      · subst e; rw [if_pos rfl, prevV, if_neg c]
      · rw [if_neg e]; exact hg q (by omega)
end
end Go.Proofs.Ytdknddicpdhkcaa.Ab

/- Deflate: the finder's search; that it is the specification's. Conditions: none; for the statements about layer 47. -/
namespace Go.Proofs.Ytdknddicpdhkcaa.Ab
set_option linter.unusedVariables false
set_option linter.unusedSimpArgs false

section
variable {s : List UInt8} {H : AHeap} {fp : Nat → Prop} {f m v p : Nat}

def inv55 (H : AHeap) (f p : Nat) (s : List UInt8) (n : Nat) (env : Env) (H' : AHeap) : Prop :=
  ∃ D, D ≤ min 4096 p ∧ H' = H ∧ n = p - D + 1 ∧ env 0 = .ptr f 0 0 ∧ env 1 = .int .i64 p ∧ env 6 = .int .i64 (asI (lastP s (key3 s p) (p - D))) ∧ env 4 = .int .i64 (scanC s p D).1 ∧ env 5 = .int .i64 (scanC s p D).2

theorem find_ok (hs : s.length ≤ 2 ^ 40) (hF : FD H f m v s p) (hp : p ≤ s.length) : ACall Try.prog 55 [.ptr f 0 0, .int .i64 p] H fp fun u H' => u = .tuple [.int .i64 (findM s p).1, .int .i64 (findM s p).2] ∧ H' = H := by
  obtain ⟨hf, hvf, ⟨es, hm, hk, hget⟩, g, hv, hg⟩ := hF
  refine acall_of hmix Try.func55 x55_ok (by simp) ?_
  have gf := ageOk_at hf
  have gv := ageOk_at hv
  have lf0 : aload H f 0 0 = some (.str s) := by rw [aload_at hf]; rfl
  have lf1 : aload H f 0 1 = some (.map m) := by rw [aload_at hf]; rfl
  have lf2 : aload H f 0 2 = some (.slice v 0 0 s.length 1) := by rw [aload_at hf]; rfl
  have a3 : abin .add (.int .i64 (p : Int)) (.int .i64 3) = some (.int .i64 ((p + 3 : Nat) : Int)) := addN (b := 3) (by omega)
  have lk := look_ok (s := s) (zero := .int .i64 0) hm hk p
  rw [hget] at lk
  unfold findM
  by_cases c : p + 3 ≤ s.length
  · rw [if_pos c]
    simp (config := {contextual := true, implicitDefEqProofs := false}) (disch := omega) [gf, lf0, lf1, a3, show ¬ (s.length : Int) < ((p + 3 : Nat) : Int) by omega, show ¬ s.length < p + 3 by omega, -abin_add, -Int.natCast_add]
    refine dcall1_eq (key_ok hs c gf lf0) ?_
    cases hlast : lastP s (key3 s p) p with
    | none =>
      rw [hlast] at lk
      have h0 : scanC s p (min 4096 p) = (0, 0) := by
        have := scanC_skip (s := s) (p := p) (D := 0) (D2 := min 4096 p) (by omega) fun d h1 h2 h3 => absurd h3 (lastP_none hlast (p - d) (by omega) (by omega))
        simpa [scanC] using this
      simp (config := {contextual := true, implicitDefEqProofs := false}) (disch := omega) [lk, h0]
    | some q0 =>
      rw [hlast] at lk
      simp (config := {contextual := true, implicitDefEqProofs := false}) (disch := omega) [lk]
      refine vc_loop (inv55 H f p s) (p + 1) ⟨0, by omega, rfl, by omega, by simp, by simp, by simp [hlast, asI], by simp [scanC], by simp [scanC]⟩ ?_
      rintro n env H1 ⟨D, hD, rfl, rfl, e0, e1', e6, e4, e5⟩
      cases hq : lastP s (key3 s p) (p - D) with
      | none =>
        rw [hq] at e6
        have hfin : scanC s p (min 4096 p) = scanC s p D := scanC_skip hD fun d h1 h2 h3 => absurd h3 (lastP_none hq (p - d) (by omega) (by omega))
        simp (config := {contextual := true, implicitDefEqProofs := false}) (disch := omega) [e0, e1', e6, e4, e5, asI, hfin]
      | some q =>
        rw [hq] at e6
        obtain ⟨hq1, hq2, hq3, hq4⟩ := lastP_some hq
        have b1 : abin .sub (.int .i64 (p : Int)) (.int .i64 (q : Int)) = some (.int .i64 ((p - q : Nat) : Int)) := by rw [abin_sub, i64_id (by omega) (by omega)]; congr 2; omega
        simp only [asI] at e6
        by_cases c1 : p - q ≤ 4096
        · by_cases c2 : (scanC s p D).1 < 258
          · have hskip : scanC s p (p - q - 1) = scanC s p D := scanC_skip (by omega) fun d h1 h2 h3 => absurd h3 (hq4 (p - d) (by omega) (by omega) (by omega))
            have hpq : p - (p - q - 1 + 1) = q := by omega
            have hstep : scanC s p (p - q) = if (scanC s p D).1 < com s p q then (com s p q, p - q) else scanC s p D := by
              rw [show p - q = (p - q - 1) + 1 by omega, scanC, hskip, hpq]
              by_cases h : (scanC s p D).1 < com s p q
              · rw [if_pos ⟨hq3, h⟩, if_pos h]
              · rw [if_neg (fun h2 => h h2.2), if_neg h]
            have hnx : g q = asI (lastP s (key3 s p) q) := by rw [hg q (by omega), prevV, if_pos hq2, hq3]
            have hpq2 : p - (p - q) = q := by omega
            have ldv : aload H1 v 0 q = some (.int .i64 (asI (lastP s (key3 s p) q))) := by rw [aload_at hv, Arr_get (by omega), hnx]
            simp (config := {contextual := true, implicitDefEqProofs := false}) (disch := omega) [e0, e1', e6, e4, e5, show (0 : Int) ≤ q by omega, b1, show ((p - q : Nat) : Int) ≤ 4096 by omega, c1, show ((scanC s p D).1 : Int) < 258 by omega, c2, -abin_sub]
            refine call1_eq (flen_ok hs (by omega) (show q ≤ p by omega) gf lf0) ?_
            by_cases c3 : (scanC s p D).1 < com s p q
            · rw [if_pos c3] at hstep
              simp (config := {contextual := true, implicitDefEqProofs := false}) (disch := omega) [e0, e1', e6, e4, e5, show ((scanC s p D).1 : Int) < com s p q by omega, c3, b1, gf, gv, lf2, ldv, show (q : Int) < s.length by omega, show q < s.length by omega, -abin_sub]
              exact again_iff (p - (p - q) + 1) (by omega) ⟨p - q, by omega, rfl, rfl, by simp [e0], by simp [e1'], by rw [hpq2]; simp, by rw [hstep]; simp, by rw [hstep]; simp⟩
            · rw [if_neg c3] at hstep
              simp (config := {contextual := true, implicitDefEqProofs := false}) (disch := omega) [e0, e1', e6, e4, e5, show ¬ ((scanC s p D).1 : Int) < com s p q by omega, c3, b1, gf, gv, lf2, ldv, show (q : Int) < s.length by omega, show q < s.length by omega, -abin_sub]
              exact again_iff (p - (p - q) + 1) (by omega) ⟨p - q, by omega, rfl, rfl, by simp [e0], by simp [e1'], by rw [hpq2]; simp, by rw [hstep]; simp [e4], by rw [hstep]; simp [e5]⟩
          · have hfin : scanC s p (min 4096 p) = scanC s p D := scanC_skip hD fun d h1 h2 h3 => by omega
            simp (config := {contextual := true, implicitDefEqProofs := false}) (disch := omega) [e0, e1', e6, e4, e5, show (0 : Int) ≤ q by omega, b1, show ((p - q : Nat) : Int) ≤ 4096 by omega, c1, show ¬ ((scanC s p D).1 : Int) < 258 by omega, c2, hfin, -abin_sub]
        · have hfin : scanC s p (min 4096 p) = scanC s p D := scanC_skip hD fun d h1 h2 h3 => absurd h3 (hq4 (p - d) (by omega) (by omega) (by omega))
          rw [show min 4096 p = 4096 by omega] at hfin ⊢
          simp (config := {contextual := true, implicitDefEqProofs := false}) (disch := omega) [e0, e1', e6, e4, e5, show (0 : Int) ≤ q by omega, b1, show ¬ ((p - q : Nat) : Int) ≤ 4096 by omega, c1, hfin, -abin_sub]
  · rw [if_neg c]
    simp (config := {contextual := true, implicitDefEqProofs := false}) (disch := omega) [gf, lf0, a3, show (s.length : Int) < ((p + 3 : Nat) : Int) by omega, show s.length < p + 3 by omega, -abin_add, -Int.natCast_add]

/-! ### The search is the specification's -/
theorem comF_zero {s : List UInt8} {p q : Nat} (h : ¬ (p < s.length ∧ chr s p = chr s q)) : com s p q = 0 := by
  unfold com; rw [comF, if_neg (by simpa using h)]
theorem com_small {s : List UInt8} {p q : Nat} (h : p + 3 ≤ s.length → key3 s q ≠ key3 s p) : com s p q < 3 := by
  by_cases c : com s p q < 3
  · exact c
  · exfalso
    have step : ∀ f n, n < 3 → 3 ≤ comF s p q (f + 1) n → p + n < s.length ∧ chr s (p + n) = chr s (q + n) ∧ 3 ≤ comF s p q f (n + 1) := by
      intro f n hn h3
      rw [comF] at h3
      split at h3
      · rename_i hc; exact ⟨hc.1, hc.2, h3⟩
      · omega
    have h0 : 3 ≤ comF s p q 258 0 := by unfold com at c; omega
    obtain ⟨a1, a2, a3⟩ := step 257 0 (by omega) (h0)
    obtain ⟨b1, b2, b3⟩ := step 256 1 (by omega) a3
    obtain ⟨d1, d2, d3⟩ := step 255 2 (by omega) b3
    refine h (by omega) ?_
    simp only [Nat.add_zero] at a2
    unfold key3
    rw [a2, b2, d2]
theorem com_big {s : List UInt8} {p q : Nat} (h : p + 3 ≤ s.length) (hk : key3 s q = key3 s p) : 3 ≤ com s p q := by
  unfold key3 at hk
  simp only [Prod.mk.injEq] at hk
  have k0 := u8_eq.1 hk.1
  have k1 := u8_eq.1 hk.2.1
  have k2 := u8_eq.1 hk.2.2
  unfold com
  rw [comF, if_pos ⟨by omega, by simpa using k0.symm⟩, comF, if_pos ⟨by omega, k1.symm⟩, comF, if_pos ⟨by omega, k2.symm⟩]
  exact (comF_le s p q 255 3).2
theorem scan_eq {s : List UInt8} {p : Nat} (h : p + 3 ≤ s.length) : ∀ D, (3 ≤ (scanC s p D).1 ∧ refScan s p D = scanC s p D) ∨ (scanC s p D = (0, 0) ∧ (refScan s p D).1 < 3)
  | 0 => .inr ⟨rfl, by simp [refScan]⟩
  | D + 1 => by
    rw [scanC, refScan]
    rcases scan_eq h D with ⟨h1, h2⟩ | ⟨h1, h2⟩
    · left
      rw [h2]
      by_cases c : key3 s (p - (D + 1)) = key3 s p
      · by_cases c2 : (scanC s p D).1 < com s p (p - (D + 1))
        · rw [if_pos ⟨c, c2⟩, if_pos c2]; exact ⟨by simp only []; omega, rfl⟩
        · rw [if_neg (fun h => c2 h.2), if_neg c2]; exact ⟨h1, rfl⟩
      · have := com_small (s := s) (p := p) (q := p - (D + 1)) fun _ => c
        rw [if_neg (fun h => c h.1), if_neg (by omega)]; exact ⟨h1, rfl⟩
    · rw [h1]
      by_cases c : key3 s (p - (D + 1)) = key3 s p
      · have h3 := com_big h c
        left
        rw [if_pos ⟨c, by simp only []; omega⟩, if_pos (by omega)]
        exact ⟨h3, rfl⟩
      · have h3 := com_small (s := s) (p := p) (q := p - (D + 1)) fun _ => c
        right
        rw [if_neg (fun h => c h.1)]
        refine ⟨rfl, ?_⟩
        split
        · exact h3
        · exact h2
/-- A match that is found is the specification's; where none is, there is none. -/
theorem find_match (s : List UInt8) (p : Nat) : (3 ≤ (findM s p).1 ∧ matchR s p = findM s p) ∨ ((findM s p).1 < 3 ∧ matchR s p = (0, 0)) := by
  unfold findM matchR
  by_cases h : p + 3 ≤ s.length
  · rw [if_pos h]
    rcases scan_eq h (min 4096 p) with ⟨h1, h2⟩ | ⟨h1, h2⟩
    · left; rw [h2, if_neg (by omega)]; exact ⟨h1, rfl⟩
    · right; rw [h1, if_pos h2]; exact ⟨by simp, rfl⟩
  · rw [if_neg h]
    right
    refine ⟨by simp, if_pos ?_⟩
    have : ∀ D, (refScan s p D).1 < 3 := by
      intro D
      induction D with
      | zero => simp [refScan]
      | succ D ih =>
        have := com_small (s := s) (p := p) (q := p - (D + 1)) fun h2 => absurd h2 h
        rw [refScan]; split
        · exact this
        · exact ih
    exact this _
theorem match_bounds (s : List UInt8) (p : Nat) (h : 3 ≤ (findM s p).1) : (findM s p).1 ≤ 258 ∧ 1 ≤ (findM s p).2 ∧ (findM s p).2 ≤ 4096 ∧ p + (findM s p).1 ≤ s.length := by
  unfold findM at *
  by_cases c : p + 3 ≤ s.length
  · rw [if_pos c] at *
    obtain ⟨h1, h2, h3⟩ := scanC_le s p (min 4096 p)
    have hcom : ∀ q f n, p + n ≤ s.length → p + comF s p q f n ≤ s.length := by
      intro q f
      induction f with
      | zero => intro n hn; exact hn
      | succ f ih =>
        intro n hn
        rw [comF]; split
        · exact ih _ (by omega)
        · exact hn
    have hall : ∀ D, p + (scanC s p D).1 ≤ s.length := by
      intro D
      induction D with
      | zero => simp [scanC]; omega
      | succ D ih =>
        rw [scanC]; split
        · exact hcom _ _ _ (by omega)
        · exact ih
    exact ⟨h1, by omega, by omega, hall _⟩
  · rw [if_neg c] at h; simp at h

/-! ### The symbols are the specification's -/
theorem rank_dist0 : ∀ x : Fin 64, ∀ y : Fin 65, 1 ≤ x.val * 64 + y.val → rankL (x.val * 64 + y.val) 4 2 (x.val * 64 + y.val + 1) 0 1 = distR (x.val * 64 + y.val) := by decide +kernel
theorem rank_dist {d : Nat} (h1 : 1 ≤ d) (h2 : d ≤ 4096) : rankL d 4 2 (d + 1) 0 1 = distR d := by
  by_cases c : d = 4096
  · subst c; exact rank_dist0 63 64 (by decide)
  · have := rank_dist0 ⟨d / 64, by omega⟩ ⟨d % 64, by omega⟩ (by simp only []; omega)
    simp only [show d / 64 * 64 + d % 64 = d by omega] at this
    exact this
theorem rank_len : ∀ n : Fin 258, 3 ≤ n.val → ((rankL n.val 8 4 (n.val + 1) 0 3).1 + 257, (rankL n.val 8 4 (n.val + 1) 0 3).2) = lenR n.val := by decide +kernel
end
end Go.Proofs.Ytdknddicpdhkcaa.Ab

/- Deflate: one block with fixed codes, by the specification and by the program. Conditions: none; for the statements about layer 47. -/
namespace Go.Proofs.Ytdknddicpdhkcaa.Ab
set_option linter.unusedVariables false
set_option linter.unusedSimpArgs false

def matchB (n d : Nat) : List Nat := (symB (lenR n).1 ++ numB (n - (lenR n).2.1) (lenR n).2.2) ++ (codeB (distR d).1 5 ++ numB (d - (distR d).2.1) (distR d).2.2)
def bodyB (s : List UInt8) : Nat → Nat → List Nat
  | 0, _ => []
  | F + 1, p => if p < s.length then (if (matchR s p).1 = 0 then symB (chr s p).toNat ++ bodyB s F (p + 1) else matchB (matchR s p).1 (matchR s p).2 ++ bodyB s F (p + (matchR s p).1)) else []
def fixB (s : List UInt8) : List Nat := numB 1 1 ++ numB 1 2 ++ bodyB s (s.length + 1) 0 ++ symB 256

theorem len_facts0 : ∀ n : Fin 259, 3 ≤ n.val → 257 ≤ (lenR n.val).1 ∧ (lenR n.val).1 ≤ 285 ∧ (lenR n.val).2.1 ≤ n.val ∧ (lenR n.val).2.2 ≤ 5 := by decide +kernel
theorem len_facts {n : Nat} (h : 3 ≤ n) (h2 : n ≤ 258) : 257 ≤ (lenR n).1 ∧ (lenR n).1 ≤ 285 ∧ (lenR n).2.1 ≤ n ∧ (lenR n).2.2 ≤ 5 := len_facts0 ⟨n, by omega⟩ h
theorem dist_facts0 : ∀ x : Fin 64, ∀ y : Fin 65, 1 ≤ x.val * 64 + y.val → (distR (x.val * 64 + y.val)).1 ≤ 29 ∧ (distR (x.val * 64 + y.val)).2.1 ≤ x.val * 64 + y.val ∧ (distR (x.val * 64 + y.val)).2.2 ≤ 13 := by decide +kernel
theorem dist_facts {d : Nat} (h1 : 1 ≤ d) (h2 : d ≤ 4096) : (distR d).1 ≤ 29 ∧ (distR d).2.1 ≤ d ∧ (distR d).2.2 ≤ 13 := by
  by_cases c : d = 4096
  · subst c; exact dist_facts0 63 64 (by decide)
  · have := dist_facts0 ⟨d / 64, by omega⟩ ⟨d % 64, by omega⟩ (by simp only []; omega)
    simp only [show d / 64 * 64 + d % 64 = d by omega] at this
    exact this
theorem matchB_len {n d : Nat} (h : 3 ≤ n) (h2 : n ≤ 258) (h3 : 1 ≤ d) (h4 : d ≤ 4096) : (matchB n d).length ≤ 40 := by
  have a := len_facts h h2
  have b := dist_facts h3 h4
  have c := symB_len (lenR n).1
  simp [matchB]; omega
/-- What the specification's match is, and how far it reaches. -/
theorem matchR_bounds (s : List UInt8) (p : Nat) (h : (matchR s p).1 ≠ 0) : 3 ≤ (matchR s p).1 ∧ (matchR s p).1 ≤ 258 ∧ 1 ≤ (matchR s p).2 ∧ (matchR s p).2 ≤ 4096 ∧ p + (matchR s p).1 ≤ s.length := by
  rcases find_match s p with ⟨h1, h2⟩ | ⟨_, h2⟩
  · rw [h2]; have := match_bounds s p h1; omega
  · rw [h2] at h; simp at h

section
variable {B : Nat → Prop} {p : Nat} {H H' : AHeap} {l : List Nat} {ety : Nat} {s : List UInt8} {fp : Nat → Prop}

theorem Wd.keep (h : Wd ety B p H l) (hp : H'[p]? = H[p]?) (hk : ∀ r, ¬ B r → r < H.length → H'[r]? = H[r]?) : Wd ety B p H' l := by
  obtain ⟨⟨w, h1, h2⟩, h3⟩ := h
  exact ⟨⟨w, by rw [hp]; exact h1, h2.keep hk⟩, h3⟩
theorem Wd.sub {B' : Nat → Prop} (h : Wd ety B p H l) (hb : ∀ r, r < H.length → B' r → B r) : Wd ety B' p H l := by
  obtain ⟨⟨w, h1, h2⟩, h3⟩ := h
  exact ⟨⟨w, h1, h2.sub hb⟩, h3⟩
theorem FD.keep {f m v q : Nat} (h : FD H f m v s q) (hf : H'[f]? = H[f]?) (hm : H'[m]? = H[m]?) (hv : H'[v]? = H[v]?) : FD H' f m v s q := by
  obtain ⟨h1, h2, ⟨es, h3, h4⟩, g, h5, h6⟩ := h
  exact ⟨by rw [hf]; exact h1, h2, ⟨es, by rw [hm]; exact h3, h4⟩, g, by rw [hv]; exact h5, h6⟩

theorem input33_ok (hs : s.length ≤ 1048576) : ACall Try.prog 33 [.str s] H fp fun v H' => v = .str s ∧ H' = H := by
  refine acall_of hmix Try.func33 x33_ok (by simp) ?_
  have hmin : vMin (.int .i64 (s.length : Int)) (.int .i64 1048576) = some (.int .i64 (s.length : Int)) := by simp only [vMin_int]; rw [if_neg (by omega)]
  have hsl : vSlStr (.str s) none (some (.int .i64 (s.length : Int))) = some (.str s) := by
    have := vSlStr_hi (s := s) (k := .i64) (h := (s.length : Int)) (by omega) (by omega)
    simpa using this
  simp (config := {contextual := true, implicitDefEqProofs := false}) (disch := omega) [hmin, hsl, -vMin_int]
theorem input34_ok (hs : s.length ≤ 1048576) : ACall Try.prog 34 [.str s] H fp fun v H' => v = .str s ∧ H' = H := by
  refine acall_of hmix Try.func34 x34_ok (by simp) ?_
  have hmin : vMin (.int .i64 (s.length : Int)) (.int .i64 1048576) = some (.int .i64 (s.length : Int)) := by simp only [vMin_int]; rw [if_neg (by omega)]
  have hsl : vSlStr (.str s) none (some (.int .i64 (s.length : Int))) = some (.str s) := by
    have := vSlStr_hi (s := s) (k := .i64) (h := (s.length : Int)) (by omega) (by omega)
    simpa using this
  simp (config := {contextual := true, implicitDefEqProofs := false}) (disch := omega) [hmin, hsl, -vMin_int]

def inv12 (s : List UInt8) (T : List Nat) (p : Nat) (n : Nat) (env : Env) (H' : AHeap) : Prop :=
  ∃ q l, q ≤ s.length ∧ s.length - q < n ∧ Wd 55 (fun r => r ≤ p) p H' l ∧ p < H'.length ∧ l.length ≤ 3 + 64 * q ∧ T = l ++ bodyB s n q ++ symB 256 ∧ env 0 = .str s ∧ env 3 = .ptr p 0 0 ∧ env 4 = .int .i64 q

theorem rfixed_ok (hs : s.length ≤ 1048576) : ACall Try.prog 12 [.str s] H fp fun v H' => v = .str (pack (fixB s)) ∧ H' = H := by
  refine (ACall.drop (R := fun v' _ => v' = .str (pack (fixB s))) ?_ (by rintro v' H' rfl; rfl)).mono fun v' H' q => ⟨q.2.elim fun _ q => q.1, q.1⟩
  refine acall_of hmix Try.func12 x12_ok (by simp) ?_
  simp
  refine call1_eq (input34_ok hs) ?_
  simp (config := {contextual := true, implicitDefEqProofs := false}) (disch := omega) [afill]
  have hW0 : Wd 55 (fun r => r ≤ H.length) H.length (H ++ [.cells 0 false 55 [.nilslice, .int .i64 0]]) [] := ⟨⟨.nilslice, by simp [wrBlk], .inl ⟨rfl, rfl⟩⟩, by simp, by simp⟩
  have hfpw : ∀ (L : AHeap) r, (r = H.length ∨ ¬ r ≤ H.length) → H.length ≤ r ∨ L.length ≤ r := fun L r h => by omega
  have hB0 : ∀ r, (fun r => r ≤ H.length) r → r < (H ++ [ABlk.cells 0 false 55 [.nilslice, .int .i64 0]]).length := fun r hr => by rw [List.length_append, List.length_singleton]; exact Nat.lt_succ_of_le hr
  have hn0 := rnum_ok hB0 (Nat.le_refl _) hW0 (x := 1) (N := 1) (by omega) (by omega) (by simp)
  refine call1_of hn0 (hfpw _) ?_
  rintro v H1 ⟨rfl, hW1⟩ hl1 _
  rw [List.length_append, List.length_singleton] at hl1
  simp (config := {contextual := true, implicitDefEqProofs := false}) (disch := omega)
  have hB1 : ∀ r, (fun r => r ≤ H.length) r → r < H1.length := fun r hr => Nat.lt_of_le_of_lt hr (by omega)
  have hn1 := rnum_ok hB1 (Nat.le_refl _) hW1 (x := 1) (N := 2) (by omega) (by omega) (by simp)
  refine call1_of hn1 (hfpw _) ?_
  rintro v H2 ⟨rfl, hW2⟩ hl2 _
  simp (config := {contextual := true, implicitDefEqProofs := false}) (disch := omega)
  rw [List.nil_append] at hW2
  refine vc_loop (inv12 s (fixB s) H.length) (s.length + 1) ⟨0, _, by omega, by omega, hW2, by omega, by simp, rfl, by simp, by simp, by simp⟩ ?_
  rintro n env H3 ⟨q, l, hq, hn, hW, hl3, hll, hT, e0, e3, e4⟩
  obtain ⟨n', rfl⟩ : ∃ n', n = n' + 1 := ⟨n - 1, by omega⟩
  rw [bodyB] at hT
  have hB : ∀ (K : AHeap), H3.length ≤ K.length → ∀ r, r ≤ H.length → r < K.length := fun K h r hr => by omega
  by_cases hlt : q < s.length
  · rw [if_pos hlt] at hT
    simp (config := {contextual := true, implicitDefEqProofs := false}) (disch := omega) [e0, e3, e4, hlt]
    refine call1_eq (match15_ok (by omega) (by omega)) ?_
    by_cases hm : (matchR s q).1 = 0
    · rw [if_pos hm] at hT
      have hc := UInt8.toNat_lt (chr s q)
      have a1 : abin .add (.int .i64 (q : Int)) (.int .i64 1) = some (.int .i64 ((q + 1 : Nat) : Int)) := addN (b := 1) (by omega)
      simp (config := {contextual := true, implicitDefEqProofs := false}) (disch := omega) [e0, e3, e4, hm, vIdxStr_nat, hlt, i64_nat]
      refine call1_of (rsym_ok (hB _ (Nat.le_refl _)) (Nat.le_refl _) hW (v := (chr s q).toNat) (by omega) (by omega)) (hfpw _) ?_
      rintro v H4 ⟨rfl, hW4⟩ hl4 _
      have hsl := symB_len (chr s q).toNat
      simp (config := {contextual := true, implicitDefEqProofs := false}) (disch := omega) [e0, e3, e4, a1, -abin_add, -Int.natCast_add]
      exact again_iff n' (by omega) ⟨q + 1, _, by omega, by omega, hW4, by omega, by rw [List.length_append]; omega, by rw [hT]; simp [List.append_assoc], by simp [e0], by simp [e3], by simp⟩
    · rw [if_neg hm] at hT
      obtain ⟨b1, b2, b3, b4, b5⟩ := matchR_bounds s q hm
      generalize hmn : (matchR s q).1 = mn at *
      generalize hmd : (matchR s q).2 = md at *
      obtain ⟨f1, f2, f3, f4⟩ := len_facts b1 b2
      obtain ⟨g1, g2, g3⟩ := dist_facts b3 b4
      have hml := matchB_len b1 b2 b3 b4
      have hsl := symB_len (lenR mn).1
      simp (config := {contextual := true, implicitDefEqProofs := false}) (disch := omega) [e0, e3, e4, hm, show ¬ (mn : Int) = 0 by omega]
      refine call1_eq (length_ok (by omega)) ?_
      simp (config := {contextual := true, implicitDefEqProofs := false}) (disch := omega) [e0, e3, e4]
      refine call1_of (rsym_ok (hB _ (Nat.le_refl _)) (Nat.le_refl _) hW (v := (lenR mn).1) (by omega) (by omega)) (hfpw _) ?_
      rintro v H4 ⟨rfl, hW4⟩ hl4 _
      have c1 : abin .sub (.int .i64 (mn : Int)) (.int .i64 ((lenR mn).2.1 : Int)) = some (.int .i64 ((mn - (lenR mn).2.1 : Nat) : Int)) := by rw [abin_sub, i64_id (by omega) (by omega)]; congr 2; omega
      simp (config := {contextual := true, implicitDefEqProofs := false}) (disch := omega) [e0, e3, e4, c1, -abin_sub]
      refine call1_of (rnum_ok (hB _ hl4) (Nat.le_refl _) hW4 (x := mn - (lenR mn).2.1) (N := (lenR mn).2.2) (by omega) (by omega) (by rw [List.length_append]; omega)) (hfpw _) ?_
      rintro v H5 ⟨rfl, hW5⟩ hl5 _
      simp (config := {contextual := true, implicitDefEqProofs := false}) (disch := omega) [e0, e3, e4]
      refine call1_eq (distance_ok (by omega)) ?_
      simp (config := {contextual := true, implicitDefEqProofs := false}) (disch := omega) [e0, e3, e4]
      refine call1_of (rcode_ok (hB _ (by omega)) (Nat.le_refl _) hW5 (x := (distR md).1) (N := 5) (by omega) (by omega) (by rw [List.length_append, List.length_append, numB_len]; omega)) (hfpw _) ?_
      rintro v H6 ⟨rfl, hW6⟩ hl6 _
      have c2 : abin .sub (.int .i64 (md : Int)) (.int .i64 ((distR md).2.1 : Int)) = some (.int .i64 ((md - (distR md).2.1 : Nat) : Int)) := by rw [abin_sub, i64_id (by omega) (by omega)]; congr 2; omega
      simp (config := {contextual := true, implicitDefEqProofs := false}) (disch := omega) [e0, e3, e4, c2, -abin_sub]
      refine call1_of (rnum_ok (hB _ (by omega)) (Nat.le_refl _) hW6 (x := md - (distR md).2.1) (N := (distR md).2.2) (by omega) (by omega) (by rw [List.length_append, List.length_append, List.length_append, numB_len, codeB_len]; omega)) (hfpw _) ?_
      rintro v H7 ⟨rfl, hW7⟩ hl7 _
      have c3 : abin .add (.int .i64 (q : Int)) (.int .i64 (mn : Int)) = some (.int .i64 ((q + mn : Nat) : Int)) := addN (by omega)
      simp (config := {contextual := true, implicitDefEqProofs := false}) (disch := omega) [e0, e3, e4, c3, -abin_add, -Int.natCast_add]
      have hW8 : Wd 55 (fun r => r ≤ H.length) H.length H7 (l ++ matchB mn md) := by
        have e : l ++ matchB mn md = l ++ symB (lenR mn).1 ++ numB (mn - (lenR mn).2.1) (lenR mn).2.2 ++ codeB (distR md).1 5 ++ numB (md - (distR md).2.1) (distR md).2.2 := by simp [matchB, List.append_assoc]
        rw [e]; exact hW7
      exact again_iff n' (by omega) ⟨q + mn, _, by omega, by omega, hW8, by omega, by rw [List.length_append]; omega, by rw [hT]; simp [List.append_assoc], by simp [e0], by simp [e3], by simp⟩
  · rw [if_neg hlt] at hT
    simp (config := {contextual := true, implicitDefEqProofs := false}) (disch := omega) [e0, e3, e4, hlt]
    refine call1_of (rsym_ok (hB _ (Nat.le_refl _)) (Nat.le_refl _) hW (v := 256) (by omega) (by omega)) (hfpw _) ?_
    rintro v H4 ⟨rfl, ⟨w, hp4, hw4⟩, _⟩ hl4 _
    have g4 := ageOk_at hp4
    rw [hT, List.append_nil]
    simp (config := {contextual := true, implicitDefEqProofs := false}) (disch := omega) [e0, e3, e4, g4, wd0 hp4, hw4.sl.toStr]
end
end Go.Proofs.Ytdknddicpdhkcaa.Ab

/- Deflate: the program's block with fixed codes. Conditions: none; for the statements about layer 47. -/
namespace Go.Proofs.Ytdknddicpdhkcaa.Ab
set_option linter.unusedVariables false
set_option linter.unusedSimpArgs false

@[simp] theorem known_map {r : Nat} : (AVal.map r).known = true := rfl
@[simp] theorem cells_map {r : Nat} : (AVal.map r).cells = [.map r] := rfl
@[simp] theorem one_map {r : Nat} : (AVal.map r).one = true := rfl

section
variable {B : Nat → Prop} {p : Nat} {H H' : AHeap} {l : List Nat} {ety : Nat} {s : List UInt8} {fp : Nat → Prop}

theorem wmatch_ok (hB : ∀ r, B r → r < H.length) (hBp : B p) (hW : Wd ety B p H l) {n d : Nat} (b1 : 3 ≤ n) (b2 : n ≤ 258) (b3 : 1 ≤ d) (b4 : d ≤ 4096) (hl : l.length + 200 < 2 ^ 40) :
    ACall Try.prog 56 [.ptr p 0 0, .int .i64 n, .int .i64 d] H (fun r => r = p ∨ ¬ B r) fun v H' => v = .tuple [] ∧ Wd ety B p H' (l ++ matchB n d) := by
  refine acall_of hmix Try.func56 x56_ok (by simp) ?_
  obtain ⟨f1, f2, f3, f4⟩ := len_facts b1 b2
  obtain ⟨g1, g2, g3⟩ := dist_facts b3 b4
  have hsl := symB_len (lenR n).1
  have hrd := rank_dist b3 b4
  have hro := rank_ok (H := H) (fp := fun r => (r = p ∨ ¬ B r) ∨ H.length ≤ r) (x := d) (first := 1) (plain := 4) (group := 2) (by omega) (by omega) (.inr rfl) (by omega)
  rw [hrd] at hro
  have hfp : ∀ (K : AHeap) r, (r = p ∨ ¬ B r) → ((r = p ∨ ¬ B r) ∨ H.length ≤ r) ∨ K.length ≤ r := fun K r h => .inl (.inl h)
  have hBK : ∀ (K : AHeap), H.length ≤ K.length → ∀ r, B r → r < K.length := fun K h r hr => Nat.lt_of_lt_of_le (hB r hr) h
  have hd : ∀ (K : AHeap), ACall Try.prog 70 [.int .i64 d, .int .i64 1, .int .i64 4, .int .i64 2] K (fun r => (r = p ∨ ¬ B r) ∨ H.length ≤ r) fun v H' => v = .tuple [.int .i64 (distR d).1, .int .i64 (distR d).2.1, .int .i64 (distR d).2.2] ∧ H' = K := by
    intro K
    have := rank_ok (H := K) (fp := fun r => (r = p ∨ ¬ B r) ∨ H.length ≤ r) (x := d) (first := 1) (plain := 4) (group := 2) (by omega) (by omega) (.inr rfl) (by omega)
    rw [hrd] at this; exact this
  have c2 : abin .sub (.int .i64 (d : Int)) (.int .i64 ((distR d).2.1 : Int)) = some (.int .i64 ((d - (distR d).2.1 : Nat) : Int)) := by rw [abin_sub, i64_id (by omega) (by omega)]; congr 2; omega
  by_cases c : n = 258
  · subst c
    have hlen : lenR 258 = (285, 258, 0) := by rw [lenR, if_pos rfl]
    have e : l ++ matchB 258 d = l ++ symB 285 ++ codeB (distR d).1 5 ++ numB (d - (distR d).2.1) (distR d).2.2 := by simp [matchB, hlen, numB, List.append_assoc]
    rw [e]
    have hs5 := symB_len 285
    simp (config := {contextual := true, implicitDefEqProofs := false}) (disch := omega)
    refine call1_of (wsym_ok (hBK _ (Nat.le_refl _)) hBp hW (v := 285) (by omega) (by omega)) (hfp _) ?_
    rintro v H4 ⟨rfl, hW4⟩ hl4 _
    simp (config := {contextual := true, implicitDefEqProofs := false}) (disch := omega)
    refine call1_eq (hd _) ?_
    simp (config := {contextual := true, implicitDefEqProofs := false}) (disch := omega)
    refine call1_of (wcode_ok (hBK _ hl4) hBp hW4 (x := (distR d).1) (N := 5) (by omega) (by omega) (by rw [List.length_append]; omega)) (hfp _) ?_
    rintro v H6 ⟨rfl, hW6⟩ hl6 _
    simp (config := {contextual := true, implicitDefEqProofs := false}) (disch := omega) [c2, -abin_sub]
    refine call1_of (wnum_ok (hBK _ (by omega)) hBp hW6 (x := d - (distR d).2.1) (N := (distR d).2.2) (by omega) (by omega) (by rw [List.length_append, List.length_append, codeB_len]; omega)) (hfp _) ?_
    rintro v H7 ⟨rfl, hW7⟩ hl7 _
    simp (config := {contextual := true, implicitDefEqProofs := false}) (disch := omega)
    simpa only [List.append_assoc] using hW7
  · have hrl := rank_len ⟨n, by omega⟩ b1
    simp only [] at hrl
    have r1 : (rankL n 8 4 (n + 1) 0 3).1 + 257 = (lenR n).1 := by rw [← hrl]
    have r2 : (rankL n 8 4 (n + 1) 0 3).2 = (lenR n).2 := by rw [← hrl]
    have hro2 := rank_ok (H := H) (fp := fun r => (r = p ∨ ¬ B r) ∨ H.length ≤ r) (x := n) (first := 3) (plain := 8) (group := 4) (by omega) (by omega) (.inl rfl) (by omega)
    rw [r2] at hro2
    generalize (rankL n 8 4 (n + 1) 0 3).1 = y at *
    have a1 : abin .add (.int .i64 257) (.int .i64 (y : Int)) = some (.int .i64 (((lenR n).1 : Nat) : Int)) := by rw [← r1, Nat.add_comm]; exact addN (a := 257) (by omega)
    have c1 : abin .sub (.int .i64 (n : Int)) (.int .i64 ((lenR n).2.1 : Int)) = some (.int .i64 ((n - (lenR n).2.1 : Nat) : Int)) := by rw [abin_sub, i64_id (by omega) (by omega)]; congr 2; omega
    have e : l ++ matchB n d = l ++ symB (lenR n).1 ++ numB (n - (lenR n).2.1) (lenR n).2.2 ++ codeB (distR d).1 5 ++ numB (d - (distR d).2.1) (distR d).2.2 := by simp [matchB, List.append_assoc]
    rw [e]
    simp (config := {contextual := true, implicitDefEqProofs := false}) (disch := omega) [show ¬ (n : Int) = 258 by omega, c]
    refine call1_eq hro2 ?_
    simp (config := {contextual := true, implicitDefEqProofs := false}) (disch := omega) [a1, -abin_add]
    refine call1_of (wsym_ok (hBK _ (Nat.le_refl _)) hBp hW (v := (lenR n).1) (by omega) (by omega)) (hfp _) ?_
    rintro v H4 ⟨rfl, hW4⟩ hl4 _
    simp (config := {contextual := true, implicitDefEqProofs := false}) (disch := omega) [c1, -abin_sub]
    refine call1_of (wnum_ok (hBK _ hl4) hBp hW4 (x := n - (lenR n).2.1) (N := (lenR n).2.2) (by omega) (by omega) (by rw [List.length_append]; omega)) (hfp _) ?_
    rintro v H5 ⟨rfl, hW5⟩ hl5 _
    simp (config := {contextual := true, implicitDefEqProofs := false}) (disch := omega)
    refine call1_eq (hd _) ?_
    simp (config := {contextual := true, implicitDefEqProofs := false}) (disch := omega)
    refine call1_of (wcode_ok (hBK _ (by omega)) hBp hW5 (x := (distR d).1) (N := 5) (by omega) (by omega) (by rw [List.length_append, List.length_append, numB_len]; omega)) (hfp _) ?_
    rintro v H6 ⟨rfl, hW6⟩ hl6 _
    simp (config := {contextual := true, implicitDefEqProofs := false}) (disch := omega) [c2, -abin_sub]
    refine call1_of (wnum_ok (hBK _ (by omega)) hBp hW6 (x := d - (distR d).2.1) (N := (distR d).2.2) (by omega) (by omega) (by rw [List.length_append, List.length_append, List.length_append, numB_len, codeB_len]; omega)) (hfp _) ?_
    rintro v H7 ⟨rfl, hW7⟩ hl7 _
    simp (config := {contextual := true, implicitDefEqProofs := false}) (disch := omega)
    simpa only [List.append_assoc] using hW7

/-- The state of the program's loop: p the writer, m, v, f the finder's blocks. -/
def fxB (p m : Nat) (r : Nat) : Prop := r ≤ p ∨ r = m ∨ r = m + 1 ∨ r = m + 2
def fxS (s : List UInt8) (p m : Nat) (l : List Nat) (q : Nat) (H' : AHeap) : Prop := Wd 75 (fxB p m) p H' l ∧ FD H' (m + 2) m (m + 1) s q ∧ p < m ∧ m + 2 < H'.length
def inv32 (s : List UInt8) (T : List Nat) (p m : Nat) (n : Nat) (env : Env) (H' : AHeap) : Prop :=
  ∃ q l, q ≤ s.length ∧ s.length - q < n ∧ fxS s p m l q H' ∧ l.length ≤ 3 + 64 * q ∧ T = l ++ bodyB s n q ++ symB 256 ∧ env 0 = .str s ∧ env 3 = .ptr p 0 0 ∧ env 4 = .ptr (m + 2) 0 0 ∧ env 5 = .int .i64 q
def inv32b (s : List UInt8) (p m : Nat) (l : List Nat) (q N : Nat) (n : Nat) (env : Env) (H' : AHeap) : Prop :=
  ∃ i, i ≤ N ∧ n = N - i ∧ fxS s p m l (q + i) H' ∧ env 0 = .str s ∧ env 3 = .ptr p 0 0 ∧ env 4 = .ptr (m + 2) 0 0 ∧ env 5 = .int .i64 ((q + i : Nat) : Int) ∧ env 43 = .int .i64 N ∧ env 44 = .int .i64 i

abbrev lp32 : XCode := (.seq (.ops [⟨some 45, none, (.s (.bin .lss (.t 44) (.t 43)))⟩]) (.seq (.cond (.t 45) .skip (.exit 2)) (.seq (.block 3 (.seq (.ops [⟨some 46, none, (.s (.move (.t 4)))⟩, ⟨some 47, none, (.s (.move (.t 5)))⟩, ⟨some 48, none, (.call 58 [(.t 46), (.t 47)])⟩]) (.ops [⟨some 49, none, (.s (.move (.t 5)))⟩, ⟨some 50, none, (.s (.bin .add (.t 49) (.c (.int .i64 1))))⟩, ⟨some 5, none, (.s (.move (.t 50)))⟩]))) (.ops [⟨some 51, none, (.s (.bin .add (.t 44) (.c (.int .i64 1))))⟩, ⟨some 44, none, (.s (.move (.t 51)))⟩]))))
theorem inner32 {H0 : AHeap} {Q : XExit → Env → AHeap → Prop} {env : Env} {m q N : Nat} (hs : s.length ≤ 1048576) (hp0 : H0.length ≤ p) (hS : fxS s p m l q H) (hN : q + N ≤ s.length) (e0 : env 0 = .str s) (e3 : env 3 = .ptr p 0 0) (e4 : env 4 = .ptr (m + 2) 0 0) (e5 : env 5 = .int .i64 q) (e43 : env 43 = .int .i64 N) (e44 : env 44 = .int .i64 0)
    (hk : ∀ env' H', fxS s p m l (q + N) H' → env' 0 = .str s → env' 3 = .ptr p 0 0 → env' 4 = .ptr (m + 2) 0 0 → env' 5 = .int .i64 ((q + N : Nat) : Int) → Q (.exit 2) env' H') :
    vc (ACall Try.prog) (fun r => H0.length ≤ r) (.loop lp32) Q env H := by
  refine vc_loop (inv32b s p m l q N) N ⟨0, by omega, by omega, hS, e0, e3, e4, by simpa using e5, e43, by simpa using e44⟩ ?_
  rintro n env1 H1 ⟨i, hi, rfl, ⟨hW, hF, hpm, hml⟩, f0, f3, f4, f5, f43, f44⟩
  by_cases hlt : i < N
  · have a1 : abin .add (.int .i64 ((q + i : Nat) : Int)) (.int .i64 1) = some (.int .i64 ((q + (i + 1) : Nat) : Int)) := addN (b := 1) (by omega)
    have a2 : abin .add (.int .i64 (i : Int)) (.int .i64 1) = some (.int .i64 ((i + 1 : Nat) : Int)) := addN (b := 1) (by omega)
    simp (config := {contextual := true, implicitDefEqProofs := false}) (disch := omega) [f0, f3, f4, f5, f43, f44, hlt, -Int.natCast_add]
    refine call1_of (add_ok (by omega) hF (show q + i < s.length by omega)) (fun r h => by omega) ?_
    rintro u H2 ⟨rfl, hF2⟩ hl2 hfr
    have hW2 : Wd 75 (fxB p m) p H2 l := hW.keep (hfr p (by omega) (by omega)) fun r h1 h2 => hfr r h2 (fun h3 => h1 (by unfold fxB; omega))
    simp (config := {contextual := true, implicitDefEqProofs := false}) (disch := omega) [f0, f3, f4, f5, f43, f44, a1, a2, -abin_add, -Int.natCast_add]
    exact again_iff (N - (i + 1)) (by omega) ⟨i + 1, hlt, rfl, ⟨hW2, hF2, hpm, by omega⟩, by simp [f0], by simp [f3], by simp [f4], by simp, by simp [f43], by simp⟩
  · have hiN : i = N := by omega
    subst hiN
    simp (config := {contextual := true, implicitDefEqProofs := false}) (disch := omega) [f0, f3, f4, f5, f43, f44]
    exact hk _ _ ⟨hW, hF, hpm, hml⟩ (by simp [f0]) (by simp [f3]) (by simp [f4]) (by simp [f5])

theorem fixed32_raw (hs : s.length ≤ 1048576) : ACall Try.prog 32 [.str s] H (fun _ => False) fun v H' => Sl H' v (bytesOf (pack (fixB s))) := by
  refine acall_of hmix Try.func32 x32_ok (by simp) ?_
  simp (config := {contextual := true, implicitDefEqProofs := false}) (disch := omega) [afill]
  have hW0 : Wd 75 (fun r => r ≤ H.length) H.length (H ++ [.cells 0 false 75 [.nilslice, .int .i64 0]]) [] := ⟨⟨.nilslice, by simp [wrBlk], .inl ⟨rfl, rfl⟩⟩, by simp, by simp⟩
  have hfpw : ∀ (L : AHeap) r, (r = H.length ∨ ¬ r ≤ H.length) → H.length ≤ r ∨ L.length ≤ r := fun L r h => by omega
  have hB0 : ∀ r, (fun r => r ≤ H.length) r → r < (H ++ [ABlk.cells 0 false 75 [.nilslice, .int .i64 0]]).length := fun r hr => by rw [List.length_append, List.length_singleton]; exact Nat.lt_succ_of_le hr
  have hn0 := wnum_ok hB0 (Nat.le_refl _) hW0 (x := 1) (N := 1) (by omega) (by omega) (by simp)
  refine call1_of hn0 (hfpw _) ?_
  rintro v H1 ⟨rfl, hW1⟩ hl1 _
  rw [List.length_append, List.length_singleton] at hl1
  simp (config := {contextual := true, implicitDefEqProofs := false}) (disch := omega)
  have hB1 : ∀ r, (fun r => r ≤ H.length) r → r < H1.length := fun r hr => Nat.lt_of_le_of_lt hr (by omega)
  have hn1 := wnum_ok hB1 (Nat.le_refl _) hW1 (x := 1) (N := 2) (by omega) (by omega) (by simp)
  refine call1_of hn1 (hfpw _) ?_
  rintro v H2 ⟨rfl, hW2⟩ hl2 _
  rw [List.nil_append] at hW2
  simp (config := {contextual := true, implicitDefEqProofs := false}) (disch := omega) [afill, roomLim, zrep_one, show s.length ≤ 9223372036854775807 by omega, show s.length * 8 ≤ 140737488355328 by omega, show (s.length : Int) ≤ 9223372036854775807 by omega]
  have hl2' : H.length + 1 ≤ H2.length := by omega
  have hz : ∀ q, q < s.length → (Arr s.length fun _ => 0)[q]? = some (.int .i64 0) := fun q hq => Arr_get hq
  have hlen5 : ∀ L : AHeap, L.length = 3 → (H2 ++ L).length = H2.length + 3 := fun L h => by rw [List.length_append, h]
  refine vc_loop (inv32 s (fixB s) H.length H2.length) (s.length + 1) ⟨0, numB 1 1 ++ numB 1 2, by omega, by omega, ⟨?_, ?_, by omega, by rw [hlen5 _ rfl]; omega⟩, by simp, rfl, by simp, by simp, by simp, by simp⟩ ?_
  · exact (hW2.sub (B' := fxB H.length H2.length) fun r h1 h2 => by unfold fxB at h2; omega).app _ (by omega)
  · refine ⟨?_, by omega, ⟨[], ?_, rfl, fun l => rfl⟩, fun _ => 0, ?_, fun q hq => by omega⟩
    · rw [List.getElem?_append_right (by omega)]; simp
    · rw [List.getElem?_append_right (by omega)]; simp
    · rw [List.getElem?_append_right (by omega), ← Arr_zeros]; simp
  rintro n env H3 ⟨q, l, hq, hn, ⟨hW, hF, hpm, hml⟩, hll, hT, e0, e3, e4, e5⟩
  obtain ⟨n', rfl⟩ : ∃ n', n = n' + 1 := ⟨n - 1, by omega⟩
  rw [bodyB] at hT
  have hBx : ∀ (K : AHeap), H3.length ≤ K.length → ∀ r, fxB H.length H2.length r → r < K.length := fun K h r hr => by unfold fxB at hr; omega
  have hBp : fxB H.length H2.length H.length := .inl (Nat.le_refl _)
  have hfx : ∀ (K : AHeap) r, (r = H.length ∨ ¬ fxB H.length H2.length r) → H.length ≤ r ∨ K.length ≤ r := fun K r h => by unfold fxB at h; omega
  have keepF : ∀ {K : AHeap}, (∀ r, r < H3.length → ¬ (r = H.length ∨ ¬ fxB H.length H2.length r) → K[r]? = H3[r]?) → FD K (H2.length + 2) H2.length (H2.length + 1) s q := fun {K} h =>
    hF.keep (h _ (by omega) (by unfold fxB; omega)) (h _ (by omega) (by unfold fxB; omega)) (h _ (by omega) (by unfold fxB; omega))
  by_cases hlt : q < s.length
  · rw [if_pos hlt] at hT
    simp (config := {contextual := true, implicitDefEqProofs := false}) (disch := omega) [e0, e3, e4, e5, hlt]
    refine call1_eq (find_ok (by omega) hF hq) ?_
    rcases find_match s q with ⟨h1, h2⟩ | ⟨h1, h2⟩
    · rw [h2] at hT
      obtain ⟨b2, b3, b4, b5⟩ := match_bounds s q h1
      rw [if_neg (show ¬ (findM s q).1 = 0 by omega)] at hT
      generalize (findM s q).1 = mn at *
      generalize (findM s q).2 = md at *
      have hml2 := matchB_len h1 b2 b3 b4
      simp (config := {contextual := true, implicitDefEqProofs := false}) (disch := omega) [e0, e3, e4, e5, show (3 : Int) ≤ mn by omega, h1]
      refine call1_of (wmatch_ok (hBx _ (Nat.le_refl _)) hBp hW h1 b2 b3 b4 (by omega)) (hfx _) ?_
      rintro v H4 ⟨rfl, hW4⟩ hl4 hf4
      simp (config := {contextual := true, implicitDefEqProofs := false}) (disch := omega) [e0, e3, e4, e5]
      refine inner32 (H0 := H) (l := l ++ matchB mn md) hs (Nat.le_refl _) ⟨hW4, keepF hf4, hpm, by omega⟩ (N := mn) (by omega) (by simp [e0]) (by simp [e3]) (by simp [e4]) (by simp [e5]) (by simp) (by simp) ?_
      intro env' H5 hS f0 f3 f4 f5
      simp
      exact again_iff n' (by omega) ⟨q + mn, _, by omega, by omega, hS, by rw [List.length_append]; omega, by rw [hT]; simp [List.append_assoc], f0, f3, f4, f5⟩
    · rw [h2, if_pos rfl] at hT
      have hc := UInt8.toNat_lt (chr s q)
      generalize (findM s q).1 = mn at *
      generalize (findM s q).2 = md at *
      have hsl := symB_len (chr s q).toNat
      simp (config := {contextual := true, implicitDefEqProofs := false}) (disch := omega) [e0, e3, e4, e5, show ¬ (3 : Int) ≤ mn by omega, show ¬ 3 ≤ mn by omega, vIdxStr_nat, hlt, i64_nat]
      refine call1_of (wsym_ok (hBx _ (Nat.le_refl _)) hBp hW (v := (chr s q).toNat) (by omega) (by omega)) (hfx _) ?_
      rintro v H4 ⟨rfl, hW4⟩ hl4 hf4
      simp (config := {contextual := true, implicitDefEqProofs := false}) (disch := omega) [e0, e3, e4, e5]
      refine inner32 (H0 := H) (l := l ++ symB (chr s q).toNat) hs (Nat.le_refl _) ⟨hW4, keepF hf4, hpm, by omega⟩ (N := 1) (by omega) (by simp [e0]) (by simp [e3]) (by simp [e4]) (by simp [e5]) (by simp) (by simp) ?_
      intro env' H5 hS f0 f3 f4 f5
      simp
      exact again_iff n' (by omega) ⟨q + 1, _, by omega, by omega, hS, by rw [List.length_append]; omega, by rw [hT]; simp [List.append_assoc], f0, f3, f4, f5⟩
  · rw [if_neg hlt] at hT
    simp (config := {contextual := true, implicitDefEqProofs := false}) (disch := omega) [e0, e3, e4, e5, hlt]
    refine call1_of (wsym_ok (hBx _ (Nat.le_refl _)) hBp hW (v := 256) (by omega) (by omega)) (hfx _) ?_
    rintro v H4 ⟨rfl, ⟨w, hp4, hw4⟩, _⟩ hl4 _
    have g4 := ageOk_at hp4
    rw [hT, List.append_nil]
    simp (config := {contextual := true, implicitDefEqProofs := false}) (disch := omega) [e0, e3, e4, g4, wd0 hp4]
    exact hw4.sl

theorem fixed11_ok (hs : s.length ≤ 1048576) : ACall Try.prog 11 [.str s] H fp fun v H' => v = .str (pack (fixB s)) ∧ H' = H := by
  refine (ACall.drop (R := fun v' _ => v' = .str (pack (fixB s))) ?_ (by rintro v' H' rfl; rfl)).mono fun v' H' q => ⟨q.2.elim fun _ q => q.1, q.1⟩
  refine acall_of hmix Try.func11 x11_ok (by simp) ?_
  simp
  refine call1_eq (input33_ok hs) ?_
  simp
  refine call1_of (fixed32_raw hs) (fun r h => h.elim) ?_
  intro v H2 hsl hl2 _
  simp (config := {contextual := true, implicitDefEqProofs := false}) (disch := omega) [hsl.toStr]

/-- The law DeflateFixes, over the abstract layer. -/
theorem law3_all (example_ : ∀ (H : AHeap) (fp : Nat → Prop), ACall Try.prog 13 [] H fp fun v' H' => v' = .bool true ∧ H' = H) : ACall Try.prog 3 [.str s] H fp fun v' H' => v' = .bool true ∧ H' = H := by
  refine acall_of hmix Try.func3 x3_ok (by simp) ?_
  by_cases c : 6000 < s.length
  · simp (config := {contextual := true, implicitDefEqProofs := false}) (disch := omega) [show (6000 : Int) < s.length by omega, c]
  · simp (config := {contextual := true, implicitDefEqProofs := false}) (disch := omega) [show ¬ (6000 : Int) < s.length by omega, c]
    refine call1_eq (fixed11_ok (by omega)) ?_
    simp (config := {contextual := true, implicitDefEqProofs := false}) (disch := omega)
    refine call1_eq (rfixed_ok (by omega)) ?_
    simp (config := {contextual := true, implicitDefEqProofs := false}) (disch := omega)
    refine call1_eq (example_ _ _) ?_
    simp
end
end Go.Proofs.Ytdknddicpdhkcaa.Ab

/- The examples of layer 47 hold, in every state; the law DeflateFixes. Conditions: none; for the statements about layer 47. -/
namespace Go.Proofs.Ytdknddicpdhkcaa.Ab
set_option linter.unusedVariables false
set_option maxRecDepth 100000

def X47 : FuncId → Option XFun := fun f => match f with
  | 11 => some x11
  | 13 => some x13
  | 20 => some x20
  | 31 => some x31
  | 32 => some x32
  | 33 => some x33
  | 40 => some x40
  | 53 => some x53
  | 54 => some x54
  | 55 => some x55
  | 56 => some x56
  | 57 => some x57
  | 58 => some x58
  | 67 => some x67
  | 68 => some x68
  | 69 => some x69
  | 70 => some x70
  | 71 => some x71
  | _ => none
theorem X47_ok : ∀ f xf, X47 f = some xf → ∃ fn, Try.prog.funcs[f]? = some fn ∧ xfun Try.prog fn = some xf := by
  intro f xf h
  unfold X47 at h
  split at h
  · cases h; exact ⟨_, Try.func11, x11_ok⟩
  · cases h; exact ⟨_, Try.func13, x13_ok⟩
  · cases h; exact ⟨_, Try.func20, x20_ok⟩
  · cases h; exact ⟨_, Try.func31, x31_ok⟩
  · cases h; exact ⟨_, Try.func32, x32_ok⟩
  · cases h; exact ⟨_, Try.func33, x33_ok⟩
  · cases h; exact ⟨_, Try.func40, x40_ok⟩
  · cases h; exact ⟨_, Try.func53, x53_ok⟩
  · cases h; exact ⟨_, Try.func54, x54_ok⟩
  · cases h; exact ⟨_, Try.func55, x55_ok⟩
  · cases h; exact ⟨_, Try.func56, x56_ok⟩
  · cases h; exact ⟨_, Try.func57, x57_ok⟩
  · cases h; exact ⟨_, Try.func58, x58_ok⟩
  · cases h; exact ⟨_, Try.func67, x67_ok⟩
  · cases h; exact ⟨_, Try.func68, x68_ok⟩
  · cases h; exact ⟨_, Try.func69, x69_ok⟩
  · cases h; exact ⟨_, Try.func70, x70_ok⟩
  · cases h; exact ⟨_, Try.func71, x71_ok⟩
  · cases h
def S0 : Fns := fun _ _ _ => none
theorem S0_good : Good Try.prog S0 := by intro f args H v H' W h; cases h

theorem example13 : saysTrue (xcall X47 S0 100000 12 13 [] []) = true := by kernel_rfl
theorem example13_ok (H : AHeap) (fp : Nat → Prop) : ACall Try.prog 13 [] H fp fun v' H' => v' = .bool true ∧ H' = H := by
  refine (ACall.closed (xcall_good hmix X47_ok S0_good 12 13 [] [] (.bool true) [] [] (says_true example13)) rfl ?_ H fp).mono ?_
  · rintro v H' ⟨rfl, rfl⟩; rfl
  · rintro v H' ⟨rfl, _, rfl, rfl⟩; exact ⟨rfl, rfl⟩
theorem law3_ok {s : List UInt8} {H : AHeap} {fp : Nat → Prop} : ACall Try.prog 3 [.str s] H fp fun v' H' => v' = .bool true ∧ H' = H := law3_all example13_ok
end Go.Proofs.Ytdknddicpdhkcaa.Ab

/- Deflate: bits are read back. Conditions: none; for the statements about layer 47. -/
namespace Go.Proofs.Ytdknddicpdhkcaa.Ab
set_option linter.unusedVariables false
set_option linter.unusedSimpArgs false

theorem chrA (pre x : List UInt8) (i : Nat) : chr (pre ++ x) (pre.length + i) = chr x i := by
  simp [chr, List.getD_eq_getElem?_getD, List.getElem?_append_right]
theorem chrL {x y : List UInt8} {i : Nat} (h : i < x.length) : chr (x ++ y) i = chr x i := by
  simp [chr, List.getD_eq_getElem?_getD, List.getElem?_append_left h]
theorem chr_out {s : List UInt8} {i : Nat} (h : s.length ≤ i) : chr s i = 0 := by
  simp [chr, List.getD_eq_getElem?_getD, h]
theorem bitAt_pack (l : List Nat) : (∀ b ∈ l, b ≤ 1) → ∀ i, bitAt (pack l) i = l.getD i 0 := by
  refine list_snoc_ind (P := fun l => (∀ b ∈ l, b ≤ 1) → ∀ i, bitAt (pack l) i = l.getD i 0) ?_ ?_ l
  · intro _ i
    have : pack [] = [] := rfl
    rw [this]; unfold bitAt; rw [chr_out (by simp)]; simp
  · intro l b ih hb i
    have hbl : ∀ x ∈ l, x ≤ 1 := fun x hx => hb x (List.mem_append_left _ hx)
    have ih := ih hbl
    obtain ⟨h1, h2⟩ := pk_facts l hbl
    have hb1 : b ≤ 1 := hb b (by simp)
    have hp : pack (l ++ [b]) = if l.length % 8 = 0 then pack l ++ [UInt8.ofNat b] else (pack l).set ((pack l).length - 1) (UInt8.ofNat ((chr (pack l) ((pack l).length - 1)).toNat + b * 2 ^ (l.length % 8))) := by
      unfold pack; rw [pk_snoc]; simp only [wstep, pk_two]
    have hg : (l ++ [b]).getD i 0 = if i < l.length then l.getD i 0 else if i = l.length then b else 0 := by
      simp only [List.getD_eq_getElem?_getD]
      by_cases c : i < l.length
      · rw [if_pos c, List.getElem?_append_left c]
      · rw [if_neg c, List.getElem?_append_right (by omega)]
        by_cases c2 : i = l.length
        · rw [if_pos c2, c2]; simp
        · rw [if_neg c2, List.getElem?_eq_none (by simp; omega)]; rfl
    have hgo : ∀ i, l.length ≤ i → l.getD i 0 = 0 := fun i h => by simp [List.getD_eq_getElem?_getD, h]
    rw [hg, hp]
    by_cases c : l.length % 8 = 0
    · rw [if_pos c]
      by_cases c1 : i / 8 < (pack l).length
      · have e : bitAt (pack l ++ [UInt8.ofNat b]) i = bitAt (pack l) i := by unfold bitAt; rw [chrL c1]
        rw [e, ih, if_pos (by omega)]
      · by_cases c2 : i / 8 = (pack l).length
        · have e : chr (pack l ++ [UInt8.ofNat b]) (i / 8) = UInt8.ofNat b := by
            rw [c2]; simp [chr]
          unfold bitAt
          rw [e]
          have hv : (UInt8.ofNat b).toNat = b := by
            have : (UInt8.ofNat b).toNat = b % 256 := by simp
            omega
          rw [hv, if_neg (by omega)]
          by_cases c3 : i = l.length
          · rw [if_pos c3, show i % 8 = 0 by omega]; simp; omega
          · rw [if_neg c3]
            have : 2 ≤ 2 ^ (i % 8) := by
              have := Nat.pow_le_pow_right (n := 2) (by omega) (show 1 ≤ i % 8 by omega)
              simpa using this
            rw [Nat.div_eq_of_lt (by omega)]
        · unfold bitAt
          rw [chr_out (by simp; omega), if_neg (by omega), if_neg (by omega)]; simp
    · rw [if_neg c]
      have h3 := h2 c
      have hl0 : 0 < (pack l).length := by omega
      by_cases c1 : i / 8 = (pack l).length - 1
      · have e : chr ((pack l).set ((pack l).length - 1) (UInt8.ofNat ((chr (pack l) ((pack l).length - 1)).toNat + b * 2 ^ (l.length % 8)))) (i / 8) = UInt8.ofNat ((chr (pack l) ((pack l).length - 1)).toNat + b * 2 ^ (l.length % 8)) := by
          rw [c1]
          simp only [chr, List.getD_eq_getElem?_getD]
          rw [List.getElem?_set_self (by omega)]; rfl
        have hold : bitAt (pack l) i = (chr (pack l) ((pack l).length - 1)).toNat / 2 ^ (i % 8) % 2 := by unfold bitAt; rw [c1]
        have hpw : 2 ^ (l.length % 8 + 1) ≤ 2 ^ 8 := Nat.pow_le_pow_right (by omega) (by omega)
        have hpe : 2 ^ (l.length % 8 + 1) = 2 ^ (l.length % 8) * 2 := Nat.pow_succ ..
        have hbm : b * 2 ^ (l.length % 8) ≤ 1 * 2 ^ (l.length % 8) := Nat.mul_le_mul_right _ hb1
        unfold bitAt
        rw [e]
        have hv : (UInt8.ofNat ((chr (pack l) ((pack l).length - 1)).toNat + b * 2 ^ (l.length % 8))).toNat = (chr (pack l) ((pack l).length - 1)).toNat + b * 2 ^ (l.length % 8) := by
          have : (UInt8.ofNat ((chr (pack l) ((pack l).length - 1)).toNat + b * 2 ^ (l.length % 8))).toNat = ((chr (pack l) ((pack l).length - 1)).toNat + b * 2 ^ (l.length % 8)) % 256 := by simp
          rw [this, Nat.mod_eq_of_lt (by omega)]
        rw [hv]
        have hih := ih i
        rw [hold] at hih
        have hi8 : i % 8 < 8 := Nat.mod_lt _ (by omega)
        by_cases c3 : i < l.length
        · rw [if_pos c3, ← hih]
          have hk : l.length % 8 = i % 8 + (l.length % 8 - i % 8) := by omega
          have hk1 : 2 ^ (l.length % 8) = 2 ^ (i % 8) * (2 * 2 ^ (l.length % 8 - i % 8 - 1)) := by
            rw [← Nat.pow_succ', ← Nat.pow_add]; congr 1; omega
          rw [hk1, show b * (2 ^ (i % 8) * (2 * 2 ^ (l.length % 8 - i % 8 - 1))) = 2 ^ (i % 8) * (2 * (b * 2 ^ (l.length % 8 - i % 8 - 1))) by
            rw [Nat.mul_left_comm]; congr 1; rw [Nat.mul_left_comm], Nat.add_mul_div_left _ _ (Nat.two_pow_pos _)]
          omega
        · rw [if_neg c3]
          by_cases c4 : i = l.length
          · have h3i : (chr (pack l) ((pack l).length - 1)).toNat < 2 ^ (i % 8) := by rw [c4]; exact h3
            rw [if_pos c4, show l.length % 8 = i % 8 by rw [c4], Nat.mul_comm b, Nat.add_mul_div_left _ _ (Nat.two_pow_pos _), Nat.div_eq_of_lt h3i]; omega
          · rw [if_neg c4]
            have h5 : 2 ^ (l.length % 8 + 1) ≤ 2 ^ (i % 8) := Nat.pow_le_pow_right (by omega) (by omega)
            rw [Nat.div_eq_of_lt (by omega)]
      · have e : ∀ x, chr ((pack l).set ((pack l).length - 1) x) (i / 8) = chr (pack l) (i / 8) := by
          intro x
          simp only [chr, List.getD_eq_getElem?_getD]
          rw [List.getElem?_set_ne (by omega)]
        have e2 : ∀ x, bitAt ((pack l).set ((pack l).length - 1) x) i = bitAt (pack l) i := by intro x; unfold bitAt; rw [e]
        rw [e2, ih]
        by_cases c3 : i < l.length
        · rw [if_pos c3]
        · rw [if_neg c3, if_neg (by omega), hgo i (by omega)]

def codeV (s : List UInt8) (a : Nat) : Nat → Nat
  | 0 => 0
  | n + 1 => 2 * codeV s a n + bitAt s (a + n)
theorem codeV_lt (s : List UInt8) (a : Nat) : ∀ n, codeV s a n < 2 ^ n
  | 0 => by simp [codeV]
  | n + 1 => by have := codeV_lt s a n; have h := bitAt_le s (a + n); simp only [codeV, Nat.pow_succ]; omega
theorem bitsV_num {s : List UInt8} {a x : Nat} : ∀ n, (∀ i, i < n → bitAt s (a + i) = x / 2 ^ i % 2) → bitsV s a n = x % 2 ^ n
  | 0, _ => by simp [bitsV]; omega
  | n + 1, h => by
    rw [bitsV, bitsV_num n fun i hi => h i (by omega), h n (by omega), Nat.pow_succ, Nat.mod_mul, Nat.mul_comm]
theorem codeV_code {s : List UInt8} {a x N : Nat} (h : ∀ i, i < N → bitAt s (a + i) = x / 2 ^ (N - 1 - i) % 2) : ∀ m, m ≤ N → codeV s a m = x / 2 ^ (N - m) % 2 ^ m
  | 0, _ => by simp [codeV]; omega
  | m + 1, hm => by
    rw [codeV, codeV_code h m (by omega), h m (by omega)]
    have e : x / 2 ^ (N - m) = x / 2 ^ (N - (m + 1)) / 2 := by
      rw [Nat.div_div_eq_div_mul, ← Nat.pow_succ]; congr 2; omega
    rw [e, show N - 1 - m = N - (m + 1) by omega]
    generalize x / 2 ^ (N - (m + 1)) = y
    rw [Nat.pow_succ', Nat.mod_mul]; omega

/-- A symbol, as it is read, and its number of bits. -/
def symV (s : List UInt8) (a : Nat) : Int × Nat :=
  if codeV s a 7 < 24 then (256 + (codeV s a 7 : Nat), 7)
  else if 48 ≤ codeV s a 8 ∧ codeV s a 8 < 192 then (((codeV s a 8 : Nat) : Int) - 48, 8)
  else if 192 ≤ codeV s a 8 ∧ codeV s a 8 < 200 then (((codeV s a 8 : Nat) : Int) - 192 + 280, 8)
  else (((codeV s a 9 : Nat) : Int) - 400 + 144, 9)

section
variable {pre post : List Nat}
/-- The bits that are read where a text of bits lies. -/
theorem bit_mid {mid : List Nat} (hb : ∀ b ∈ pre ++ (mid ++ post), b ≤ 1) {i : Nat} (hi : i < mid.length) : bitAt (pack (pre ++ (mid ++ post))) (pre.length + i) = mid.getD i 0 := by
  rw [bitAt_pack _ hb]
  simp only [List.getD_eq_getElem?_getD]
  rw [List.getElem?_append_right (by omega), show pre.length + i - pre.length = i by omega, List.getElem?_append_left hi]
theorem num_back {x N : Nat} (hb : ∀ b ∈ pre ++ (numB x N ++ post), b ≤ 1) : bitsV (pack (pre ++ (numB x N ++ post))) pre.length N = x % 2 ^ N := by
  refine bitsV_num N fun i hi => ?_
  rw [bit_mid hb (by simpa using hi)]
  simp [numB, List.getD_eq_getElem?_getD, hi]
theorem code_bit {x N i : Nat} (hi : i < N) : (codeB x N).getD i 0 = x / 2 ^ (N - 1 - i) % 2 := by
  rw [List.getD_eq_getElem?_getD, List.getElem?_eq_getElem (by simpa using hi)]
  simp only [codeB, List.getElem_reverse, numB, List.getElem_map, List.getElem_range, List.length_map, List.length_range]
  rfl
theorem code_back {x N m : Nat} (hb : ∀ b ∈ pre ++ (codeB x N ++ post), b ≤ 1) (hm : m ≤ N) : codeV (pack (pre ++ (codeB x N ++ post))) pre.length m = x / 2 ^ (N - m) % 2 ^ m := by
  refine codeV_code (fun i hi => ?_) m hm
  rw [bit_mid hb (by simpa using hi), code_bit hi]
theorem sym_back {v : Nat} (hv : v < 288) (hb : ∀ b ∈ pre ++ (symB v ++ post), b ≤ 1) : symV (pack (pre ++ (symB v ++ post))) pre.length = ((v : Int), (symB v).length) := by
  unfold symB at *
  by_cases c1 : v < 144
  · rw [if_pos c1] at *
    have k7 := code_back hb (m := 7) (by omega)
    have k8 := code_back hb (m := 8) (by omega)
    unfold symV
    rw [k7, k8]
    simp only [codeB_len, show 8 - 7 = 1 from rfl, Nat.sub_self, Nat.pow_one, Nat.pow_zero, Nat.div_one, show (2 : Nat) ^ 7 = 128 from rfl, show (2 : Nat) ^ 8 = 256 from rfl]
    rw [if_neg (by omega), if_pos (by omega)]
    exact Prod.ext (by simp only []; omega) rfl
  · rw [if_neg c1] at *
    by_cases c2 : v < 256
    · rw [if_pos c2] at *
      have k7 := code_back hb (m := 7) (by omega)
      have k8 := code_back hb (m := 8) (by omega)
      have k9 := code_back hb (m := 9) (by omega)
      unfold symV
      rw [k7, k8, k9]
      simp only [codeB_len, show 9 - 7 = 2 from rfl, show 9 - 8 = 1 from rfl, Nat.sub_self, Nat.pow_one, Nat.pow_zero, Nat.div_one, show (2 : Nat) ^ 2 = 4 from rfl, show (2 : Nat) ^ 7 = 128 from rfl, show (2 : Nat) ^ 8 = 256 from rfl, show (2 : Nat) ^ 9 = 512 from rfl]
      rw [if_neg (by omega), if_neg (by omega), if_neg (by omega)]
      exact Prod.ext (by simp only []; omega) rfl
    · rw [if_neg c2] at *
      by_cases c3 : v < 280
      · rw [if_pos c3] at *
        have k7 := code_back hb (m := 7) (by omega)
        unfold symV
        rw [k7]
        simp only [codeB_len, Nat.sub_self, Nat.pow_zero, Nat.div_one, show (2 : Nat) ^ 7 = 128 from rfl]
        rw [if_pos (by omega)]
        exact Prod.ext (by simp only []; omega) rfl
      · rw [if_neg c3] at *
        have k7 := code_back hb (m := 7) (by omega)
        have k8 := code_back hb (m := 8) (by omega)
        unfold symV
        rw [k7, k8]
        simp only [codeB_len, show 8 - 7 = 1 from rfl, Nat.sub_self, Nat.pow_one, Nat.pow_zero, Nat.div_one, show (2 : Nat) ^ 7 = 128 from rfl, show (2 : Nat) ^ 8 = 256 from rfl]
        rw [if_neg (by omega), if_neg (by omega), if_pos (by omega)]
        exact Prod.ext (by simp only []; omega) rfl
end
end Go.Proofs.Ytdknddicpdhkcaa.Ab

/- The law DeflateTokens over the abstract layer. Conditions: none; for the statements about layer 47. -/
namespace Go.Proofs.Ytdknddicpdhkcaa.Ab
set_option linter.unusedVariables false
set_option linter.unusedSimpArgs false

section
variable {S : List UInt8} {a p : Nat} {H : AHeap} {fp : Nat → Prop}
def tkB (S : List UInt8) (a : Nat) : ABlk := .cells 0 false 27 [.str S, .int .i64 a]

theorem take_ok (hp : H[p]? = some (tkB S a)) (hS : S.length ≤ 2 ^ 40) (ha : a ≤ 2 ^ 45) : ACall Try.prog 38 [.ptr p 0 0] H (fun r => r = p) fun v H' => v = .int .i64 (bitAt S a : Nat) ∧ H' = H.set p (tkB S (a + 1)) := by
  refine acall_of hmix Try.func38 x38_ok (by simp) ?_
  have g1 := ageOk_at hp
  have l0 : aload H p 0 0 = some (.str S) := by rw [aload_at hp]; rfl
  have l1 : aload H p 0 1 = some (.int .i64 a) := by rw [aload_at hp]; rfl
  have s1 : astore H p 0 1 (.int .i64 ((a + 1 : Nat) : Int)) = some (H.set p (tkB S (a + 1))) := by rw [astore_at hp]; simp [tkB]
  have q1 : abin .quo (.int .i64 (a : Int)) (.int .i64 8) = some (.int .i64 ((a / 8 : Nat) : Int)) := by
    rw [abin_quo (by omega), Int.tdiv_eq_ediv_of_nonneg (by omega), i64_id (by omega) (by omega)]; rfl
  have q2 : abin .rem (.int .i64 (a : Int)) (.int .i64 8) = some (.int .i64 ((a % 8 : Nat) : Int)) := by rw [abin_rem (by omega), Int.tmod_eq_emod_of_nonneg (by omega)]; rfl
  have a1 : abin .add (.int .i64 (a : Int)) (.int .i64 1) = some (.int .i64 ((a + 1 : Nat) : Int)) := addN (b := 1) (by omega)
  by_cases c : a / 8 < S.length
  · have hc := UInt8.toNat_lt (chr S (a / 8))
    have i1 := vIdxStr_nat (s := S) (k := .i64) (n := a / 8) c
    have w1 : IntKind.i64.wrap ((chr S (a / 8)).toNat : Int) = ((chr S (a / 8)).toNat : Int) := i64_nat (by omega)
    have s2 := shr_nat (x := (chr S (a / 8)).toNat) (i := a % 8) (by omega)
    have hdl := Nat.div_le_self (chr S (a / 8)).toNat (2 ^ (a % 8))
    have n1 := and1_i64 (x := (chr S (a / 8)).toNat / 2 ^ (a % 8)) (by omega)
    have hb : (chr S (a / 8)).toNat / 2 ^ (a % 8) % 2 = bitAt S a := rfl
    rw [hb] at n1
    simp (config := {contextual := true, implicitDefEqProofs := false}) (disch := omega) [g1, l0, l1, q1, q2, show ((a / 8 : Nat) : Int) < S.length by omega, c, i1, w1, s2, n1, a1, s1, -abin_add, -abin_and, -Int.natCast_add, -Int.natCast_ediv, -Int.natCast_emod]
  · have hb : bitAt S a = 0 := by unfold bitAt; rw [chr_out (by omega)]; simp
    simp (config := {contextual := true, implicitDefEqProofs := false}) (disch := omega) [g1, l0, l1, q1, show ¬ ((a / 8 : Nat) : Int) < S.length by omega, c, a1, s1, hb, -abin_add, -Int.natCast_add, -Int.natCast_ediv]

def inv14 (H : AHeap) (p : Nat) (S : List UInt8) (a N : Nat) (n : Nat) (env : Env) (H' : AHeap) : Prop :=
  ∃ i, i ≤ N ∧ n = N - i ∧ H' = H.set p (tkB S (a + i)) ∧ env 0 = .ptr p 0 0 ∧ env 1 = .int .i64 N ∧ env 5 = .int .i64 (bitsV S a i) ∧ env 6 = .int .i64 i
theorem num14_ok (hp : H[p]? = some (tkB S a)) (hS : S.length ≤ 2 ^ 40) (ha : a ≤ 2 ^ 44) {N : Nat} (hN : N ≤ 30) : ACall Try.prog 14 [.ptr p 0 0, .int .i64 N] H (fun r => r = p) fun v H' => v = .int .i64 (bitsV S a N : Nat) ∧ H' = H.set p (tkB S (a + N)) := by
  refine acall_of hmix Try.func14 x14_ok (by simp) ?_
  have hpl := (List.getElem?_eq_some_iff.1 hp).1
  simp
  refine vc_loop (inv14 H p S a N) N ⟨0, by omega, by omega, by simp [set_same hp], by simp, by simp, by simp [bitsV], by simp⟩ ?_
  rintro n env H1 ⟨i, hi, rfl, rfl, e0, e1', e5, e6⟩
  have hp1 : (H.set p (tkB S (a + i)))[p]? = some (tkB S (a + i)) := List.getElem?_set_self hpl
  by_cases hlt : i < N
  · have hv := bitsV_lt S a i
    have hv2 : (2 : Nat) ^ i < 2 ^ 30 := Nat.pow_lt_pow_right (by omega) (by omega)
    have hb := bitAt_le S (a + i)
    have h3 : bitAt S (a + i) * 2 ^ i ≤ 1 * 2 ^ i := Nat.mul_le_mul_right _ hb
    have a5 : abin .shl (.int .i64 ((bitAt S (a + i) : Nat) : Int)) (.int .i64 (i : Int)) = some (.int .i64 ((bitAt S (a + i) * 2 ^ i : Nat) : Int)) := by
      rw [abin_shl (by omega)]
      simp only [bits_i64, Int.toNat_natCast, show min i 64 = i by omega]
      rw [show ((bitAt S (a + i) : Nat) : Int) * 2 ^ i = ((bitAt S (a + i) * 2 ^ i : Nat) : Int) by simp, i64_nat (by omega)]
    have a6 : abin .add (.int .i64 ((bitsV S a i : Nat) : Int)) (.int .i64 ((bitAt S (a + i) * 2 ^ i : Nat) : Int)) = some (.int .i64 ((bitsV S a (i + 1) : Nat) : Int)) := addN (by omega)
    have a7 : abin .add (.int .i64 (i : Int)) (.int .i64 1) = some (.int .i64 ((i + 1 : Nat) : Int)) := addN (b := 1) (by omega)
    simp (config := {contextual := true, implicitDefEqProofs := false}) (disch := omega) [e0, e1', e5, e6, hlt]
    refine call1_eq ((take_ok hp1 hS (by omega)).use (fun r h => Or.inl (Or.inl h)) fun v H' q _ _ => q) ?_
    rw [List.set_set]
    simp (config := {contextual := true, implicitDefEqProofs := false}) (disch := omega) [e0, e1', e5, e6, a5, a6, a7, -abin_add, -Int.natCast_add, -Int.natCast_mul, -Int.natCast_pow]
    exact again_iff (N - (i + 1)) (by omega) ⟨i + 1, hlt, rfl, rfl, by simp [e0], by simp [e1'], by simp, by simp⟩
  · have : i = N := by omega
    subst this
    simp (config := {contextual := true, implicitDefEqProofs := false}) (disch := omega) [e0, e1', e5, e6]

def inv19 (H : AHeap) (p : Nat) (S : List UInt8) (a N : Nat) (n : Nat) (env : Env) (H' : AHeap) : Prop :=
  ∃ i, i ≤ N ∧ n = N - i ∧ H' = H.set p (tkB S (a + i)) ∧ env 0 = .ptr p 0 0 ∧ env 1 = .int .i64 N ∧ env 5 = .int .i64 (codeV S a i) ∧ env 6 = .int .i64 i
theorem code19_ok (hp : H[p]? = some (tkB S a)) (hS : S.length ≤ 2 ^ 40) (ha : a ≤ 2 ^ 44) {N : Nat} (hN : N ≤ 30) : ACall Try.prog 19 [.ptr p 0 0, .int .i64 N] H (fun r => r = p) fun v H' => v = .int .i64 (codeV S a N : Nat) ∧ H' = H.set p (tkB S (a + N)) := by
  refine acall_of hmix Try.func19 x19_ok (by simp) ?_
  have hpl := (List.getElem?_eq_some_iff.1 hp).1
  simp
  refine vc_loop (inv19 H p S a N) N ⟨0, by omega, by omega, by simp [set_same hp], by simp, by simp, by simp [codeV], by simp⟩ ?_
  rintro n env H1 ⟨i, hi, rfl, rfl, e0, e1', e5, e6⟩
  have hp1 : (H.set p (tkB S (a + i)))[p]? = some (tkB S (a + i)) := List.getElem?_set_self hpl
  by_cases hlt : i < N
  · have hv := codeV_lt S a i
    have hv2 : (2 : Nat) ^ i < 2 ^ 30 := Nat.pow_lt_pow_right (by omega) (by omega)
    have hb := bitAt_le S (a + i)
    have a5 : abin .mul (.int .i64 2) (.int .i64 ((codeV S a i : Nat) : Int)) = some (.int .i64 ((2 * codeV S a i : Nat) : Int)) := by rw [abin_mul, i64_id (by omega) (by omega)]; rfl
    have a6 : abin .add (.int .i64 ((2 * codeV S a i : Nat) : Int)) (.int .i64 ((bitAt S (a + i) : Nat) : Int)) = some (.int .i64 ((codeV S a (i + 1) : Nat) : Int)) := addN (by omega)
    have a7 : abin .add (.int .i64 (i : Int)) (.int .i64 1) = some (.int .i64 ((i + 1 : Nat) : Int)) := addN (b := 1) (by omega)
    simp (config := {contextual := true, implicitDefEqProofs := false}) (disch := omega) [e0, e1', e5, e6, hlt, a5, -abin_mul, -Int.natCast_mul]
    refine call1_eq ((take_ok hp1 hS (by omega)).use (fun r h => Or.inl (Or.inl h)) fun v H' q _ _ => q) ?_
    rw [List.set_set]
    simp (config := {contextual := true, implicitDefEqProofs := false}) (disch := omega) [e0, e1', e5, e6, a6, a7, -abin_add, -Int.natCast_add, -Int.natCast_mul]
    exact again_iff (N - (i + 1)) (by omega) ⟨i + 1, hlt, rfl, rfl, by simp [e0], by simp [e1'], by simp, by simp⟩
  · have : i = N := by omega
    subst this
    simp (config := {contextual := true, implicitDefEqProofs := false}) (disch := omega) [e0, e1', e5, e6]

theorem sym16_ok (hp : H[p]? = some (tkB S a)) (hS : S.length ≤ 2 ^ 40) (ha : a ≤ 2 ^ 43) : ACall Try.prog 16 [.ptr p 0 0] H (fun r => r = p) fun v H' => v = .int .i64 (symV S a).1 ∧ H' = H.set p (tkB S (a + (symV S a).2)) := by
  refine acall_of hmix Try.func16 x16_ok (by simp) ?_
  have hpl := (List.getElem?_eq_some_iff.1 hp).1
  have hp1 : ∀ x, (H.set p (tkB S x))[p]? = some (tkB S x) := fun x => List.getElem?_set_self hpl
  have k7 := codeV_lt S a 7
  have k8 := codeV_lt S a 8
  have k9 := codeV_lt S a 9
  have b7 := bitAt_le S (a + 7)
  have b8 := bitAt_le S (a + 8)
  have d8 : codeV S a 8 = 2 * codeV S a 7 + bitAt S (a + 7) := rfl
  have d9 : codeV S a 9 = 2 * codeV S a 8 + bitAt S (a + 8) := rfl
  have m7 : abin .mul (.int .i64 2) (.int .i64 ((codeV S a 7 : Nat) : Int)) = some (.int .i64 ((2 * codeV S a 7 : Nat) : Int)) := by rw [abin_mul, i64_id (by omega) (by omega)]; rfl
  have s7 : abin .add (.int .i64 ((2 * codeV S a 7 : Nat) : Int)) (.int .i64 ((bitAt S (a + 7) : Nat) : Int)) = some (.int .i64 ((codeV S a 8 : Nat) : Int)) := addN (by omega)
  have m8 : abin .mul (.int .i64 2) (.int .i64 ((codeV S a 8 : Nat) : Int)) = some (.int .i64 ((2 * codeV S a 8 : Nat) : Int)) := by rw [abin_mul, i64_id (by omega) (by omega)]; rfl
  have s8 : abin .add (.int .i64 ((2 * codeV S a 8 : Nat) : Int)) (.int .i64 ((bitAt S (a + 8) : Nat) : Int)) = some (.int .i64 ((codeV S a 9 : Nat) : Int)) := addN (by omega)
  unfold symV
  simp
  refine call1_eq ((code19_ok hp hS (by omega) (N := 7) (by omega)).use (fun r h => Or.inl (Or.inl h)) fun v H' q _ _ => q) ?_
  clear d8 d9
  generalize codeV S a 7 = c7 at *
  generalize codeV S a 8 = c8 at *
  generalize codeV S a 9 = c9 at *
  by_cases c1 : c7 < 24
  · simp (config := {contextual := true, implicitDefEqProofs := false}) (disch := omega) [show (c7 : Int) < 24 by omega, c1, i64_id]
  · simp (config := {contextual := true, implicitDefEqProofs := false}) (disch := omega) [show ¬ (c7 : Int) < 24 by omega, c1, m7, -abin_mul, -Int.natCast_mul]
    refine call1_eq ((take_ok (hp1 _) hS (by omega)).use (fun r h => Or.inl (Or.inl h)) fun v H' q _ _ => q) ?_
    rw [List.set_set]
    have s48 : abin .sub (.int .i64 (c8 : Int)) (.int .i64 48) = some (.int .i64 ((c8 : Int) - 48)) := by rw [abin_sub, i64_id (by omega) (by omega)]
    have s192 : abin .sub (.int .i64 (c8 : Int)) (.int .i64 192) = some (.int .i64 ((c8 : Int) - 192)) := by rw [abin_sub, i64_id (by omega) (by omega)]
    have s280 : abin .add (.int .i64 ((c8 : Int) - 192)) (.int .i64 280) = some (.int .i64 ((c8 : Int) - 192 + 280)) := by rw [abin_add, i64_id (by omega) (by omega)]
    by_cases c2 : 48 ≤ c8 ∧ c8 < 192
    · simp (config := {contextual := true, implicitDefEqProofs := false}) (disch := omega) [c1, s7, show (48 : Int) ≤ c8 by omega, show (c8 : Int) < 192 by omega, c2.1, c2.2, s48, -abin_add, -abin_sub, -Int.natCast_add, -Int.natCast_mul]
    · by_cases c3 : 192 ≤ c8 ∧ c8 < 200
      · simp (config := {contextual := true, implicitDefEqProofs := false}) (disch := omega) [c1, s7, show (48 : Int) ≤ c8 by omega, show 48 ≤ c8 by omega, show ¬ (c8 : Int) < 192 by omega, show ¬ c8 < 192 by omega, show (192 : Int) ≤ c8 by omega, show (c8 : Int) < 200 by omega, c3.1, c3.2, s192, s280, -abin_add, -abin_sub, -Int.natCast_add, -Int.natCast_mul]
      · have s400 : abin .sub (.int .i64 (c9 : Int)) (.int .i64 400) = some (.int .i64 ((c9 : Int) - 400)) := by rw [abin_sub, i64_id (by omega) (by omega)]
        have s144 : abin .add (.int .i64 ((c9 : Int) - 400)) (.int .i64 144) = some (.int .i64 ((c9 : Int) - 400 + 144)) := by rw [abin_add, i64_id (by omega) (by omega)]
        by_cases c4 : 48 ≤ c8
        · have c5 : ¬ c8 < 200 := by omega
          simp (config := {contextual := true, implicitDefEqProofs := false}) (disch := omega) [c1, s7, show (48 : Int) ≤ c8 by omega, c4, show ¬ (c8 : Int) < 192 by omega, show ¬ c8 < 192 by omega, show (192 : Int) ≤ c8 by omega, show 192 ≤ c8 by omega, show ¬ (c8 : Int) < 200 by omega, c5, m8, -abin_add, -abin_sub, -abin_mul, -Int.natCast_add, -Int.natCast_mul]
          refine call1_eq ((take_ok (hp1 _) hS (by omega)).use (fun r h => Or.inl (Or.inl h)) fun v H' q _ _ => q) ?_
          rw [List.set_set]
          simp (config := {contextual := true, implicitDefEqProofs := false}) (disch := omega) [c1, c4, c5, show ¬ c8 < 192 by omega, s8, s400, s144, -abin_add, -abin_sub, -Int.natCast_add, -Int.natCast_mul]
        · simp (config := {contextual := true, implicitDefEqProofs := false}) (disch := omega) [c1, s7, show ¬ (48 : Int) ≤ c8 by omega, c4, show ¬ (192 : Int) ≤ c8 by omega, show ¬ 192 ≤ c8 by omega, m8, -abin_add, -abin_sub, -abin_mul, -Int.natCast_add, -Int.natCast_mul]
          refine call1_eq ((take_ok (hp1 _) hS (by omega)).use (fun r h => Or.inl (Or.inl h)) fun v H' q _ _ => q) ?_
          rw [List.set_set]
          simp (config := {contextual := true, implicitDefEqProofs := false}) (disch := omega) [c1, c4, show ¬ 192 ≤ c8 by omega, s8, s400, s144, -abin_add, -abin_sub, -Int.natCast_add, -Int.natCast_mul]
end
end Go.Proofs.Ytdknddicpdhkcaa.Ab

/- The law DeflateTokens over the abstract layer. Conditions: none; for the statements about layer 47. -/
namespace Go.Proofs.Ytdknddicpdhkcaa.Ab
set_option linter.unusedVariables false
set_option linter.unusedSimpArgs false

theorem len_more0 : ∀ n : Fin 259, 3 ≤ n.val → n.val - (lenR n.val).2.1 < 2 ^ (lenR n.val).2.2 := by decide +kernel
theorem len_more {n : Nat} (h : 3 ≤ n) (h2 : n ≤ 258) : n - (lenR n).2.1 < 2 ^ (lenR n).2.2 := len_more0 ⟨n, by omega⟩ h
theorem dist_more0 : ∀ x : Fin 64, ∀ y : Fin 65, 1 ≤ x.val * 64 + y.val → x.val * 64 + y.val - (distR (x.val * 64 + y.val)).2.1 < 2 ^ (distR (x.val * 64 + y.val)).2.2 := by decide +kernel
theorem dist_more {d : Nat} (h1 : 1 ≤ d) (h2 : d ≤ 4096) : d - (distR d).2.1 < 2 ^ (distR d).2.2 := by
  by_cases c : d = 4096
  · subst c; exact dist_more0 63 64 (by decide)
  · have := dist_more0 ⟨d / 64, by omega⟩ ⟨d % 64, by omega⟩ (by simp only []; omega)
    simp only [show d / 64 * 64 + d % 64 = d by omega] at this
    exact this
theorem matchB_bit (n d : Nat) : ∀ b ∈ matchB n d, b ≤ 1 := by
  intro b hb
  unfold matchB at hb
  simp only [List.mem_append] at hb
  rcases hb with (hb | hb) | (hb | hb)
  · exact symB_bit _ b hb
  · exact numB_bit _ _ b hb
  · exact codeB_bit _ _ b hb
  · exact numB_bit _ _ b hb
theorem bodyB_facts (s : List UInt8) : ∀ F p, (∀ b ∈ bodyB s F p, b ≤ 1) ∧ (bodyB s F p).length ≤ 40 * (s.length - p)
  | 0, p => by simp [bodyB]
  | F + 1, p => by
    rw [bodyB]
    split
    · rename_i hp
      split
      · obtain ⟨h1, h2⟩ := bodyB_facts s F (p + 1)
        have := symB_len (chr s p).toNat
        refine ⟨fun b hb => ?_, by rw [List.length_append]; omega⟩
        rcases List.mem_append.1 hb with hb | hb
        · exact symB_bit _ b hb
        · exact h1 b hb
      · rename_i hm
        obtain ⟨b1, b2, b3, b4, b5⟩ := matchR_bounds s p hm
        obtain ⟨h1, h2⟩ := bodyB_facts s F (p + (matchR s p).1)
        have := matchB_len b1 b2 b3 b4
        refine ⟨fun b hb => ?_, by rw [List.length_append]; omega⟩
        rcases List.mem_append.1 hb with hb | hb
        · exact matchB_bit _ _ b hb
        · exact h1 b hb
    · simp
theorem fixB_facts (s : List UInt8) : (∀ b ∈ fixB s, b ≤ 1) ∧ (fixB s).length ≤ 12 + 40 * s.length := by
  obtain ⟨h1, h2⟩ := bodyB_facts s (s.length + 1) 0
  have := symB_len 256
  unfold fixB
  refine ⟨fun b hb => ?_, by simp only [List.length_append, numB_len]; omega⟩
  simp only [List.mem_append] at hb
  rcases hb with ((hb | hb) | hb) | hb
  · exact numB_bit _ _ b hb
  · exact numB_bit _ _ b hb
  · exact h1 b hb
  · exact symB_bit _ b hb

section
variable {s : List UInt8} {H : AHeap} {fp : Nat → Prop}

def inv4 (H : AHeap) (s : List UInt8) (n : Nat) (env : Env) (H' : AHeap) : Prop :=
  ∃ q pre, q ≤ s.length ∧ s.length - q < n ∧ H' = H ++ [tkB (pack (fixB s)) (List.length pre)] ∧ fixB s = pre ++ (bodyB s n q ++ symB 256) ∧ env 0 = .str s ∧ env 3 = .ptr H.length 0 0 ∧ env 4 = .int .i64 q

theorem law4_ok : ACall Try.prog 4 [.str s] H fp fun v' H' => v' = .bool true ∧ H' = H := by
  refine (ACall.drop (R := fun v' _ => v' = .bool true) ?_ (by rintro v' H' rfl; rfl)).mono fun v' H' q => ⟨q.2.elim fun _ q => q.1, q.1⟩
  refine acall_of hmix Try.func4 x4_ok (by simp) ?_
  by_cases c : 6000 < s.length
  · simp (config := {contextual := true, implicitDefEqProofs := false}) (disch := omega) [show (6000 : Int) < s.length by omega, c]
  obtain ⟨hb, hbl⟩ := fixB_facts s
  have hpl := (pk_facts (fixB s) hb).1
  simp (config := {contextual := true, implicitDefEqProofs := false}) (disch := omega) [show ¬ (6000 : Int) < s.length by omega, c]
  refine call1_eq (fixed11_ok (by omega)) ?_
  have hSl : (pack (fixB s)).length ≤ 2 ^ 40 := by omega
  have hP : ∀ a, (H ++ [tkB (pack (fixB s)) a])[H.length]? = some (tkB (pack (fixB s)) a) := fun a => by simp
  have hS : ∀ a b, (H ++ [tkB (pack (fixB s)) a]).set H.length (tkB (pack (fixB s)) b) = H ++ [tkB (pack (fixB s)) b] := fun a b => by rw [List.set_append_right _ _ (Nat.le_refl _)]; simp
  have hfix : fixB s = numB 1 1 ++ (numB 1 2 ++ (bodyB s (s.length + 1) 0 ++ symB 256)) := by simp [fixB, List.append_assoc]
  have hn1 : bitsV (pack (fixB s)) 0 1 = 1 := by
    have h : ∀ b ∈ [] ++ (numB 1 1 ++ (numB 1 2 ++ (bodyB s (s.length + 1) 0 ++ symB 256))), b ≤ 1 := by rw [List.nil_append, ← hfix]; exact hb
    have := num_back (pre := []) h
    rw [List.nil_append, ← hfix] at this
    exact this
  have hn2 : bitsV (pack (fixB s)) 1 2 = 1 := by
    have h : ∀ b ∈ numB 1 1 ++ (numB 1 2 ++ (bodyB s (s.length + 1) 0 ++ symB 256)), b ≤ 1 := by rw [← hfix]; exact hb
    have := num_back (pre := numB 1 1) h
    rw [← hfix] at this
    exact this
  have w0 := num14_ok (hP 0) hSl (by omega) (N := 1) (by omega)
  have w1 := num14_ok (hP 1) hSl (by omega) (N := 2) (by omega)
  rw [hn1, hS] at w0
  rw [hn2, hS] at w1
  simp (config := {contextual := true, implicitDefEqProofs := false}) (disch := omega) [afill]
  refine call1_eq (w0.use (fun r h => Or.inl (by omega)) fun v H' q _ _ => q) ?_
  simp (config := {contextual := true, implicitDefEqProofs := false}) (disch := omega)
  refine call1_eq (w1.use (fun r h => Or.inl (by omega)) fun v H' q _ _ => q) ?_
  simp (config := {contextual := true, implicitDefEqProofs := false}) (disch := omega)
  refine vc_loop (inv4 H s) (s.length + 1) ⟨0, numB 1 1 ++ numB 1 2, by omega, by omega, by simp, by rw [hfix]; simp [List.append_assoc], by simp, by simp, by simp⟩ ?_
  rintro n env H3 ⟨q, pre, hq, hn, rfl, hT, e0, e3, e4⟩
  obtain ⟨n', rfl⟩ : ∃ n', n = n' + 1 := ⟨n - 1, by omega⟩
  rw [bodyB] at hT
  have hprel : pre.length ≤ 12 + 40 * s.length := by
    have := congrArg List.length hT
    rw [List.length_append] at this; omega
  -- reading
  have rsym : ∀ (pr post : List Nat) (v : Nat), v < 288 → fixB s = pr ++ (symB v ++ post) → ACall Try.prog 16 [.ptr H.length 0 0] (H ++ [tkB (pack (fixB s)) pr.length]) (fun r => H.length ≤ r) fun u H' => u = .int .i64 (v : Int) ∧ H' = H ++ [tkB (pack (fixB s)) (pr ++ symB v).length] := by
    intro pr post v hv h
    have hb2 : ∀ b ∈ pr ++ (symB v ++ post), b ≤ 1 := by rw [← h]; exact hb
    have hk := sym_back hv hb2
    rw [← h] at hk
    have hl : pr.length ≤ 12 + 40 * s.length := by have := congrArg List.length h; rw [List.length_append] at this; omega
    have := sym16_ok (hP pr.length) hSl (by omega)
    rw [hk, hS] at this
    rw [List.length_append]
    exact this.use (fun r h => Or.inl (by omega)) fun v H' q _ _ => q
  have rnum : ∀ (pr post : List Nat) (x N : Nat), N ≤ 20 → x < 2 ^ N → fixB s = pr ++ (numB x N ++ post) → ACall Try.prog 14 [.ptr H.length 0 0, .int .i64 N] (H ++ [tkB (pack (fixB s)) pr.length]) (fun r => H.length ≤ r) fun u H' => u = .int .i64 (x : Int) ∧ H' = H ++ [tkB (pack (fixB s)) (pr ++ numB x N).length] := by
    intro pr post x N hN hx h
    have hb2 : ∀ b ∈ pr ++ (numB x N ++ post), b ≤ 1 := by rw [← h]; exact hb
    have hk := num_back hb2
    rw [← h, Nat.mod_eq_of_lt hx] at hk
    have hl : pr.length ≤ 12 + 40 * s.length := by have := congrArg List.length h; rw [List.length_append] at this; omega
    have := num14_ok (hP pr.length) hSl (by omega) (N := N) (by omega)
    rw [hk, hS] at this
    rw [List.length_append, numB_len]
    exact this.use (fun r h => Or.inl (by omega)) fun v H' q _ _ => q
  have rcode : ∀ (pr post : List Nat) (x : Nat), x < 32 → fixB s = pr ++ (codeB x 5 ++ post) → ACall Try.prog 19 [.ptr H.length 0 0, .int .i64 5] (H ++ [tkB (pack (fixB s)) pr.length]) (fun r => H.length ≤ r) fun u H' => u = .int .i64 (x : Int) ∧ H' = H ++ [tkB (pack (fixB s)) (pr ++ codeB x 5).length] := by
    intro pr post x hx h
    have hb2 : ∀ b ∈ pr ++ (codeB x 5 ++ post), b ≤ 1 := by rw [← h]; exact hb
    have hk := code_back hb2 (m := 5) (Nat.le_refl _)
    rw [← h, Nat.sub_self, Nat.pow_zero, Nat.div_one, Nat.mod_eq_of_lt (by simpa using hx)] at hk
    have hl : pr.length ≤ 12 + 40 * s.length := by have := congrArg List.length h; rw [List.length_append] at this; omega
    have := code19_ok (hP pr.length) hSl (by omega) (N := 5) (by omega)
    rw [hk, hS] at this
    rw [List.length_append, codeB_len]
    exact this.use (fun r h => Or.inl (by omega)) fun v H' q _ _ => q
  by_cases hlt : q < s.length
  · rw [if_pos hlt] at hT
    simp (config := {contextual := true, implicitDefEqProofs := false}) (disch := omega) [e0, e3, e4, hlt]
    refine call1_eq (match15_ok (by omega) (by omega)) ?_
    simp (config := {contextual := true, implicitDefEqProofs := false}) (disch := omega) [e0, e3, e4]
    by_cases hm : (matchR s q).1 = 0
    · rw [if_pos hm, List.append_assoc] at hT
      have hc := UInt8.toNat_lt (chr s q)
      refine call1_eq (rsym pre _ _ (by omega) hT) ?_
      have a1 : abin .add (.int .i64 (q : Int)) (.int .i64 1) = some (.int .i64 ((q + 1 : Nat) : Int)) := addN (b := 1) (by omega)
      simp (config := {contextual := true, implicitDefEqProofs := false}) (disch := omega) [e0, e3, e4, hm, vIdxStr_nat, hlt, i64_nat, a1, -abin_add, -Int.natCast_add, -List.length_append]
      exact again_iff n' (by omega) ⟨q + 1, pre ++ symB (chr s q).toNat, by omega, by omega, rfl, by rw [hT]; simp [List.append_assoc], by simp [e0], by simp [e3], by simp⟩
    · rw [if_neg hm] at hT
      obtain ⟨b1, b2, b3, b4, b5⟩ := matchR_bounds s q hm
      generalize hmn : (matchR s q).1 = mn at *
      generalize hmd : (matchR s q).2 = md at *
      obtain ⟨f1, f2, f3, f4⟩ := len_facts b1 b2
      obtain ⟨g1, g2, g3⟩ := dist_facts b3 b4
      have f5 := len_more b1 b2
      have g5 := dist_more b3 b4
      have hL := length_ok (x := mn) (H := H ++ [tkB (pack (fixB s)) (pre ++ symB (lenR mn).1).length]) (fp := fun r => H.length ≤ r) (by omega)
      have t1 : fixB s = pre ++ (symB (lenR mn).1 ++ (numB (mn - (lenR mn).2.1) (lenR mn).2.2 ++ (codeB (distR md).1 5 ++ (numB (md - (distR md).2.1) (distR md).2.2 ++ (bodyB s n' (q + mn) ++ symB 256))))) := by rw [hT]; simp [matchB, List.append_assoc]
      have t2 : fixB s = (pre ++ symB (lenR mn).1) ++ (numB (mn - (lenR mn).2.1) (lenR mn).2.2 ++ (codeB (distR md).1 5 ++ (numB (md - (distR md).2.1) (distR md).2.2 ++ (bodyB s n' (q + mn) ++ symB 256)))) := by rw [t1]; simp [List.append_assoc]
      have t3 : fixB s = (pre ++ symB (lenR mn).1 ++ numB (mn - (lenR mn).2.1) (lenR mn).2.2) ++ (codeB (distR md).1 5 ++ (numB (md - (distR md).2.1) (distR md).2.2 ++ (bodyB s n' (q + mn) ++ symB 256))) := by rw [t1]; simp [List.append_assoc]
      have t4 : fixB s = (pre ++ symB (lenR mn).1 ++ numB (mn - (lenR mn).2.1) (lenR mn).2.2 ++ codeB (distR md).1 5) ++ (numB (md - (distR md).2.1) (distR md).2.2 ++ (bodyB s n' (q + mn) ++ symB 256)) := by rw [t1]; simp [List.append_assoc]
      refine call1_eq (rsym pre _ _ (by omega) t1) ?_
      simp (config := {contextual := true, implicitDefEqProofs := false}) (disch := omega) [e0, e3, e4, show ¬ (mn : Int) = 0 by omega, show ¬ mn = 0 by omega, -List.length_append]
      refine call1_eq hL ?_
      have n1 := rnum _ _ _ _ (by omega) f5 t2
      have c1 : abin .add (.int .i64 ((lenR mn).2.1 : Int)) (.int .i64 ((mn - (lenR mn).2.1 : Nat) : Int)) = some (.int .i64 (mn : Int)) := by
        have := addN (a := (lenR mn).2.1) (b := mn - (lenR mn).2.1) (by omega)
        rw [this]; congr 3; omega
      simp (config := {contextual := true, implicitDefEqProofs := false}) (disch := omega) [e0, e3, e4, -List.length_append]
      refine call1_eq n1 ?_
      simp (config := {contextual := true, implicitDefEqProofs := false}) (disch := omega) [e0, e3, e4, c1, -abin_add, -List.length_append]
      refine call1_eq (distance_ok (by omega)) ?_
      simp (config := {contextual := true, implicitDefEqProofs := false}) (disch := omega) [e0, e3, e4, -List.length_append]
      refine call1_eq (rcode _ (numB (md - (distR md).2.1) (distR md).2.2 ++ (bodyB s n' (q + mn) ++ symB 256)) (distR md).1 (by omega) (by rw [t1]; simp [List.append_assoc])) ?_
      have n2 := rnum _ _ _ _ (by omega) g5 (by rw [t1]; simp only [List.append_assoc] : fixB s = (pre ++ (symB (lenR mn).1 ++ (numB (mn - (lenR mn).2.1) (lenR mn).2.2 ++ codeB (distR md).1 5))) ++ (numB (md - (distR md).2.1) (distR md).2.2 ++ (bodyB s n' (q + mn) ++ symB 256)))
      have c2 : abin .add (.int .i64 ((distR md).2.1 : Int)) (.int .i64 ((md - (distR md).2.1 : Nat) : Int)) = some (.int .i64 (md : Int)) := by
        have := addN (a := (distR md).2.1) (b := md - (distR md).2.1) (by omega)
        rw [this]; congr 3; omega
      simp (config := {contextual := true, implicitDefEqProofs := false}) (disch := omega) [e0, e3, e4, -List.length_append]
      refine call1_eq n2 ?_
      have c3 : abin .add (.int .i64 (q : Int)) (.int .i64 (mn : Int)) = some (.int .i64 ((q + mn : Nat) : Int)) := addN (by omega)
      simp (config := {contextual := true, implicitDefEqProofs := false}) (disch := omega) [e0, e3, e4, c2, c3, -abin_add, -Int.natCast_add, -List.length_append]
      exact again_iff n' (by omega) ⟨q + mn, _, by omega, by omega, rfl, by rw [t4]; simp [List.append_assoc], by simp [e0], by simp [e3], by simp⟩
  · rw [if_neg hlt, List.nil_append] at hT
    have hT2 : fixB s = pre ++ (symB 256 ++ []) := by rw [List.append_nil]; exact hT
    simp (config := {contextual := true, implicitDefEqProofs := false}) (disch := omega) [e0, e3, e4, hlt]
    have r0 := rsym pre [] 256 (by omega) hT2
    rw [← hT] at r0
    have gP := ageOk_at (hP (fixB s).length)
    have lP0 : aload (H ++ [tkB (pack (fixB s)) (fixB s).length]) H.length 0 0 = some (.str (pack (fixB s))) := by rw [aload_at (hP _)]; rfl
    have lP1 : aload (H ++ [tkB (pack (fixB s)) (fixB s).length]) H.length 0 1 = some (.int .i64 (fixB s).length) := by rw [aload_at (hP _)]; rfl
    have a7 : abin .add (.int .i64 ((fixB s).length : Int)) (.int .i64 7) = some (.int .i64 (((fixB s).length + 7 : Nat) : Int)) := addN (b := 7) (by omega)
    have q7 : abin .quo (.int .i64 (((fixB s).length + 7 : Nat) : Int)) (.int .i64 8) = some (.int .i64 (((pack (fixB s)).length : Nat) : Int)) := by
      rw [abin_quo (by omega), Int.tdiv_eq_ediv_of_nonneg (by omega), hpl, i64_id (by omega) (by omega)]; rfl
    refine dcall1_eq (r0.use (fun r h => ?_) fun v H' q _ _ => q) ?_
    · left
      exact ⟨h, by simp⟩
    simp (config := {contextual := true, implicitDefEqProofs := false}) (disch := omega) [e0, e3, e4, gP, lP0, lP1, a7, q7, -abin_add, -Int.natCast_add]
    refine dcall1_eq (example13_ok _ _) ?_
    simp
end
end Go.Proofs.Ytdknddicpdhkcaa.Ab

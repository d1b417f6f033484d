/- Deflate: bits are written: the program's writer and the specification's. Conditions: none; for the statements about layer 47. -/
import Derived.Test.YtdknddicpdhkcaaTa
import Derived.Test.YtdknddicpdhkcaaXb
namespace Go.Proofs.Ytdknddicpdhkcaa.Ab
set_option linter.unusedVariables false
set_option linter.unusedSimpArgs false

/-- A bit is written behind others. -/
def wstep (o : List UInt8 × Nat) (b : Nat) : List UInt8 × Nat :=
  (if o.2 % 8 = 0 then o.1 ++ [UInt8.ofNat b] else o.1.set (o.1.length - 1) (UInt8.ofNat ((chr o.1 (o.1.length - 1)).toNat + b * 2 ^ (o.2 % 8))), o.2 + 1)
/-- The bytes that bits come to. -/
def pk (l : List Nat) : List UInt8 × Nat := l.foldl wstep ([], 0)
def pack (l : List Nat) : List UInt8 := (pk l).1
theorem pk_snoc (l : List Nat) (b : Nat) : pk (l ++ [b]) = wstep (pk l) b := by simp [pk, List.foldl_append]
theorem list_snoc_ind {α : Type} {P : List α → Prop} (h0 : P []) (h1 : ∀ l a, P l → P (l ++ [a])) : ∀ l, P l := by
  intro l
  have : ∀ n (l : List α), l.length = n → P l := by
    intro n
    induction n with
    | zero => intro l hl; rw [List.eq_nil_of_length_eq_zero hl]; exact h0
    | succ n ih =>
      intro l hl
      have hne : l ≠ [] := by intro c; subst c; simp at hl
      rw [← List.dropLast_concat_getLast hne]
      exact h1 _ _ (ih _ (by simp; omega))
  exact this _ _ rfl
theorem pk_two (l : List Nat) : (pk l).2 = l.length := by
  refine list_snoc_ind (P := fun l => (pk l).2 = l.length) rfl ?_ l
  intro l a ih
  rw [pk_snoc]; simp [wstep, ih]
theorem pk_facts (l : List Nat) : (∀ b ∈ l, b ≤ 1) → (pack l).length = (l.length + 7) / 8 ∧ (l.length % 8 ≠ 0 → (chr (pack l) ((pack l).length - 1)).toNat < 2 ^ (l.length % 8)) := by
  refine list_snoc_ind (P := fun l => (∀ b ∈ l, b ≤ 1) → (pack l).length = (l.length + 7) / 8 ∧ (l.length % 8 ≠ 0 → (chr (pack l) ((pack l).length - 1)).toNat < 2 ^ (l.length % 8))) ?_ ?_ l
  · intro _; exact ⟨rfl, fun h => absurd rfl h⟩
  · intro l b ih hb
    obtain ⟨h1, h2⟩ := ih fun x hx => hb x (List.mem_append_left _ hx)
    have hb1 : b ≤ 1 := hb b (by simp)
    have hp : pack (l ++ [b]) = if l.length % 8 = 0 then pack l ++ [UInt8.ofNat b] else (pack l).set ((pack l).length - 1) (UInt8.ofNat ((chr (pack l) ((pack l).length - 1)).toNat + b * 2 ^ (l.length % 8))) := by
      unfold pack; rw [pk_snoc]; simp only [wstep, pk_two]
    rw [hp]
    by_cases c : l.length % 8 = 0
    · rw [if_pos c]
      refine ⟨by simp; omega, fun _ => ?_⟩
      have : chr (pack l ++ [UInt8.ofNat b]) ((pack l ++ [UInt8.ofNat b]).length - 1) = UInt8.ofNat b := by
        simp [chr, List.getD_eq_getElem?_getD, List.getElem?_append_right]
      rw [this, List.length_append, List.length_singleton, show (l.length + 1) % 8 = 1 by omega]
      have : (UInt8.ofNat b).toNat = b % 256 := by simp
      rw [this]; omega
    · rw [if_neg c]
      have h3 := h2 c
      have hl0 : 0 < (pack l).length := by omega
      refine ⟨by simp; omega, fun hne => ?_⟩
      have hpw : 2 ^ (l.length % 8 + 1) ≤ 2 ^ 8 := Nat.pow_le_pow_right (by omega) (by omega)
      have hpe : 2 ^ (l.length % 8 + 1) = 2 ^ (l.length % 8) * 2 := Nat.pow_succ ..
      have hbm : b * 2 ^ (l.length % 8) ≤ 1 * 2 ^ (l.length % 8) := Nat.mul_le_mul_right _ hb1
      have hv : chr ((pack l).set ((pack l).length - 1) (UInt8.ofNat ((chr (pack l) ((pack l).length - 1)).toNat + b * 2 ^ (l.length % 8)))) ((pack l).length - 1) = UInt8.ofNat ((chr (pack l) ((pack l).length - 1)).toNat + b * 2 ^ (l.length % 8)) := by
        simp only [chr, List.getD_eq_getElem?_getD]
        rw [List.getElem?_set_self (by omega)]; rfl
      rw [List.length_set, hv]
      have : (UInt8.ofNat ((chr (pack l) ((pack l).length - 1)).toNat + b * 2 ^ (l.length % 8))).toNat = ((chr (pack l) ((pack l).length - 1)).toNat + b * 2 ^ (l.length % 8)) % 256 := by simp
      rw [this, List.length_append, List.length_singleton, show (l.length + 1) % 8 = l.length % 8 + 1 by simp at hne; omega]
      omega

/-- n bits of x, the least significant one first. -/
def numB (x n : Nat) : List Nat := (List.range n).map fun i => x / 2 ^ i % 2
def codeB (x n : Nat) : List Nat := (numB x n).reverse
def symB (v : Nat) : List Nat := if v < 144 then codeB (48 + v) 8 else if v < 256 then codeB (400 + v - 144) 9 else if v < 280 then codeB (v - 256) 7 else codeB (192 + v - 280) 8
@[simp] theorem numB_len (x n : Nat) : (numB x n).length = n := by simp [numB]
@[simp] theorem codeB_len (x n : Nat) : (codeB x n).length = n := by simp [codeB]
theorem numB_bit (x n : Nat) : ∀ b ∈ numB x n, b ≤ 1 := by
  intro b hb
  obtain ⟨i, _, rfl⟩ := List.mem_map.1 hb
  omega
theorem codeB_bit (x n : Nat) : ∀ b ∈ codeB x n, b ≤ 1 := fun b hb => numB_bit x n b (List.mem_reverse.1 hb)
theorem symB_bit (v : Nat) : ∀ b ∈ symB v, b ≤ 1 := by
  unfold symB
  split
  · exact codeB_bit _ _
  · split
    · exact codeB_bit _ _
    · split <;> exact codeB_bit _ _
theorem symB_len (v : Nat) : (symB v).length ≤ 9 := by
  unfold symB
  split
  · simp
  · split
    · simp
    · split <;> simp
theorem numB_take (x : Nat) {i n : Nat} (h : i < n) : numB x (i + 1) = numB x i ++ [x / 2 ^ i % 2] := by simp [numB, List.range_succ]

def rest67 : XCode := (.seq (.draw [⟨⟨some 19, none, (.s (.move (.t 0)))⟩, 0, []⟩, ⟨⟨some 20, none, (.s (.nilCheck (.t 19)))⟩, 1, []⟩, ⟨⟨some 21, none, (.s (.fieldAddr 0 (.t 20)))⟩, 2, []⟩, ⟨⟨some 22, none, (.s (.load1 (.t 21)))⟩, 3, []⟩, ⟨⟨some 23, none, (.s (.move (.t 0)))⟩, 4, []⟩, ⟨⟨some 24, none, (.s (.nilCheck (.t 23)))⟩, 5, []⟩, ⟨⟨some 25, none, (.s (.fieldAddr 0 (.t 24)))⟩, 6, []⟩, ⟨⟨some 26, none, (.s (.load1 (.t 25)))⟩, 7, []⟩, ⟨⟨some 27, none, (.s (.lenSl (.t 26)))⟩, 8, []⟩, ⟨⟨some 28, none, (.s (.bin .sub (.t 27) (.c (.int .i64 1))))⟩, 9, []⟩, ⟨⟨some 29, none, (.s (.idxS 1 (.t 22) (.t 28)))⟩, 10, []⟩, ⟨⟨some 30, none, (.s (.load1 (.t 29)))⟩, 11, []⟩, ⟨⟨some 31, none, (.s (.move (.t 1)))⟩, 12, []⟩, ⟨⟨some 32, none, (.s (.bin .and (.t 31) (.c (.int .i64 1))))⟩, 13, []⟩, ⟨⟨some 33, none, (.s (.convI .u8 (.t 32)))⟩, 14, []⟩, ⟨⟨some 34, none, (.s (.move (.t 0)))⟩, 15, []⟩, ⟨⟨some 35, none, (.s (.nilCheck (.t 34)))⟩, 16, []⟩, ⟨⟨some 36, none, (.s (.fieldAddr 1 (.t 35)))⟩, 17, []⟩, ⟨⟨some 37, none, (.s (.load1 (.t 36)))⟩, 18, []⟩, ⟨⟨some 38, none, (.s (.bin .rem (.t 37) (.c (.int .i64 8))))⟩, 19, []⟩, ⟨⟨some 39, none, (.s (.bin .shl (.t 33) (.t 38)))⟩, 20, []⟩, ⟨⟨some 40, none, (.s (.bin .or (.t 30) (.t 39)))⟩, 21, []⟩, ⟨⟨some 41, none, (.s (.idxS 1 (.t 22) (.t 28)))⟩, 22, []⟩, ⟨⟨none, none, (.e (.store 1 (.t 41) (.t 40)))⟩, 23, []⟩]) (.ops [⟨some 42, none, (.s (.move (.t 0)))⟩, ⟨some 43, none, (.s (.nilCheck (.t 42)))⟩, ⟨some 44, none, (.s (.fieldAddr 1 (.t 43)))⟩, ⟨some 45, none, (.s (.load1 (.t 44)))⟩, ⟨some 46, none, (.s (.bin .add (.t 45) (.c (.int .i64 1))))⟩, ⟨some 47, none, (.s (.nilCheck (.t 42)))⟩, ⟨some 48, none, (.s (.fieldAddr 1 (.t 47)))⟩, ⟨none, none, (.e (.store 1 (.t 48) (.t 46)))⟩]))
def x67s : XFun := ⟨49, [], (.seq (.seq (.ops [⟨some 4, none, (.s (.move (.t 0)))⟩, ⟨some 5, none, (.s (.nilCheck (.t 4)))⟩, ⟨some 6, none, (.s (.fieldAddr 1 (.t 5)))⟩, ⟨some 7, none, (.s (.load1 (.t 6)))⟩, ⟨some 8, none, (.s (.bin .rem (.t 7) (.c (.int .i64 8))))⟩, ⟨some 9, none, (.s (.bin .eql (.t 8) (.c (.int .i64 0))))⟩]) (.cond (.t 9) (.ops [⟨some 10, none, (.s (.move (.t 0)))⟩, ⟨some 11, none, (.s (.move (.t 0)))⟩, ⟨some 12, none, (.s (.nilCheck (.t 11)))⟩, ⟨some 13, none, (.s (.fieldAddr 0 (.t 12)))⟩, ⟨some 14, none, (.s (.load1 (.t 13)))⟩, ⟨some 15, none, (.e (.buildSlice 5 1 1 [(.int .u8 0)] [(0, 1, (.c (.int .u8 0)))]))⟩, ⟨some 16, none, (.e (.append 1 1 5 (.t 14) (.t 15)))⟩, ⟨some 17, none, (.s (.nilCheck (.t 10)))⟩, ⟨some 18, none, (.s (.fieldAddr 0 (.t 17)))⟩, ⟨none, none, (.e (.store 1 (.t 18) (.t 16)))⟩]) .skip)) rest67)⟩
theorem x67s_ok : xfun Try.prog Try.f67 = some x67s := x67_ok

def wrBlk (ety : Nat) (w : AVal) (n : Nat) : ABlk := .cells 0 false ety [w, .int .i64 n]
/-- The writer at p, which has written these bits; its bytes lie in no block of B. -/
def Wd (ety : Nat) (B : Nat → Prop) (p : Nat) (H : AHeap) (l : List Nat) : Prop := (∃ w, H[p]? = some (wrBlk ety w l.length) ∧ OwnX B H 5 w (bytesOf (pack l))) ∧ (∀ b ∈ l, b ≤ 1) ∧ l.length ≤ 2 ^ 40

section
variable {B : Nat → Prop} {p : Nat} {H : AHeap} {l : List Nat} {ety : Nat} {w : AVal} {n : Nat}
theorem wd0 (hp : H[p]? = some (wrBlk ety w n)) : aload H p 0 0 = some w := by rw [aload_at hp]; rfl
theorem wd1 (hp : H[p]? = some (wrBlk ety w n)) : aload H p 0 1 = some (.int .i64 n) := by rw [aload_at hp]; rfl
theorem ww0 (hp : H[p]? = some (wrBlk ety w n)) {w' : AVal} (h : w'.one = true) : astore H p 0 0 w' = some (H.set p (wrBlk ety w' n)) := by rw [astore_at hp]; simp [wrBlk, h]
theorem ww1 (hp : H[p]? = some (wrBlk ety w n)) {m : Nat} : astore H p 0 1 (.int .i64 m) = some (H.set p (wrBlk ety w m)) := by rw [astore_at hp]; simp [wrBlk]
theorem Wd.set {n : Nat} (h : OwnX B H 5 w (bytesOf (pack l))) (hn : n = l.length) (hb : ∀ b ∈ l, b ≤ 1) (hl : l.length ≤ 2 ^ 40) (hB : B p) (hpl : p < H.length) : Wd ety B p (H.set p (wrBlk ety w n)) l := by
  subst hn
  exact ⟨⟨w, List.getElem?_set_self hpl, h.keep fun k hk _ => List.getElem?_set_ne (by intro c; subst c; exact hk hB)⟩, hb, hl⟩
theorem Wd.app (h : Wd ety B p H l) (L : AHeap) (hpl : p < H.length) : Wd ety B p (H ++ L) l := by
  obtain ⟨⟨w, h1, h2⟩, h3⟩ := h
  exact ⟨⟨w, by rw [List.getElem?_append_left hpl]; exact h1, h2.keep fun k _ hk => List.getElem?_append_left hk⟩, h3⟩
theorem OwnX.stored {ety' : Nat} {xs ys : List AVal} {r g : Nat} (hb : H[r]? = some (.cells g false ety' xs)) (hr : ¬ B r) (hl : xs.length = ys.length) : OwnX B (H.set r (.cells g false ety' ys)) ety' (.slice r g 0 xs.length 1) ys := by
  refine .inr ⟨r, g, hr, by rw [hl], ?_⟩
  rw [List.getElem?_set_self (List.getElem?_eq_some_iff.1 hb).1]
theorem bytesOf_set (s : List UInt8) (i : Nat) (c : UInt8) : (bytesOf s).set i (.int .u8 (c.toNat : Nat)) = bytesOf (s.set i c) := by simp [bytesOf, List.map_set]

theorem rest67_ok {H0 : AHeap} {o : List UInt8} {x : Nat} {env : Env} (hB : ∀ r, B r → r < H.length) (hBp : B p) (hH : H0.length ≤ H.length) (hp : H[p]? = some (wrBlk ety w n)) (hw : OwnX B H 5 w (bytesOf o)) (ho : 0 < o.length) (hol : o.length ≤ 2 ^ 40) (hlast : (chr o (o.length - 1)).toNat < 2 ^ (n % 8)) (hn : n < 2 ^ 40) (hx : x < 2 ^ 62)
    (hl : l.length = n + 1) (hbl : ∀ b ∈ l, b ≤ 1) (hpk : pack l = o.set (o.length - 1) (UInt8.ofNat ((chr o (o.length - 1)).toNat + x % 2 * 2 ^ (n % 8)))) (e0 : env 0 = .ptr p 0 0) (e1' : env 1 = .int .i64 x) :
    vc (ACall Try.prog) (fun r => (r = p ∨ ¬ B r) ∨ H0.length ≤ r) rest67 (rpost [] fun v H' => v = .tuple [] ∧ Wd ety B p H' l) env H := by
  have h1 := ageOk_at hp
  have hpl := hB _ hBp
  have hlen := hw.sl.len
  rw [bytesOf_len] at hlen
  rcases hw with ⟨_, hc⟩ | ⟨r, g, hr, rfl, hb⟩
  · have : o = [] := by simpa [bytesOf] using hc
    subst this; simp at ho
  have hrp : r ≠ p := by intro c; subst c; exact hr hBp
  have hrl := (List.getElem?_eq_some_iff.1 hb).1
  have gb := ageOk_at hb
  have a1 : abin .rem (.int .i64 (n : Int)) (.int .i64 8) = some (.int .i64 ((n % 8 : Nat) : Int)) := by rw [abin_rem (by omega), Int.tmod_eq_emod_of_nonneg (by omega)]; rfl
  have a2 : abin .and (.int .i64 (x : Int)) (.int .i64 1) = some (.int .i64 ((x % 2 : Nat) : Int)) := by
    rw [abin_and]
    refine congrArg (fun x => some (AVal.int .i64 x)) ?_
    have := and_i64 (a := x) (b := 1) (by omega) (by omega)
    rw [Nat.and_two_pow_sub_one_eq_mod _ 1] at this
    exact this
  have a3 : IntKind.u8.wrap ((x % 2 : Nat) : Int) = ((x % 2 : Nat) : Int) := u8_nat (by omega)
  have a4 : abin .sub (.int .i64 (o.length : Int)) (.int .i64 1) = some (.int .i64 ((o.length - 1 : Nat) : Int)) := by rw [abin_sub, i64_id (by omega) (by omega)]; congr 2; omega
  have hld : aload H r g (o.length - 1) = some (.int .u8 (chr o (o.length - 1)).toNat) := by
    rw [aload_at hb]
    simp [bytesOf, chr, List.getD_eq_getElem?_getD, show o.length - 1 < o.length by omega]
  have hpw : 2 ^ (n % 8 + 1) ≤ 2 ^ 8 := Nat.pow_le_pow_right (by omega) (by omega)
  have hpe : 2 ^ (n % 8 + 1) = 2 ^ (n % 8) * 2 := Nat.pow_succ ..
  have hbm : x % 2 * 2 ^ (n % 8) ≤ 1 * 2 ^ (n % 8) := Nat.mul_le_mul_right _ (by omega)
  have a5 : abin .shl (.int .u8 ((x % 2 : Nat) : Int)) (.int .i64 ((n % 8 : Nat) : Int)) = some (.int .u8 ((x % 2 * 2 ^ (n % 8) : Nat) : Int)) := by
    rw [abin_shl (by omega)]
    simp only [bits_u8, Int.toNat_natCast, show min (n % 8) 8 = n % 8 by omega]
    rw [show ((x % 2 : Nat) : Int) * 2 ^ (n % 8) = ((x % 2 * 2 ^ (n % 8) : Nat) : Int) by simp, u8_nat (by omega)]
  have hv : ((UInt8.ofNat ((chr o (o.length - 1)).toNat + x % 2 * 2 ^ (n % 8))).toNat : Int) = (((chr o (o.length - 1)).toNat + x % 2 * 2 ^ (n % 8) : Nat) : Int) := by
    have : (UInt8.ofNat ((chr o (o.length - 1)).toNat + x % 2 * 2 ^ (n % 8))).toNat = ((chr o (o.length - 1)).toNat + x % 2 * 2 ^ (n % 8)) % 256 := by simp
    rw [this, Nat.mod_eq_of_lt (by omega)]
  have a6 : abin .or (.int .u8 ((chr o (o.length - 1)).toNat : Int)) (.int .u8 ((x % 2 * 2 ^ (n % 8) : Nat) : Int)) = some (.int .u8 ((UInt8.ofNat ((chr o (o.length - 1)).toNat + x % 2 * 2 ^ (n % 8))).toNat : Int)) := by
    rw [abin_or, hv]
    refine congrArg (fun x => some (AVal.int .u8 x)) ?_
    rw [bits_u8, ofInt_nat, ofInt_nat, BitVec.toNat_or, BitVec.toNat_ofNat, BitVec.toNat_ofNat, Nat.mod_eq_of_lt (by omega), Nat.mod_eq_of_lt (by omega), or_add hlast]
    exact u8_nat (by omega)
  have a9 : abin .add (.int .i64 (n : Int)) (.int .i64 1) = some (.int .i64 ((n + 1 : Nat) : Int)) := by rw [abin_add, i64_id (by omega) (by omega)]; rfl
  have hst : ∀ c : UInt8, astore H r g (o.length - 1) (.int .u8 (c.toNat : Nat)) = some (H.set r (.cells g false 5 (bytesOf (o.set (o.length - 1) c)))) := by
    intro c
    rw [astore_at hb, if_pos ⟨by rw [bytesOf_len]; omega, rfl⟩, bytesOf_set]
  have hst2 := hst (UInt8.ofNat ((chr o (o.length - 1)).toNat + x % 2 * 2 ^ (n % 8)))
  rw [← hpk] at hst2
  have hp2 : (H.set r (.cells g false 5 (bytesOf (pack l))))[p]? = some (wrBlk ety (.slice r g 0 o.length 1) n) := by
    rw [List.getElem?_set_ne hrp]; simpa using hp
  have hw2 : OwnX B (H.set r (.cells g false 5 (bytesOf (pack l)))) 5 (.slice r g 0 o.length 1) (bytesOf (pack l)) :=
    .inr ⟨r, g, hr, by rw [hpk]; simp, List.getElem?_set_self hrl⟩
  have g2 := ageOk_at hp2
  have s1 := ww1 hp2 (m := n + 1)
  have hpl2 : p < (H.set r (.cells g false 5 (bytesOf (pack l)))).length := by simpa using hpl
  unfold rest67
  rw [bytesOf_len] at *
  generalize hvv : UInt8.ofNat ((chr o (o.length - 1)).toNat + x % 2 * 2 ^ (n % 8)) = vv at *
  simp (config := {contextual := true, implicitDefEqProofs := false}) (disch := omega) [e0, e1', h1, wd0 hp, wd1 hp, gb, a1, a2, a3, a4, a5, a6, hld, hst2, show ((o.length - 1 : Nat) : Int) < o.length by omega, show o.length - 1 < o.length by omega, -abin_sub, -abin_and, -abin_or, -Int.natCast_emod, -Int.natCast_mul, -Int.natCast_pow]
  refine ⟨.inl (.inr hr), ?_⟩
  simp (config := {contextual := true, implicitDefEqProofs := false}) (disch := omega) [e0, e1', g2, wd1 hp2, a9, s1, -abin_add, -Int.natCast_add]
  exact Wd.set hw2 hl.symm hbl (by omega) hBp hpl2

theorem wbit_ok (hB : ∀ r, B r → r < H.length) (hBp : B p) (h : Wd ety B p H l) {x : Nat} (hx : x < 2 ^ 62) (hl : l.length < 2 ^ 40) :
    ACall Try.prog 67 [.ptr p 0 0, .int .i64 x] H (fun r => r = p ∨ ¬ B r) fun v H' => v = .tuple [] ∧ Wd ety B p H' (l ++ [x % 2]) := by
  obtain ⟨⟨w, hp, hw⟩, hbits, _⟩ := h
  refine acall_of hmix Try.func67 x67s_ok (by simp) ?_
  have h1 := ageOk_at hp
  have hpl := hB _ hBp
  have hf := pk_facts l hbits
  have a1 : abin .rem (.int .i64 (l.length : Int)) (.int .i64 8) = some (.int .i64 ((l.length % 8 : Nat) : Int)) := by rw [abin_rem (by omega), Int.tmod_eq_emod_of_nonneg (by omega)]; rfl
  have hb2 : ∀ b ∈ l ++ [x % 2], b ≤ 1 := by
    intro b hb
    rcases List.mem_append.1 hb with hb | hb
    · exact hbits b hb
    · simp at hb; omega
  have hpk : pack (l ++ [x % 2]) = if l.length % 8 = 0 then pack l ++ [UInt8.ofNat (x % 2)] else (pack l).set ((pack l).length - 1) (UInt8.ofNat ((chr (pack l) ((pack l).length - 1)).toNat + x % 2 * 2 ^ (l.length % 8))) := by
    unfold pack; rw [pk_snoc]; simp only [wstep, pk_two]
  by_cases c : l.length % 8 = 0
  · rw [if_pos c] at hpk
    have hw1 : OwnX B (H ++ [.cells 0 false 5 [.int .u8 0]]) 5 w (bytesOf (pack l)) := hw.keep fun k _ hk => List.getElem?_append_left hk
    have hp1 : (H ++ [.cells 0 false 5 [.int .u8 0]])[p]? = some (wrBlk ety w l.length) := by rw [List.getElem?_append_left hpl]; exact hp
    obtain ⟨w', H2, ha, hw2, hlen2, hfr2⟩ := hw1.append (fun r hr => by have := hB r hr; rw [List.length_append]; omega) (x := .slice H.length 0 0 1 1) (new := bytesOf [0]) (n := 1) (bytes := 1) (by simp [asrc, bytesOf]) (by simp) (by simp) (by rw [bytesOf_len]; simp [roomLim]; omega)
    rw [← bytesOf_app] at hw2
    have hp2 : H2[p]? = some (wrBlk ety w l.length) := by rw [hfr2 p hBp]; exact hp1
    have hpl2 : p < H2.length := (List.getElem?_eq_some_iff.1 hp2).1
    have s1 := ww0 hp2 hw2.one
    have g2 := ageOk_at hp2
    simp (config := {contextual := true, implicitDefEqProofs := false}) (disch := omega) [h1, wd0 hp, wd1 hp, a1, c, afill, zrep, -Int.natCast_emod]
    refine e1_of ha ?_ ?_
    · intro r ht
      have ht2 : appTarget w r := by simpa using ht
      exact .inl (.inr (hw.target ht2))
    have hp3 : (H2.set p (wrBlk ety w' l.length))[p]? = some (wrBlk ety w' l.length) := List.getElem?_set_self hpl2
    have hw3 : OwnX B (H2.set p (wrBlk ety w' l.length)) 5 w' (bytesOf (pack l ++ [0])) := hw2.keep fun k hk _ => List.getElem?_set_ne (by intro c; subst c; exact hk hBp)
    have hlen3 : H.length ≤ (H2.set p (wrBlk ety w' l.length)).length := by rw [List.length_append] at hlen2; simp; omega
    have hch : chr (pack l ++ [0]) ((pack l ++ [0]).length - 1) = 0 := by simp [chr, List.getD_eq_getElem?_getD, List.getElem?_append_right]
    simp (config := {contextual := true, implicitDefEqProofs := false}) (disch := omega) [g2, s1, hw2.known, hw2.cells]
    refine rest67_ok (o := pack l ++ [0]) (n := l.length) (w := w') (x := x) (fun r hr => by have := hB r hr; omega) hBp hlen3 hp3 hw3 (by simp) (by simp; omega) (by rw [hch, c]; decide) hl hx (by simp) hb2 ?_ (by simp) (by simp)
    rw [hpk, hch, c]
    simp [List.set_append]
  · rw [if_neg c] at hpk
    simp (config := {contextual := true, implicitDefEqProofs := false}) (disch := omega) [h1, wd0 hp, wd1 hp, a1, show ¬ ((l.length % 8 : Nat) : Int) = 0 by omega, c, -Int.natCast_emod]
    exact rest67_ok (o := pack l) (n := l.length) (w := w) (x := x) hB hBp (Nat.le_refl _) hp hw (by omega) (by omega) (hf.2 c) hl hx (by simp) hb2 hpk (by simp) (by simp)

def inv54 (ety : Nat) (B : Nat → Prop) (p : Nat) (l : List Nat) (x N hl : Nat) (n : Nat) (env : Env) (H' : AHeap) : Prop :=
  ∃ i, i ≤ N ∧ n = N - i ∧ Wd ety B p H' (l ++ numB x i) ∧ hl ≤ H'.length ∧ env 0 = .ptr p 0 0 ∧ env 1 = .int .i64 x ∧ env 7 = .int .i64 N ∧ env 8 = .int .i64 i
theorem shr_nat {x i : Nat} (hi : i < 64) : abin .shr (.int .i64 (x : Int)) (.int .i64 (i : Int)) = some (.int .i64 ((x / 2 ^ i : Nat) : Int)) := by
  rw [abin_shr (by omega)]
  simp only [bits_i64, Int.toNat_natCast, show min i 64 = i by omega]
  rw [fdiv_nat]

theorem wnum_ok (hB : ∀ r, B r → r < H.length) (hBp : B p) (h : Wd ety B p H l) {x N : Nat} (hx : x < 2 ^ 62) (hN : N ≤ 60) (hl : l.length + 100 < 2 ^ 40) :
    ACall Try.prog 54 [.ptr p 0 0, .int .i64 x, .int .i64 N] H (fun r => r = p ∨ ¬ B r) fun v H' => v = .tuple [] ∧ Wd ety B p H' (l ++ numB x N) := by
  refine acall_of hmix Try.func54 x54_ok (by simp) ?_
  simp
  refine vc_loop (inv54 ety B p l x N H.length) N ⟨0, by omega, by omega, by simpa [numB] using h, Nat.le_refl _, by simp, by simp, by simp, by simp⟩ ?_
  rintro n env H1 ⟨i, hi, rfl, hW, hl1, e0, e1', e7, e8⟩
  by_cases hlt : i < N
  · have hdiv : x / 2 ^ i < 2 ^ 62 := Nat.lt_of_le_of_lt (Nat.div_le_self _ _) hx
    have hs := shr_nat (x := x) (i := i) (by omega)
    have a5 : abin .add (.int .i64 (i : Int)) (.int .i64 1) = some (.int .i64 ((i + 1 : Nat) : Int)) := by rw [abin_add, i64_id (by omega) (by omega)]; rfl
    simp (config := {contextual := true, implicitDefEqProofs := false}) (disch := omega) [e0, e1', e7, e8, hlt, hs, -Int.natCast_ediv]
    refine call1_of (wbit_ok (fun r hr => by have := hB r hr; omega) hBp hW hdiv (by simp; omega)) (fun r h => .inl (.inl h)) ?_
    rintro v H2 ⟨rfl, hW2⟩ hl2 _
    simp (config := {contextual := true, implicitDefEqProofs := false}) (disch := omega) [e0, e1', e7, e8, a5, -abin_add, -Int.natCast_add]
    exact again_iff (N - (i + 1)) (by omega) ⟨i + 1, hlt, rfl, by rw [numB_take x hlt, ← List.append_assoc]; exact hW2, by omega, by simp [e0], by simp [e1'], by simp [e7], by simp⟩
  · have : i = N := by omega
    subst this
    simp (config := {contextual := true, implicitDefEqProofs := false}) (disch := omega) [e0, e1', e7, e8]
    exact hW

def inv71 (ety : Nat) (B : Nat → Prop) (p : Nat) (l : List Nat) (x N hl : Nat) (n : Nat) (env : Env) (H' : AHeap) : Prop :=
  n ≤ N ∧ Wd ety B p H' (l ++ (codeB x N).take (N - n)) ∧ hl ≤ H'.length ∧ env 0 = .ptr p 0 0 ∧ env 1 = .int .i64 x ∧ env 6 = .int .i64 ((n : Int) - 1)
theorem codeB_take (x : Nat) {n N : Nat} (h : n < N) : (codeB x N).take (N - n) = (codeB x N).take (N - (n + 1)) ++ [x / 2 ^ n % 2] := by
  rw [show N - n = (N - (n + 1)) + 1 by omega, List.take_succ_eq_append_getElem (by simp; omega)]
  congr 2
  simp only [codeB, List.getElem_reverse, numB, List.getElem_map, List.getElem_range, List.length_map, List.length_range]
  congr 2; congr 1; omega

theorem wcode_ok (hB : ∀ r, B r → r < H.length) (hBp : B p) (h : Wd ety B p H l) {x N : Nat} (hx : x < 2 ^ 62) (hN : N ≤ 60) (hl : l.length + 100 < 2 ^ 40) :
    ACall Try.prog 71 [.ptr p 0 0, .int .i64 x, .int .i64 N] H (fun r => r = p ∨ ¬ B r) fun v H' => v = .tuple [] ∧ Wd ety B p H' (l ++ codeB x N) := by
  refine acall_of hmix Try.func71 x71_ok (by simp) ?_
  simp (config := {contextual := true, implicitDefEqProofs := false}) (disch := omega) [i64_id]
  refine vc_loop (inv71 ety B p l x N H.length) N ⟨Nat.le_refl _, by simpa using h, Nat.le_refl _, by simp, by simp, by simp⟩ ?_
  rintro n env H1 ⟨hn, hW, hl1, e0, e1', e6⟩
  by_cases hlt : 0 < n
  · obtain ⟨n', rfl⟩ : ∃ n', n = n' + 1 := ⟨n - 1, by omega⟩
    have hdiv : x / 2 ^ n' < 2 ^ 62 := Nat.lt_of_le_of_lt (Nat.div_le_self _ _) hx
    have hs := shr_nat (x := x) (i := n') (by omega)
    have e6' : env 6 = .int .i64 (n' : Int) := by rw [e6]; congr 1; omega
    simp (config := {contextual := true, implicitDefEqProofs := false}) (disch := omega) [e0, e1', e6', hs, -Int.natCast_ediv]
    refine call1_of (wbit_ok (fun r hr => by have := hB r hr; omega) hBp hW hdiv (by simp; omega)) (fun r h => .inl (.inl h)) ?_
    rintro v H2 ⟨rfl, hW2⟩ hl2 _
    simp (config := {contextual := true, implicitDefEqProofs := false}) (disch := omega) [e0, e1', e6', i64_id]
    exact again_iff n' (by omega) ⟨by omega, by rw [codeB_take x (by omega), ← List.append_assoc]; exact hW2, by omega, by simp [e0], by simp [e1'], by simp⟩
  · have : n = 0 := by omega
    subst this
    simp (config := {contextual := true, implicitDefEqProofs := false}) (disch := omega) [e0, e1', e6]
    rw [Nat.sub_zero, List.take_of_length_le (by simp)] at hW
    exact hW

theorem wsym_ok (hB : ∀ r, B r → r < H.length) (hBp : B p) (h : Wd ety B p H l) {v : Nat} (hv : v < 400) (hl : l.length + 100 < 2 ^ 40) :
    ACall Try.prog 57 [.ptr p 0 0, .int .i64 v] H (fun r => r = p ∨ ¬ B r) fun u H' => u = .tuple [] ∧ Wd ety B p H' (l ++ symB v) := by
  refine acall_of hmix Try.func57 x57_ok (by simp) ?_
  unfold symB
  by_cases c1 : v < 144
  · have a1 : abin .add (.int .i64 48) (.int .i64 (v : Int)) = some (.int .i64 ((48 + v : Nat) : Int)) := by rw [abin_add, i64_id (by omega) (by omega)]; rfl
    simp (config := {contextual := true, implicitDefEqProofs := false}) (disch := omega) [show (v : Int) < 144 by omega, a1, c1, -abin_add, -Int.natCast_add]
    refine call1_of (wcode_ok hB hBp h (x := 48 + v) (N := 8) (by omega) (by omega) hl) (fun r h => .inl (.inl h)) ?_
    rintro u H2 ⟨rfl, hW2⟩ _ _
    simpa using hW2
  · by_cases c2 : v < 256
    · have a1 : abin .add (.int .i64 400) (.int .i64 (v : Int)) = some (.int .i64 ((400 + v : Nat) : Int)) := by rw [abin_add, i64_id (by omega) (by omega)]; rfl
      have a2 : abin .sub (.int .i64 ((400 + v : Nat) : Int)) (.int .i64 144) = some (.int .i64 ((400 + v - 144 : Nat) : Int)) := by rw [abin_sub, i64_id (by omega) (by omega)]; congr 2; omega
      simp (config := {contextual := true, implicitDefEqProofs := false}) (disch := omega) [show ¬ (v : Int) < 144 by omega, show (v : Int) < 256 by omega, a1, a2, c1, c2, -abin_add, -abin_sub, -Int.natCast_add]
      refine call1_of (wcode_ok hB hBp h (x := 400 + v - 144) (N := 9) (by omega) (by omega) hl) (fun r h => .inl (.inl h)) ?_
      rintro u H2 ⟨rfl, hW2⟩ _ _
      simpa using hW2
    · by_cases c3 : v < 280
      · have a2 : abin .sub (.int .i64 (v : Int)) (.int .i64 256) = some (.int .i64 ((v - 256 : Nat) : Int)) := by rw [abin_sub, i64_id (by omega) (by omega)]; congr 2; omega
        simp (config := {contextual := true, implicitDefEqProofs := false}) (disch := omega) [show ¬ (v : Int) < 144 by omega, show ¬ (v : Int) < 256 by omega, show (v : Int) < 280 by omega, a2, c1, c2, c3, -abin_sub]
        refine call1_of (wcode_ok hB hBp h (x := v - 256) (N := 7) (by omega) (by omega) hl) (fun r h => .inl (.inl h)) ?_
        rintro u H2 ⟨rfl, hW2⟩ _ _
        simpa using hW2
      · have a1 : abin .add (.int .i64 192) (.int .i64 (v : Int)) = some (.int .i64 ((192 + v : Nat) : Int)) := by rw [abin_add, i64_id (by omega) (by omega)]; rfl
        have a2 : abin .sub (.int .i64 ((192 + v : Nat) : Int)) (.int .i64 280) = some (.int .i64 ((192 + v - 280 : Nat) : Int)) := by rw [abin_sub, i64_id (by omega) (by omega)]; congr 2; omega
        simp (config := {contextual := true, implicitDefEqProofs := false}) (disch := omega) [show ¬ (v : Int) < 144 by omega, show ¬ (v : Int) < 256 by omega, show ¬ (v : Int) < 280 by omega, a1, a2, c1, c2, c3, -abin_add, -abin_sub, -Int.natCast_add]
        refine call1_of (wcode_ok hB hBp h (x := 192 + v - 280) (N := 8) (by omega) (by omega) hl) (fun r h => .inl (.inl h)) ?_
        rintro u H2 ⟨rfl, hW2⟩ _ _
        simpa using hW2
end
end Go.Proofs.Ytdknddicpdhkcaa.Ab

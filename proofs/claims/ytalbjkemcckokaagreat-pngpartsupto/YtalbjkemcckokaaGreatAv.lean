/- The abstract layer: strings, slices of bytes, and slices that may lie in any block but some. Conditions: none; a library for the texts behind it. -/
import Derived.Test.YtalbjkemcckokaaGreatAs
namespace Go.Proofs.YtalbjkemcckokaaGreat.Ab
open Go.RowKit (Below)
set_option linter.unusedVariables false
set_option linter.unusedSimpArgs false

@[simp] theorem entry_1 {a b : AVal} {l : List AVal} : entry (a :: b :: l) 1 = b := rfl
@[simp] theorem entry_2 {a b c : AVal} {l : List AVal} : entry (a :: b :: c :: l) 2 = c := rfl
@[simp] theorem entry_3 {a b c d : AVal} {l : List AVal} : entry (a :: b :: c :: d :: l) 3 = d := rfl
@[simp] theorem entry_4 {a b c d e : AVal} {l : List AVal} : entry (a :: b :: c :: d :: e :: l) 4 = e := rfl
@[simp high] theorem aExt_0 {a : AVal} {l : List AVal} : aExt (.tuple (a :: l)) 0 = some a := rfl
@[simp high] theorem aExt_1 {a b : AVal} {l : List AVal} : aExt (.tuple (a :: b :: l)) 1 = some b := rfl
@[simp high] theorem aExt_2 {a b c : AVal} {l : List AVal} : aExt (.tuple (a :: b :: c :: l)) 2 = some c := rfl
@[simp] theorem Arr_getElem {n : Nat} {f : Nat → Int} {j : Nat} (h : j < (Arr n f).length) : (Arr n f)[j] = .int .i64 (f j) := by simp [Arr]
section
variable {env : Env} {H : AHeap}
def vIdxStr : AVal → AVal → Option AVal
  | .str s, .int _ n => if 0 ≤ n then (s[n.toNat]?).map fun b => .int .u8 b.toNat else none
  | _, _ => none
@[simp ↓] theorem val_idxStr {x i : XOpd} : SOp.val env H (.idxStr x i) = vIdxStr (x.ev env) (i.ev env) := by
  simp only [SOp.val]; generalize XOpd.ev env x = u; generalize XOpd.ev env i = u2; cases u <;> cases u2 <;> rfl
/-- Byte number i. -/
def chr (s : List UInt8) (i : Nat) : UInt8 := s.getD i 0
theorem vIdxStr_of {s : List UInt8} {k : IntKind} {n : Int} (h0 : 0 ≤ n) (h1 : n < s.length) : vIdxStr (.str s) (.int k n) = some (.int .u8 (chr s n.toNat).toNat) := by
  have h : n.toNat < s.length := by omega
  simp [vIdxStr, h0, h, chr, List.getD_eq_getElem?_getD]
theorem vIdxStr_nat {s : List UInt8} {k : IntKind} {n : Nat} (h1 : n < s.length) : vIdxStr (.str s) (.int k (n : Int)) = some (.int .u8 (chr s n).toNat) := by
  have := vIdxStr_of (s := s) (k := k) (n := (n : Int)) (by omega) (by omega)
  simpa using this

def vField1 (off : Nat) : AVal → Option AVal
  | .agg cs => cs[off]?
  | _ => none
@[simp ↓] theorem val_field1 {off : Nat} {x : XOpd} : SOp.val env H (.field1 off x) = vField1 off (x.ev env) := by
  simp only [SOp.val]; generalize XOpd.ev env x = u; cases u <;> rfl
@[simp] theorem vField1_agg {off : Nat} {cs : List AVal} : vField1 off (.agg cs) = cs[off]? := rfl
def vFieldN (off n : Nat) : AVal → Option AVal
  | .agg cs => if off + n ≤ cs.length then some (.agg ((cs.drop off).take n)) else none
  | _ => none
@[simp ↓] theorem val_fieldN {off n : Nat} {x : XOpd} : SOp.val env H (.fieldN off n x) = vFieldN off n (x.ev env) := by
  simp only [SOp.val]; generalize XOpd.ev env x = u; cases u <;> rfl
@[simp] theorem vFieldN_agg {off n : Nat} {cs : List AVal} : vFieldN off n (.agg cs) = if off + n ≤ cs.length then some (.agg ((cs.drop off).take n)) else none := rfl
def vIdxArr (m : Nat) : AVal → AVal → Option AVal
  | .agg cs, .int _ n => if 0 ≤ n ∧ n < m then cs[n.toNat]? else none
  | _, _ => none
@[simp ↓] theorem val_idxArr {m : Nat} {x i : XOpd} : SOp.val env H (.idxArr m x i) = vIdxArr m (x.ev env) (i.ev env) := by
  simp only [SOp.val]; generalize XOpd.ev env x = u; generalize XOpd.ev env i = u2; cases u <;> cases u2 <;> rfl
@[simp] theorem vIdxArr_agg {m : Nat} {cs : List AVal} {k : IntKind} {n : Int} : vIdxArr m (.agg cs) (.int k n) = if 0 ≤ n ∧ n < m then cs[n.toNat]? else none := rfl

def vBox (H : AHeap) (ety : Nat) (v : AVal) : Option (AVal × AHeap) := if v.known = true then some (.ptr H.length 0 0, H ++ [.cells 0 false ety v.cells]) else none
@[simp ↓] theorem val_box {ety : Nat} {x : XOpd} : EOp.val env H (.box ety x) = vBox H ety (x.ev env) := rfl
@[simp] theorem vBox_agg {ety : Nat} {cs : List AVal} : vBox H ety (.agg cs) = some (.ptr H.length 0 0, H ++ [.cells 0 false ety cs]) := rfl
@[simp ↓] theorem target_box {ety : Nat} {x : XOpd} {i : Nat} : EOp.target env (.box ety x) i = False := rfl
def bytesOf (s : List UInt8) : List AVal := s.map fun c => .int .u8 c.toNat
def vConvSB (H : AHeap) (ety : Nat) : AVal → Option (AVal × AHeap)
  | .str s => some (.slice H.length 0 0 s.length 1, H ++ [.cells 0 false ety (bytesOf s)])
  | _ => none
@[simp ↓] theorem val_convSB {ety : Nat} {x : XOpd} : EOp.val env H (.convSB ety x) = vConvSB H ety (x.ev env) := by
  simp only [EOp.val]; generalize XOpd.ev env x = u; cases u <;> rfl
@[simp] theorem vConvSB_str {ety : Nat} {s : List UInt8} : vConvSB H ety (.str s) = some (.slice H.length 0 0 s.length 1, H ++ [.cells 0 false ety (bytesOf s)]) := rfl
@[simp ↓] theorem target_convSB {ety : Nat} {x : XOpd} {i : Nat} : EOp.target env (.convSB ety x) i = False := rfl

def vMax : AVal → AVal → Option AVal
  | .int k a, .int _ b => some (.int k (if b > a then b else a))
  | _, _ => none
def vMin : AVal → AVal → Option AVal
  | .int k a, .int _ b => some (.int k (if b < a then b else a))
  | _, _ => none
@[simp ↓] theorem val_max2 {x y : XOpd} : SOp.val env H (.max2 x y) = vMax (x.ev env) (y.ev env) := by
  simp only [SOp.val]; generalize XOpd.ev env x = u; generalize XOpd.ev env y = u2; cases u <;> cases u2 <;> rfl
@[simp ↓] theorem val_min2 {x y : XOpd} : SOp.val env H (.min2 x y) = vMin (x.ev env) (y.ev env) := by
  simp only [SOp.val]; generalize XOpd.ev env x = u; generalize XOpd.ev env y = u2; cases u <;> cases u2 <;> rfl
@[simp] theorem vMax_int {k k' : IntKind} {a b : Int} : vMax (.int k a) (.int k' b) = some (.int k (if b > a then b else a)) := rfl
@[simp] theorem vMin_int {k k' : IntKind} {a b : Int} : vMin (.int k a) (.int k' b) = some (.int k (if b < a then b else a)) := rfl

def vSlStr : AVal → Option AVal → Option AVal → Option AVal
  | .str s, lo, hi => match bnd lo 0, bnd hi s.length with
    | some l, some h => if 0 ≤ l ∧ l ≤ h ∧ h ≤ s.length then some (.str ((s.drop l.toNat).take (h.toNat - l.toNat))) else none
    | _, _ => none
  | _, _, _ => none
@[simp ↓] theorem val_slStr {x : XOpd} {lo hi : Option XOpd} : SOp.val env H (.slice .str x lo hi) = vSlStr (x.ev env) (lo.map (XOpd.ev env)) (hi.map (XOpd.ev env)) := by
  simp only [SOp.val]; generalize XOpd.ev env x = u; cases u <;> rfl
theorem vSlStr_both {s : List UInt8} {k k' : IntKind} {l h : Int} (h0 : 0 ≤ l) (h1 : l ≤ h) (h2 : h ≤ s.length) : vSlStr (.str s) (some (.int k l)) (some (.int k' h)) = some (.str ((s.drop l.toNat).take (h.toNat - l.toNat))) := by
  simp [vSlStr, bnd, h0, h1, h2]
theorem vSlStr_lo {s : List UInt8} {k : IntKind} {l : Int} (h0 : 0 ≤ l) (h1 : l ≤ s.length) : vSlStr (.str s) (some (.int k l)) none = some (.str (s.drop l.toNat)) := by
  simp only [vSlStr, bnd]
  rw [if_pos ⟨h0, h1, Int.le_refl _⟩]
  congr 2
  apply List.take_of_length_le
  simp
theorem vSlStr_hi {s : List UInt8} {k : IntKind} {h : Int} (h0 : 0 ≤ h) (h1 : h ≤ s.length) : vSlStr (.str s) none (some (.int k h)) = some (.str (s.take h.toNat)) := by
  simp [vSlStr, bnd, h0, h1]

def vConvBS (H : AHeap) (v : AVal) : Option AVal := match asrc H 1 v with
  | some (cs, _) => match v with
    | .str _ => none
    | _ => (toBytes cs).map .str
  | none => none
@[simp ↓] theorem val_convBS {x : XOpd} : SOp.val env H (.convBS x) = vConvBS H (x.ev env) := rfl
theorem toBytes_bytesOf (s : List UInt8) : toBytes (bytesOf s) = some s := by
  induction s with
  | nil => rfl
  | cons a s ih =>
    have hb : byteOf (.int .u8 a.toNat) = some a := by simp [byteOf]
    have ih2 : toBytes (s.map fun c => .int .u8 c.toNat) = some s := ih
    simp only [bytesOf, List.map_cons, toBytes, hb, ih2]
@[simp] theorem bytesOf_len (s : List UInt8) : (bytesOf s).length = s.length := by simp [bytesOf]
@[simp] theorem bytesOf_one (s : List UInt8) : (bytesOf s).all AVal.one = true := by simp [bytesOf, AVal.one]
@[simp] theorem bytesOf_app (s t : List UInt8) : bytesOf (s ++ t) = bytesOf s ++ bytesOf t := by simp [bytesOf]
theorem Sl.toStr {v : AVal} {s : List UInt8} (h : Sl H v (bytesOf s)) : vConvBS H v = some (.str s) := by
  have h2 := h.src
  unfold vConvBS
  rw [h2]
  rcases h with ⟨rfl, e⟩ | ⟨rfl, e⟩ | ⟨r, g, o, rfl, _⟩ <;> simp [toBytes_bytesOf]
@[simp] theorem asrc_str {s : List UInt8} : asrc H 1 (.str s) = some (bytesOf s, s.length) := rfl
end

theorem aloads_lt {H : AHeap} {r g o n : Nat} {xs : List AVal} (h : aloads H r g o n = some xs) : r < H.length := by
  unfold aloads at h
  split at h
  · rename_i hb; exact (List.getElem?_eq_some_iff.1 hb).1
  · cases h
theorem Sl.keepAt {H H' : AHeap} {v : AVal} {xs : List AVal} (h : Sl H v xs) (hk : ∀ r, appTarget v r → r < H.length → H'[r]? = H[r]?) : Sl H' v xs := by
  rcases h with h | h | ⟨r, g, o, rfl, h⟩
  · exact .inl h
  · exact .inr (.inl h)
  · refine .inr (.inr ⟨r, g, o, rfl, ?_⟩)
    have hr := aloads_lt h
    unfold aloads at h ⊢
    rw [hk r rfl hr]; exact h
theorem Ints.keepAt {H H' : AHeap} {v : AVal} {l : List Int} (h : Ints H v l) (hk : ∀ r, appTarget v r → r < H.length → H'[r]? = H[r]?) : Ints H' v l := Sl.keepAt h hk

/-- A slice that owns its block, a block that is not one of B. -/
def OwnX (B : Nat → Prop) (H : AHeap) (ety : Nat) (w : AVal) (xs : List AVal) : Prop :=
  (w = .nilslice ∧ xs = []) ∨ ∃ r g, ¬ B r ∧ w = .slice r g 0 xs.length 1 ∧ H[r]? = some (.cells g false ety xs)

section
variable {B : Nat → Prop} {ety : Nat} {H H' : AHeap} {w : AVal} {xs : List AVal}
theorem OwnX.sl (h : OwnX B H ety w xs) : Sl H w xs := by
  rcases h with ⟨rfl, rfl⟩ | ⟨r, g, hm, rfl, hb⟩
  · exact .inl ⟨rfl, rfl⟩
  · refine .inr (.inr ⟨r, g, 0, rfl, ?_⟩)
    simp [aloads, hb]
theorem OwnX.one (h : OwnX B H ety w xs) : w.one = true := by
  rcases h with ⟨rfl, rfl⟩ | ⟨r, g, hm, rfl, hb⟩ <;> rfl
theorem OwnX.known (h : OwnX B H ety w xs) : w.known = true := by
  rcases h with ⟨rfl, rfl⟩ | ⟨r, g, hm, rfl, hb⟩ <;> rfl
theorem OwnX.cells (h : OwnX B H ety w xs) : w.cells = [w] := by
  rcases h with ⟨rfl, rfl⟩ | ⟨r, g, hm, rfl, hb⟩ <;> rfl
theorem OwnX.target (h : OwnX B H ety w xs) {r : Nat} (ht : appTarget w r) : ¬ B r := by
  rcases h with ⟨rfl, rfl⟩ | ⟨r', g, hm, rfl, hb⟩
  · exact ht.elim
  · simp only [appTarget] at ht; subst ht; exact hm
theorem OwnX.keep (h : OwnX B H ety w xs) (hk : ∀ k, ¬ B k → k < H.length → H'[k]? = H[k]?) : OwnX B H' ety w xs := by
  rcases h with ⟨rfl, rfl⟩ | ⟨r, g, hm, rfl, hb⟩
  · exact .inl ⟨rfl, rfl⟩
  · exact .inr ⟨r, g, hm, rfl, by rw [hk r hm (List.getElem?_eq_some_iff.1 hb).1]; exact hb⟩
theorem OwnX.sub {B' : Nat → Prop} (h : OwnX B H ety w xs) (hb : ∀ r, r < H.length → B' r → B r) : OwnX B' H ety w xs := by
  rcases h with ⟨rfl, rfl⟩ | ⟨r, g, hm, rfl, h⟩
  · exact .inl ⟨rfl, rfl⟩
  · exact .inr ⟨r, g, fun c => hm (hb r (List.getElem?_eq_some_iff.1 h).1 c), rfl, h⟩
theorem OwnX.append (h : OwnX B H ety w xs) (hB : ∀ r, B r → r < H.length) {x : AVal} {new : List AVal} {n bytes : Nat} (hx : asrc H 1 x = some (new, n)) (hn : n = new.length) (ho : new.all AVal.one = true) (hr : (xs.length + n) * bytes ≤ roomLim) :
    ∃ w' H', aappend 1 bytes ety w x H = some (w', H') ∧ OwnX B H' ety w' (xs ++ new) ∧ H.length ≤ H'.length ∧ ∀ k, B k → H'[k]? = H[k]? := by
  subst hn
  rcases h with ⟨rfl, rfl⟩ | ⟨r, g, h1, rfl, hb⟩
  · by_cases e : new.length = 0
    · refine ⟨.nilslice, H, by simp [aappend, hx, e], .inl ⟨rfl, by simp [List.eq_nil_of_length_eq_zero e]⟩, Nat.le_refl _, fun _ _ => rfl⟩
    · refine ⟨.slice H.length 0 0 new.length 1, H ++ [.cells 0 false ety new], ?_, .inr ⟨H.length, 0, fun c => Nat.lt_irrefl _ (hB _ c), by simp, by simp⟩, by simp, fun k hk => List.getElem?_append_left (hB k hk)⟩
      simp only [List.length_nil, Nat.zero_add] at hr
      simp [aappend, hx, e, hr]
  · by_cases e : new.length = 0
    · have e2 := List.eq_nil_of_length_eq_zero e
      subst e2
      refine ⟨.slice r g 0 xs.length 1, H, ?_, .inr ⟨r, g, h1, by simp, by simpa using hb⟩, Nat.le_refl _, fun _ _ => rfl⟩
      simp [aappend, hx, hb, astores]
    · refine ⟨.slice r (g + 1) 0 (xs.length + new.length) 1, H.set r (.cells (g + 1) false ety (xs ++ new)), ?_, .inr ⟨r, g + 1, h1, by simp, ?_⟩, by simp, fun k hk => by rw [List.getElem?_set_ne (by intro c; subst c; exact h1 hk)]⟩
      · simp only [aappend, hx, hb]
        rw [if_pos ⟨trivial, trivial, .inl trivial⟩, if_neg (by omega), if_pos ⟨trivial, trivial, by omega, hr, ho, trivial⟩]
        simp
      · rw [List.getElem?_set_self (List.getElem?_eq_some_iff.1 hb).1]
end
end Go.Proofs.YtalbjkemcckokaaGreat.Ab

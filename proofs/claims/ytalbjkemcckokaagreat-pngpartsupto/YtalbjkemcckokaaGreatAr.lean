/- The abstract layer: new blocks, and arrays of whole numbers. Conditions: none; a library for the texts behind it. -/
import Derived.Test.YtalbjkemcckokaaGreatAq
namespace Go.Proofs.YtalbjkemcckokaaGreat.Ab
open Go.RowKit (Below)
set_option linter.unusedVariables false
set_option linter.unusedSimpArgs false

section
variable {H L : AHeap} {k g g' o e n : Nat} {ro : Bool} {cs xs : List AVal} {b : ABlk} {v : AVal}

@[simp] theorem get_new : (H ++ L)[H.length + k]? = L[k]? := by rw [List.getElem?_append_right (by omega)]; congr 1; omega
@[simp] theorem get_new0 : (H ++ L)[H.length]? = L[0]? := get_new (k := 0)
@[simp] theorem aload_new : aload (H ++ L) (H.length + k) g o = aload L k g o := by simp only [aload, get_new]
@[simp] theorem aload_new0 : aload (H ++ L) H.length g o = aload L 0 g o := aload_new (k := 0)
@[simp] theorem aload_zero : aload (.cells g' ro e cs :: L) 0 g o = if g = g' then cs[o]? else none := rfl
@[simp] theorem aload_succ : aload (b :: L) (k + 1) g o = aload L k g o := rfl
@[simp] theorem aloads_new : aloads (H ++ L) (H.length + k) g o n = aloads L k g o n := by simp only [aloads, get_new]
@[simp] theorem aloads_new0 : aloads (H ++ L) H.length g o n = aloads L 0 g o n := aloads_new (k := 0)
@[simp] theorem aloads_zero : aloads (.cells g' ro e cs :: L) 0 g o n = if g = g' ∧ o + n ≤ cs.length then some ((cs.drop o).take n) else none := rfl
@[simp] theorem aloads_succ : aloads (b :: L) (k + 1) g o n = aloads L k g o n := rfl
@[simp] theorem ageOk_new : ageOk (H ++ L) (H.length + k) g = ageOk L k g := by simp only [ageOk, get_new]
@[simp] theorem ageOk_new0 : ageOk (H ++ L) H.length g = ageOk L 0 g := ageOk_new (k := 0)
@[simp] theorem ageOk_zero : ageOk (.cells g' ro e cs :: L) 0 g = (g == g') := rfl
@[simp] theorem ageOk_succ : ageOk (b :: L) (k + 1) g = ageOk L k g := rfl
@[simp] theorem astore_new : astore (H ++ L) (H.length + k) g o v = (astore L k g o v).map (H ++ ·) := by
  unfold astore
  rw [get_new]
  split
  · split
    · simp [List.set_append_right]
    · rfl
  · rfl
@[simp] theorem astore_new0 : astore (H ++ L) H.length g o v = (astore L 0 g o v).map (H ++ ·) := astore_new (k := 0)
@[simp] theorem astore_zero : astore (.cells g' ro e cs :: L) 0 g o v = if g = g' ∧ ro = false ∧ o < cs.length ∧ v.one = true then some (.cells g' ro e (cs.set o v) :: L) else none := rfl
@[simp] theorem astore_succ : astore (b :: L) (k + 1) g o v = (astore L k g o v).map (b :: ·) := by
  simp only [astore, List.getElem?_cons_succ]
  cases L[k]? with
  | none => rfl
  | some b' => cases b' with
    | map es => rfl
    | cells g' ro e cs => simp only []; split <;> rfl
@[simp] theorem astores_one {r : Nat} : astores H r g o [v] = astore H r g o v := by simp [astores]
theorem astores_cons {r : Nat} : astores H r g o (v :: xs) = (astore H r g o v).bind fun H' => astores H' r g (o + 1) xs := rfl

@[simp] theorem one_int {k : IntKind} {x : Int} : (AVal.int k x).one = true := rfl
@[simp] theorem one_bool {x : Bool} : (AVal.bool x).one = true := rfl
@[simp] theorem one_str {x : List UInt8} : (AVal.str x).one = true := rfl
@[simp] theorem one_slice {r g o l z : Nat} : (AVal.slice r g o l z).one = true := rfl
@[simp] theorem one_nilslice : AVal.nilslice.one = true := rfl
@[simp] theorem one_eslice : AVal.eslice.one = true := rfl
@[simp] theorem one_ptr {r g o : Nat} : (AVal.ptr r g o).one = true := rfl
@[simp] theorem cells_int {k : IntKind} {x : Int} : (AVal.int k x).cells = [.int k x] := rfl
@[simp] theorem cells_bool {x : Bool} : (AVal.bool x).cells = [.bool x] := rfl
@[simp] theorem cells_str {x : List UInt8} : (AVal.str x).cells = [.str x] := rfl
@[simp] theorem cells_slice {r g o l z : Nat} : (AVal.slice r g o l z).cells = [.slice r g o l z] := rfl
@[simp] theorem cells_nilslice : AVal.nilslice.cells = [.nilslice] := rfl
@[simp] theorem cells_ptr {r g o : Nat} : (AVal.ptr r g o).cells = [.ptr r g o] := rfl
@[simp] theorem cells_agg {l : List AVal} : (AVal.agg l).cells = l := rfl
@[simp] theorem known_int {k : IntKind} {x : Int} : (AVal.int k x).known = true := rfl
@[simp] theorem known_bool {x : Bool} : (AVal.bool x).known = true := rfl
@[simp] theorem known_str {x : List UInt8} : (AVal.str x).known = true := rfl
@[simp] theorem known_slice {r g o l z : Nat} : (AVal.slice r g o l z).known = true := rfl
@[simp] theorem known_nilslice : AVal.nilslice.known = true := rfl
@[simp] theorem known_ptr {r g o : Nat} : (AVal.ptr r g o).known = true := rfl
@[simp] theorem known_agg {l : List AVal} : (AVal.agg l).known = true := rfl

/-! ### The operations that write -/
section
variable {env : Env}
@[simp ↓] theorem val_new {ety : Nat} {zero : List AVal} : EOp.val env H (.new ety zero) = some (.ptr H.length 0 0, H ++ [.cells 0 false ety zero]) := rfl
def vStore (H : AHeap) (n : Nat) (v : AVal) : AVal → Option (AVal × AHeap)
  | .ptr r g o => if v.known = true ∧ v.cells.length = n ∧ ageOk H r g = true then (astores H r g o v.cells).map fun H' => (.tuple [], H') else none
  | _ => none
@[simp ↓] theorem val_store {n : Nat} {x v : XOpd} : EOp.val env H (.store n x v) = vStore H n (v.ev env) (x.ev env) := by
  simp only [EOp.val]; generalize XOpd.ev env x = u; cases u <;> rfl
theorem vStore_one {r : Nat} (h1 : v.known = true) (h2 : v.cells = [v]) (h3 : ageOk H r g = true) : vStore H 1 v (.ptr r g o) = (astore H r g o v).map fun H' => (.tuple [], H') := by
  simp [vStore, h1, h2, h3, astores_one]
theorem target_store {n : Nat} {x v : XOpd} {i : Nat} : EOp.target env (.store n x v) i = (match x.ev env with | .ptr r _ _ => i = r | _ => False) := rfl
def wAt (v : AVal) (i : Nat) : Prop := match v with
  | .ptr r _ _ => i = r
  | _ => False
@[simp] theorem wAt_ptr {r i : Nat} : wAt (.ptr r g o) i = (i = r) := rfl
@[simp ↓] theorem target_store' {n : Nat} {x v : XOpd} {i : Nat} : EOp.target env (.store n x v) i = wAt (x.ev env) i := by
  simp only [EOp.target]; generalize XOpd.ev env x = u; cases u <;> rfl
@[simp ↓] theorem target_new {ety : Nat} {zero : List AVal} {i : Nat} : EOp.target env (.new ety zero) i = False := rfl
def vMake (H : AHeap) (ety z bytes : Nat) (zero : List AVal) : AVal → AVal → Option (AVal × AHeap)
  | .int _ l, .int _ c => if 0 ≤ l ∧ l ≤ c ∧ c.toNat * bytes ≤ roomLim ∧ c ≤ 9223372036854775807 then some (.slice H.length 0 0 l.toNat z, H ++ [.cells 0 false ety (zrep l.toNat zero)]) else none
  | _, _ => none
@[simp ↓] theorem val_make {ety z bytes : Nat} {zero : List AVal} {l c : XOpd} : EOp.val env H (.makeSlice ety z bytes zero l c) = vMake H ety z bytes zero (l.ev env) (c.ev env) := by
  simp only [EOp.val]; generalize XOpd.ev env l = u; generalize XOpd.ev env c = u2; cases u <;> cases u2 <;> rfl
@[simp ↓] theorem target_make {ety z bytes : Nat} {zero : List AVal} {l c : XOpd} {i : Nat} : EOp.target env (.makeSlice ety z bytes zero l c) i = False := rfl
@[simp ↓] theorem val_append {z bytes ety : Nat} {s x : XOpd} : EOp.val env H (.append z bytes ety s x) = aappend z bytes ety (s.ev env) (x.ev env) H := rfl
@[simp ↓] theorem target_append {z bytes ety : Nat} {s x : XOpd} {i : Nat} : EOp.target env (.append z bytes ety s x) i = appTarget (s.ev env) i := rfl
def vIdxA (H : AHeap) (m z : Nat) : AVal → AVal → Option AVal
  | .ptr r g o, .int _ n => if ageOk H r g = true ∧ 0 ≤ n ∧ n < m then some (.ptr r g (o + n.toNat * z)) else none
  | _, _ => none
@[simp ↓] theorem val_idxA {m z : Nat} {x i : XOpd} : SOp.val env H (.idxA m z x i) = vIdxA H m z (x.ev env) (i.ev env) := by
  simp only [SOp.val]; generalize XOpd.ev env x = u; generalize XOpd.ev env i = u2; cases u <;> cases u2 <;> rfl
theorem vIdxA_ptr {m z r : Nat} {k : IntKind} {i : Int} (h : ageOk H r g = true) (h0 : 0 ≤ i) (h1 : i < m) : vIdxA H m z (.ptr r g o) (.int k i) = some (.ptr r g (o + i.toNat * z)) := by
  simp [vIdxA, h, h0, h1]
@[simp] theorem vIdx_slice {z r l z' : Nat} {k : IntKind} {i : Int} : vIdx H z (.slice r g o l z') (.int k i) = if ageOk H r g = true ∧ z' = z ∧ 0 ≤ i ∧ i < l then some (.ptr r g (o + i.toNat * z)) else none := rfl
@[simp] theorem vIdxA_ptr' {m z r : Nat} {k : IntKind} {i : Int} : vIdxA H m z (.ptr r g o) (.int k i) = if ageOk H r g = true ∧ 0 ≤ i ∧ i < m then some (.ptr r g (o + i.toNat * z)) else none := rfl
@[simp] theorem vStore_ptr {n r : Nat} : vStore H n v (.ptr r g o) = if v.known = true ∧ v.cells.length = n ∧ ageOk H r g = true then (astores H r g o v.cells).map fun H' => (.tuple [], H') else none := rfl
@[simp] theorem vLen_slice {r l z : Nat} : vLen H (.slice r g o l z) = if ageOk H r g = true then some (.int .i64 l) else none := rfl
@[simp] theorem vLen_nil : vLen H .nilslice = some (.int .i64 0) := rfl
@[simp] theorem vField_ptr {r off : Nat} : vField H off (.ptr r g o) = if ageOk H r g = true then some (.ptr r g (o + off)) else none := rfl
@[simp] theorem vNilCheck_ptr {r : Nat} : vNilCheck H (.ptr r g o) = if ageOk H r g = true then some (.ptr r g o) else none := rfl
@[simp] theorem vMake_int {ety z bytes : Nat} {zero : List AVal} {k k' : IntKind} {l c : Int} : vMake H ety z bytes zero (.int k l) (.int k' c) =
    if 0 ≤ l ∧ l ≤ c ∧ c.toNat * bytes ≤ roomLim ∧ c ≤ 9223372036854775807 then some (.slice H.length 0 0 l.toNat z, H ++ [.cells 0 false ety (zrep l.toNat zero)]) else none := rfl
@[simp] theorem vLoad_ptr {r : Nat} : vLoad H (.ptr r g o) = aload H r g o := rfl
@[simp] theorem vLoads_ptr {r n : Nat} : vLoads H n (.ptr r g o) = (aloads H r g o n).map .agg := rfl
def aConvI (k : IntKind) : AVal → Option AVal
  | .int _ n => some (.int k (k.wrap n))
  | _ => none
@[simp] theorem aConvI_int {k k' : IntKind} {n : Int} : aConvI k (.int k' n) = some (.int k (k.wrap n)) := rfl
@[simp ↓] theorem val_convI {k : IntKind} {x : XOpd} : SOp.val env H (.convI k x) = aConvI k (x.ev env) := by
  simp only [SOp.val]; generalize XOpd.ev env x = u; cases u <;> rfl
def aExt : AVal → Nat → Option AVal
  | .tuple vs, i => vs[i]?
  | _, _ => none
@[simp] theorem aExt_tuple {vs : List AVal} {i : Nat} : aExt (.tuple vs) i = vs[i]? := rfl
@[simp ↓] theorem val_extract {x : XOpd} {i : Nat} : SOp.val env H (.extract x i) = aExt (x.ev env) i := by
  simp only [SOp.val]; generalize XOpd.ev env x = u; cases u <;> rfl
def aLenS : AVal → Option AVal
  | .str s => some (.int .i64 s.length)
  | _ => none
@[simp] theorem aLenS_str {s : List UInt8} : aLenS (.str s) = some (.int .i64 s.length) := rfl
@[simp ↓] theorem val_lenS {x : XOpd} : SOp.val env H (.lenS x) = aLenS (x.ev env) := by
  simp only [SOp.val]; generalize XOpd.ev env x = u; cases u <;> rfl
end

/-! ### Old slices in a grown state -/
theorem aloads_app {r : Nat} (h : aloads H r g o n = some xs) : aloads (H ++ L) r g o n = some xs := by
  unfold aloads at h ⊢
  split at h
  · rename_i hb
    rw [List.getElem?_append_left (List.getElem?_eq_some_iff.1 hb).1, hb]
    exact h
  · cases h
theorem Sl.app {v : AVal} {xs : List AVal} (h : Sl H v xs) : Sl (H ++ L) v xs := by
  rcases h with ⟨rfl, rfl⟩ | ⟨rfl, rfl⟩ | ⟨r, g, o, rfl, h⟩
  · exact .inl ⟨rfl, rfl⟩
  · exact .inr (.inl ⟨rfl, rfl⟩)
  · exact .inr (.inr ⟨r, g, o, rfl, aloads_app h⟩)
theorem Ints.app {v : AVal} {l : List Int} (h : Ints H v l) : Ints (H ++ L) v l := Sl.app h

/-- A row of whole numbers, told by a function. -/
def Arr (n : Nat) (f : Nat → Int) : List AVal := (List.range n).map fun k => .int .i64 (f k)
@[simp] theorem Arr_length {n : Nat} {f : Nat → Int} : (Arr n f).length = n := by simp [Arr]
theorem Arr_get {n : Nat} {f : Nat → Int} {j : Nat} (h : j < n) : (Arr n f)[j]? = some (.int .i64 (f j)) := by simp [Arr, h]
theorem Arr_set {n : Nat} {f : Nat → Int} {j : Nat} {x : Int} : (Arr n f).set j (.int .i64 x) = Arr n fun k => if k = j then x else f k := by
  apply List.ext_getElem?
  intro i
  by_cases h : i < n
  · rw [Arr_get h, List.getElem?_set]
    by_cases e : j = i
    · subst e; simp [h]
    · rw [if_neg e, Arr_get h, if_neg (Ne.symm e)]
  · rw [List.getElem?_eq_none (by simp; omega), List.getElem?_eq_none (by simp; omega)]
theorem Arr_congr {n : Nat} {f f' : Nat → Int} (h : ∀ k, k < n → f k = f' k) : Arr n f = Arr n f' := by
  apply List.map_congr_left
  intro k hk
  rw [h k (by simpa using hk)]
theorem Arr_zeros (n : Nat) : List.replicate n (.int .i64 0) = Arr n fun _ => 0 := by
  apply List.ext_getElem?
  intro i
  by_cases h : i < n
  · rw [Arr_get h]; simp [h]
  · rw [List.getElem?_eq_none (by simp; omega), List.getElem?_eq_none (by simp; omega)]
theorem zrep_one (n : Nat) (x : AVal) : zrep n [x] = List.replicate n x := by
  induction n with
  | zero => rfl
  | succ n ih => simp only [zrep, List.replicate_succ, List.flatten_cons] at ih ⊢; rw [ih]; rfl
@[simp] theorem Arr_one (n : Nat) (f : Nat → Int) : (Arr n f).all AVal.one = true := by simp [Arr, AVal.one]
@[simp] theorem Arr_take (n : Nat) (f : Nat → Int) : (Arr n f).take n = Arr n f := List.take_of_length_le (by simp)
@[simp] theorem astores_new {k g : Nat} : ∀ (xs : List AVal) (o : Nat) (L : AHeap), astores (H ++ L) (H.length + k) g o xs = (astores L k g o xs).map (H ++ ·)
  | [], o, L => rfl
  | x :: xs, o, L => by
    simp only [astores, astore_new]
    cases h : astore L k g o x with
    | none => rfl
    | some L' => simp only [Option.map_some, Option.bind_some]; exact astores_new xs (o + 1) L'
@[simp] theorem astores_new0 {g o : Nat} {xs : List AVal} : astores (H ++ L) H.length g o xs = (astores L 0 g o xs).map (H ++ ·) := astores_new (k := 0) xs o L
@[simp] theorem astores_succ {k g : Nat} : ∀ (xs : List AVal) (o : Nat) (b : ABlk) (L : AHeap), astores (b :: L) (k + 1) g o xs = (astores L k g o xs).map (b :: ·)
  | [], o, b, L => rfl
  | x :: xs, o, b, L => by
    simp only [astores, astore_succ]
    cases h : astore L k g o x with
    | none => rfl
    | some L' => simp only [Option.map_some, Option.bind_some]; exact astores_succ xs (o + 1) b L'
/-- A whole block, written anew. -/
theorem astores_all {cs new : List AVal} (h1 : cs.length = new.length) (h2 : new.all AVal.one = true) : astores (.cells g false e cs :: L) 0 g 0 new = some (.cells g false e new :: L) := by
  have := astores_fill (r := 0) (g := g) (e := e) new [] cs (.cells g false e cs :: L) (by simp) h1 h2
  simpa using this

theorem Arr_flats (n : Nat) (f : Nat → Int) : AVal.flats (Arr n f) = true := by
  have : ∀ l : List Nat, AVal.flats (l.map fun k => .int .i64 (f k)) = true := by
    intro l
    induction l with
    | nil => rfl
    | cons a l ih => simp [AVal.flats, AVal.flat, ih]
  exact this _
end
end Go.Proofs.YtalbjkemcckokaaGreat.Ab

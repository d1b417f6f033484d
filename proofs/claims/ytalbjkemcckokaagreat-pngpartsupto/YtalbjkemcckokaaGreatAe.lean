/- The abstract layer, fifth part: the program's quiet operations, got into abstract ones, do what these compute. Conditions: none; a library for the texts behind it. -/
import Derived.Test.YtalbjkemcckokaaGreatAd
namespace Go.Proofs.YtalbjkemcckokaaGreat.Ab

/-- The places of a struct's fields, if all are plain whole numbers, strings or bools. -/
def plainFields (P : Program) : List Field → Option (List (Nat × PK))
  | [] => some []
  | f :: fs =>
    if f.name = "_" then none else
    match P.underlying f.type with
    | some (.int _) => (plainFields P fs).map ((f.offset, .i) :: ·)
    | some .string => (plainFields P fs).map ((f.offset, .s) :: ·)
    | some .bool => (plainFields P fs).map ((f.offset, .b) :: ·)
    | _ => none

def aggN (P : Program) (t : TypeId) : Option (Option Nat) :=
  match P.underlying t, P.info? t with
  | some (.struct _), some i | some (.array _ _), some i => some (some i.size)
  | some _, some _ => some none
  | _, _ => none

def opts : List Operand → Option (List XOpd)
  | [] => some []
  | o :: os => match xopd o, opts os with
    | some x, some xs => some (x :: xs)
    | _, _ => none

def oopd : Option Operand → Option (Option XOpd)
  | none => some none
  | some o => (xopd o).map some

def xparts (place : Nat → Option (Nat × Nat)) : List (Nat × Operand) → Option (List (Nat × Nat × XOpd))
  | [] => some []
  | (i, o) :: rest => match place i, xopd o, xparts place rest with
    | some (off, size), some x, some xs => some ((off, size, x) :: xs)
    | _, _, _ => none

def zeroOf (P : Program) (t : TypeId) : Option (List AVal) :=
  match P.info? t with
  | some i => match i.zero with
    | some v => match ofConst v with
      | some a => if a.known = true then some a.cells else none
      | none => none
    | none => none
  | none => none

def sopBin (P : Program) (op : BinOp) (t : TypeId) (x y : Operand) : Option SOp := do
  let a ← xopd x
  let b ← xopd y
  match P.underlying t with
  | some (.int _) | some .string => some (.bin op a b)
  | some .bool => match op with
    | .eql => some (.eqB false a b)
    | .neq => some (.eqB true a b)
    | _ => none
  | some (.pointer el) => match op, P.info? el with
    | .eql, some _ => some (.eqNilP false a b)
    | .neq, some _ => some (.eqNilP true a b)
    | _, _ => none
  | some (.slice _) => match op with
    | .eql => some (.eqNilS false a b)
    | .neq => some (.eqNilS true a b)
    | _ => none
  | some (.struct fs) =>
    if P.stoodInHeld t = false ∧ P.eqGuardType P.depth t = false then
      match plainFields P fs.toList, op with
      | some offs, .eql => some (.eqS false offs a b)
      | some offs, .neq => some (.eqS true offs a b)
      | _, _ => none
    else none
  | _ => none

/-- The zero value itself. -/
def zeroV (P : Program) (t : TypeId) : Option AVal :=
  match P.info? t with
  | some i => match i.zero with
    | some v => ofConst v
    | none => none
  | none => none

/-- A map's key kind and its element type. -/
def mapK (P : Program) (t : TypeId) : Option (IntKind × TypeId × TypeId) :=
  match P.underlying t with
  | some (.map k e) => match P.underlying k with
    | some (.array 3 el) => match P.underlying el with
      | some (.int kd) => if P.cellsOf el = 1 ∧ P.cellsOf k = 3 ∧ P.types.size ≠ 0 then some (kd, k, e) else none
      | _ => none
    | _ => none
  | _ => none

def sop (P : Program) (op : Op) : Option SOp :=
  match op with
  | .lookup t x i ok => match mapK P t, xopd x, xopd i with
    | some (kd, _, e), some x, some i => match zeroV P e with
      | some z => some (.lookup kd z ok x i)
      | none => none
    | _, _, _ => none
  | .move x | .assign x => (xopd x).map .move
  | .pick c a b => match xopd c, xopd a, xopd b with
    | some c, some a, some b => some (.pick c a b)
    | _, _, _ => none
  | .load t x => match xopd x, aggN P t with
    | some x, some (some n) => some (.loadN n x)
    | some x, some none => some (.load1 x)
    | _, _ => none
  | .nilCheck x => (xopd x).map .nilCheck
  | .binOp op t x y _ => sopBin P op t x y
  | .unOp op _ x => (xopd x).map (.un op)
  | .convert src dst x => match P.underlying src, P.underlying dst, xopd x with
    | some (.int _), some (.int k), some x => some (.convI k x)
    | some .string, some .string, some x => some (.convS x)
    | some (.slice e), some .string, some x => match P.underlying e with
      | some (.int .u8) => some (.convBS x)
      | _ => none
    | some (.pointer t), some .unsafePointer, some x => match P.info? t with
      | some i => if i.size ≠ 0 then some (.toUns x) else none
      | none => none
    | some .unsafePointer, some (.pointer u), some x => match P.info? u with
      | some _ => if P.cellsOf u ≠ 0 then some (.fromUns u (P.cellsOf u) x) else none
      | none => none
    | _, _, _ => none
  | .fieldAddr s x f => match P.underlying s, xopd x with
    | some (.struct fs), some x => match fs[f]? with
      | some fd => match P.info? fd.type with
        | some i => if i.size ≠ 0 then some (.fieldAddr fd.offset x) else none
        | none => none
      | none => none
    | _, _ => none
  | .field t x f => match P.underlying t, xopd x with
    | some (.struct fs), some x => match fs[f]? with
      | some fd => match aggN P fd.type with
        | some (some n) => some (.fieldN fd.offset n x)
        | some none => some (.field1 fd.offset x)
        | none => none
      | none => none
    | _, _ => none
  | .indexAddr t x i => match P.underlying t, xopd x, xopd i with
    | some (.slice e), some x, some i => match P.info? e with
      | some inf => some (.idxS inf.size x i)
      | none => none
    | some (.array n e), some x, some i => match P.info? e with
      | some inf => some (.idxA n inf.size x i)
      | none => none
    | _, _, _ => none
  | .index t x i => match P.underlying t, xopd x, xopd i with
    | some .string, some x, some i => some (.idxStr x i)
    | some (.array n e), some x, some i => match aggN P e, P.info? e with
      | some none, some inf => if inf.size = 1 then some (.idxArr n x i) else none
      | _, _ => none
    | _, _, _ => none
  | .slice t x lo hi none => match P.underlying t, xopd x, oopd lo, oopd hi with
    | some .string, some x, some lo, some hi => some (.slice .str x lo hi)
    | some (.slice e), some x, some lo, some hi => match P.info? e with
      | some inf => some (.slice (.sl inf.size) x lo hi)
      | none => none
    | some (.array n e), some x, some lo, some hi => match P.info? e with
      | some inf => some (.slice (.arr n inf.size) x lo hi)
      | none => none
    | _, _, _, _ => none
  | .slice t x lo (some hi) (some mx) => match P.underlying t, xopd x, oopd lo, xopd hi, xopd mx with
    | some (.slice e), some x, some lo, some hi, some mx => match P.info? e with
      | some inf => some (.slice3 inf.size x lo hi mx)
      | none => none
    | _, _, _, _, _ => none
  | .call { callee := .builtin .unsafeSliceData, args, .. } => match args.toList with
    | [x] => (xopd x).map .sliceData
    | _ => none
  | .extract x i => match xopd x with
    | some x => some (.extract x i)
    | none => none
  | .build t parts => match P.underlying t, zeroOf P t with
    | some (.struct fs), some z => match fs.toList.mapM (fun f => (P.info? f.type).map fun i => (f.offset, i.size)) with
      | some places => (xparts (places[·]?) parts.toList).map (.build z)
      | none => none
    | some (.array _ e), some z => match P.info? e with
      | some inf => (xparts (fun i => some (i * inf.size, inf.size)) parts.toList).map (.build z)
      | none => none
    | _, _ => none
  | .makeFunc (.func f) first caps => if first.size = 0 then (opts caps.toList).map (.func f) else none
  | .call { callee := .builtin .len, args, argTypes } => match args.toList, argTypes.toList with
    | [x], [t] => match P.underlying t, xopd x with
      | some .string, some x => some (.lenS x)
      | some (.slice _), some x => some (.lenSl x)
      | some (.array n _), some x => some (.lenA n x)
      | _, _ => none
    | _, _ => none
  | .call { callee := .builtin .max, args, .. } => match args.toList with
    | [x, y] => match xopd x, xopd y with
      | some x, some y => some (.max2 x y)
      | _, _ => none
    | _ => none
  | .call { callee := .builtin .min, args, .. } => match args.toList with
    | [x, y] => match xopd x, xopd y with
      | some x, some y => some (.min2 x y)
      | _, _ => none
    | _ => none
  | _ => none

section
variable {P : Program} {W0 : World} {ι : Inj} {H : AHeap} {w : World} {env : Env} {a : Act}

theorem aggN_run {t : TypeId} {x : Option Nat} (h : aggN P t = some x) (w : World) :
    (isAgg t).run P w = .ok x.isSome w ∧ (∀ n, x = some n → (sizeOf t).run P w = .ok n w) := by
  unfold aggN at h
  split at h
  · rename_i i h1 h2
    cases h
    exact ⟨by simp [isAgg, run_underlying h1], fun n hn => by cases hn; simp [sizeOf, typeInfo, h2]⟩
  · rename_i i h1 h2
    cases h
    exact ⟨by simp [isAgg, run_underlying h1], fun n hn => by cases hn; simp [sizeOf, typeInfo, h2]⟩
  · rename_i d i hn1 hn2 h1 h2
    cases h
    refine ⟨?_, fun n hn => by cases hn⟩
    cases d <;> first
      | (simp [isAgg, run_underlying h1]; done)
      | exact absurd rfl (hn1 _)
      | exact absurd rfl (hn2 _ _)
  · cases h

theorem sizeOf_run {t : TypeId} {i : TypeInfo} (h : P.info? t = some i) (w : World) : (sizeOf t).run P w = .ok i.size w := by simp [sizeOf, typeInfo, h]

theorem VRel.int_inv {k : IntKind} {n : Int} {v : Value} (h : VRel ι (.int k n) v) : v = .int k n := by simpa [VRel] using h
theorem VRel.str_inv {s : List UInt8} {v : Value} (h : VRel ι (.str s) v) : v = .string ⟨s.toArray⟩ := by simpa [VRel] using h
theorem VRel.bool_inv {b : Bool} {v : Value} (h : VRel ι (.bool b) v) : v = .bool b := by simpa [VRel] using h

/-- A pointer through which the abstract heap is read: where it goes. -/
theorem Rel.ptr_age (hR : Rel W0 ι H w) {r g o n : Nat} {xs : List AVal} (h : aloads H r g o n = some xs) {v : Value} (hv : VRel ι (.ptr r g o) v) :
    ∃ win, ι r = some (g, win) ∧ v = .pointer (some ⟨win.blk, win.off + o, none⟩) := by
  unfold aloads at h
  split at h
  · rename_i g' ro ety cs hb
    split at h
    · rename_i hc
      obtain ⟨rfl, _⟩ := hc
      obtain ⟨g2, win, h1, h2⟩ := hR.blk r _ hb
      have : g2 = g := h2.1.symm
      subst this
      exact ⟨win, h1, hv.ptr_at h1⟩
    · cases h
  · cases h

theorem run_load_ptr {b o : Nat} {y : Value} (h : w.cell? ⟨b, o, none⟩ = some y) : (load ⟨b, o, none⟩).run P w = .ok y w := by
  simp [run_load, h]

theorem int_toBytes (P : Program) (f : Value → ByteArray → Sem (ForInStep ByteArray)) (hf : ∀ (n : Int) r (u : World), (f (.int .u8 n) r).run P u = .ok (.yield (r.push (UInt8.ofNat n.toNat))) u) :
    ∀ (cs : List AVal) (ys : List Value) (s : List UInt8), VRels ι cs ys → toBytes cs = some s → ∀ (acc : ByteArray) (w : World),
    (forIn (m := Sem) ys acc f).run P w = .ok ⟨acc.data ++ s.toArray⟩ w
  | [], ys, s, hv, h, acc, w => by
    simp only [VRels] at hv; subst hv
    simp only [toBytes, Option.some.injEq] at h; subst h
    simp
  | c :: cs, ys, s, hv, h, acc, w => by
    simp only [VRels] at hv
    obtain ⟨y, ys, rfl, h1, h2⟩ := hv
    simp only [toBytes] at h
    split at h
    · rename_i b s' hb hs'
      cases h
      obtain ⟨n, rfl, rfl⟩ := byteOf_inv hb
      have hy := h1.int_inv
      subst hy
      have ih := int_toBytes P f hf cs ys s' h2 hs' (acc.push (UInt8.ofNat n.toNat)) w
      simp only [List.forIn_cons, Sem.run_bind, hf, Result.andThen_ok]
      rw [ih]
      congr 1
      simp [ByteArray.push]
    · cases h

theorem ageOk_inv (hR : Rel W0 ι H w) {r g : Nat} (h : ageOk H r g = true) : ∃ win, ι r = some (g, win) ∧ ∃ ro e cs, H[r]? = some (.cells g ro e cs) ∧ win.len = cs.length ∧ win.len ≤ win.ext := by
  unfold ageOk at h
  split at h
  · rename_i g' ro e cs hb
    have : g = g' := by simpa using h
    subst this
    obtain ⟨g2, win, h1, h2⟩ := hR.blk r _ hb
    have : g2 = g := h2.1.symm
    subst this
    exact ⟨win, h1, ro, e, cs, hb, h2.2.1, h2.2.2.1⟩
  · cases h

theorem asrc_slice (hR : Rel W0 ι H w) {z : Nat} {x : AVal} {y : Value} (hv : VRel ι x y) {cs : List AVal} {n : Nat} (h : asrc H z x = some (cs, n)) (hs : ∀ s, x ≠ .str s) :
    (∃ l c, y = .slice none l c ∧ cs = [] ∧ n = 0) ∨ ∃ a c, y = .slice (some a) n c ∧ ∃ ys, (∀ w', (∀ r g o len z', x = .slice r g o len z' → ∀ g win, ι r = some (g, win) → w'.heap[win.blk]? = w.heap[win.blk]?) → (loadCells a (n * z)).run P w' = .ok (List.toArray ys) w') ∧ VRels ι cs ys := by
  obtain ⟨_, ys, hf, hys, hyl⟩ := asrc_run P hR hv h
  have hf0 := hf 0
  cases x <;> simp only [asrc] at h
  case nilslice =>
    simp only [Option.some.injEq, Prod.mk.injEq] at h; obtain ⟨rfl, rfl⟩ := h
    simp only [VRel] at hv; subst hv
    exact .inl ⟨0, 0, rfl, rfl, rfl⟩
  case eslice =>
    simp only [Option.some.injEq, Prod.mk.injEq] at h; obtain ⟨rfl, rfl⟩ := h
    simp only [VRel] at hv; obtain ⟨a, rfl⟩ := hv
    have e0 : ys = [] := by simpa using hyl
    subst e0
    exact .inr ⟨a, 0, rfl, [], fun w' _ => by simp [loadCells, loadCellsFrom], hys⟩
  case str s => exact absurd rfl (hs s)
  case slice r g o len z' =>
    split at h
    · rename_i hz; subst hz
      simp only [Option.map_eq_some_iff, Prod.mk.injEq] at h
      obtain ⟨cs', hl, rfl, rfl⟩ := h
      have : ∃ win, ι r = some (g, win) := by
        unfold aloads at hl
        split at hl
        · rename_i g' ro ety cs2 hb
          split at hl
          · rename_i hc
            obtain ⟨rfl, _⟩ := hc
            obtain ⟨g2, win, h1, h2⟩ := hR.blk r _ hb
            have : g2 = g := h2.1.symm
            subst this
            exact ⟨win, h1⟩
          · cases hl
        · cases hl
      obtain ⟨win, hι⟩ := this
      obtain ⟨a, cap, rfl, hlc, _, _, had⟩ := hv.slice_at hι
      rcases Nat.eq_zero_or_pos len with e0 | e0
      · subst e0
        have e1 : ys = [] := by simpa using hyl
        subst e1
        exact .inr ⟨a, cap, rfl, [], fun w' _ => by simp [loadCells, loadCellsFrom], hys⟩
      · have had' : a = ⟨win.blk, win.off + o, none⟩ := had.resolve_left (by omega)
        subst had'
        obtain ⟨ys', h1, h2, h3, h4⟩ := hR.loads P hι hl
        exact .inr ⟨_, cap, rfl, ys', fun w' hw' => h4 w' (hw' r g o len z' rfl g win hι), h2⟩
    · cases h
  all_goals cases h
end
end Go.Proofs.YtalbjkemcckokaaGreat.Ab

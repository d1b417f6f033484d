/- The abstract layer, fourth part: operations that leave memory as it is: what they compute over abstract values, how they are got out of the program's own operations, and that both agree. Conditions: none; a library for the texts behind it. -/
import Derived.Test.YtalbjkemcckokaaGreatAc
import Derived.Laws.StructEq
import Derived.Laws.Pointers
import Derived.Laws.Slices
namespace Go.Proofs.YtalbjkemcckokaaGreat.Ab

/-! ### Operands -/

inductive XOpd where
  | t (i : Nat)
  | c (v : AVal)

abbrev Env := Nat → AVal

def XOpd.ev (env : Env) : XOpd → AVal
  | .t i => env i
  | .c v => v

def ofCell : Value → Option AVal
  | .bool b => some (.bool b)
  | .int k n => some (.int k n)
  | .string s => some (.str s.data.toList)
  | .pointer none => some .nilptr
  | .slice none 0 0 => some .nilslice
  | .map none => some .nilmap
  | .nilFunc => some .nilfunc
  | _ => none
def ofCells : List Value → Option (List AVal)
  | [] => some []
  | v :: vs => match ofCell v, ofCells vs with
    | some a, some as => some (a :: as)
    | _, _ => none
def ofConst : Value → Option AVal
  | .agg cs => (ofCells cs.toList).map .agg
  | v => ofCell v

theorem ofCell_rel (ι : Inj) {v : Value} {a : AVal} (h : ofCell v = some a) : VRel ι a v := by
  unfold ofCell at h
  split at h <;> first
    | (cases h; simp [VRel]; done)
    | cases h
theorem ofCells_rel (ι : Inj) : ∀ {vs : List Value} {as : List AVal}, ofCells vs = some as → VRels ι as vs
  | [], as, h => by simp [ofCells] at h; subst h; simp [VRels]
  | v :: vs, as, h => by
    simp only [ofCells] at h
    split at h
    · rename_i a as' h1 h2
      cases h
      simp only [VRels]
      exact ⟨v, vs, rfl, ofCell_rel ι h1, ofCells_rel ι h2⟩
    · cases h
theorem ofConst_rel (ι : Inj) {v : Value} {a : AVal} (h : ofConst v = some a) : VRel ι a v := by
  unfold ofConst at h
  split at h
  · rename_i cs
    simp only [Option.map_eq_some_iff] at h
    obtain ⟨as, h1, rfl⟩ := h
    simp only [VRel]
    exact ⟨cs.toList, by simp, ofCells_rel ι h1⟩
  · exact ofCell_rel ι h

def xopd : Operand → Option XOpd
  | .tmp t => some (.t t)
  | .const v => some (.c ((ofConst v).getD .undef))
  | .func f => some (.c (.func f []))
  | .global _ => some (.c .undef)

def ERel (ι : Inj) (env : Env) (a : Act) : Prop := ∀ t, VRel ι (env t) (a.tmps.getD t undef)

theorem ERel.mono {ι ι' : Inj} {env : Env} {a : Act} (h : ERel ι env a) (hle : ι.le ι') : ERel ι' env a := fun t => (h t).mono hle

theorem xopd_rel {ι : Inj} {env : Env} {a : Act} (hE : ERel ι env a) {o : Operand} {x : XOpd} (h : xopd o = some x) : VRel ι (x.ev env) (a.eval o) := by
  cases o <;> simp only [xopd] at h
  case tmp t => cases h; exact hE t
  case const v =>
    cases h
    simp only [XOpd.ev, Act.eval]
    cases h1 : ofConst v with
    | none => simp [VRel]
    | some c => exact ofConst_rel ι h1
  case func f => cases h; simp [XOpd.ev, VRel, VRels, Act.eval]
  case global => cases h; simp [XOpd.ev, VRel]

/-! ### What the operators compute -/

def ibin (op : BinOp) (k : IntKind) (x y : Int) : Option AVal :=
  match op with
  | .add => some (.int k (k.wrap (x + y)))
  | .sub => some (.int k (k.wrap (x - y)))
  | .mul => some (.int k (k.wrap (x * y)))
  | .quo => if y = 0 then none else some (.int k (k.wrap (x.tdiv y)))
  | .rem => if y = 0 then none else some (.int k (x.tmod y))
  | .and => some (.int k (k.wrap (BitVec.ofInt k.bits x &&& BitVec.ofInt k.bits y).toNat))
  | .or => some (.int k (k.wrap (BitVec.ofInt k.bits x ||| BitVec.ofInt k.bits y).toNat))
  | .xor => some (.int k (k.wrap (BitVec.ofInt k.bits x ^^^ BitVec.ofInt k.bits y).toNat))
  | .andNot => some (.int k (k.wrap (BitVec.ofInt k.bits x &&& ~~~BitVec.ofInt k.bits y).toNat))
  | .eql => some (.bool (x == y))
  | .neq => some (.bool (x != y))
  | .lss => some (.bool (decide (x < y)))
  | .leq => some (.bool (decide (x ≤ y)))
  | .gtr => some (.bool (decide (x > y)))
  | .geq => some (.bool (decide (x ≥ y)))
  | _ => none
def ishift (op : BinOp) (k : IntKind) (x y : Int) : Option AVal :=
  if y < 0 then none else
  match op with
  | .shl => some (.int k (k.wrap (x * 2 ^ (min y.toNat k.bits))))
  | .shr => some (.int k (x.fdiv (2 ^ (min y.toNat k.bits))))
  | _ => none
def sbin (op : BinOp) (x y : List UInt8) : Option AVal :=
  match op with
  | .add => if x.length + y.length ≤ 9223372036854775807 then some (.str (x ++ y)) else none
  | .eql => some (.bool (x == y))
  | .neq => some (.bool !(x == y))
  | .lss => some (.bool (Op.bytesLess x y))
  | .leq => some (.bool (Op.bytesLess x y || x == y))
  | .gtr => some (.bool !(Op.bytesLess x y || x == y))
  | .geq => some (.bool !(Op.bytesLess x y))
  | _ => none

def abin (op : BinOp) (x y : AVal) : Option AVal :=
  match x, y with
  | .int k a, .int k' b => if op = .shl ∨ op = .shr then ishift op k a b else if k = k' then ibin op k a b else none
  | .str a, .str b => sbin op a b
  | _, _ => none

def aunary (op : UnOp) (x : AVal) : Option AVal :=
  match op, x with
  | .neg, .int k n => some (.int k (k.wrap (0 - n)))
  | .xor, .int k n => some (.int k (k.wrap (BitVec.ofInt k.bits (if k.signed then -1 else k.max) ^^^ BitVec.ofInt k.bits n).toNat))
  | .not, .bool b => some (.bool !b)
  | _, _ => none

/-- Equality of two cells of plain kinds. -/
inductive PK where
  | i
  | s
  | b
def cellEq : PK → AVal → AVal → Option Bool
  | .i, .int k a, .int k' b => if k = k' then some (a == b) else none
  | .s, .str a, .str b => some (a == b)
  | .b, .bool a, .bool b => some (a == b)
  | _, _, _ => none
def fieldsEq (xs ys : List AVal) : List (Nat × PK) → Option Bool
  | [] => some true
  | (o, k) :: os => match xs[o]?, ys[o]? with
    | some x, some y => match cellEq k x y with
      | some true => fieldsEq xs ys os
      | some false => some false
      | none => none
    | _, _ => none

def byteOf : AVal → Option UInt8
  | .int .u8 n => some (UInt8.ofNat n.toNat)
  | _ => none
def toBytes : List AVal → Option (List UInt8)
  | [] => some []
  | c :: l => match byteOf c, toBytes l with
    | some b, some s => some (b :: s)
    | _, _ => none
theorem byteOf_inv {c : AVal} {b : UInt8} (h : byteOf c = some b) : ∃ n, c = .int .u8 n ∧ b = UInt8.ofNat n.toNat := by
  unfold byteOf at h
  split at h
  · cases h; exact ⟨_, rfl, rfl⟩
  · cases h

inductive SlKind where
  | str
  | sl (z : Nat)
  | arr (n z : Nat)

/-- A key of a map: an array of three whole numbers. -/
def akey3 (kd : IntKind) : AVal → Option (Int × Int × Int)
  | .agg [.int k0 x, .int k1 y, .int k2 z] => if k0 = kd ∧ k1 = kd ∧ k2 = kd ∧ (Lit.int kd x).wf = true ∧ (Lit.int kd y).wf = true ∧ (Lit.int kd z).wf = true then some (x, y, z) else none
  | _ => none
def mget (kd : IntKind) (l : Int × Int × Int) : List (AVal × AVal) → Option AVal
  | [] => none
  | (k, v) :: es => if akey3 kd k = some l then some v else mget kd l es
def mput (kd : IntKind) (l : Int × Int × Int) (k v : AVal) : List (AVal × AVal) → List (AVal × AVal)
  | [] => [(k, v)]
  | (k0, v0) :: es => if akey3 kd k0 = some l then (k, v) :: es else (k0, v0) :: mput kd l k v es
/-- All keys are such, and no two are equal. -/
def mkeys (kd : IntKind) : List (AVal × AVal) → Bool
  | [] => true
  | (k, _) :: es => match akey3 kd k with
    | some l => (mget kd l es).isNone && mkeys kd es
    | none => false

/-- Operations that leave memory alone. -/
inductive SOp where
  | move (x : XOpd)
  | pick (c a b : XOpd)
  | load1 (x : XOpd)
  | loadN (n : Nat) (x : XOpd)
  | nilCheck (x : XOpd)
  | bin (op : BinOp) (x y : XOpd)
  | eqB (neg : Bool) (x y : XOpd)
  | eqNilP (neg : Bool) (x y : XOpd)
  | eqS (neg : Bool) (offs : List (Nat × PK)) (x y : XOpd)
  | un (op : UnOp) (x : XOpd)
  | convI (k : IntKind) (x : XOpd)
  | convS (x : XOpd)
  | convBS (x : XOpd)
  | fieldAddr (off : Nat) (x : XOpd)
  | field1 (off : Nat) (x : XOpd)
  | fieldN (off n : Nat) (x : XOpd)
  | idxS (z : Nat) (x i : XOpd)
  | idxA (n z : Nat) (x i : XOpd)
  | idxStr (x i : XOpd)
  | idxArr (n : Nat) (x i : XOpd)
  | slice (k : SlKind) (x : XOpd) (lo hi : Option XOpd)
  | extract (x : XOpd) (i : Nat)
  | lenS (x : XOpd)
  | lenSl (x : XOpd)
  | lenA (n : Nat) (x : XOpd)
  | max2 (x y : XOpd)
  | min2 (x y : XOpd)
  | func (f : FuncId) (caps : List XOpd)
  | build (zero : List AVal) (parts : List (Nat × Nat × XOpd))
  | lookup (kd : IntKind) (zero : AVal) (ok : Bool) (x i : XOpd)
  | eqNilS (neg : Bool) (x y : XOpd)
  | toUns (x : XOpd)
  | fromUns (u n : Nat) (x : XOpd)
  | sliceData (x : XOpd)
  | slice3 (z : Nat) (x : XOpd) (lo : Option XOpd) (hi mx : XOpd)

/-- A value whose cells are known. -/
def AVal.known : AVal → Bool
  | .undef | .tuple _ => false
  | _ => true

/-- The parts of a struct or array literal laid over its zero cells: place, size, value. -/
def afill (env : Env) (cells : List AVal) : List (Nat × Nat × XOpd) → Option (List AVal)
  | [] => some cells
  | (off, size, x) :: rest =>
    if (x.ev env).known = true ∧ (x.ev env).cells.length = size ∧ off + size ≤ cells.length then afill env (cells.take off ++ (x.ev env).cells ++ cells.drop (off + size)) rest else none

/-- The block is of that age. -/
def ageOk (H : AHeap) (r g : Nat) : Bool :=
  match H[r]? with
  | some (.cells g' _ _ _) => g == g'
  | _ => false

def bnd (v : Option AVal) (dflt : Nat) : Option Int :=
  match v with
  | none => some (dflt : Int)
  | some (.int _ n) => some n
  | some _ => none

def SOp.val (env : Env) (H : AHeap) : SOp → Option AVal
  | .move x => some (x.ev env)
  | .pick c a b => match c.ev env with
    | .bool true => some (a.ev env)
    | .bool false => some (b.ev env)
    | _ => none
  | .load1 x => match x.ev env with
    | .ptr r g o => aload H r g o
    | _ => none
  | .loadN n x => match x.ev env with
    | .ptr r g o => (aloads H r g o n).map .agg
    | _ => none
  | .nilCheck x => match x.ev env with
    | .ptr r g o => if ageOk H r g = true then some (.ptr r g o) else none
    | _ => none
  | .bin op x y => abin op (x.ev env) (y.ev env)
  | .eqB neg x y => match x.ev env, y.ev env with
    | .bool a, .bool b => some (.bool (if neg then !(a == b) else a == b))
    | _, _ => none
  | .eqNilP neg x y => match x.ev env, y.ev env with
    | .ptr r g _, .nilptr => if ageOk H r g = true then some (.bool neg) else none
    | .nilptr, .nilptr => some (.bool !neg)
    | .ptr r g o, .ptr r' g' o' => if r = r' ∧ g = g' ∧ o = o' ∧ ageOk H r g = true then some (.bool !neg) else none
    | _, _ => none
  | .eqS neg offs x y => match x.ev env, y.ev env with
    | .agg a, .agg b => (fieldsEq a b offs).map fun r => .bool (if neg then !r else r)
    | _, _ => none
  | .un op x => aunary op (x.ev env)
  | .convI k x => match x.ev env with
    | .int _ n => some (.int k (k.wrap n))
    | _ => none
  | .convS x => match x.ev env with
    | .str s => some (.str s)
    | _ => none
  | .convBS x => match asrc H 1 (x.ev env) with
    | some (cs, _) => match x.ev env with
      | .str _ => none
      | _ => (toBytes cs).map .str
    | none => none
  | .fieldAddr off x => match x.ev env with
    | .ptr r g o => if ageOk H r g = true then some (.ptr r g (o + off)) else none
    | _ => none
  | .field1 off x => match x.ev env with
    | .agg cs => cs[off]?
    | _ => none
  | .fieldN off n x => match x.ev env with
    | .agg cs => if off + n ≤ cs.length then some (.agg ((cs.drop off).take n)) else none
    | _ => none
  | .idxS z x i => match x.ev env, i.ev env with
    | .slice r g o len z', .int _ n => if ageOk H r g = true ∧ z' = z ∧ 0 ≤ n ∧ n < len then some (.ptr r g (o + n.toNat * z)) else none
    | _, _ => none
  | .idxA m z x i => match x.ev env, i.ev env with
    | .ptr r g o, .int _ n => if ageOk H r g = true ∧ 0 ≤ n ∧ n < m then some (.ptr r g (o + n.toNat * z)) else none
    | _, _ => none
  | .idxStr x i => match x.ev env, i.ev env with
    | .str s, .int _ n => if 0 ≤ n then (s[n.toNat]?).map fun b => .int .u8 b.toNat else none
    | _, _ => none
  | .idxArr m x i => match x.ev env, i.ev env with
    | .agg cs, .int _ n => if 0 ≤ n ∧ n < m then cs[n.toNat]? else none
    | _, _ => none
  | .slice k x lo hi => match k, x.ev env with
    | .str, .str s => match bnd (lo.map (XOpd.ev env)) 0, bnd (hi.map (XOpd.ev env)) s.length with
      | some l, some h => if 0 ≤ l ∧ l ≤ h ∧ h ≤ s.length then some (.str ((s.drop l.toNat).take (h.toNat - l.toNat))) else none
      | _, _ => none
    | .sl _, .nilslice => match bnd (lo.map (XOpd.ev env)) 0, bnd (hi.map (XOpd.ev env)) 0 with
      | some l, some h => if l = 0 ∧ h = 0 then some .nilslice else none
      | _, _ => none
    | .sl _, .eslice => match bnd (lo.map (XOpd.ev env)) 0, bnd (hi.map (XOpd.ev env)) 0 with
      | some l, some h => if l = 0 ∧ h = 0 then some .eslice else none
      | _, _ => none
    | .sl z, .slice r g o len z' => match bnd (lo.map (XOpd.ev env)) 0, bnd (hi.map (XOpd.ev env)) len with
      | some l, some h =>
        if ageOk H r g = true ∧ z' = z ∧ 0 ≤ l ∧ l ≤ h ∧ (h ≤ len ∨ ((aloads H r g o (h.toNat * z)).isSome = true ∧ 0 < z)) then some (.slice r g (o + l.toNat * z) (h.toNat - l.toNat) z) else none
      | _, _ => none
    | .arr n z, .ptr r g o => match bnd (lo.map (XOpd.ev env)) 0, bnd (hi.map (XOpd.ev env)) n with
      | some l, some h => match H[r]? with
        | some (.cells g' _ _ cs) => if g = g' ∧ cs.length = o + n * z ∧ 0 ≤ l ∧ l ≤ h ∧ h ≤ n then some (.slice r g (o + l.toNat * z) (h.toNat - l.toNat) z) else none
        | _ => none
      | _, _ => none
    | _, _ => none
  | .extract x i => match x.ev env with
    | .tuple vs => vs[i]?
    | _ => none
  | .lenS x => match x.ev env with
    | .str s => some (.int .i64 s.length)
    | _ => none
  | .lenSl x => match x.ev env with
    | .nilslice => some (.int .i64 0)
    | .eslice => some (.int .i64 0)
    | .slice r g _ len _ => if ageOk H r g = true then some (.int .i64 len) else none
    | _ => none
  | .lenA n _ => some (.int .i64 n)
  | .max2 x y => match x.ev env, y.ev env with
    | .int k a, .int _ b => some (.int k (if b > a then b else a))
    | _, _ => none
  | .min2 x y => match x.ev env, y.ev env with
    | .int k a, .int _ b => some (.int k (if b < a then b else a))
    | _, _ => none
  | .func f caps => some (.func f (caps.map (XOpd.ev env)))
  | .build zero parts => (afill env zero parts).map .agg
  | .lookup kd zero ok x i => match x.ev env, akey3 kd (i.ev env) with
    | .map r, some l => match H[r]? with
      | some (.map es) => if mkeys kd es = true then some (if ok = true then .tuple [(mget kd l es).getD zero, .bool (mget kd l es).isSome] else (mget kd l es).getD zero) else none
      | _ => none
    | _, _ => none
  | .eqNilS neg x y => match x.ev env, y.ev env with
    | .slice r g _ _ _, .nilslice => if ageOk H r g = true then some (.bool neg) else none
    | .eslice, .nilslice => some (.bool neg)
    | .nilslice, .nilslice => some (.bool !neg)
    | _, _ => none
  | .toUns x => match x.ev env with
    | .nilptr => some .nilptr
    | .ptr r g o => match H[r]? with
      | some (.cells g' _ _ cs) => if g = g' ∧ o < cs.length then some (.ptr r g o) else none
      | _ => none
    | _ => none
  | .fromUns u n x => match x.ev env with
    | .nilptr => some .nilptr
    | .ptr r g o => match H[r]? with
      | some (.cells g' ro ety cs) => if g = g' ∧ o = 0 ∧ ro = false ∧ ety = u ∧ n ≤ cs.length then some (.ptr r g 0) else none
      | _ => none
    | _ => none
  | .sliceData x => match x.ev env with
    | .nilslice => some .nilptr
    | .slice r g o len _ => if ageOk H r g = true ∧ 0 < len then some (.ptr r g o) else none
    | _ => none
  | .slice3 z x lo hi mx => match x.ev env with
    | .nilslice => match bnd (lo.map (XOpd.ev env)) 0, bnd (some (hi.ev env)) 0, bnd (some (mx.ev env)) 0 with
      | some l, some h, some m => if l = 0 ∧ h = 0 ∧ m = 0 then some .nilslice else none
      | _, _, _ => none
    | .slice r g _ len z' => match bnd (lo.map (XOpd.ev env)) 0, bnd (some (hi.ev env)) 0, bnd (some (mx.ev env)) 0 with
      | some l, some h, some m => if ageOk H r g = true ∧ z' = z ∧ 0 ≤ l ∧ l ≤ h ∧ h ≤ m ∧ m ≤ len then some (if l = 0 ∧ m = 0 then .eslice else .undef) else none
      | _, _, _ => none
    | _ => none

/-- The blocks that an operation reads. -/
def SOp.reads (env : Env) : SOp → List Nat
  | .load1 x => match x.ev env with
    | .ptr r _ _ => [r]
    | _ => []
  | .loadN _ x => match x.ev env with
    | .ptr r _ _ => [r]
    | _ => []
  | .convBS x => match x.ev env with
    | .slice r _ _ _ _ => [r]
    | _ => []
  | .toUns x | .fromUns _ _ x => match x.ev env with
    | .ptr r _ _ => [r]
    | _ => []
  | .lookup _ _ _ x _ => match x.ev env with
    | .map r => [r]
    | _ => []
  | _ => []

/-- The operation leaves memory alone and yields one value, which v describes, in the world w and in every other one in which the blocks that it reads are as they are in w. -/
def SOk (P : Program) (ι : Inj) (w : World) (rd : List Nat) (s : Sem Next) (v : AVal) : Prop :=
  ∃ y, (∀ w', (∀ r ∈ rd, ∀ g win, ι r = some (g, win) → w'.heap[win.blk]? = w.heap[win.blk]?) → s.run P w' = .ok (.value y) w') ∧ VRel ι v y

end Go.Proofs.YtalbjkemcckokaaGreat.Ab

/- The abstract layer, eleventh part: code: what it asks of an abstract state ('vc'), how it is got out of the program's code, and that this is sound. Conditions: none; a library for the texts behind it. -/
import Derived.Test.YtalbjkemcckokaaGreatAj
import Derived.OrdersHeld
namespace Go.Proofs.YtalbjkemcckokaaGreat.Ab
open Go.RowKit (Below)
set_option linter.unusedVariables false
set_option linter.unusedSimpArgs false

inductive XOp where
  | s (o : SOp)
  | e (o : EOp)
  | call (f : FuncId) (args : List XOpd)
  | callv (f : XOpd) (args : List XOpd)

structure XIns where
  dst : Option Nat
  guard : Option (Nat × Bool)
  op : XOp

/-- An operation of a region whose order is open: its number there, and which of the reads taken before it need not come before it. -/
structure DIns where
  ins : XIns
  idx : Nat
  uno : List Nat

inductive XExit where
  | normal
  | exit (id : Nat)
  | ret

/-- A region of which some operations that write may come up in any order: what comes first, and what then. -/
inductive DT where
  | nil
  | cons (d : DIns) (t : DT)
  | alt (a b : DT)

inductive XCode where
  | skip
  | ret
  | exit (id : Nat)
  | seq (x y : XCode)
  | cond (c : XOpd) (x y : XCode)
  | block (id : Nat) (x : XCode)
  | loop (x : XCode)
  | ops (l : List XIns)
  | draw (l : List DIns)
  | drawT (t : DT)
  | bad

def Env.put (env : Env) (d : Option Nat) (v : AVal) : Env :=
  match d with
  | some d => fun t => if t = d then v else env t
  | none => env

abbrev Trans := FuncId → List AVal → AHeap → (Nat → Prop) → (AVal → AHeap → Prop) → Prop

/-- What an operation asks: 'Wr' tells the blocks that may be written. -/
def XOp.vc (Φ : Trans) (Wr : Nat → Prop) (env : Env) (H : AHeap) (K : AVal → AHeap → Prop) : XOp → Prop
  | .s o => ∃ v, o.val env H = some v ∧ K v H
  | .e o => ∃ v H', o.val env H = some (v, H') ∧ (∀ r, o.target env r → Wr r) ∧ K v H'
  | .call f args => Φ f (args.map (XOpd.ev env)) H Wr K
  | .callv f args => match f.ev env with
    | .func g caps => Φ g (args.map (XOpd.ev env) ++ caps) H Wr K
    | _ => False

/-- A guarded operation: 'run' where the guard says so, else 'skip'. -/
def guarded (env : Env) (g : Option (Nat × Bool)) (run skip : Prop) : Prop :=
  match g with
  | none => run
  | some (t, want) => match env t with
    | .bool b => (b = want → run) ∧ (b ≠ want → skip)
    | .tuple [] => skip
    | _ => False

def vcOps (Φ : Trans) (Wr : Nat → Prop) : List XIns → (Env → AHeap → Prop) → Env → AHeap → Prop
  | [], K, env, H => K env H
  | i :: rest, K, env, H => guarded env i.guard (i.op.vc Φ Wr env H fun v H' => vcOps Φ Wr rest K (env.put i.dst v) H') (vcOps Φ Wr rest K (env.put i.dst (.tuple [])) H)

/-- The same where the order is open: no operation may write what a read that need not come before it has read. -/
def vcD (Φ : Trans) (Wr : Nat → Prop) : List DIns → List (Nat × List Nat) → (Env → AHeap → Prop) → Env → AHeap → Prop
  | [], _, K, env, H => K env H
  | d :: rest, B, K, env, H =>
    match d.ins.op with
    | .s o => guarded env d.ins.guard (∃ v, o.val env H = some v ∧ vcD Φ Wr rest ((d.idx, o.reads env) :: B) K (env.put d.ins.dst v) H) (vcD Φ Wr rest B K (env.put d.ins.dst (.tuple [])) H)
    | op => guarded env d.ins.guard (op.vc Φ (fun r => Wr r ∧ ∀ p ∈ B, d.uno.contains p.1 = true → r ∉ p.2) env H fun v H' => vcD Φ Wr rest (B.filter fun p => d.uno.contains p.1) K (env.put d.ins.dst v) H')
        (vcD Φ Wr rest (B.filter fun p => d.uno.contains p.1) K (env.put d.ins.dst (.tuple [])) H)

/-- The same, for each order. -/
def vcT (Φ : Trans) (Wr : Nat → Prop) : DT → List (Nat × List Nat) → (Env → AHeap → Prop) → Env → AHeap → Prop
  | .nil, _, K, env, H => K env H
  | .alt a b, B, K, env, H => vcT Φ Wr a B K env H ∧ vcT Φ Wr b B K env H
  | .cons d rest, B, K, env, H =>
    match d.ins.op with
    | .s o => guarded env d.ins.guard (∃ v, o.val env H = some v ∧ vcT Φ Wr rest ((d.idx, o.reads env) :: B) K (env.put d.ins.dst v) H) (vcT Φ Wr rest B K (env.put d.ins.dst (.tuple [])) H)
    | op => guarded env d.ins.guard (op.vc Φ (fun r => Wr r ∧ ∀ p ∈ B, d.uno.contains p.1 = true → r ∉ p.2) env H fun v H' => vcT Φ Wr rest (B.filter fun p => d.uno.contains p.1) K (env.put d.ins.dst v) H')
        (vcT Φ Wr rest (B.filter fun p => d.uno.contains p.1) K (env.put d.ins.dst (.tuple [])) H)

def XExit.then (Q : XExit → Env → AHeap → Prop) (K : Env → AHeap → Prop) : XExit → Env → AHeap → Prop
  | .normal => K
  | e => Q e
def XExit.blk (Q : XExit → Env → AHeap → Prop) (id : Nat) : XExit → Env → AHeap → Prop
  | .exit id' => if id' = id then Q .normal else Q (.exit id')
  | e => Q e

def vc (Φ : Trans) (Wr : Nat → Prop) : XCode → (XExit → Env → AHeap → Prop) → Env → AHeap → Prop
  | .skip, Q, env, H => Q .normal env H
  | .ret, Q, env, H => Q .ret env H
  | .exit id, Q, env, H => Q (.exit id) env H
  | .seq x y, Q, env, H => vc Φ Wr x (XExit.then Q (vc Φ Wr y Q)) env H
  | .cond c x y, Q, env, H => match c.ev env with
    | .bool b => (b = true → vc Φ Wr x Q env H) ∧ (b = false → vc Φ Wr y Q env H)
    | _ => False
  | .block id x, Q, env, H => vc Φ Wr x (XExit.blk Q id) env H
  | .loop x, Q, env, H => ∃ (I : Nat → Env → AHeap → Prop) (n : Nat), I n env H ∧
      ∀ n env H, I n env H → vc Φ Wr x (XExit.then Q fun env' H' => ∃ n', n' < n ∧ I n' env' H') env H
  | .ops l, Q, env, H => vcOps Φ Wr l (Q .normal) env H
  | .draw l, Q, env, H => vcD Φ Wr l [] (Q .normal) env H
  | .drawT t, Q, env, H => vcT Φ Wr t [] (Q .normal) env H
  | .bad, _, _, _ => False

/-- A call: what it comes to over every world that the abstract heap describes; of the blocks that were there it writes into those of 'fp' alone. -/
def ACall (P : Program) : Trans := fun f args H fp R =>
  ∀ (W0 : World) (ι : Inj) (w : World) (vs : List Value), Rel W0 ι H w → VRels ι args vs → ∀ (o : Oper) (a : Act) (next : Act → World → Prop) (Q : Exit → Act → World → Prop),
    (∀ v y ι' H' w', R v H' → Step W0 fp ι H w ι' H' w' → Rel W0 ι' H' w' → VRel ι' v y → next (a.put o.dst y) w') → o.upon P a next Q ((callFunc f vs.toArray).run P w)

/-- A contract, used: it may write less, and what it leaves alone is known. -/
theorem ACall.use {P : Program} {f : FuncId} {args : List AVal} {H : AHeap} {fp fp' : Nat → Prop} {R R' : AVal → AHeap → Prop} (h : ACall P f args H fp R) (hfp : ∀ r, fp r → fp' r ∨ H.length ≤ r)
    (hr : ∀ v H', R v H' → H.length ≤ H'.length → (∀ r, r < H.length → ¬ fp r → H'[r]? = H[r]?) → R' v H') : ACall P f args H fp' R' :=
  fun W0 ι w vs hR hv o a next Q hn => h W0 ι w vs hR hv o a next Q fun v y ι' H' w' hq hs => hn v y ι' H' w' (hr _ _ hq hs.len hs.abs) (hs.mono hfp hR)

theorem ACall.mono {P : Program} {f : FuncId} {args : List AVal} {H : AHeap} {fp : Nat → Prop} {R R' : AVal → AHeap → Prop} (h : ACall P f args H fp R) (hr : ∀ v H', R v H' → R' v H') : ACall P f args H fp R' :=
  h.use (fun _ h => .inl h) fun v H' q _ _ => hr v H' q

/-! ### Getting it out of the program -/

def xop (P : Program) (o : Oper) : Option XOp :=
  match sop P o.op with
  | some s => some (.s s)
  | none => match eop P o.op with
    | some e => some (.e e)
    | none => match o.op with
      | .call { callee := .value (.func f), args, .. } => (opts args.toList).map (.call f)
      | .call { callee := .value (.tmp t), args, .. } => (opts args.toList).map (.callv (.t t))
      | _ => none

def xins (P : Program) (n : Nat) (ops : Array Oper) (o : Oper) : Option XIns :=
  if o.dst.all (fun d => decide (d < n)) = true then
    match xop P o, o.guard with
    | some x, none => some ⟨o.dst, none, x⟩
    | some x, some (j, want) => match (ops[j]?).bind (·.dst) with
      | some t => some ⟨o.dst, some (t, want), x⟩
      | none => none
    | none, _ => none
  else none

def xinss (P : Program) (n : Nat) (ops : Array Oper) : List Oper → Option (List XIns)
  | [] => some []
  | o :: l => match xins P n ops o, xinss P n ops l with
    | some x, some xs => some (x :: xs)
    | _, _ => none

def XIns.quiet (i : XIns) : Bool :=
  match i.op with
  | .s _ => true
  | _ => false

/-- The operations that wait for number i, one behind another. -/
def aftGo (ops : Array Oper) (i : Nat) : Nat → List Nat
  | 0 => []
  | j + 1 => match ops[j]? with
    | some o => if (o.after.any fun e => Region.binds .any e && (e.on == i || (aftGo ops i j).contains e.on)) = true then j :: aftGo ops i j else aftGo ops i j
    | none => aftGo ops i j
def aft (ops : Array Oper) (i : Nat) : List Nat := aftGo ops i ops.size

def okStill (ops : Array Oper) (listed : Array Bool) (i : Nat) : Bool :=
  Region.free .any ops listed i && (List.range listed.size).all fun m => !listed.getD m false || !(aft ops i).contains m

/-- One order for all: what is quiet as early as it may come; what writes alone, when nothing else may come up. -/
def canon (ops : Array Oper) (xs : List XIns) : Nat → Array Bool → List Nat → Option (List DIns)
  | 0, listed, _ => if Region.ready .any ops listed = [] then some [] else none
  | f + 1, listed, prev =>
    match (Region.ready .any ops listed).find? (fun i => (xs[i]?).any XIns.quiet && okStill ops listed i) with
    | some i => match xs[i]?, canon ops xs f (listed.setIfInBounds i true) (i :: prev) with
      | some x, some ds => some (⟨x, i, []⟩ :: ds)
      | _, _ => none
    | none => match Region.ready .any ops listed with
      | [] => some []
      | [j] => match xs[j]?, canon ops xs f (listed.setIfInBounds j true) prev with
        | some x, some ds => if x.quiet = false then some (⟨x, j, prev.filter fun i => !(aft ops i).contains j⟩ :: ds) else none
        | _, _ => none
      | _ => none

def altOf : List (Option DT) → Option DT
  | [] => some .nil
  | [a] => a
  | a :: b :: l => match a, altOf (b :: l) with
    | some x, some y => some (.alt x y)
    | _, _ => none

/-- Each order of what writes; what is quiet as early as it may come. -/
def canonT (ops : Array Oper) (xs : List XIns) : Nat → Array Bool → List Nat → Option DT
  | 0, listed, _ => if Region.ready .any ops listed = [] then some .nil else none
  | f + 1, listed, prev =>
    match (Region.ready .any ops listed).find? (fun i => (xs[i]?).any XIns.quiet && okStill ops listed i) with
    | some i => match xs[i]?, canonT ops xs f (listed.setIfInBounds i true) (i :: prev) with
      | some x, some ds => some (.cons ⟨x, i, []⟩ ds)
      | _, _ => none
    | none => altOf ((Region.ready .any ops listed).map fun j => match xs[j]?, canonT ops xs f (listed.setIfInBounds j true) prev with
        | some x, some ds => if x.quiet = false then some (.cons ⟨x, j, prev.filter fun i => !(aft ops i).contains j⟩ ds) else none
        | _, _ => none)

def xdrawn (ops : Array Oper) (xs : List XIns) : Option XCode := match canon ops xs ops.size (Array.replicate ops.size false) [] with
  | some ds => some (.draw ds)
  | none => (canonT ops xs ops.size (Array.replicate ops.size false) []).map .drawT

def xregion (P : Program) (n : Nat) (ops : Array Oper) : Bool → Option XCode
  | false => (xinss P n ops ops.toList).map .ops
  | true => match xinss P n ops ops.toList with
    | some xs => if Region.noSelect ops = true then xdrawn ops xs else none
    | none => none

/-- The code; 'bad' stands for what this layer does not take: it is to be shown that it is not come to. -/
def xcode (P : Program) (n : Nat) : Code → Option XCode
  | .skip => some .skip
  | .ret => some .ret
  | .exit id => some (.exit id)
  | .seq x y => match xcode P n x, xcode P n y with
    | some x, some y => some (.seq x y)
    | _, _ => none
  | .cond c x y => match xopd c, xcode P n x, xcode P n y with
    | some c, some x, some y => some (.cond c x y)
    | none, _, _ => some .bad
    | _, _, _ => none
  | .block id x => (xcode P n x).map (.block id)
  | .loop x => (xcode P n x).map .loop
  | .region _ ops draw => some ((xregion P n ops draw).getD .bad)
  | _ => some .bad

end Go.Proofs.YtalbjkemcckokaaGreat.Ab

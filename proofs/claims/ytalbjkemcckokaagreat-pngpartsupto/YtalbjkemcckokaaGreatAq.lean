/- The abstract layer: how a code is gone through by simp. Conditions: none; a library for the texts behind it. -/
import Derived.Test.YtalbjkemcckokaaGreatAp
import Derived.IntWalk
namespace Go.Proofs.YtalbjkemcckokaaGreat.Ab
open Go.RowKit (Below)
set_option linter.unusedVariables false
set_option linter.unusedSimpArgs false

section
variable {Φ : Trans} {Wr : Nat → Prop} {Q : XExit → Env → AHeap → Prop} {K : Env → AHeap → Prop} {env : Env} {H : AHeap}

@[simp ↓] theorem vc_skip : vc Φ Wr .skip Q env H = Q .normal env H := rfl
@[simp ↓] theorem vc_ret : vc Φ Wr .ret Q env H = Q .ret env H := rfl
@[simp ↓] theorem vc_exit {id : Nat} : vc Φ Wr (.exit id) Q env H = Q (.exit id) env H := rfl
@[simp ↓] theorem vc_seq {x y : XCode} : vc Φ Wr (.seq x y) Q env H = vc Φ Wr x (XExit.then Q (vc Φ Wr y Q)) env H := rfl
@[simp ↓] theorem vc_block {id : Nat} {x : XCode} : vc Φ Wr (.block id x) Q env H = vc Φ Wr x (XExit.blk Q id) env H := rfl
@[simp ↓] theorem vc_ops {l : List XIns} : vc Φ Wr (.ops l) Q env H = vcOps Φ Wr l (Q .normal) env H := rfl
@[simp ↓] theorem vc_draw {l : List DIns} : vc Φ Wr (.draw l) Q env H = vcD Φ Wr l [] (Q .normal) env H := rfl

def cd (v : AVal) (a b : Prop) : Prop := match v with
  | .bool c => (c = true → a) ∧ (c = false → b)
  | _ => False
@[congr] theorem cd_congr {v v' : AVal} {a b : Prop} (h : v = v') : cd v a b = cd v' a b := by rw [h]
@[simp high] theorem cd_true {a b : Prop} : cd (.bool true) a b = a := by simp [cd]
@[simp high] theorem cd_false {a b : Prop} : cd (.bool false) a b = b := by simp [cd]
@[simp low] theorem cd_bool {c : Bool} {a b : Prop} : cd (.bool c) a b = ((c = true → a) ∧ (c = false → b)) := rfl
@[simp ↓] theorem vc_cond {c : XOpd} {x y : XCode} : vc Φ Wr (.cond c x y) Q env H = cd (c.ev env) (vc Φ Wr x Q env H) (vc Φ Wr y Q env H) := by
  simp only [vc]; generalize XOpd.ev env c = u; cases u <;> rfl

@[simp ↓] theorem then_normal : XExit.then Q K .normal = K := rfl
@[simp ↓] theorem then_ret : XExit.then Q K .ret = Q .ret := rfl
@[simp ↓] theorem then_exit {id : Nat} : XExit.then Q K (.exit id) = Q (.exit id) := rfl
@[simp ↓] theorem blk_normal {id : Nat} : XExit.blk Q id .normal = Q .normal := rfl
@[simp ↓] theorem blk_ret {id : Nat} : XExit.blk Q id .ret = Q .ret := rfl
@[simp ↓] theorem blk_exit {id id' : Nat} : XExit.blk Q id (.exit id') = if id' = id then Q .normal else Q (.exit id') := rfl

def gd (v : AVal) (w : Bool) (a b : Prop) : Prop := match v with
  | .bool c => (c = w → a) ∧ (c ≠ w → b)
  | .tuple [] => b
  | _ => False
@[congr] theorem gd_congr {v v' : AVal} {w : Bool} {a b : Prop} (h : v = v') : gd v w a b = gd v' w a b := by rw [h]
@[simp high] theorem gd_tt {a b : Prop} : gd (.bool true) true a b = a := by simp [gd]
@[simp high] theorem gd_ff {a b : Prop} : gd (.bool false) false a b = a := by simp [gd]
@[simp high] theorem gd_tf {a b : Prop} : gd (.bool true) false a b = b := by simp [gd]
@[simp high] theorem gd_ft {a b : Prop} : gd (.bool false) true a b = b := by simp [gd]
@[simp low] theorem gd_bool {c w : Bool} {a b : Prop} : gd (.bool c) w a b = ((c = w → a) ∧ (c ≠ w → b)) := rfl
@[simp] theorem gd_skip {w : Bool} {a b : Prop} : gd (.tuple []) w a b = b := rfl
@[simp ↓] theorem guarded_none {a b : Prop} : guarded env none a b = a := rfl
@[simp ↓] theorem guarded_some {t : Nat} {w : Bool} {a b : Prop} : guarded env (some (t, w)) a b = gd (env t) w a b := by
  simp only [guarded]; generalize env t = u; cases u <;> first | rfl | (rename_i l; cases l <;> rfl)

@[simp ↓] theorem vcOps_nil : vcOps Φ Wr [] K env H = K env H := rfl
/-- One operation, and the rest behind it. -/
def opK (Φ : Trans) (Wr : Nat → Prop) (o : XOp) (d : Option Nat) (l : List XIns) (K : Env → AHeap → Prop) (env : Env) (H : AHeap) : Prop := o.vc Φ Wr env H fun v H' => vcOps Φ Wr l K (env.put d v) H'
@[simp ↓] theorem vcOps_cons {d : Option Nat} {g : Option (Nat × Bool)} {o : XOp} {l : List XIns} : vcOps Φ Wr (⟨d, g, o⟩ :: l) K env H = guarded env g (opK Φ Wr o d l K env H) (vcOps Φ Wr l K (env.put d (.tuple [])) H) := rfl
def s1 (Φ : Trans) (Wr : Nat → Prop) (ov : Option AVal) (d : Option Nat) (l : List XIns) (K : Env → AHeap → Prop) (env : Env) (H : AHeap) : Prop := ∃ v, ov = some v ∧ vcOps Φ Wr l K (env.put d v) H
@[simp ↓] theorem opK_s {o : SOp} {d : Option Nat} {l : List XIns} : opK Φ Wr (.s o) d l K env H = s1 Φ Wr (o.val env H) d l K env H := rfl
@[congr] theorem s1_congr {ov ov' : Option AVal} {d : Option Nat} {l : List XIns} (h : ov = ov') : s1 Φ Wr ov d l K env H = s1 Φ Wr ov' d l K env H := by rw [h]
@[simp low] theorem s1_some {v : AVal} {d : Option Nat} {l : List XIns} : s1 Φ Wr (some v) d l K env H = vcOps Φ Wr l K (env.put d v) H := by simp only [s1, Option.some.injEq, exists_eq_left']
@[simp high] theorem s1_dec {p : Prop} [Decidable p] {d : Option Nat} {l : List XIns} : s1 Φ Wr (some (.bool (decide p))) d l K env H = ((p → vcOps Φ Wr l K (env.put d (.bool true)) H) ∧ (¬ p → vcOps Φ Wr l K (env.put d (.bool false)) H)) := by
  by_cases h : p <;> simp only [s1, h, decide_true, decide_false, Option.some.injEq, exists_eq_left', forall_const, not_true_eq_false, not_false_eq_true, false_implies, and_true, true_and]
def e1 (Φ : Trans) (Wr : Nat → Prop) (ov : Option (AVal × AHeap)) (o : EOp) (d : Option Nat) (l : List XIns) (K : Env → AHeap → Prop) (env : Env) : Prop := ∃ v H', ov = some (v, H') ∧ (∀ r, o.target env r → Wr r) ∧ vcOps Φ Wr l K (env.put d v) H'
@[simp ↓] theorem opK_e {o : EOp} {d : Option Nat} {l : List XIns} : opK Φ Wr (.e o) d l K env H = e1 Φ Wr (o.val env H) o d l K env := rfl
@[congr] theorem e1_congr {ov ov' : Option (AVal × AHeap)} {o : EOp} {d : Option Nat} {l : List XIns} (h : ov = ov') : e1 Φ Wr ov o d l K env = e1 Φ Wr ov' o d l K env := by rw [h]
@[simp] theorem e1_some {v : AVal} {H' : AHeap} {o : EOp} {d : Option Nat} {l : List XIns} : e1 Φ Wr (some (v, H')) o d l K env = ((∀ r, o.target env r → Wr r) ∧ vcOps Φ Wr l K (env.put d v) H') := by
  apply propext; constructor
  · rintro ⟨_, _, e, h⟩; cases e; exact h
  · intro h; exact ⟨_, _, rfl, h⟩
def call1 (Φ : Trans) (Wr : Nat → Prop) (f : FuncId) (args : List AVal) (d : Option Nat) (l : List XIns) (K : Env → AHeap → Prop) (env : Env) (H : AHeap) : Prop := Φ f args H Wr fun v H' => vcOps Φ Wr l K (env.put d v) H'
@[simp ↓] theorem opK_call {f : FuncId} {args : List XOpd} {d : Option Nat} {l : List XIns} : opK Φ Wr (.call f args) d l K env H = call1 Φ Wr f (args.map (XOpd.ev env)) d l K env H := rfl
@[congr] theorem call1_congr {f : FuncId} {args args' : List AVal} {d : Option Nat} {l : List XIns} (h : args = args') : call1 Φ Wr f args d l K env H = call1 Φ Wr f args' d l K env H := by rw [h]
def callv1 (Φ : Trans) (Wr : Nat → Prop) (f : AVal) (args : List AVal) (d : Option Nat) (l : List XIns) (K : Env → AHeap → Prop) (env : Env) (H : AHeap) : Prop := match f with
  | .func g caps => Φ g (args ++ caps) H Wr fun v H' => vcOps Φ Wr l K (env.put d v) H'
  | _ => False
@[simp ↓] theorem opK_callv {f : XOpd} {args : List XOpd} {d : Option Nat} {l : List XIns} : opK Φ Wr (.callv f args) d l K env H = callv1 Φ Wr (f.ev env) (args.map (XOpd.ev env)) d l K env H := by
  simp only [opK, XOp.vc, callv1]; generalize XOpd.ev env f = u; cases u <;> rfl
@[congr] theorem callv1_congr {f f' : AVal} {args args' : List AVal} {d : Option Nat} {l : List XIns} (h : args = args') (h2 : f = f') : callv1 Φ Wr f args d l K env H = callv1 Φ Wr f' args' d l K env H := by rw [h, h2]
@[simp] theorem callv1_func {g : FuncId} {caps args : List AVal} {d : Option Nat} {l : List XIns} : callv1 Φ Wr (.func g caps) args d l K env H = call1 Φ Wr g (args ++ caps) d l K env H := rfl
/-- A call's contract, used where the code stands. -/
theorem call1_of {P : Program} {f : FuncId} {args : List AVal} {d : Option Nat} {l : List XIns} {fp : Nat → Prop} {R : AVal → AHeap → Prop} (h : ACall P f args H fp R) (hfp : ∀ r, fp r → Wr r ∨ H.length ≤ r)
    (hk : ∀ v H', R v H' → H.length ≤ H'.length → (∀ r, r < H.length → ¬ fp r → H'[r]? = H[r]?) → vcOps (ACall P) Wr l K (env.put d v) H') : call1 (ACall P) Wr f args d l K env H := h.use hfp hk
theorem call1_eq {P : Program} {f : FuncId} {args : List AVal} {d : Option Nat} {l : List XIns} {v : AVal} {H' : AHeap} (h : ACall P f args H Wr fun v2 H2 => v2 = v ∧ H2 = H')
    (hk : vcOps (ACall P) Wr l K (env.put d v) H') : call1 (ACall P) Wr f args d l K env H := h.mono fun v2 H2 q => by rw [q.1, q.2]; exact hk
@[simp ↓] theorem vcD_nil {B : List (Nat × List Nat)} : vcD Φ Wr [] B K env H = K env H := rfl
/-- A value that is there, and goes on. -/
def ok1 (o : Option AVal) (k : AVal → Prop) : Prop := ∃ v, o = some v ∧ k v
@[congr] theorem ok1_congr {v v' : Option AVal} {k : AVal → Prop} (h : v = v') : ok1 v k = ok1 v' k := by rw [h]
@[simp low] theorem ok1_some {v : AVal} {k : AVal → Prop} : ok1 (some v) k = k v := by simp [ok1]
@[simp high] theorem ok1_dec {p : Prop} [Decidable p] {k : AVal → Prop} : ok1 (some (.bool (decide p))) k = ((p → k (.bool true)) ∧ (¬ p → k (.bool false))) := by
  by_cases h : p <;> simp [ok1, h]
def ok2 (o : Option (AVal × AHeap)) (k : AVal → AHeap → Prop) : Prop := ∃ v H', o = some (v, H') ∧ k v H'
@[congr] theorem ok2_congr {v v' : Option (AVal × AHeap)} {k : AVal → AHeap → Prop} (h : v = v') : ok2 v k = ok2 v' k := by rw [h]
@[simp] theorem ok2_some {v : AVal} {H' : AHeap} {k : AVal → AHeap → Prop} : ok2 (some (v, H')) k = k v H' := by
  apply propext; constructor
  · rintro ⟨_, _, e, h⟩; cases e; exact h
  · intro h; exact ⟨_, _, rfl, h⟩
@[simp ↓] theorem put_none {v : AVal} : env.put none v = env := rfl
@[simp ↓] theorem put_some {d t : Nat} {v : AVal} : env.put (some d) v t = if t = d then v else env t := rfl
@[simp ↓] theorem ev_t {i : Nat} : (XOpd.t i).ev env = env i := rfl
@[simp ↓] theorem ev_c {v : AVal} : (XOpd.c v).ev env = v := rfl
@[simp] theorem entry_zero {a : AVal} {l : List AVal} : entry (a :: l) 0 = a := rfl
theorem entry_succ {a : AVal} {l : List AVal} {n : Nat} : entry (a :: l) (n + 1) = entry l n := rfl
@[simp] theorem entry_nil {n : Nat} : entry [] n = .tuple [] := rfl

def ds1 (Φ : Trans) (Wr : Nat → Prop) (ov : Option AVal) (i : Nat) (rd : List Nat) (d : Option Nat) (l : List DIns) (B : List (Nat × List Nat)) (K : Env → AHeap → Prop) (env : Env) (H : AHeap) : Prop := ∃ v, ov = some v ∧ vcD Φ Wr l ((i, rd) :: B) K (env.put d v) H
@[simp ↓] theorem vcD_s {d : Option Nat} {g : Option (Nat × Bool)} {o : SOp} {i : Nat} {u : List Nat} {l : List DIns} {B : List (Nat × List Nat)} : vcD Φ Wr (⟨⟨d, g, .s o⟩, i, u⟩ :: l) B K env H =
    guarded env g (ds1 Φ Wr (o.val env H) i (o.reads env) d l B K env H) (vcD Φ Wr l B K (env.put d (.tuple [])) H) := rfl
@[congr] theorem ds1_congr {ov ov' : Option AVal} {i : Nat} {rd : List Nat} {d : Option Nat} {l : List DIns} {B : List (Nat × List Nat)} (h : ov = ov') : ds1 Φ Wr ov i rd d l B K env H = ds1 Φ Wr ov' i rd d l B K env H := by rw [h]
@[simp low] theorem ds1_some {v : AVal} {i : Nat} {rd : List Nat} {d : Option Nat} {l : List DIns} {B : List (Nat × List Nat)} : ds1 Φ Wr (some v) i rd d l B K env H = vcD Φ Wr l ((i, rd) :: B) K (env.put d v) H := by simp only [ds1, Option.some.injEq, exists_eq_left']
@[simp high] theorem ds1_dec {p : Prop} [Decidable p] {i : Nat} {rd : List Nat} {d : Option Nat} {l : List DIns} {B : List (Nat × List Nat)} : ds1 Φ Wr (some (.bool (decide p))) i rd d l B K env H =
    ((p → vcD Φ Wr l ((i, rd) :: B) K (env.put d (.bool true)) H) ∧ (¬ p → vcD Φ Wr l ((i, rd) :: B) K (env.put d (.bool false)) H)) := by
  by_cases h : p <;> simp only [ds1, h, decide_true, decide_false, Option.some.injEq, exists_eq_left', forall_const, not_true_eq_false, not_false_eq_true, false_implies, and_true, true_and]
def unoOk (Wr : Nat → Prop) (u : List Nat) (B : List (Nat × List Nat)) (r : Nat) : Prop := Wr r ∧ ∀ p ∈ B, u.contains p.1 = true → r ∉ p.2
@[simp] theorem unoOk_nil {B : List (Nat × List Nat)} {r : Nat} : unoOk Wr [] B r = Wr r := by simp [unoOk]
def de1 (Φ : Trans) (Wr : Nat → Prop) (ov : Option (AVal × AHeap)) (o : EOp) (u : List Nat) (d : Option Nat) (l : List DIns) (B : List (Nat × List Nat)) (K : Env → AHeap → Prop) (env : Env) : Prop :=
  ∃ v H', ov = some (v, H') ∧ (∀ r, o.target env r → unoOk Wr u B r) ∧ vcD Φ Wr l (B.filter fun p => u.contains p.1) K (env.put d v) H'
@[simp ↓] theorem vcD_e {d : Option Nat} {g : Option (Nat × Bool)} {o : EOp} {i : Nat} {u : List Nat} {l : List DIns} {B : List (Nat × List Nat)} : vcD Φ Wr (⟨⟨d, g, .e o⟩, i, u⟩ :: l) B K env H =
    guarded env g (de1 Φ Wr (o.val env H) o u d l B K env) (vcD Φ Wr l (B.filter fun p => u.contains p.1) K (env.put d (.tuple [])) H) := rfl
@[congr] theorem de1_congr {ov ov' : Option (AVal × AHeap)} {o : EOp} {u : List Nat} {d : Option Nat} {l : List DIns} {B : List (Nat × List Nat)} (h : ov = ov') : de1 Φ Wr ov o u d l B K env = de1 Φ Wr ov' o u d l B K env := by rw [h]
@[simp] theorem de1_some {v : AVal} {H' : AHeap} {o : EOp} {u : List Nat} {d : Option Nat} {l : List DIns} {B : List (Nat × List Nat)} : de1 Φ Wr (some (v, H')) o u d l B K env =
    ((∀ r, o.target env r → unoOk Wr u B r) ∧ vcD Φ Wr l (B.filter fun p => u.contains p.1) K (env.put d v) H') := by
  apply propext; constructor
  · rintro ⟨_, _, e, h⟩; cases e; exact h
  · intro h; exact ⟨_, _, rfl, h⟩
def dcall1 (Φ : Trans) (Wr : Nat → Prop) (f : FuncId) (args : List AVal) (u : List Nat) (d : Option Nat) (l : List DIns) (B : List (Nat × List Nat)) (K : Env → AHeap → Prop) (env : Env) (H : AHeap) : Prop :=
  Φ f args H (unoOk Wr u B) fun v H' => vcD Φ Wr l (B.filter fun p => u.contains p.1) K (env.put d v) H'
@[simp ↓] theorem vcD_call {d : Option Nat} {g : Option (Nat × Bool)} {f : FuncId} {args : List XOpd} {i : Nat} {u : List Nat} {l : List DIns} {B : List (Nat × List Nat)} : vcD Φ Wr (⟨⟨d, g, .call f args⟩, i, u⟩ :: l) B K env H =
    guarded env g (dcall1 Φ Wr f (args.map (XOpd.ev env)) u d l B K env H) (vcD Φ Wr l (B.filter fun p => u.contains p.1) K (env.put d (.tuple [])) H) := rfl
@[congr] theorem dcall1_congr {f : FuncId} {args args' : List AVal} {u : List Nat} {d : Option Nat} {l : List DIns} {B : List (Nat × List Nat)} (h : args = args') : dcall1 Φ Wr f args u d l B K env H = dcall1 Φ Wr f args' u d l B K env H := by rw [h]
theorem dcall1_of {P : Program} {f : FuncId} {args : List AVal} {u : List Nat} {d : Option Nat} {l : List DIns} {B : List (Nat × List Nat)} {fp : Nat → Prop} {R : AVal → AHeap → Prop} (h : ACall P f args H fp R) (hfp : ∀ r, fp r → unoOk Wr u B r ∨ H.length ≤ r)
    (hk : ∀ v H', R v H' → H.length ≤ H'.length → (∀ r, r < H.length → ¬ fp r → H'[r]? = H[r]?) → vcD (ACall P) Wr l (B.filter fun p => u.contains p.1) K (env.put d v) H') : dcall1 (ACall P) Wr f args u d l B K env H := h.use hfp hk
theorem dcall1_eq {P : Program} {f : FuncId} {args : List AVal} {u : List Nat} {d : Option Nat} {l : List DIns} {B : List (Nat × List Nat)} {v : AVal} {H' : AHeap} (h : ACall P f args H (unoOk Wr u B) fun v2 H2 => v2 = v ∧ H2 = H')
    (hk : vcD (ACall P) Wr l (B.filter fun p => u.contains p.1) K (env.put d v) H') : dcall1 (ACall P) Wr f args u d l B K env H := h.mono fun v2 H2 q => by rw [q.1, q.2]; exact hk

/-! The same where the order of what writes is open. -/
@[simp ↓] theorem vc_drawT {t : DT} : vc Φ Wr (.drawT t) Q env H = vcT Φ Wr t [] (Q .normal) env H := rfl
@[simp ↓] theorem vc_bad : vc Φ Wr .bad Q env H = False := rfl
@[simp ↓] theorem vcT_nil {B : List (Nat × List Nat)} : vcT Φ Wr .nil B K env H = K env H := rfl
@[simp ↓] theorem vcT_alt {a b : DT} {B : List (Nat × List Nat)} : vcT Φ Wr (.alt a b) B K env H = (vcT Φ Wr a B K env H ∧ vcT Φ Wr b B K env H) := rfl
@[congr] theorem vcT_congr {env' : Env} {l : DT} {B : List (Nat × List Nat)} (h : env = env') : vcT Φ Wr l B K env H = vcT Φ Wr l B K env' H := by rw [h]
@[simp ↓] theorem vcT_s {d : Option Nat} {g : Option (Nat × Bool)} {o : SOp} {i : Nat} {u : List Nat} {l : DT} {B : List (Nat × List Nat)} : vcT Φ Wr (.cons ⟨⟨d, g, .s o⟩, i, u⟩ l) B K env H =
    guarded env g (ok1 (o.val env H) fun v => vcT Φ Wr l ((i, o.reads env) :: B) K (env.put d v) H) (vcT Φ Wr l B K (env.put d (.tuple [])) H) := rfl
@[simp ↓] theorem vcT_e {d : Option Nat} {g : Option (Nat × Bool)} {o : EOp} {i : Nat} {u : List Nat} {l : DT} {B : List (Nat × List Nat)} : vcT Φ Wr (.cons ⟨⟨d, g, .e o⟩, i, u⟩ l) B K env H =
    guarded env g (ok2 (o.val env H) fun v H' => (∀ r, o.target env r → unoOk Wr u B r) ∧ vcT Φ Wr l (B.filter fun p => u.contains p.1) K (env.put d v) H') (vcT Φ Wr l (B.filter fun p => u.contains p.1) K (env.put d (.tuple [])) H) := by
  simp only [vcT, XOp.vc, ok2, unoOk]
def tcall1 (Φ : Trans) (Wr : Nat → Prop) (f : FuncId) (args : List AVal) (u : List Nat) (d : Option Nat) (l : DT) (B : List (Nat × List Nat)) (K : Env → AHeap → Prop) (env : Env) (H : AHeap) : Prop :=
  Φ f args H (unoOk Wr u B) fun v H' => vcT Φ Wr l (B.filter fun p => u.contains p.1) K (env.put d v) H'
@[simp ↓] theorem vcT_call {d : Option Nat} {g : Option (Nat × Bool)} {f : FuncId} {args : List XOpd} {i : Nat} {u : List Nat} {l : DT} {B : List (Nat × List Nat)} : vcT Φ Wr (.cons ⟨⟨d, g, .call f args⟩, i, u⟩ l) B K env H =
    guarded env g (tcall1 Φ Wr f (args.map (XOpd.ev env)) u d l B K env H) (vcT Φ Wr l (B.filter fun p => u.contains p.1) K (env.put d (.tuple [])) H) := rfl
@[congr] theorem tcall1_congr {f : FuncId} {args args' : List AVal} {u : List Nat} {d : Option Nat} {l : DT} {B : List (Nat × List Nat)} (h : args = args') : tcall1 Φ Wr f args u d l B K env H = tcall1 Φ Wr f args' u d l B K env H := by rw [h]
theorem tcall1_of {P : Program} {f : FuncId} {args : List AVal} {u : List Nat} {d : Option Nat} {l : DT} {B : List (Nat × List Nat)} {fp : Nat → Prop} {R : AVal → AHeap → Prop} (h : ACall P f args H fp R) (hfp : ∀ r, fp r → unoOk Wr u B r ∨ H.length ≤ r)
    (hk : ∀ v H', R v H' → H.length ≤ H'.length → (∀ r, r < H.length → ¬ fp r → H'[r]? = H[r]?) → vcT (ACall P) Wr l (B.filter fun p => u.contains p.1) K (env.put d v) H') : tcall1 (ACall P) Wr f args u d l B K env H := h.use hfp hk
theorem tcall1_eq {P : Program} {f : FuncId} {args : List AVal} {u : List Nat} {d : Option Nat} {l : DT} {B : List (Nat × List Nat)} {v : AVal} {H' : AHeap} (h : ACall P f args H (unoOk Wr u B) fun v2 H2 => v2 = v ∧ H2 = H')
    (hk : vcT (ACall P) Wr l (B.filter fun p => u.contains p.1) K (env.put d v) H') : tcall1 (ACall P) Wr f args u d l B K env H := h.mono fun v2 H2 q => by rw [q.1, q.2]; exact hk

def AVal.bang : AVal → Option AVal
  | .bool b => some (.bool !b)
  | _ => none
def apick (c a b : AVal) : Option AVal := match c with
  | .bool true => some a
  | .bool false => some b
  | _ => none
@[simp] theorem apick_bool {c : Bool} {a b : AVal} : apick (.bool c) a b = some (if c = true then a else b) := by cases c <;> rfl
def vLen (H : AHeap) : AVal → Option AVal
  | .nilslice => some (.int .i64 0)
  | .eslice => some (.int .i64 0)
  | .slice r g _ len _ => if ageOk H r g = true then some (.int .i64 len) else none
  | _ => none
def vLoad (H : AHeap) : AVal → Option AVal
  | .ptr r g o => aload H r g o
  | _ => none
def vLoads (H : AHeap) (n : Nat) : AVal → Option AVal
  | .ptr r g o => (aloads H r g o n).map .agg
  | _ => none
def vIdx (H : AHeap) (z : Nat) : AVal → AVal → Option AVal
  | .slice r g o len z', .int _ n => if ageOk H r g = true ∧ z' = z ∧ 0 ≤ n ∧ n < len then some (.ptr r g (o + n.toNat * z)) else none
  | _, _ => none
def vField (H : AHeap) (off : Nat) : AVal → Option AVal
  | .ptr r g o => if ageOk H r g = true then some (.ptr r g (o + off)) else none
  | _ => none
def vNilCheck (H : AHeap) : AVal → Option AVal
  | .ptr r g o => if ageOk H r g = true then some (.ptr r g o) else none
  | _ => none

@[simp ↓] theorem val_move {x : XOpd} : SOp.val env H (.move x) = some (x.ev env) := rfl
@[simp ↓] theorem val_pick {c a b : XOpd} : SOp.val env H (.pick c a b) = apick (c.ev env) (a.ev env) (b.ev env) := by
  simp only [SOp.val]; generalize XOpd.ev env c = u; cases u <;> first | rfl | (rename_i l; cases l <;> rfl)
@[simp ↓] theorem val_bin {op : BinOp} {x y : XOpd} : SOp.val env H (.bin op x y) = abin op (x.ev env) (y.ev env) := rfl
@[simp ↓] theorem val_un {op : UnOp} {x : XOpd} : SOp.val env H (.un op x) = aunary op (x.ev env) := rfl
@[simp ↓] theorem val_lenSl {x : XOpd} : SOp.val env H (.lenSl x) = vLen H (x.ev env) := by
  simp only [SOp.val]; generalize XOpd.ev env x = u; cases u <;> rfl
@[simp ↓] theorem val_load1 {x : XOpd} : SOp.val env H (.load1 x) = vLoad H (x.ev env) := by
  simp only [SOp.val]; generalize XOpd.ev env x = u; cases u <;> rfl
@[simp ↓] theorem val_loadN {n : Nat} {x : XOpd} : SOp.val env H (.loadN n x) = vLoads H n (x.ev env) := by
  simp only [SOp.val]; generalize XOpd.ev env x = u; cases u <;> rfl
@[simp ↓] theorem val_idxS {z : Nat} {x i : XOpd} : SOp.val env H (.idxS z x i) = vIdx H z (x.ev env) (i.ev env) := by
  simp only [SOp.val]; generalize XOpd.ev env x = u; generalize XOpd.ev env i = u2; cases u <;> cases u2 <;> rfl
@[simp ↓] theorem val_fieldAddr {off : Nat} {x : XOpd} : SOp.val env H (.fieldAddr off x) = vField H off (x.ev env) := by
  simp only [SOp.val]; generalize XOpd.ev env x = u; cases u <;> rfl
@[simp ↓] theorem val_nilCheck {x : XOpd} : SOp.val env H (.nilCheck x) = vNilCheck H (x.ev env) := by
  simp only [SOp.val]; generalize XOpd.ev env x = u; cases u <;> rfl

/-! ### Arithmetic -/
@[simp] theorem bits_i64 : IntKind.i64.bits = 64 := rfl
@[simp] theorem bits_u64 : IntKind.u64.bits = 64 := rfl
@[simp] theorem bits_u32 : IntKind.u32.bits = 32 := rfl
@[simp] theorem bits_u16 : IntKind.u16.bits = 16 := rfl
@[simp] theorem bits_u8 : IntKind.u8.bits = 8 := rfl
@[simp] theorem apick_true {a b : AVal} : apick (.bool true) a b = some a := rfl
@[simp] theorem apick_false {a b : AVal} : apick (.bool false) a b = some b := rfl
section
variable {k : IntKind} {x y : Int}
@[simp] theorem abin_add : abin .add (.int k x) (.int k y) = some (.int k (k.wrap (x + y))) := by simp [abin, ibin]
@[simp] theorem abin_sub : abin .sub (.int k x) (.int k y) = some (.int k (k.wrap (x - y))) := by simp [abin, ibin]
@[simp] theorem abin_mul : abin .mul (.int k x) (.int k y) = some (.int k (k.wrap (x * y))) := by simp [abin, ibin]
@[simp] theorem abin_lss : abin .lss (.int k x) (.int k y) = some (.bool (decide (x < y))) := by simp [abin, ibin]
@[simp] theorem abin_leq : abin .leq (.int k x) (.int k y) = some (.bool (decide (x ≤ y))) := by simp [abin, ibin]
@[simp] theorem abin_gtr : abin .gtr (.int k x) (.int k y) = some (.bool (decide (y < x))) := by simp [abin, ibin]
@[simp] theorem abin_geq : abin .geq (.int k x) (.int k y) = some (.bool (decide (y ≤ x))) := by simp [abin, ibin]
@[simp] theorem abin_eql : abin .eql (.int k x) (.int k y) = some (.bool (decide (x = y))) := by simp [abin, ibin]; exact Bool.beq_eq_decide_eq x y
@[simp] theorem abin_neq : abin .neq (.int k x) (.int k y) = some (.bool (decide (x ≠ y))) := by simp [abin, ibin, bne, Bool.beq_eq_decide_eq x y]
@[simp] theorem abin_and : abin .and (.int k x) (.int k y) = some (.int k (k.wrap (BitVec.ofInt k.bits x &&& BitVec.ofInt k.bits y).toNat)) := by simp [abin, ibin]
@[simp] theorem abin_or : abin .or (.int k x) (.int k y) = some (.int k (k.wrap (BitVec.ofInt k.bits x ||| BitVec.ofInt k.bits y).toNat)) := by simp [abin, ibin]
@[simp] theorem abin_xor : abin .xor (.int k x) (.int k y) = some (.int k (k.wrap (BitVec.ofInt k.bits x ^^^ BitVec.ofInt k.bits y).toNat)) := by simp [abin, ibin]
theorem abin_quo (h : y ≠ 0) : abin .quo (.int k x) (.int k y) = some (.int k (k.wrap (x.tdiv y))) := by simp [abin, ibin, h]
theorem abin_rem (h : y ≠ 0) : abin .rem (.int k x) (.int k y) = some (.int k (x.tmod y)) := by simp [abin, ibin, h]
theorem abin_shl {k' : IntKind} (h : 0 ≤ y) : abin .shl (.int k x) (.int k' y) = some (.int k (k.wrap (x * 2 ^ (min y.toNat k.bits)))) := by
  simp [abin, ishift]; omega
theorem abin_shr {k' : IntKind} (h : 0 ≤ y) : abin .shr (.int k x) (.int k' y) = some (.int k (x.fdiv (2 ^ (min y.toNat k.bits)))) := by
  simp [abin, ishift]; omega
@[simp] theorem abin_seql {a b : List UInt8} : abin .eql (.str a) (.str b) = some (.bool (decide (a = b))) := by simp [abin, sbin]; exact Bool.beq_eq_decide_eq a b
@[simp] theorem abin_sneq {a b : List UInt8} : abin .neq (.str a) (.str b) = some (.bool (decide (a ≠ b))) := by simp [abin, sbin, Bool.beq_eq_decide_eq a b]
theorem abin_sadd {a b : List UInt8} (h : a.length + b.length ≤ 9223372036854775807) : abin .add (.str a) (.str b) = some (.str (a ++ b)) := by simp [abin, sbin, h]
@[simp] theorem aunary_not {b : Bool} : aunary .not (.bool b) = some (.bool !b) := rfl
end

@[congr] theorem vc_congr {env' : Env} {x : XCode} (h : env = env') : vc Φ Wr x Q env H = vc Φ Wr x Q env' H := by rw [h]
@[congr] theorem vcD_congr {env' : Env} {l : List DIns} {B : List (Nat × List Nat)} (h : env = env') : vcD Φ Wr l B K env H = vcD Φ Wr l B K env' H := by rw [h]
@[congr] theorem vcOps_congr {env' : Env} {l : List XIns} (h : env = env') : vcOps Φ Wr l K env H = vcOps Φ Wr l K env' H := by rw [h]
@[congr] theorem ACall_congr {P : Program} {f : FuncId} {args args' : List AVal} {fp : Nat → Prop} {R : AVal → AHeap → Prop} (h : args = args') : ACall P f args H fp R = ACall P f args' H fp R := by rw [h]

/-- A loop: once more, with less to go. -/
def again (I : Nat → Env → AHeap → Prop) (n : Nat) : Env → AHeap → Prop := fun env H => ∃ n', n' < n ∧ I n' env H
theorem vc_loop {x : XCode} (I : Nat → Env → AHeap → Prop) (n : Nat) (h0 : I n env H) (h1 : ∀ n env H, I n env H → vc Φ Wr x (XExit.then Q (again I n)) env H) : vc Φ Wr (.loop x) Q env H :=
  ⟨I, n, h0, h1⟩
/-- What a function must come to, at its end. -/
def rpost (rs : List XRes) (R : AVal → AHeap → Prop) : XExit → Env → AHeap → Prop := fun e env H => e.ends = true ∧ ∃ l, resVal env H rs = some l ∧ R (retVal l) H
def okl (o : Option (List AVal)) (k : List AVal → Prop) : Prop := ∃ l, o = some l ∧ k l
@[simp] theorem okl_some {l : List AVal} {k : List AVal → Prop} : okl (some l) k = k l := by simp [okl]
@[simp] theorem rpost_ret {rs : List XRes} {R : AVal → AHeap → Prop} : rpost rs R .ret env H = okl (resVal env H rs) fun l => R (retVal l) H := by simp [rpost, okl, XExit.ends]
@[simp] theorem rpost_normal {rs : List XRes} {R : AVal → AHeap → Prop} : rpost rs R .normal env H = okl (resVal env H rs) fun l => R (retVal l) H := by simp [rpost, okl, XExit.ends]
@[simp] theorem resVal_nil : resVal env H [] = some [] := rfl
@[simp] theorem resVal_tmp {t : Nat} {l : List XRes} : resVal env H (.tmp t :: l) = (resVal env H l).map (env t :: ·) := rfl
@[simp] theorem retVal_one {x : AVal} : retVal [x] = x := rfl
@[simp] theorem retVal_nil : retVal [] = .tuple [] := rfl
@[simp] theorem retVal_more {x y : AVal} {l : List AVal} : retVal (x :: y :: l) = .tuple (x :: y :: l) := rfl

theorem acall_of {P : Program} (hm : P.follows .mixedOrders = true) {f : FuncId} {fn : Func} {n : Nat} {res : List XRes} {body : XCode} (hf : P.funcs[f]? = some fn) (hx : xfun P fn = some ⟨n, res, body⟩) {args : List AVal} {fp : Nat → Prop} {R : AVal → AHeap → Prop} (hlen : args.length ≤ n)
    (h : vc (ACall P) (fun r => fp r ∨ H.length ≤ r) body (rpost res R) (entry args) H) : ACall P f args H fp R := acall_of_vc hm hf hx hlen h

theorem again_iff {I : Nat → Env → AHeap → Prop} {n : Nat} (n' : Nat) (h : n' < n) (h2 : I n' env H) : again I n env H := ⟨n', h, h2⟩

/-! ### Slices -/


/-- A slice of one-cell elements, with these. -/
def Sl (H : AHeap) (v : AVal) (xs : List AVal) : Prop :=
  (v = .nilslice ∧ xs = []) ∨ (v = .eslice ∧ xs = []) ∨ ∃ r g o, v = .slice r g o xs.length 1 ∧ aloads H r g o xs.length = some xs

theorem aloads_age {r g o n : Nat} {xs : List AVal} (h : aloads H r g o n = some xs) : ageOk H r g = true := by
  unfold aloads at h
  unfold ageOk
  split at h
  · rename_i hb
    split at h
    · rename_i hc
      rw [hb]; simp [hc.1]
    · cases h
  · cases h

theorem aloads_load {r g o n : Nat} {xs : List AVal} (h : aloads H r g o n = some xs) {i : Nat} (hi : i < n) : aload H r g (o + i) = xs[i]? := by
  unfold aloads at h
  unfold aload
  split at h
  · rename_i g' ro ety cs hb
    split at h
    · rename_i hc
      cases h
      rw [hb]
      simp only [hc.1, if_true, List.getElem?_take, List.getElem?_drop, hi]
    · cases h
  · cases h

theorem Sl.len {v : AVal} {xs : List AVal} (h : Sl H v xs) : vLen H v = some (.int .i64 xs.length) := by
  rcases h with ⟨rfl, rfl⟩ | ⟨rfl, rfl⟩ | ⟨r, g, o, rfl, h⟩
  · rfl
  · rfl
  · simp [vLen, aloads_age h]

/-- Where element i lies. -/
def AVal.at (v : AVal) (i : Nat) : AVal := match v with
  | .slice r g o _ z => .ptr r g (o + i * z)
  | _ => .undef

theorem Sl.idx {v : AVal} {xs : List AVal} (h : Sl H v xs) {k : IntKind} {n : Int} (h0 : 0 ≤ n) (h1 : n < xs.length) : vIdx H 1 v (.int k n) = some (v.at n.toNat) := by
  rcases h with ⟨rfl, rfl⟩ | ⟨rfl, rfl⟩ | ⟨r, g, o, rfl, h⟩
  · simp at h1; omega
  · simp at h1; omega
  · simp [vIdx, aloads_age h, h0, h1, AVal.at]

theorem Sl.idxN {v : AVal} {xs : List AVal} (h : Sl H v xs) {k : IntKind} {n : Nat} (h1 : n < xs.length) : vIdx H 1 v (.int k (n : Int)) = some (v.at n) := by
  have := h.idx (k := k) (n := (n : Int)) (by omega) (by omega)
  simpa using this

theorem Sl.load {v : AVal} {xs : List AVal} (h : Sl H v xs) {i : Nat} (h1 : i < xs.length) : vLoad H (v.at i) = some xs[i] := by
  rcases h with ⟨rfl, rfl⟩ | ⟨rfl, rfl⟩ | ⟨r, g, o, rfl, h⟩
  · simp at h1
  · simp at h1
  · simp only [AVal.at, vLoad, Nat.mul_one]
    rw [aloads_load h h1]; simp [h1]

/-- A slice of whole numbers. -/
def Ints (H : AHeap) (v : AVal) (l : List Int) : Prop := Sl H v (l.map (.int .i64))
theorem Ints.len {v : AVal} {l : List Int} (h : Ints H v l) : vLen H v = some (.int .i64 l.length) := by
  have := Sl.len h; simpa using this
theorem Ints.idx {v : AVal} {l : List Int} (h : Ints H v l) {k : IntKind} {n : Nat} (h1 : n < l.length) : vIdx H 1 v (.int k (n : Int)) = some (v.at n) := Sl.idxN h (by simpa using h1)
theorem Ints.load {v : AVal} {l : List Int} (h : Ints H v l) {n : Nat} (h1 : n < l.length) : vLoad H (v.at n) = some (.int .i64 l[n]) := by
  have := Sl.load h (i := n) (by simpa using h1); simpa using this

theorem i64_nat {n : Nat} (h : n ≤ 9223372036854775807) : IntKind.i64.wrap (n : Int) = n := IntWalk.i64_in _ (by omega)
theorem i64_id {n : Int} (h0 : -9223372036854775808 ≤ n) (h1 : n ≤ 9223372036854775807) : IntKind.i64.wrap n = n := IntWalk.i64_in _ ⟨h0, h1⟩
end
end Go.Proofs.YtalbjkemcckokaaGreat.Ab

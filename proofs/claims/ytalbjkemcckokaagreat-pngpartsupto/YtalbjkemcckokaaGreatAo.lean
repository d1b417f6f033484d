/- The abstract layer: closed calls, reckoned by the kernel; and calls that leave nothing behind. Conditions: none; a library for the texts behind it. -/
import Derived.Test.YtalbjkemcckokaaGreatAm
namespace Go.Proofs.YtalbjkemcckokaaGreat.Ab
open Go.RowKit (Below)
set_option linter.unusedVariables false
set_option linter.unusedSimpArgs false

abbrev Fns := FuncId → List AVal → AHeap → Option (AVal × AHeap × List Nat)

def insN (r : Nat) (W : List Nat) : List Nat := if W.contains r = true then W else r :: W
def insNs : List Nat → List Nat → List Nat
  | [], W => W
  | r :: rs, W => insNs rs (insN r W)

theorem mem_insN {r k : Nat} {W : List Nat} : k ∈ insN r W ↔ k = r ∨ k ∈ W := by
  unfold insN
  split
  · rename_i h
    have h' : r ∈ W := by simpa using h
    constructor
    · exact .inr
    · rintro (rfl | h)
      · exact h'
      · exact h
  · simp
theorem mem_insNs {k : Nat} : ∀ {rs W : List Nat}, k ∈ insNs rs W ↔ k ∈ rs ∨ k ∈ W
  | [], W => by simp [insNs]
  | r :: rs, W => by
    simp only [insNs]
    rw [mem_insNs, mem_insN]
    simp only [List.mem_cons]
    constructor
    · rintro (h | h | h)
      · exact .inl (.inr h)
      · exact .inl (.inl h)
      · exact .inr h
    · rintro ((h | h) | h)
      · exact .inr (.inl h)
      · exact .inl h
      · exact .inr (.inr h)

def EOp.wr (env : Env) : EOp → List Nat
  | .store _ x _ => match x.ev env with
    | .ptr r _ _ => [r]
    | _ => []
  | .append _ _ _ s _ => match s.ev env with
    | .slice r _ _ _ _ => [r]
    | _ => []
  | .mapPut _ x _ _ => match x.ev env with
    | .map r => [r]
    | _ => []
  | .unsafeStr _ x _ => match x.ev env with
    | .ptr r _ _ => [r]
    | _ => []
  | .clear _ _ x => match x.ev env with
    | .slice r _ _ _ _ => [r]
    | _ => []
  | _ => []

theorem EOp.target_wr {env : Env} {o : EOp} {r : Nat} (h : o.target env r) : r ∈ o.wr env := by
  cases o <;> simp only [EOp.target, EOp.wr] at h ⊢ <;> try exact h.elim
  · split at h
    · rename_i heq; rw [heq]; simp [h]
    · exact h.elim
  · unfold appTarget at h
    split at h
    · rename_i heq; rw [heq]; simp [h]
    · exact h.elim
  · split at h
    · rename_i heq; rw [heq]; simp [h]
    · exact h.elim
  · split at h
    · rename_i heq; rw [heq]; simp [h]
    · exact h.elim
  · unfold appTarget at h
    split at h
    · rename_i heq; rw [heq]; simp [h]
    · exact h.elim

def XOp.run (Φ : Fns) (env : Env) (H : AHeap) : XOp → Option (AVal × AHeap × List Nat)
  | .s o => match o.val env H with
    | some v => some (v, H, [])
    | none => none
  | .e o => match o.val env H with
    | some (v, H') => some (v, H', o.wr env)
    | none => none
  | .call f args => Φ f (args.map (XOpd.ev env)) H
  | .callv f args => match f.ev env with
    | .func g caps => Φ g (args.map (XOpd.ev env) ++ caps) H
    | _ => none

/-- An environment as a tree: the kernel reads and writes it in few steps. -/
inductive BT where
  | nil
  | node (v : AVal) (l r : BT)

def BT.get : BT → Nat → AVal
  | .nil, _ => .tuple []
  | .node v l r, n => match Nat.beq n 0 with
    | true => v
    | false => match Nat.beq (Nat.mod n 2) 1 with
      | true => l.get (Nat.div n 2)
      | false => r.get (Nat.sub (Nat.div n 2) 1)
def BT.set : Nat → BT → Nat → AVal → Option BT
  | 0, _, _, _ => none
  | k + 1, .nil, n, x => match Nat.beq n 0 with
    | true => some (.node x .nil .nil)
    | false => match Nat.beq (Nat.mod n 2) 1 with
      | true => match BT.set k .nil (Nat.div n 2) x with
        | some l' => some (.node (.tuple []) l' .nil)
        | none => none
      | false => match BT.set k .nil (Nat.sub (Nat.div n 2) 1) x with
        | some r' => some (.node (.tuple []) .nil r')
        | none => none
  | k + 1, .node v l r, n, x => match Nat.beq n 0 with
    | true => some (.node x l r)
    | false => match Nat.beq (Nat.mod n 2) 1 with
      | true => match BT.set k l (Nat.div n 2) x with
        | some l' => some (.node v l' r)
        | none => none
      | false => match BT.set k r (Nat.sub (Nat.div n 2) 1) x with
        | some r' => some (.node v l r')
        | none => none

theorem nb_eq {a b : Nat} (h : Nat.beq a b = true) : a = b := Nat.eq_of_beq_eq_true h
theorem nb_ne {a b : Nat} (h : Nat.beq a b = false) : a ≠ b := Nat.ne_of_beq_eq_false h
theorem eq_nb {a b : Nat} (h : a = b) : Nat.beq a b = true := by subst h; exact Nat.beq_refl _
theorem ne_nb {a b : Nat} (h : a ≠ b) : Nat.beq a b = false := by
  cases e : Nat.beq a b
  · rfl
  · exact absurd (nb_eq e) h

theorem BT.get_set : ∀ (k : Nat) (b b' : BT) (n : Nat) (x : AVal), BT.set k b n x = some b' → ∀ m, b'.get m = if m = n then x else b.get m
  | 0, b, b', n, x, h, m => by simp [BT.set] at h
  | k + 1, .nil, b', n, x, h, m => by
    simp only [BT.set] at h
    split at h
    · rename_i hn
      have hn : n = 0 := nb_eq hn
      cases h
      by_cases e : m = 0
      · simp [BT.get, e, hn]
      · have e2 : Nat.beq m 0 = false := ne_nb e
        simp only [BT.get, e2, hn, e, if_false]
        split <;> rfl
    · rename_i hn
      have hn : n ≠ 0 := nb_ne hn
      split at h
      · rename_i hp
        have hp : n % 2 = 1 := nb_eq hp
        split at h
        · rename_i l' hl
          cases h
          have ih := BT.get_set k _ _ _ _ hl
          by_cases e : m = 0
          · subst e; rw [if_neg (Ne.symm hn)]; rfl
          · have e2 : Nat.beq m 0 = false := ne_nb e
            simp only [BT.get, e2]
            by_cases e3 : m % 2 = 1
            · have e4 : Nat.beq (Nat.mod m 2) 1 = true := eq_nb e3
              simp only [e4]
              rw [ih]
              by_cases e5 : m = n
              · subst e5; simp
              · rw [if_neg (by show ¬ (m / 2 = n / 2); omega), if_neg e5]; rfl
            · have e4 : Nat.beq (Nat.mod m 2) 1 = false := ne_nb e3
              simp only [e4]
              rw [if_neg (by intro e5; subst e5; exact e3 hp)]
        · cases h
      · rename_i hp
        have hp : n % 2 ≠ 1 := nb_ne hp
        split at h
        · rename_i l' hl
          cases h
          have ih := BT.get_set k _ _ _ _ hl
          by_cases e : m = 0
          · subst e; rw [if_neg (Ne.symm hn)]; rfl
          · have e2 : Nat.beq m 0 = false := ne_nb e
            simp only [BT.get, e2]
            by_cases e3 : m % 2 = 1
            · have e4 : Nat.beq (Nat.mod m 2) 1 = true := eq_nb e3
              simp only [e4]
              rw [if_neg (by intro e5; subst e5; exact hp e3)]
            · have e4 : Nat.beq (Nat.mod m 2) 1 = false := ne_nb e3
              simp only [e4]
              rw [ih]
              by_cases e5 : m = n
              · subst e5; simp
              · rw [if_neg (by show ¬ (m / 2 - 1 = n / 2 - 1); omega), if_neg e5]; rfl
        · cases h
  | k + 1, .node v l r, b', n, x, h, m => by
    simp only [BT.set] at h
    split at h
    · rename_i hn
      have hn : n = 0 := nb_eq hn
      cases h
      by_cases e : m = 0
      · simp [BT.get, e, hn]
      · have e2 : Nat.beq m 0 = false := ne_nb e
        simp only [BT.get, e2, hn, e, if_false]
    · rename_i hn
      have hn : n ≠ 0 := nb_ne hn
      split at h
      · rename_i hp
        have hp : n % 2 = 1 := nb_eq hp
        split at h
        · rename_i l' hl
          cases h
          have ih := BT.get_set k _ _ _ _ hl
          by_cases e : m = 0
          · subst e; rw [if_neg (Ne.symm hn)]; rfl
          · have e2 : Nat.beq m 0 = false := ne_nb e
            simp only [BT.get, e2]
            by_cases e3 : m % 2 = 1
            · have e4 : Nat.beq (Nat.mod m 2) 1 = true := eq_nb e3
              simp only [e4]
              rw [ih]
              by_cases e5 : m = n
              · subst e5; simp
              · rw [if_neg (by show ¬ (m / 2 = n / 2); omega), if_neg e5]
            · have e4 : Nat.beq (Nat.mod m 2) 1 = false := ne_nb e3
              simp only [e4]
              rw [if_neg (by intro e5; subst e5; exact e3 hp)]
        · cases h
      · rename_i hp
        have hp : n % 2 ≠ 1 := nb_ne hp
        split at h
        · rename_i l' hl
          cases h
          have ih := BT.get_set k _ _ _ _ hl
          by_cases e : m = 0
          · subst e; rw [if_neg (Ne.symm hn)]; rfl
          · have e2 : Nat.beq m 0 = false := ne_nb e
            simp only [BT.get, e2]
            by_cases e3 : m % 2 = 1
            · have e4 : Nat.beq (Nat.mod m 2) 1 = true := eq_nb e3
              simp only [e4]
              rw [if_neg (by intro e5; subst e5; exact hp e3)]
            · have e4 : Nat.beq (Nat.mod m 2) 1 = false := ne_nb e3
              simp only [e4]
              rw [ih]
              by_cases e5 : m = n
              · subst e5; simp
              · rw [if_neg (by show ¬ (m / 2 - 1 = n / 2 - 1); omega), if_neg e5]
        · cases h

def BT.ofArgs : Nat → List AVal → BT → Option BT
  | _, [], b => some b
  | i, x :: xs, b => match BT.set 14 b i x with
    | some b' => BT.ofArgs (i + 1) xs b'
    | none => none

theorem BT.ofArgs_get : ∀ (xs : List AVal) (i : Nat) (b b' : BT), BT.ofArgs i xs b = some b' → ∀ m, b'.get m = if i ≤ m ∧ m < i + xs.length then xs.getD (m - i) (.tuple []) else b.get m
  | [], i, b, b', h, m => by simp only [BT.ofArgs, Option.some.injEq] at h; subst h; rw [if_neg (by simp only [List.length_nil]; omega)]
  | x :: xs, i, b, b', h, m => by
    simp only [BT.ofArgs] at h
    split at h
    · rename_i b1 hb
      rw [BT.ofArgs_get xs (i + 1) b1 b' h m, BT.get_set _ _ _ _ _ hb m]
      by_cases e : m = i
      · subst e; simp; omega
      · rw [if_neg e]
        by_cases c : i + 1 ≤ m ∧ m < i + 1 + xs.length
        · rw [if_pos c, if_pos (by simp; omega), show m - i = (m - (i + 1)) + 1 by omega]; rfl
        · rw [if_neg c, if_neg (by simp; omega)]
    · cases h

abbrev envOf (l : BT) : Env := l.get
def lput (l : BT) (d : Option Nat) (v : AVal) : Option BT :=
  match d with
  | some d => BT.set 14 l d v
  | none => some l

theorem envOf_put {l l' : BT} {d : Option Nat} {v : AVal} (h : lput l d v = some l') : envOf l' = (envOf l).put d v := by
  unfold lput at h
  split at h
  · funext t
    rw [envOf, BT.get_set _ _ _ _ _ h t]; rfl
  · cases h; rfl

def gRun (l : BT) (g : Option (Nat × Bool)) : Option Bool :=
  match g with
  | none => some true
  | some (t, want) => match envOf l t with
    | .bool b => some (b == want)
    | .tuple [] => some false
    | _ => none

theorem gRun_guarded {l : BT} {g : Option (Nat × Bool)} {run skip : Prop} {b : Bool} (h : gRun l g = some b) (h1 : b = true → run) (h2 : b = false → skip) : guarded (envOf l) g run skip := by
  unfold gRun at h
  unfold guarded
  split at h
  · cases h; exact h1 rfl
  · rename_i t want
    simp only
    split at h
    · rename_i c hc
      cases h
      rw [hc]
      refine ⟨fun e => h1 (by simp [e]), fun e => h2 (by simp [e])⟩
    · rename_i hc
      cases h
      rw [hc]
      exact h2 rfl
    · cases h

def xops (Φ : Fns) : List XIns → BT → AHeap → List Nat → Option (BT × AHeap × List Nat)
  | [], l, H, W => some (l, H, W)
  | i :: rest, l, H, W =>
    match gRun l i.guard with
    | some true => match i.op.run Φ (envOf l) H with
      | some (v, H', ws) => match lput l i.dst v with
        | some l' => xops Φ rest l' H' (insNs ws W)
        | none => none
      | none => none
    | some false => match lput l i.dst (.tuple []) with
      | some l' => xops Φ rest l' H W
      | none => none
    | none => none

def xdraw (Φ : Fns) : List DIns → List (Nat × List Nat) → BT → AHeap → List Nat → Option (BT × AHeap × List Nat)
  | [], _, l, H, W => some (l, H, W)
  | d :: rest, B, l, H, W =>
    match gRun l d.ins.guard with
    | some true => match d.ins.op.run Φ (envOf l) H with
      | some (v, H', ws) => match lput l d.ins.dst v with
        | some l' => match d.ins.op with
          | .s o => xdraw Φ rest ((d.idx, o.reads (envOf l)) :: B) l' H' (insNs ws W)
          | _ => if (B.all fun p => !d.uno.contains p.1 || ws.all fun r => !p.2.contains r) = true then xdraw Φ rest (B.filter fun p => d.uno.contains p.1) l' H' (insNs ws W) else none
        | none => none
      | none => none
    | some false => match lput l d.ins.dst (.tuple []) with
      | some l' => match d.ins.op with
        | .s _ => xdraw Φ rest B l' H W
        | _ => xdraw Φ rest (B.filter fun p => d.uno.contains p.1) l' H W
      | none => none
    | none => none

mutual
def AVal.beq : AVal → AVal → Bool
  | .undef, .undef => true
  | .bool a, .bool b => a == b
  | .int k a, .int k' b => decide (k = k') && decide (a = b)
  | .str s, .str t => decide (s = t)
  | .nilptr, .nilptr => true
  | .ptr r g o, .ptr r' g' o' => Nat.beq r r' && Nat.beq g g' && Nat.beq o o'
  | .nilslice, .nilslice => true
  | .eslice, .eslice => true
  | .slice r g o l z, .slice r' g' o' l' z' => Nat.beq r r' && Nat.beq g g' && Nat.beq o o' && Nat.beq l l' && Nat.beq z z'
  | .map r, .map r' => Nat.beq r r'
  | .nilmap, .nilmap => true
  | .func f cs, .func f' cs' => Nat.beq f f' && AVal.beqs cs cs'
  | .nilfunc, .nilfunc => true
  | .agg cs, .agg cs' => AVal.beqs cs cs'
  | .tuple cs, .tuple cs' => AVal.beqs cs cs'
  | _, _ => false
def AVal.beqs : List AVal → List AVal → Bool
  | [], [] => true
  | a :: l, b :: m => AVal.beq a b && AVal.beqs l m
  | _, _ => false
end

mutual
theorem AVal.beq_eq : ∀ {a b : AVal}, AVal.beq a b = true → a = b
  | .undef, b, h => by cases b <;> simp [AVal.beq] at h ⊢
  | .bool _, b, h => by cases b <;> simp [AVal.beq] at h ⊢; exact h
  | .int _ _, b, h => by cases b <;> simp [AVal.beq] at h ⊢; exact h
  | .str _, b, h => by cases b <;> simp [AVal.beq] at h ⊢; exact h
  | .nilptr, b, h => by cases b <;> simp [AVal.beq] at h ⊢
  | .ptr _ _ _, b, h => by cases b <;> simp [AVal.beq] at h ⊢; exact ⟨h.1.1, h.1.2, h.2⟩
  | .nilslice, b, h => by cases b <;> simp [AVal.beq] at h ⊢
  | .eslice, b, h => by cases b <;> simp [AVal.beq] at h ⊢
  | .slice _ _ _ _ _, b, h => by cases b <;> simp [AVal.beq] at h ⊢; exact ⟨h.1.1.1.1, h.1.1.1.2, h.1.1.2, h.1.2, h.2⟩
  | .map _, b, h => by cases b <;> simp [AVal.beq] at h ⊢; exact h
  | .nilmap, b, h => by cases b <;> simp [AVal.beq] at h ⊢
  | .func _ _, b, h => by cases b <;> simp [AVal.beq] at h ⊢; exact ⟨h.1, AVal.beqs_eq h.2⟩
  | .nilfunc, b, h => by cases b <;> simp [AVal.beq] at h ⊢
  | .agg _, b, h => by cases b <;> simp [AVal.beq] at h ⊢; exact AVal.beqs_eq h
  | .tuple _, b, h => by cases b <;> simp [AVal.beq] at h ⊢; exact AVal.beqs_eq h
theorem AVal.beqs_eq : ∀ {l m : List AVal}, AVal.beqs l m = true → l = m
  | [], m, h => by cases m <;> simp [AVal.beqs] at h ⊢
  | a :: l, m, h => by cases m <;> simp [AVal.beqs] at h ⊢; exact ⟨AVal.beq_eq h.1, AVal.beqs_eq h.2⟩
end

def ABlk.beq : ABlk → ABlk → Bool
  | .cells g ro e cs, .cells g' ro' e' cs' => Nat.beq g g' && (ro == ro') && Nat.beq e e' && AVal.beqs cs cs'
  | _, _ => false
theorem ABlk.beq_eq {a b : ABlk} (h : ABlk.beq a b = true) : a = b := by
  cases a <;> cases b <;> simp [ABlk.beq] at h ⊢
  exact ⟨h.1.1.1, h.1.1.2, h.1.2, AVal.beqs_eq h.2⟩
def heapBeq : AHeap → AHeap → Bool
  | [], [] => true
  | a :: l, b :: m => ABlk.beq a b && heapBeq l m
  | _, _ => false
theorem heapBeq_eq : ∀ {l m : AHeap}, heapBeq l m = true → l = m
  | [], m, h => by cases m <;> simp [heapBeq] at h ⊢
  | a :: l, m, h => by cases m <;> simp [heapBeq] at h ⊢; exact ⟨ABlk.beq_eq h.1, heapBeq_eq h.2⟩
def BT.beq : BT → BT → Bool
  | .nil, .nil => true
  | .node v l r, .node v' l' r' => AVal.beq v v' && BT.beq l l' && BT.beq r r'
  | _, _ => false
theorem BT.beq_eq : ∀ {a b : BT}, BT.beq a b = true → a = b
  | .nil, b, h => by cases b <;> simp [BT.beq] at h ⊢
  | .node v l r, b, h => by cases b <;> simp [BT.beq] at h ⊢; exact ⟨AVal.beq_eq h.1.1, BT.beq_eq h.1.2, BT.beq_eq h.2⟩

/-- Each order must come to the same. -/
def xdrawT (Φ : Fns) : DT → List (Nat × List Nat) → BT → AHeap → List Nat → Option (BT × AHeap × List Nat)
  | .nil, _, l, H, W => some (l, H, W)
  | .alt a b, B, l, H, W => match xdrawT Φ a B l H W, xdrawT Φ b B l H W with
    | some (l1, H1, W1), some (l2, H2, W2) => if (BT.beq l1 l2 && heapBeq H1 H2) = true then some (l1, H1, insNs W2 W1) else none
    | _, _ => none
  | .cons d rest, B, l, H, W =>
    match gRun l d.ins.guard with
    | some true => match d.ins.op.run Φ (envOf l) H with
      | some (v, H', ws) => match lput l d.ins.dst v with
        | some l' => match d.ins.op with
          | .s o => xdrawT Φ rest ((d.idx, o.reads (envOf l)) :: B) l' H' (insNs ws W)
          | _ => if (B.all fun p => !d.uno.contains p.1 || ws.all fun r => !p.2.contains r) = true then xdrawT Φ rest (B.filter fun p => d.uno.contains p.1) l' H' (insNs ws W) else none
        | none => none
      | none => none
    | some false => match lput l d.ins.dst (.tuple []) with
      | some l' => match d.ins.op with
        | .s _ => xdrawT Φ rest B l' H W
        | _ => xdrawT Φ rest (B.filter fun p => d.uno.contains p.1) l' H W
      | none => none
    | none => none


abbrev XState := BT × AHeap × List Nat

def xloop (body : BT → AHeap → List Nat → Option (XExit × XState)) : Nat → BT → AHeap → List Nat → Option (XExit × XState)
  | 0, _, _, _ => none
  | k + 1, l, H, W => match body l H W with
    | some (.normal, l', H', W') => xloop body k l' H' W'
    | r => r

def xexec (Φ : Fns) (N : Nat) : XCode → BT → AHeap → List Nat → Option (XExit × XState)
  | .skip, l, H, W => some (.normal, l, H, W)
  | .ret, l, H, W => some (.ret, l, H, W)
  | .exit id, l, H, W => some (.exit id, l, H, W)
  | .seq x y, l, H, W => match xexec Φ N x l H W with
    | some (.normal, l', H', W') => xexec Φ N y l' H' W'
    | r => r
  | .cond c x y, l, H, W => match c.ev (envOf l) with
    | .bool true => xexec Φ N x l H W
    | .bool false => xexec Φ N y l H W
    | _ => none
  | .block id x, l, H, W => match xexec Φ N x l H W with
    | some (.exit id', s) => if id' = id then some (.normal, s) else some (.exit id', s)
    | r => r
  | .loop x, l, H, W => xloop (xexec Φ N x) N l H W
  | .ops is, l, H, W => match xops Φ is l H W with
    | some s => some (.normal, s)
    | none => none
  | .draw ds, l, H, W => match xdraw Φ ds [] l H W with
    | some s => some (.normal, s)
    | none => none
  | .drawT t, l, H, W => match xdrawT Φ t [] l H W with
    | some s => some (.normal, s)
    | none => none
  | .bad, _, _, _ => none

section
variable {P : Program}

def Good (P : Program) (Φ : Fns) : Prop := ∀ f args H v H' W, Φ f args H = some (v, H', W) → ACall P f args H (fun r => r ∈ W) fun v2 H2 => v2 = v ∧ H2 = H'

theorem run_vc {Φ : Fns} (hΦ : Good P Φ) {x : XOp} {env : Env} {H : AHeap} {v : AVal} {H' : AHeap} {ws : List Nat} (h : x.run Φ env H = some (v, H', ws)) {Wr : Nat → Prop} (hW : ∀ r ∈ ws, Wr r) {K : AVal → AHeap → Prop} (hK : K v H') :
    x.vc (ACall P) Wr env H K := by
  cases x <;> simp only [XOp.run] at h <;> simp only [XOp.vc]
  · split at h
    · rename_i v' hv; cases h; exact ⟨_, hv, hK⟩
    · cases h
  · split at h
    · rename_i v' H1 hv; cases h; exact ⟨_, _, hv, fun r hr => hW r (EOp.target_wr hr), hK⟩
    · cases h
  · exact (hΦ _ _ _ _ _ _ h).use (fun r hr => .inl (hW r hr)) fun v2 H2 e _ _ => by rw [e.1, e.2]; exact hK
  · split at h
    · rename_i g caps hg
      rw [hg]
      exact (hΦ _ _ _ _ _ _ h).use (fun r hr => .inl (hW r hr)) fun v2 H2 e _ _ => by rw [e.1, e.2]; exact hK
    · cases h

theorem xops_sub {Φ : Fns} : ∀ (is : List XIns) (l : BT) (H : AHeap) (W : List Nat) (l' : BT) (H' : AHeap) (W' : List Nat), xops Φ is l H W = some (l', H', W') → ∀ r ∈ W, r ∈ W'
  | [], l, H, W, l', H', W', h => by simp only [xops, Option.some.injEq, Prod.mk.injEq] at h; obtain ⟨_, _, rfl⟩ := h; exact fun _ h => h
  | i :: rest, l, H, W, l', H', W', h => by
    simp only [xops] at h
    split at h
    · split at h
      · rename_i v H1 ws hr
        split at h
        · exact fun r hm => xops_sub rest _ _ _ _ _ _ h r (mem_insNs.2 (.inr hm))
        · cases h
      · cases h
    · split at h
      · exact xops_sub rest _ _ _ _ _ _ h
      · cases h
    · cases h

theorem xops_vc {Φ : Fns} (hΦ : Good P Φ) {Wr : Nat → Prop} : ∀ (is : List XIns) (l : BT) (H : AHeap) (W : List Nat) (l' : BT) (H' : AHeap) (W' : List Nat), xops Φ is l H W = some (l', H', W') → (∀ r ∈ W', Wr r) →
    ∀ (K : Env → AHeap → Prop), K (envOf l') H' → vcOps (ACall P) Wr is K (envOf l) H
  | [], l, H, W, l', H', W', h, hW, K, hK => by
    simp only [xops, Option.some.injEq, Prod.mk.injEq] at h; obtain ⟨rfl, rfl, rfl⟩ := h; exact hK
  | i :: rest, l, H, W, l', H', W', h, hW, K, hK => by
    simp only [xops] at h
    simp only [vcOps]
    split at h
    · rename_i hg
      split at h
      · rename_i v H1 ws hr
        split at h
        · rename_i l1 hl
          refine gRun_guarded hg (fun _ => ?_) (fun e => by cases e)
          refine run_vc hΦ hr (fun r hm => hW r (xops_sub rest _ _ _ _ _ _ h r (mem_insNs.2 (.inl hm)))) ?_
          rw [← envOf_put hl]
          exact xops_vc hΦ rest _ _ _ _ _ _ h hW K hK
        · cases h
      · cases h
    · rename_i hg
      split at h
      · rename_i l1 hl
        refine gRun_guarded hg (fun e => by cases e) (fun _ => ?_)
        rw [← envOf_put hl]
        exact xops_vc hΦ rest _ _ _ _ _ _ h hW K hK
      · cases h
    · cases h

theorem xdraw_sub {Φ : Fns} : ∀ (ds : List DIns) (B : List (Nat × List Nat)) (l : BT) (H : AHeap) (W : List Nat) (l' : BT) (H' : AHeap) (W' : List Nat), xdraw Φ ds B l H W = some (l', H', W') → ∀ r ∈ W, r ∈ W'
  | [], B, l, H, W, l', H', W', h => by simp only [xdraw, Option.some.injEq, Prod.mk.injEq] at h; obtain ⟨_, _, rfl⟩ := h; exact fun _ h => h
  | d :: rest, B, l, H, W, l', H', W', h => by
    simp only [xdraw] at h
    split at h
    · split at h
      · split at h
        · split at h
          · exact fun r hm => xdraw_sub rest _ _ _ _ _ _ _ h r (mem_insNs.2 (.inr hm))
          · split at h
            · exact fun r hm => xdraw_sub rest _ _ _ _ _ _ _ h r (mem_insNs.2 (.inr hm))
            · cases h
        · cases h
      · cases h
    · split at h
      · split at h
        · exact xdraw_sub rest _ _ _ _ _ _ _ h
        · exact xdraw_sub rest _ _ _ _ _ _ _ h
      · cases h
    · cases h

theorem xdraw_vc {Φ : Fns} (hΦ : Good P Φ) {Wr : Nat → Prop} : ∀ (ds : List DIns) (B : List (Nat × List Nat)) (l : BT) (H : AHeap) (W : List Nat) (l' : BT) (H' : AHeap) (W' : List Nat), xdraw Φ ds B l H W = some (l', H', W') → (∀ r ∈ W', Wr r) →
    ∀ (K : Env → AHeap → Prop), K (envOf l') H' → vcD (ACall P) Wr ds B K (envOf l) H
  | [], B, l, H, W, l', H', W', h, hW, K, hK => by
    simp only [xdraw, Option.some.injEq, Prod.mk.injEq] at h; obtain ⟨rfl, rfl, rfl⟩ := h; exact hK
  | d :: rest, B, l, H, W, l', H', W', h, hW, K, hK => by
    simp only [xdraw] at h
    split at h
    · rename_i hg
      split at h
      · rename_i v H1 ws hr
        split at h
        · rename_i l1 hl
          split at h
          · rename_i o ho
            simp only [vcD, ho]
            refine gRun_guarded hg (fun _ => ?_) (fun e => by cases e)
            rw [ho] at hr
            simp only [XOp.run] at hr
            split at hr
            · rename_i v' hv
              cases hr
              refine ⟨_, hv, ?_⟩
              rw [← envOf_put hl]
              exact xdraw_vc hΦ rest _ _ _ _ _ _ _ h hW K hK
            · cases hr
          · rename_i hns
            split at h
            · rename_i hall
              have key : guarded (envOf l) d.ins.guard (d.ins.op.vc (ACall P) (fun r => Wr r ∧ ∀ p ∈ B, d.uno.contains p.1 = true → r ∉ p.2) (envOf l) H fun v H' => vcD (ACall P) Wr rest (B.filter fun p => d.uno.contains p.1) K ((envOf l).put d.ins.dst v) H')
                  (vcD (ACall P) Wr rest (B.filter fun p => d.uno.contains p.1) K ((envOf l).put d.ins.dst (.tuple [])) H) := by
                refine gRun_guarded hg (fun _ => ?_) (fun e => by cases e)
                refine run_vc (K := fun v H' => vcD (ACall P) Wr rest (B.filter fun p => d.uno.contains p.1) K ((envOf l).put d.ins.dst v) H') hΦ hr ?_ ?_
                · intro r hm
                  refine ⟨hW r (xdraw_sub rest _ _ _ _ _ _ _ h r (mem_insNs.2 (.inl hm))), ?_⟩
                  intro p hp hu hr2
                  have h1 := List.all_eq_true.1 hall p hp
                  simp only [hu, Bool.not_true, Bool.false_or, List.all_eq_true] at h1
                  have h2 := h1 r hm
                  simp [hr2] at h2
                · rw [← envOf_put hl]
                  exact xdraw_vc hΦ rest _ _ _ _ _ _ _ h hW K hK
              cases hop : d.ins.op with
              | s o => exact absurd hop (hns o)
              | e o => simp only [vcD, hop]; rw [hop] at key; exact key
              | call f args => simp only [vcD, hop]; rw [hop] at key; exact key
              | callv f args => simp only [vcD, hop]; rw [hop] at key; exact key
            · cases h
        · cases h
      · cases h
    · rename_i hg
      split at h
      · rename_i l1 hl
        split at h
        · rename_i o ho
          simp only [vcD, ho]
          refine gRun_guarded hg (fun e => by cases e) (fun _ => ?_)
          rw [← envOf_put hl]
          exact xdraw_vc hΦ rest _ _ _ _ _ _ _ h hW K hK
        · rename_i hns
          have key : guarded (envOf l) d.ins.guard (d.ins.op.vc (ACall P) (fun r => Wr r ∧ ∀ p ∈ B, d.uno.contains p.1 = true → r ∉ p.2) (envOf l) H fun v H' => vcD (ACall P) Wr rest (B.filter fun p => d.uno.contains p.1) K ((envOf l).put d.ins.dst v) H')
              (vcD (ACall P) Wr rest (B.filter fun p => d.uno.contains p.1) K ((envOf l).put d.ins.dst (.tuple [])) H) := by
            refine gRun_guarded hg (fun e => by cases e) (fun _ => ?_)
            rw [← envOf_put hl]
            exact xdraw_vc hΦ rest _ _ _ _ _ _ _ h hW K hK
          cases hop : d.ins.op with
          | s o => exact absurd hop (hns o)
          | e o => simp only [vcD, hop]; rw [hop] at key; exact key
          | call f args => simp only [vcD, hop]; rw [hop] at key; exact key
          | callv f args => simp only [vcD, hop]; rw [hop] at key; exact key
      · cases h
    · cases h

theorem xdrawT_sub {Φ : Fns} : ∀ (ds : DT) (B : List (Nat × List Nat)) (l : BT) (H : AHeap) (W : List Nat) (l' : BT) (H' : AHeap) (W' : List Nat), xdrawT Φ ds B l H W = some (l', H', W') → ∀ r ∈ W, r ∈ W'
  | .nil, B, l, H, W, l', H', W', h => by simp only [xdrawT, Option.some.injEq, Prod.mk.injEq] at h; obtain ⟨_, _, rfl⟩ := h; exact fun _ h => h
  | .cons d rest, B, l, H, W, l', H', W', h => by
    simp only [xdrawT] at h
    split at h
    · split at h
      · split at h
        · split at h
          · exact fun r hm => xdrawT_sub rest _ _ _ _ _ _ _ h r (mem_insNs.2 (.inr hm))
          · split at h
            · exact fun r hm => xdrawT_sub rest _ _ _ _ _ _ _ h r (mem_insNs.2 (.inr hm))
            · cases h
        · cases h
      · cases h
    · split at h
      · split at h
        · exact xdrawT_sub rest _ _ _ _ _ _ _ h
        · exact xdrawT_sub rest _ _ _ _ _ _ _ h
      · cases h
    · cases h
  | .alt a b, B, l, H, W, l', H', W', h => by
    simp only [xdrawT] at h
    split at h
    · rename_i l1 H1 W1 l2 H2 W2 h1 h2
      split at h
      · cases h
        exact fun r hr => mem_insNs.2 (.inr (xdrawT_sub a _ _ _ _ _ _ _ h1 r hr))
      · cases h
    · cases h

theorem xdrawT_vc {Φ : Fns} (hΦ : Good P Φ) {Wr : Nat → Prop} : ∀ (ds : DT) (B : List (Nat × List Nat)) (l : BT) (H : AHeap) (W : List Nat) (l' : BT) (H' : AHeap) (W' : List Nat), xdrawT Φ ds B l H W = some (l', H', W') → (∀ r ∈ W', Wr r) →
    ∀ (K : Env → AHeap → Prop), K (envOf l') H' → vcT (ACall P) Wr ds B K (envOf l) H
  | .nil, B, l, H, W, l', H', W', h, hW, K, hK => by
    simp only [xdrawT, Option.some.injEq, Prod.mk.injEq] at h; obtain ⟨rfl, rfl, rfl⟩ := h; exact hK
  | .cons d rest, B, l, H, W, l', H', W', h, hW, K, hK => by
    simp only [xdrawT] at h
    split at h
    · rename_i hg
      split at h
      · rename_i v H1 ws hr
        split at h
        · rename_i l1 hl
          split at h
          · rename_i o ho
            simp only [vcT, ho]
            refine gRun_guarded hg (fun _ => ?_) (fun e => by cases e)
            rw [ho] at hr
            simp only [XOp.run] at hr
            split at hr
            · rename_i v' hv
              cases hr
              refine ⟨_, hv, ?_⟩
              rw [← envOf_put hl]
              exact xdrawT_vc hΦ rest _ _ _ _ _ _ _ h hW K hK
            · cases hr
          · rename_i hns
            split at h
            · rename_i hall
              have key : guarded (envOf l) d.ins.guard (d.ins.op.vc (ACall P) (fun r => Wr r ∧ ∀ p ∈ B, d.uno.contains p.1 = true → r ∉ p.2) (envOf l) H fun v H' => vcT (ACall P) Wr rest (B.filter fun p => d.uno.contains p.1) K ((envOf l).put d.ins.dst v) H')
                  (vcT (ACall P) Wr rest (B.filter fun p => d.uno.contains p.1) K ((envOf l).put d.ins.dst (.tuple [])) H) := by
                refine gRun_guarded hg (fun _ => ?_) (fun e => by cases e)
                refine run_vc (K := fun v H' => vcT (ACall P) Wr rest (B.filter fun p => d.uno.contains p.1) K ((envOf l).put d.ins.dst v) H') hΦ hr ?_ ?_
                · intro r hm
                  refine ⟨hW r (xdrawT_sub rest _ _ _ _ _ _ _ h r (mem_insNs.2 (.inl hm))), ?_⟩
                  intro p hp hu hr2
                  have h1 := List.all_eq_true.1 hall p hp
                  simp only [hu, Bool.not_true, Bool.false_or, List.all_eq_true] at h1
                  have h2 := h1 r hm
                  simp [hr2] at h2
                · rw [← envOf_put hl]
                  exact xdrawT_vc hΦ rest _ _ _ _ _ _ _ h hW K hK
              cases hop : d.ins.op with
              | s o => exact absurd hop (hns o)
              | e o => simp only [vcT, hop]; rw [hop] at key; exact key
              | call f args => simp only [vcT, hop]; rw [hop] at key; exact key
              | callv f args => simp only [vcT, hop]; rw [hop] at key; exact key
            · cases h
        · cases h
      · cases h
    · rename_i hg
      split at h
      · rename_i l1 hl
        split at h
        · rename_i o ho
          simp only [vcT, ho]
          refine gRun_guarded hg (fun e => by cases e) (fun _ => ?_)
          rw [← envOf_put hl]
          exact xdrawT_vc hΦ rest _ _ _ _ _ _ _ h hW K hK
        · rename_i hns
          have key : guarded (envOf l) d.ins.guard (d.ins.op.vc (ACall P) (fun r => Wr r ∧ ∀ p ∈ B, d.uno.contains p.1 = true → r ∉ p.2) (envOf l) H fun v H' => vcT (ACall P) Wr rest (B.filter fun p => d.uno.contains p.1) K ((envOf l).put d.ins.dst v) H')
              (vcT (ACall P) Wr rest (B.filter fun p => d.uno.contains p.1) K ((envOf l).put d.ins.dst (.tuple [])) H) := by
            refine gRun_guarded hg (fun e => by cases e) (fun _ => ?_)
            rw [← envOf_put hl]
            exact xdrawT_vc hΦ rest _ _ _ _ _ _ _ h hW K hK
          cases hop : d.ins.op with
          | s o => exact absurd hop (hns o)
          | e o => simp only [vcT, hop]; rw [hop] at key; exact key
          | call f args => simp only [vcT, hop]; rw [hop] at key; exact key
          | callv f args => simp only [vcT, hop]; rw [hop] at key; exact key
      · cases h
    · cases h
  | .alt a b, B, l, H, W, l', H', W', h, hW, K, hK => by
    simp only [xdrawT] at h
    split at h
    · rename_i l1 H1 W1 l2 H2 W2 h1 h2
      split at h
      · rename_i he
        simp only [Bool.and_eq_true] at he
        have e1 := BT.beq_eq he.1
        have e2 := heapBeq_eq he.2
        subst e1 e2
        cases h
        simp only [vcT]
        exact ⟨xdrawT_vc hΦ a _ _ _ _ _ _ _ h1 (fun r hr => hW r (mem_insNs.2 (.inr hr))) K hK, xdrawT_vc hΦ b _ _ _ _ _ _ _ h2 (fun r hr => hW r (mem_insNs.2 (.inl hr))) K hK⟩
      · cases h
    · cases h

theorem xloop_sub {body : BT → AHeap → List Nat → Option (XExit × XState)} (hb : ∀ l H W e l' H' W', body l H W = some (e, l', H', W') → ∀ r ∈ W, r ∈ W') :
    ∀ (k : Nat) (l : BT) (H : AHeap) (W : List Nat) (e : XExit) (l' : BT) (H' : AHeap) (W' : List Nat), xloop body k l H W = some (e, l', H', W') → ∀ r ∈ W, r ∈ W'
  | 0, l, H, W, e, l', H', W', h => by simp [xloop] at h
  | k + 1, l, H, W, e, l', H', W', h => by
    simp only [xloop] at h
    split at h
    · rename_i l1 H1 W1 h1
      exact fun r hr => xloop_sub hb k _ _ _ _ _ _ _ h r (hb _ _ _ _ _ _ _ h1 r hr)
    · exact hb _ _ _ _ _ _ _ h

theorem xexec_sub {Φ : Fns} {N : Nat} : ∀ (c : XCode) (l : BT) (H : AHeap) (W : List Nat) (e : XExit) (l' : BT) (H' : AHeap) (W' : List Nat), xexec Φ N c l H W = some (e, l', H', W') → ∀ r ∈ W, r ∈ W' := by
  intro c
  induction c with
  | skip => intro l H W e l' H' W' h; simp only [xexec, Option.some.injEq, Prod.mk.injEq] at h; obtain ⟨_, _, _, rfl⟩ := h; exact fun _ h => h
  | ret => intro l H W e l' H' W' h; simp only [xexec, Option.some.injEq, Prod.mk.injEq] at h; obtain ⟨_, _, _, rfl⟩ := h; exact fun _ h => h
  | exit id => intro l H W e l' H' W' h; simp only [xexec, Option.some.injEq, Prod.mk.injEq] at h; obtain ⟨_, _, _, rfl⟩ := h; exact fun _ h => h
  | seq x y ihx ihy =>
    intro l H W e l' H' W' h
    simp only [xexec] at h
    split at h
    · rename_i l1 H1 W1 h1
      exact fun r hr => ihy _ _ _ _ _ _ _ h r (ihx _ _ _ _ _ _ _ h1 r hr)
    · exact ihx _ _ _ _ _ _ _ h
  | cond c x y ihx ihy =>
    intro l H W e l' H' W' h
    simp only [xexec] at h
    split at h
    · exact ihx _ _ _ _ _ _ _ h
    · exact ihy _ _ _ _ _ _ _ h
    · cases h
  | block id x ih =>
    intro l H W e l' H' W' h
    simp only [xexec] at h
    split at h
    · rename_i id' s h1
      obtain ⟨l1, H1, W1⟩ := s
      split at h
      · cases h; exact ih _ _ _ _ _ _ _ h1
      · cases h; exact ih _ _ _ _ _ _ _ h1
    · exact ih _ _ _ _ _ _ _ h
  | loop x ih =>
    intro l H W e l' H' W' h
    simp only [xexec] at h
    exact xloop_sub ih N _ _ _ _ _ _ _ h
  | ops is =>
    intro l H W e l' H' W' h
    simp only [xexec] at h
    split at h
    · rename_i s hs; obtain ⟨l1, H1, W1⟩ := s; cases h; exact xops_sub is _ _ _ _ _ _ hs
    · cases h
  | draw ds =>
    intro l H W e l' H' W' h
    simp only [xexec] at h
    split at h
    · rename_i s hs; obtain ⟨l1, H1, W1⟩ := s; cases h; exact xdraw_sub ds _ _ _ _ _ _ _ hs
    · cases h
  | drawT t =>
    intro l H W e l' H' W' h
    simp only [xexec] at h
    split at h
    · rename_i s hs; obtain ⟨l1, H1, W1⟩ := s; cases h; exact xdrawT_sub t _ _ _ _ _ _ _ hs
    · cases h
  | bad =>
    intro l H W e l' H' W' h
    simp only [xexec] at h
    cases h

/-- What is reckoned holds. -/
theorem xexec_vc {Φ : Fns} (hΦ : Good P Φ) {N : Nat} {Wr : Nat → Prop} : ∀ (c : XCode) (l : BT) (H : AHeap) (W : List Nat) (e : XExit) (l' : BT) (H' : AHeap) (W' : List Nat), xexec Φ N c l H W = some (e, l', H', W') → (∀ r ∈ W', Wr r) →
    ∀ (Q : XExit → Env → AHeap → Prop), Q e (envOf l') H' → vc (ACall P) Wr c Q (envOf l) H := by
  intro c
  induction c with
  | skip => intro l H W e l' H' W' h hW Q hQ; simp only [xexec, Option.some.injEq, Prod.mk.injEq] at h; obtain ⟨rfl, rfl, rfl, rfl⟩ := h; exact hQ
  | ret => intro l H W e l' H' W' h hW Q hQ; simp only [xexec, Option.some.injEq, Prod.mk.injEq] at h; obtain ⟨rfl, rfl, rfl, rfl⟩ := h; exact hQ
  | exit id => intro l H W e l' H' W' h hW Q hQ; simp only [xexec, Option.some.injEq, Prod.mk.injEq] at h; obtain ⟨rfl, rfl, rfl, rfl⟩ := h; exact hQ
  | seq x y ihx ihy =>
    intro l H W e l' H' W' h hW Q hQ
    simp only [xexec] at h
    simp only [vc]
    split at h
    · rename_i l1 H1 W1 h1
      exact ihx _ _ _ _ _ _ _ h1 (fun r hr => hW r (xexec_sub y _ _ _ _ _ _ _ h r hr)) _ (ihy _ _ _ _ _ _ _ h hW Q hQ)
    · rename_i hn
      refine ihx _ _ _ _ _ _ _ h hW _ ?_
      cases e with
      | normal => exact absurd h (hn _ _ _)
      | exit id => exact hQ
      | ret => exact hQ
  | cond c x y ihx ihy =>
    intro l H W e l' H' W' h hW Q hQ
    simp only [xexec] at h
    simp only [vc]
    split at h
    · rename_i hc
      rw [hc]
      exact ⟨fun _ => ihx _ _ _ _ _ _ _ h hW Q hQ, fun e => by cases e⟩
    · rename_i hc
      rw [hc]
      exact ⟨fun e => (by cases e), fun _ => ihy _ _ _ _ _ _ _ h hW Q hQ⟩
    · cases h
  | block id x ih =>
    intro l H W e l' H' W' h hW Q hQ
    simp only [xexec] at h
    simp only [vc]
    split at h
    · rename_i id' s h1
      obtain ⟨l1, H1, W1⟩ := s
      split at h
      · rename_i he
        cases h
        refine ih _ _ _ _ _ _ _ h1 hW _ ?_
        simp only [XExit.blk, he, if_true]; exact hQ
      · rename_i he
        cases h
        refine ih _ _ _ _ _ _ _ h1 hW _ ?_
        simp only [XExit.blk, he, if_false]; exact hQ
    · rename_i hn
      refine ih _ _ _ _ _ _ _ h hW _ ?_
      cases e with
      | normal => exact hQ
      | exit id' => exact absurd h (hn _ _)
      | ret => exact hQ
  | loop x ih =>
    intro l H W e l' H' W' h hW Q hQ
    simp only [xexec] at h
    simp only [vc]
    refine ⟨fun k env H1 => ∃ l1 W1, env = envOf l1 ∧ xloop (xexec Φ N x) k l1 H1 W1 = some (e, l', H', W'), N, ⟨l, W, rfl, h⟩, ?_⟩
    rintro k env H1 ⟨l1, W1, rfl, h1⟩
    cases k with
    | zero => simp [xloop] at h1
    | succ k =>
      simp only [xloop] at h1
      split at h1
      · rename_i l2 H2 W2 h2
        exact ih _ _ _ _ _ _ _ h2 (fun r hr => hW r (xloop_sub (xexec_sub x) k _ _ _ _ _ _ _ h1 r hr)) _ ⟨k, by omega, l2, W2, rfl, h1⟩
      · rename_i hn
        refine ih _ _ _ _ _ _ _ h1 hW _ ?_
        cases e with
        | normal => exact absurd h1 (hn _ _ _)
        | exit id => exact hQ
        | ret => exact hQ
  | ops is =>
    intro l H W e l' H' W' h hW Q hQ
    simp only [xexec] at h
    simp only [vc]
    split at h
    · rename_i s hs; obtain ⟨l1, H1, W1⟩ := s; cases h; exact xops_vc hΦ is _ _ _ _ _ _ hs hW _ hQ
    · cases h
  | draw ds =>
    intro l H W e l' H' W' h hW Q hQ
    simp only [xexec] at h
    simp only [vc]
    split at h
    · rename_i s hs; obtain ⟨l1, H1, W1⟩ := s; cases h; exact xdraw_vc hΦ ds _ _ _ _ _ _ _ hs hW _ hQ
    · cases h
  | drawT t =>
    intro l H W e l' H' W' h hW Q hQ
    simp only [xexec] at h
    simp only [vc]
    split at h
    · rename_i s hs; obtain ⟨l1, H1, W1⟩ := s; cases h; exact xdrawT_vc hΦ t _ _ _ _ _ _ _ hs hW _ hQ
    · cases h
  | bad =>
    intro l H W e l' H' W' h
    simp only [xexec] at h
    cases h

mutual
/-- No place in memory in it. -/
def AVal.flat : AVal → Bool
  | .ptr .. | .slice .. | .map .. => false
  | .func _ caps => AVal.flats caps
  | .agg cs => AVal.flats cs
  | .tuple vs => AVal.flats vs
  | _ => true
def AVal.flats : List AVal → Bool
  | [] => true
  | v :: vs => v.flat && AVal.flats vs
end

/-- What is told of a call: where nothing was written and the answer names no place, the state stays. -/
def tell (H : AHeap) (v : AVal) (H' : AHeap) (W : List Nat) : AVal × AHeap × List Nat :=
  match W.filter fun r => decide (r < H.length) with
  | [] => match v.flat with
    | true => (v, H, [])
    | false => (v, H', [])
  | W' => (v, H', W')

/-- Calls, reckoned: 'X': the functions' code; 'S': what is known of others. -/
def xcall (X : FuncId → Option XFun) (S : Fns) (N : Nat) : Nat → Fns
  | 0, _, _, _ => none
  | d + 1, f, args, H => match S f args H with
    | some r => some r
    | none => match X f with
      | some xf => match BT.ofArgs 0 args .nil with
        | some b => match xexec (xcall X S N d) N xf.body b H [] with
          | some (e, l', H', W) => if e.ends = true ∧ args.length ≤ xf.n then match resVal (envOf l') H' xf.res with
              | some vs => some (tell H (retVal vs) H' W)
              | none => none
            else none
          | none => none
        | none => none
      | none => none

theorem envOf_entry {args : List AVal} {b : BT} (h : BT.ofArgs 0 args .nil = some b) : envOf b = entry args := by
  funext t
  rw [envOf, BT.ofArgs_get _ _ _ _ h t]
  simp only [entry, List.getD_eq_getElem?_getD]
  split
  · rfl
  · rename_i h
    rw [List.getElem?_eq_none (l := args) (by omega)]
    rfl
end
end Go.Proofs.YtalbjkemcckokaaGreat.Ab

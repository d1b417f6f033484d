/- The abstract layer: what is known of the library's functions beforehand, for the evaluator. Conditions: none; a library for the texts behind it. -/
import Derived.Test.YtalbjkemcckokaaGreatAy
import Derived.Lib.Join
import Derived.Lib.Repeat
import Derived.Lib.Strings
namespace Go.Proofs.YtalbjkemcckokaaGreat.Ab
open Go.RowKit (Below)
set_option linter.unusedVariables false
set_option linter.unusedSimpArgs false

def strsOf : List AVal → Option (List (List UInt8))
  | [] => some []
  | .str s :: l => match strsOf l with
    | some m => some (s :: m)
    | none => none
  | _ => none
theorem strsOf_inv : ∀ {cs : List AVal} {l : List (List UInt8)}, strsOf cs = some l → cs = l.map .str
  | [], l, h => by simp only [strsOf, Option.some.injEq] at h; subst h; rfl
  | c :: cs, l, h => by
    unfold strsOf at h
    split at h
    · rename_i e; cases e
    · rename_i s cs' e
      cases e
      split at h
      · rename_i m hm
        cases h
        rw [strsOf_inv hm]; rfl
      · cases h
    · cases h
def joinG (sep : List UInt8) : List (List UInt8) → List UInt8
  | [] => []
  | x :: r => x ++ Lib.joinTail sep r
theorem joinG_eq (sep : List UInt8) : ∀ l, joinG sep l = Lib.join l sep
  | [] => rfl
  | x :: r => (Lib.join_cons x r sep).symm

def sNoEscape : List AVal → Option AVal
  | [x] => some x
  | _ => none
def sIndexByte : List AVal → Option AVal
  | [.str s, .int .u8 c] => some (.int .i64 (firstIdx ⟨s.toArray⟩ c.toNat.toUInt8))
  | _ => none
def sCompare : List AVal → Option AVal
  | [.str s, .str t] => some (.int .i64 (Extern.BytealgCompare.cmp ⟨s.toArray⟩ ⟨t.toArray⟩))
  | _ => none
def sRepeat : List AVal → Option AVal
  | [.str s, .int .i64 c] => if 0 ≤ c ∧ c ≤ 9223372036854775807 ∧ s.length * c.toNat ≤ 140737488355328 then some (.str (Lib.repeatL s c.toNat)) else none
  | _ => none
def sJoin (H : AHeap) : List AVal → Option AVal
  | [.slice r g o n 1, .str sep] => match aloads H r g o n with
    | some cs => match strsOf cs with
      | some l => if 0 < n ∧ l.length ≤ 140737488355328 ∧ (joinG sep l).length ≤ 140737488355328 then some (.str (joinG sep l)) else none
      | none => none
    | none => none
  | _ => none
def keep (H : AHeap) : Option AVal → Option (AVal × AHeap × List Nat)
  | some v => some (v, H, [])
  | none => none
theorem keep_inv {H : AHeap} {o : Option AVal} {v : AVal} {H' : AHeap} {W : List Nat} (h : keep H o = some (v, H', W)) : o = some v ∧ H' = H ∧ W = [] := by
  cases o with
  | none => cases h
  | some x => cases h; exact ⟨rfl, rfl, rfl⟩

def lookX : List (Nat × XFun) → Nat → Option XFun
  | [], _ => none
  | p :: l, f => match Nat.beq p.1 f with
    | true => some p.2
    | false => lookX l f

section
variable {P : Program}
def AllOk (P : Program) : List (Nat × XFun) → Prop
  | [] => True
  | p :: l => (∃ fn, P.funcs[p.1]? = some fn ∧ xfun P fn = some p.2) ∧ AllOk P l
theorem lookX_ok : ∀ {L : List (Nat × XFun)}, AllOk P L → ∀ f xf, lookX L f = some xf → ∃ fn, P.funcs[f]? = some fn ∧ xfun P fn = some xf
  | [], _, f, xf, h => by cases h
  | p :: l, hL, f, xf, h => by
    simp only [lookX] at h
    split at h
    · rename_i hp
      cases h
      rw [← nb_eq hp]
      exact hL.1
    · exact lookX_ok hL.2 f xf h

theorem good_noEscape {f : FuncId} {fn : Func} (hf : P.funcs[f]? = some fn) (hname : (fn.name == "runtime.NumGoroutine") = false) (hb : fn.body.isNone = true) (hn : Extern.findNext fn = none) (he : Extern.find fn = some Extern.AbiNoEscape.same)
    {args : List AVal} {v : AVal} {H : AHeap} {fp : Nat → Prop} (h : sNoEscape args = some v) : ACall P f args H fp fun v' H' => v' = v ∧ H' = H := by
  unfold sNoEscape at h
  split at h
  · cases h; exact acall_noEscape hf hname hb hn he
  · cases h
theorem good_indexByte {f : FuncId} {fn : Func} (hf : P.funcs[f]? = some fn) (hname : (fn.name == "runtime.NumGoroutine") = false) (hb : fn.body.isNone = true) (hn : Extern.findNext fn = none) (he : Extern.find fn = some Extern.BytealgIndexByte.indexByte)
    {args : List AVal} {v : AVal} {H : AHeap} {fp : Nat → Prop} (h : sIndexByte args = some v) : ACall P f args H fp fun v' H' => v' = v ∧ H' = H := by
  unfold sIndexByte at h
  split at h
  · cases h; exact acall_indexByteString hf hname hb hn he
  · cases h
theorem good_compare {f : FuncId} {fn : Func} (hf : P.funcs[f]? = some fn) (hname : (fn.name == "runtime.NumGoroutine") = false) (hb : fn.body.isNone = true) (hn : Extern.findNext fn = none) (he : Extern.find fn = some Extern.BytealgCompare.compare)
    {args : List AVal} {v : AVal} {H : AHeap} {fp : Nat → Prop} (h : sCompare args = some v) : ACall P f args H fp fun v' H' => v' = v ∧ H' = H := by
  unfold sCompare at h
  split at h
  · cases h; exact acall_cmpstring hf hname hb hn he
  · cases h

theorem acall_repeat {f : FuncId} {fn : Func} (hf : P.funcs[f]? = some fn) (hb : fn.body.isSome = true) (hname : (fn.name == "runtime.NumGoroutine") = false)
    (hc : ∀ (s : ByteArray) (c : Nat) (w : World), c ≤ 9223372036854775807 → s.size * c ≤ 140737488355328 → Calls P f #[.string s, .int .i64 c] w fun e w' => e = .returned (.string ⟨(Lib.repeatL s.data.toList c).toArray⟩) ∧ Below w.heap.size w w')
    {s : List UInt8} {c : Nat} {H : AHeap} {fp : Nat → Prop} (h1 : c ≤ 9223372036854775807) (h2 : s.length * c ≤ 140737488355328) :
    ACall P f [.str s, .int .i64 c] H fp fun v' H' => v' = .str (Lib.repeatL s c) ∧ H' = H := by
  refine acall_calls hf hb hname rfl fun W0 ι w l hR hv => ?_
  simp only [VRels, VRel] at hv
  obtain ⟨_, _, rfl, rfl, _, _, rfl, rfl, rfl⟩ := hv
  exact ⟨.string ⟨(Lib.repeatL s c).toArray⟩, by simp [VRel], by simpa using hc ⟨s.toArray⟩ c w h1 (by simpa [Lib.size_eq] using h2)⟩
theorem good_repeat {f : FuncId} {fn : Func} (hf : P.funcs[f]? = some fn) (hb : fn.body.isSome = true) (hname : (fn.name == "runtime.NumGoroutine") = false)
    (hc : ∀ (s : ByteArray) (c : Nat) (w : World), c ≤ 9223372036854775807 → s.size * c ≤ 140737488355328 → Calls P f #[.string s, .int .i64 c] w fun e w' => e = .returned (.string ⟨(Lib.repeatL s.data.toList c).toArray⟩) ∧ Below w.heap.size w w')
    {args : List AVal} {v : AVal} {H : AHeap} {fp : Nat → Prop} (h : sRepeat args = some v) : ACall P f args H fp fun v' H' => v' = v ∧ H' = H := by
  unfold sRepeat at h
  split at h
  · rename_i s c
    split at h
    · rename_i hh
      cases h
      obtain ⟨n, rfl⟩ := Int.eq_ofNat_of_zero_le hh.1
      exact acall_repeat hf hb hname hc (by omega) (by simpa using hh.2.2)
    · cases h
  · cases h

theorem acall_join {f : FuncId} {fn : Func} (hf : P.funcs[f]? = some fn) (hb : fn.body.isSome = true) (hname : (fn.name == "runtime.NumGoroutine") = false)
    (hc : ∀ (bk o c : Nat) (xs : List ByteArray) (sep : ByteArray) (w : World), (∀ (j : Nat) x, xs[j]? = some x → w.cell? ⟨bk, o + j, none⟩ = some (.string x)) → bk < w.heap.size → xs.length ≤ 140737488355328 → xs.length ≤ c →
      (Lib.join (xs.map (·.data.toList)) sep.data.toList).length ≤ 140737488355328 →
      Calls P f #[.slice (some ⟨bk, o, none⟩) xs.length c, .string sep] w fun e w' => e = .returned (.string ⟨(Lib.join (xs.map (·.data.toList)) sep.data.toList).toArray⟩) ∧ Below w.heap.size w w')
    {r g o n : Nat} {sep : List UInt8} {l : List (List UInt8)} {H : AHeap} {fp : Nat → Prop} (hl : aloads H r g o n = some (l.map .str)) (h0 : 0 < n) (h1 : l.length ≤ 140737488355328) (h2 : (Lib.join l sep).length ≤ 140737488355328) :
    ACall P f [.slice r g o n 1, .str sep] H fp fun v' H' => v' = .str (Lib.join l sep) ∧ H' = H := by
  refine acall_calls hf hb hname rfl fun W0 ι w vs hR hv => ?_
  simp only [VRels] at hv
  obtain ⟨v, _, rfl, hv1, _, _, rfl, hv2, rfl⟩ := hv
  have hn : l.length = n := by
    unfold aloads at hl
    split at hl
    · split at hl
      · rename_i cs _ hc2
        have := congrArg List.length (Option.some.inj hl)
        simp at this
        omega
      · cases hl
    · cases hl
  have hcell : ∀ j x, l[j]? = some x → ∃ win, ι r = some (g, win) ∧ w.cell? ⟨win.blk, win.off + (o + j), none⟩ = some (.string ⟨x.toArray⟩) := by
    intro j x hx
    have hj : j < n := by have := (List.getElem?_eq_some_iff.1 hx).1; omega
    have := aloads_load hl hj
    rw [List.getElem?_map, hx] at this
    obtain ⟨win, a1, y, a2, a3⟩ := hR.load this
    simp only [VRel] at a3
    subst a3
    exact ⟨win, a1, a2⟩
  obtain ⟨win, hι, _⟩ := hcell 0 (l[0]'(by omega)) (by simp)
  obtain ⟨a, cap, rfl, hlc, _, _, had⟩ := hv1.slice_at hι
  have had := had.resolve_left (by omega)
  subst had
  have hv2 := hv2.str_inv
  subst hv2
  have := hc win.blk (win.off + o) cap (l.map fun s => ⟨s.toArray⟩) ⟨sep.toArray⟩ w ?_ (hR.lt hι) (by simpa using h1) (by simp; omega) (by simpa [Function.comp_def] using h2)
  · refine ⟨.string ⟨(Lib.join l sep).toArray⟩, by simp [VRel], ?_⟩
    simpa [Function.comp_def, hn] using this
  · intro j x hx
    rw [List.getElem?_map, Option.map_eq_some_iff] at hx
    obtain ⟨s, hs, rfl⟩ := hx
    obtain ⟨win', b1, b2⟩ := hcell j s hs
    rw [hι] at b1; cases b1
    rw [Nat.add_assoc]; exact b2
theorem good_join {f : FuncId} {fn : Func} (hf : P.funcs[f]? = some fn) (hb : fn.body.isSome = true) (hname : (fn.name == "runtime.NumGoroutine") = false)
    (hc : ∀ (bk o c : Nat) (xs : List ByteArray) (sep : ByteArray) (w : World), (∀ (j : Nat) x, xs[j]? = some x → w.cell? ⟨bk, o + j, none⟩ = some (.string x)) → bk < w.heap.size → xs.length ≤ 140737488355328 → xs.length ≤ c →
      (Lib.join (xs.map (·.data.toList)) sep.data.toList).length ≤ 140737488355328 →
      Calls P f #[.slice (some ⟨bk, o, none⟩) xs.length c, .string sep] w fun e w' => e = .returned (.string ⟨(Lib.join (xs.map (·.data.toList)) sep.data.toList).toArray⟩) ∧ Below w.heap.size w w')
    {args : List AVal} {v : AVal} {H : AHeap} {fp : Nat → Prop} (h : sJoin H args = some v) : ACall P f args H fp fun v' H' => v' = v ∧ H' = H := by
  unfold sJoin at h
  split at h
  · split at h
    · rename_i cs hcs
      split at h
      · rename_i l hl
        split at h
        · rename_i hh
          cases h
          rw [joinG_eq]
          rw [joinG_eq] at hh
          rw [strsOf_inv hl] at hcs
          exact acall_join hf hb hname hc hcs hh.1 hh.2.1 hh.2.2
        · cases h
      · cases h
    · cases h
  · cases h

def saysTrue : Option (AVal × AHeap × List Nat) → Bool
  | some (.bool true, [], []) => true
  | _ => false
theorem says_true {o : Option (AVal × AHeap × List Nat)} (h : saysTrue o = true) : o = some (.bool true, [], []) := by
  unfold saysTrue at h
  split at h
  · rfl
  · cases h
/-- Examples that the evaluator says are true hold in every state. -/
theorem acall_true (hm : P.follows .mixedOrders = true) {L : List (Nat × XFun)} (hL : AllOk P L) {S : Fns} (hS : Good P S) {N d f : Nat} (h : saysTrue (xcall (lookX L) S N d f [] []) = true) (H : AHeap) (fp : Nat → Prop) :
    ACall P f [] H fp fun v' H' => v' = .bool true ∧ H' = H := by
  refine (ACall.closed (xcall_good hm (lookX_ok hL) hS d f [] [] (.bool true) [] [] (says_true h)) rfl ?_ H fp).mono ?_
  · rintro v H' ⟨rfl, rfl⟩; rfl
  · rintro v H' ⟨rfl, _, rfl, rfl⟩; exact ⟨rfl, rfl⟩
end

/-! ### Closed calls reckoned in pieces -/
def cutAt : Nat → XCode → XCode
  | 0, x => x
  | k + 1, .seq _ b => cutAt k b
  | _ + 1, x => x
def segAt (k : Nat) (x : XCode) : XCode := match cutAt k x with
  | .seq a _ => a
  | x => x
def isSeq : XCode → Bool
  | .seq _ _ => true
  | _ => false
theorem cutAt_seq : ∀ (k : Nat) (x : XCode), isSeq (cutAt k x) = true → cutAt k x = .seq (segAt k x) (cutAt (k + 1) x)
  | 0, x, h => by
    cases x <;> first | rfl | (simp [cutAt, isSeq] at h)
  | k + 1, x, h => by
    cases x with
    | seq a b =>
      have h2 : isSeq (cutAt k b) = true := h
      have := cutAt_seq k b h2
      simp only [segAt, cutAt] at this ⊢
      exact this
    | _ => simp [cutAt, isSeq] at h
theorem seg_step {Φ : Fns} {N k : Nat} {x : XCode} {l l' : BT} {H H' : AHeap} {W W' : List Nat} {r : Option (XExit × XState)} (hs : isSeq (cutAt k x) = true) (h : xexec Φ N (segAt k x) l H W = some (.normal, l', H', W'))
    (h2 : xexec Φ N (cutAt (k + 1) x) l' H' W' = r) : xexec Φ N (cutAt k x) l H W = r := by
  rw [cutAt_seq k x hs]
  simp only [xexec, h, h2]
theorem xcall_step {X : FuncId → Option XFun} {S : Fns} {N d : Nat} {f : FuncId} {args : List AVal} {H : AHeap} {xf : XFun} {b l' : BT} {e : XExit} {H' : AHeap} {W : List Nat} {vs : List AVal} (hS : S f args H = none) (hX : X f = some xf)
    (hb : BT.ofArgs 0 args .nil = some b) (hx : xexec (xcall X S N d) N xf.body b H [] = some (e, l', H', W)) (he : e.ends = true ∧ args.length ≤ xf.n) (hv : resVal (envOf l') H' xf.res = some vs) :
    xcall X S N (d + 1) f args H = some (tell H (retVal vs) H' W) := by
  simp only [xcall, hS, hX, hb, hx, hv, if_pos he]
def natsBeq : List Nat → List Nat → Bool
  | [], [] => true
  | a :: l, b :: m => Nat.beq a b && natsBeq l m
  | _, _ => false
theorem natsBeq_eq : ∀ {l m : List Nat}, natsBeq l m = true → l = m
  | [], m, h => by cases m <;> simp [natsBeq] at h ⊢
  | a :: l, m, h => by cases m <;> simp [natsBeq] at h ⊢; exact ⟨h.1, natsBeq_eq h.2⟩
def okN (r : Option (XExit × XState)) (l : BT) (H : AHeap) (W : List Nat) : Bool := match r with
  | some (.normal, l', H', W') => heapBeq H' H && BT.beq l' l && natsBeq W' W
  | _ => false
def okR (r : Option (XExit × XState)) (l : BT) (H : AHeap) (W : List Nat) : Bool := match r with
  | some (.ret, l', H', W') => heapBeq H' H && BT.beq l' l && natsBeq W' W
  | _ => false
theorem okN_eq {r : Option (XExit × XState)} {l : BT} {H : AHeap} {W : List Nat} (h : okN r l H W = true) : r = some (.normal, l, H, W) := by
  unfold okN at h
  split at h
  · simp only [Bool.and_eq_true] at h
    rw [heapBeq_eq h.1.1, BT.beq_eq h.1.2, natsBeq_eq h.2]
  · cases h
theorem okR_eq {r : Option (XExit × XState)} {l : BT} {H : AHeap} {W : List Nat} (h : okR r l H W = true) : r = some (.ret, l, H, W) := by
  unfold okR at h
  split at h
  · simp only [Bool.and_eq_true] at h
    rw [heapBeq_eq h.1.1, BT.beq_eq h.1.2, natsBeq_eq h.2]
  · cases h
theorem says_of {o : Option (AVal × AHeap × List Nat)} {r : AVal × AHeap × List Nat} (h : o = some r) (h2 : saysTrue (some r) = true) : saysTrue o = true := by rw [h]; exact h2
end Go.Proofs.YtalbjkemcckokaaGreat.Ab

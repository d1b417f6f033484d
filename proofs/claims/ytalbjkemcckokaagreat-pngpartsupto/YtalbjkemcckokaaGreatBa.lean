/- The abstract layer: strings.Builder: its methods' code, and what they do. Conditions: as each says; a library for the texts behind it. -/
import Derived.Test.YtalbjkemcckokaaGreatAz
namespace Go.Proofs.YtalbjkemcckokaaGreat.Ab
open Go.RowKit (Below)
set_option linter.unusedVariables false
set_option linter.unusedSimpArgs false

def xCopyCheck (ne tB : Nat) : XFun := ⟨20, [], (.seq (.ops [⟨some 2, none, (.s (.move (.t 0)))⟩, ⟨some 3, none, (.s (.nilCheck (.t 2)))⟩, ⟨some 4, none, (.s (.fieldAddr 0 (.t 3)))⟩, ⟨some 5, none, (.s (.load1 (.t 4)))⟩, ⟨some 6, none, (.s (.eqNilP false (.t 5) (.c .nilptr)))⟩]) (.cond (.t 6) (.ops [⟨some 7, none, (.s (.move (.t 0)))⟩, ⟨some 8, none, (.s (.move (.t 0)))⟩, ⟨some 9, none, (.s (.toUns (.t 8)))⟩, ⟨some 10, none, (.call ne [(.t 9)])⟩, ⟨some 11, none, (.s (.fromUns tB 2 (.t 10)))⟩, ⟨some 12, none, (.s (.nilCheck (.t 7)))⟩, ⟨some 13, none, (.s (.fieldAddr 0 (.t 12)))⟩, ⟨none, none, (.e (.store 1 (.t 13) (.t 11)))⟩]) (.seq (.ops [⟨some 14, none, (.s (.move (.t 0)))⟩, ⟨some 15, none, (.s (.nilCheck (.t 14)))⟩, ⟨some 16, none, (.s (.fieldAddr 0 (.t 15)))⟩, ⟨some 17, none, (.s (.load1 (.t 16)))⟩, ⟨some 18, none, (.s (.move (.t 0)))⟩, ⟨some 19, none, (.s (.eqNilP true (.t 17) (.t 18)))⟩]) (.cond (.t 19) .bad .skip))))⟩
def xWriteString (cc tE : Nat) : XFun := ⟨19, [(.tmp 4), (.tmp 5)], (.seq (.ops [⟨some 4, none, (.s (.move (.c (.int .i64 0))))⟩, ⟨some 5, none, (.s (.move (.c .undef)))⟩]) (.seq (.ops [⟨some 6, none, (.s (.move (.t 0)))⟩, ⟨some 7, none, (.call cc [(.t 6)])⟩]) (.seq (.ops [⟨some 8, none, (.s (.move (.t 0)))⟩, ⟨some 9, none, (.s (.move (.t 0)))⟩, ⟨some 10, none, (.s (.nilCheck (.t 9)))⟩, ⟨some 11, none, (.s (.fieldAddr 1 (.t 10)))⟩, ⟨some 12, none, (.s (.load1 (.t 11)))⟩, ⟨some 13, none, (.s (.move (.t 1)))⟩, ⟨some 14, none, (.e (.append 1 1 tE (.t 12) (.t 13)))⟩, ⟨some 15, none, (.s (.nilCheck (.t 8)))⟩, ⟨some 16, none, (.s (.fieldAddr 1 (.t 15)))⟩, ⟨none, none, (.e (.store 1 (.t 16) (.t 14)))⟩]) (.seq (.ops [⟨some 17, none, (.s (.move (.t 1)))⟩, ⟨some 18, none, (.s (.lenS (.t 17)))⟩, ⟨some 4, none, (.s (.move (.t 18)))⟩, ⟨some 5, none, (.s (.move (.c .undef)))⟩]) .ret))))⟩
def xWrite (cc tE : Nat) : XFun := ⟨19, [(.tmp 4), (.tmp 5)], (.seq (.ops [⟨some 4, none, (.s (.move (.c (.int .i64 0))))⟩, ⟨some 5, none, (.s (.move (.c .undef)))⟩]) (.seq (.ops [⟨some 6, none, (.s (.move (.t 0)))⟩, ⟨some 7, none, (.call cc [(.t 6)])⟩]) (.seq (.ops [⟨some 8, none, (.s (.move (.t 0)))⟩, ⟨some 9, none, (.s (.move (.t 0)))⟩, ⟨some 10, none, (.s (.nilCheck (.t 9)))⟩, ⟨some 11, none, (.s (.fieldAddr 1 (.t 10)))⟩, ⟨some 12, none, (.s (.load1 (.t 11)))⟩, ⟨some 13, none, (.s (.move (.t 1)))⟩, ⟨some 14, none, (.e (.append 1 1 tE (.t 12) (.t 13)))⟩, ⟨some 15, none, (.s (.nilCheck (.t 8)))⟩, ⟨some 16, none, (.s (.fieldAddr 1 (.t 15)))⟩, ⟨none, none, (.e (.store 1 (.t 16) (.t 14)))⟩]) (.seq (.ops [⟨some 17, none, (.s (.move (.t 1)))⟩, ⟨some 18, none, (.s (.lenSl (.t 17)))⟩, ⟨some 4, none, (.s (.move (.t 18)))⟩, ⟨some 5, none, (.s (.move (.c .undef)))⟩]) .ret))))⟩
def xWriteByte (cc tE : Nat) : XFun := ⟨17, [(.tmp 4)], (.seq (.ops [⟨some 4, none, (.s (.move (.c .undef)))⟩]) (.seq (.ops [⟨some 5, none, (.s (.move (.t 0)))⟩, ⟨some 6, none, (.call cc [(.t 5)])⟩]) (.seq (.ops [⟨some 7, none, (.s (.move (.t 0)))⟩, ⟨some 8, none, (.s (.move (.t 0)))⟩, ⟨some 9, none, (.s (.nilCheck (.t 8)))⟩, ⟨some 10, none, (.s (.fieldAddr 1 (.t 9)))⟩, ⟨some 11, none, (.s (.load1 (.t 10)))⟩, ⟨some 12, none, (.s (.move (.t 1)))⟩, ⟨some 13, none, (.e (.buildSlice tE 1 1 [(.int .u8 0)] [(0, 1, (.t 12))]))⟩, ⟨some 14, none, (.e (.append 1 1 tE (.t 11) (.t 13)))⟩, ⟨some 15, none, (.s (.nilCheck (.t 7)))⟩, ⟨some 16, none, (.s (.fieldAddr 1 (.t 15)))⟩, ⟨none, none, (.e (.store 1 (.t 16) (.t 14)))⟩]) (.seq (.ops [⟨some 4, none, (.s (.move (.c .undef)))⟩]) .ret))))⟩
def xString (tE : Nat) : XFun := ⟨14, [(.tmp 2)], (.seq (.ops [⟨some 2, none, (.s (.move (.c (.str []))))⟩]) (.seq (.draw [⟨⟨some 3, none, (.s (.move (.t 0)))⟩, 0, []⟩, ⟨⟨some 4, none, (.s (.nilCheck (.t 3)))⟩, 1, []⟩, ⟨⟨some 5, none, (.s (.fieldAddr 1 (.t 4)))⟩, 2, []⟩, ⟨⟨some 6, none, (.s (.load1 (.t 5)))⟩, 3, []⟩, ⟨⟨some 7, none, (.s (.sliceData (.t 6)))⟩, 4, []⟩, ⟨⟨some 8, none, (.s (.move (.t 0)))⟩, 5, []⟩, ⟨⟨some 9, none, (.s (.nilCheck (.t 8)))⟩, 6, []⟩, ⟨⟨some 10, none, (.s (.fieldAddr 1 (.t 9)))⟩, 7, []⟩, ⟨⟨some 11, none, (.s (.load1 (.t 10)))⟩, 8, []⟩, ⟨⟨some 12, none, (.s (.lenSl (.t 11)))⟩, 9, []⟩, ⟨⟨some 13, none, (.e (.unsafeStr tE (.t 7) (.t 12)))⟩, 10, []⟩, ⟨⟨some 2, none, (.s (.move (.t 13)))⟩, 11, []⟩]) .ret))⟩
def xBLen : XFun := ⟨8, [(.tmp 2)], (.seq (.ops [⟨some 2, none, (.s (.move (.c (.int .i64 0))))⟩]) (.seq (.ops [⟨some 3, none, (.s (.move (.t 0)))⟩, ⟨some 4, none, (.s (.nilCheck (.t 3)))⟩, ⟨some 5, none, (.s (.fieldAddr 1 (.t 4)))⟩, ⟨some 6, none, (.s (.load1 (.t 5)))⟩, ⟨some 7, none, (.s (.lenSl (.t 6)))⟩, ⟨some 2, none, (.s (.move (.t 7)))⟩]) .ret))⟩

section
variable {env : Env} {H : AHeap}
def vEqP (H : AHeap) (neg : Bool) : AVal → AVal → Option AVal
  | .ptr r g _, .nilptr => if ageOk H r g = true then some (.bool neg) else none
  | .nilptr, .nilptr => some (.bool !neg)
  | .ptr r g o, .ptr r' g' o' => if r = r' ∧ g = g' ∧ o = o' ∧ ageOk H r g = true then some (.bool !neg) else none
  | _, _ => none
@[simp ↓] theorem val_eqNilP {neg : Bool} {x y : XOpd} : SOp.val env H (.eqNilP neg x y) = vEqP H neg (x.ev env) (y.ev env) := by
  simp only [SOp.val]; generalize XOpd.ev env x = u; generalize XOpd.ev env y = u2; cases u <;> cases u2 <;> rfl
@[simp] theorem vEqP_pn {neg : Bool} {r g o : Nat} : vEqP H neg (.ptr r g o) .nilptr = if ageOk H r g = true then some (.bool neg) else none := rfl
@[simp] theorem vEqP_nn {neg : Bool} : vEqP H neg .nilptr .nilptr = some (.bool !neg) := rfl
@[simp] theorem vEqP_pp {neg : Bool} {r g o r' g' o' : Nat} : vEqP H neg (.ptr r g o) (.ptr r' g' o') = if r = r' ∧ g = g' ∧ o = o' ∧ ageOk H r g = true then some (.bool !neg) else none := rfl
def vEqSl (H : AHeap) (neg : Bool) : AVal → AVal → Option AVal
  | .slice r g _ _ _, .nilslice => if ageOk H r g = true then some (.bool neg) else none
  | .eslice, .nilslice => some (.bool neg)
  | .nilslice, .nilslice => some (.bool !neg)
  | _, _ => none
@[simp ↓] theorem val_eqNilS {neg : Bool} {x y : XOpd} : SOp.val env H (.eqNilS neg x y) = vEqSl H neg (x.ev env) (y.ev env) := by
  simp only [SOp.val]; generalize XOpd.ev env x = u; generalize XOpd.ev env y = u2; cases u <;> cases u2 <;> rfl
@[simp] theorem vEqSl_sn {neg : Bool} {r g o l z : Nat} : vEqSl H neg (.slice r g o l z) .nilslice = if ageOk H r g = true then some (.bool neg) else none := rfl
@[simp] theorem vEqSl_en {neg : Bool} : vEqSl H neg .eslice .nilslice = some (.bool neg) := rfl
@[simp] theorem vEqSl_nn {neg : Bool} : vEqSl H neg .nilslice .nilslice = some (.bool !neg) := rfl
def vToUns (H : AHeap) : AVal → Option AVal
  | .nilptr => some .nilptr
  | .ptr r g o => match H[r]? with
    | some (.cells g' _ _ cs) => if g = g' ∧ o < cs.length then some (.ptr r g o) else none
    | _ => none
  | _ => none
@[simp ↓] theorem val_toUns {x : XOpd} : SOp.val env H (.toUns x) = vToUns H (x.ev env) := by
  simp only [SOp.val]; generalize XOpd.ev env x = u; cases u <;> rfl
theorem vToUns_at {r g o : Nat} {ro : Bool} {e : Nat} {cs : List AVal} (h : H[r]? = some (.cells g ro e cs)) (ho : o < cs.length) : vToUns H (.ptr r g o) = some (.ptr r g o) := by simp [vToUns, h, ho]
def vFromUns (H : AHeap) (u n : Nat) : AVal → Option AVal
  | .nilptr => some .nilptr
  | .ptr r g o => match H[r]? with
    | some (.cells g' ro ety cs) => if g = g' ∧ o = 0 ∧ ro = false ∧ ety = u ∧ n ≤ cs.length then some (.ptr r g 0) else none
    | _ => none
  | _ => none
@[simp ↓] theorem val_fromUns {u n : Nat} {x : XOpd} : SOp.val env H (.fromUns u n x) = vFromUns H u n (x.ev env) := by
  simp only [SOp.val]; generalize XOpd.ev env x = v; cases v <;> rfl
theorem vFromUns_at {r g u n : Nat} {cs : List AVal} (h : H[r]? = some (.cells g false u cs)) (hn : n ≤ cs.length) : vFromUns H u n (.ptr r g 0) = some (.ptr r g 0) := by simp [vFromUns, h, hn]
def vSlData (H : AHeap) : AVal → Option AVal
  | .nilslice => some .nilptr
  | .slice r g o len _ => if ageOk H r g = true ∧ 0 < len then some (.ptr r g o) else none
  | _ => none
@[simp ↓] theorem val_sliceData {x : XOpd} : SOp.val env H (.sliceData x) = vSlData H (x.ev env) := by
  simp only [SOp.val]; generalize XOpd.ev env x = v; cases v <;> rfl
@[simp] theorem vSlData_nil : vSlData H .nilslice = some .nilptr := rfl
@[simp] theorem vSlData_sl {r g o l z : Nat} : vSlData H (.slice r g o l z) = if ageOk H r g = true ∧ 0 < l then some (.ptr r g o) else none := rfl
def vUnsStr (H : AHeap) (e : Nat) : AVal → AVal → Option (AVal × AHeap)
  | .nilptr, .int .i64 m => if m = 0 then some (.str [], H) else none
  | .ptr r g o, .int .i64 m => match H[r]? with
      | some (.cells g' ro ety cs) =>
        if g = g' ∧ o = 0 ∧ ro = false ∧ ety = e ∧ 0 < m ∧ m ≤ cs.length ∧ m ≤ 9223372036854775807 then (toBytesS (cs.take m.toNat)).map fun s => (.str s, H.set r (.cells (g + 1) false ety []))
        else none
      | _ => none
  | _, _ => none
@[simp ↓] theorem val_unsafeStr {e : Nat} {x n : XOpd} : EOp.val env H (.unsafeStr e x n) = vUnsStr H e (x.ev env) (n.ev env) := by
  simp only [EOp.val]; generalize XOpd.ev env x = u; generalize XOpd.ev env n = u2; cases u <;> cases u2 <;> first | rfl | (rename_i k _; cases k <;> rfl)
@[simp] theorem vUnsStr_nil {e : Nat} : vUnsStr H e .nilptr (.int .i64 0) = some (.str [], H) := rfl
@[simp ↓] theorem target_unsafeStr {e : Nat} {x n : XOpd} {i : Nat} : EOp.target env (.unsafeStr e x n) i = wAt (x.ev env) i := by
  simp only [EOp.target]; generalize XOpd.ev env x = u; cases u <;> rfl
@[simp] theorem wAt_nilptr {i : Nat} : wAt .nilptr i = False := rfl
theorem toBytesS_bytesOf : ∀ s : List UInt8, toBytesS (bytesOf s) = some s
  | [] => rfl
  | a :: s => by
    have ih := toBytesS_bytesOf s
    have : (a.toNat : Int) < 256 := by have := a.toNat_lt; omega
    simp only [bytesOf, List.map_cons, toBytesS] at ih ⊢
    rw [if_pos ⟨by omega, this⟩, ih]
    simp
theorem vUnsStr_at {r g e : Nat} {s : List UInt8} (h : H[r]? = some (.cells g false e (bytesOf s))) (h0 : s ≠ []) (hl : s.length ≤ 9223372036854775807) :
    vUnsStr H e (.ptr r g 0) (.int .i64 s.length) = some (.str s, H.set r (.cells (g + 1) false e [])) := by
  have : 0 < s.length := List.length_pos_iff.2 h0
  have h2 : (bytesOf s).take s.length = bytesOf s := List.take_of_length_le (by simp)
  simp only [vUnsStr, h]
  rw [if_pos ⟨trivial, trivial, trivial, trivial, by omega, by simp, by omega⟩]
  simp only [Int.toNat_natCast, h2, toBytesS_bytesOf, Option.map_some]
end

/-- A Builder in block b that holds the text s; it touches no block of B. -/
def Bld (B : Nat → Prop) (tB tE : Nat) (H : AHeap) (b : Nat) (s : List UInt8) : Prop :=
  ¬ B b ∧ ∃ adr buf, H[b]? = some (.cells 0 false tB [adr, buf]) ∧ (adr = .nilptr ∨ adr = .ptr b 0 0) ∧ OwnX (fun k => B k ∨ k = b) H tE buf (bytesOf s) ∧ (s = [] → buf = .nilslice)

section
variable {B : Nat → Prop} {tB tE : Nat} {H H' : AHeap} {b : Nat} {s : List UInt8}
theorem Bld.lt (h : Bld B tB tE H b s) : b < H.length := by
  obtain ⟨_, _, _, h, _⟩ := h
  exact (List.getElem?_eq_some_iff.1 h).1
theorem Bld.keep (h : Bld B tB tE H b s) (hk : ∀ k, ¬ B k → k < H.length → H'[k]? = H[k]?) : Bld B tB tE H' b s := by
  have hl := h.lt
  obtain ⟨h1, adr, buf, h2, h3, h4, h5⟩ := h
  refine ⟨h1, adr, buf, by rw [hk b h1 hl]; exact h2, h3, h4.keep fun k hk1 hk2 => hk k (fun c => hk1 (.inl c)) hk2, h5⟩
theorem Bld.sub {B' : Nat → Prop} (h : Bld B tB tE H b s) (hb : ∀ r, r < H.length → B' r → B r) : Bld B' tB tE H b s := by
  have hl := h.lt
  obtain ⟨h1, adr, buf, h2, h3, h4, h5⟩ := h
  exact ⟨fun c => h1 (hb b hl c), adr, buf, h2, h3, h4.sub fun r hr c => c.imp (hb r hr) id, h5⟩
/-- A new Builder. -/
theorem Bld.fresh (hB : ∀ r, B r → r < H.length) : Bld B tB tE (H ++ [.cells 0 false tB [.nilptr, .nilslice]]) H.length [] :=
  ⟨fun c => Nat.lt_irrefl _ (hB _ c), .nilptr, .nilslice, by simp, .inl rfl, .inl ⟨rfl, rfl⟩, fun _ => rfl⟩
end

section
variable {P : Program} {B : Nat → Prop} {tB tE : Nat} {H : AHeap} {b : Nat} {s : List UInt8} {fp : Nat → Prop}

theorem copyCheck_ok (hm : P.follows .mixedOrders = true) {f : FuncId} {fn : Func} (hf : P.funcs[f]? = some fn) {ne : Nat} (hx : xfun P fn = some (xCopyCheck ne tB)) (hne : ∀ (x : AVal) (H : AHeap) (fp : Nat → Prop), ACall P ne [x] H fp fun v' H' => v' = x ∧ H' = H)
    {adr buf : AVal} (h : H[b]? = some (.cells 0 false tB [adr, buf])) (ha : adr = .nilptr ∨ adr = .ptr b 0 0) (hfp : fp b) :
    ACall P f [.ptr b 0 0] H fp fun v H' => v = .tuple [] ∧ H' = H.set b (.cells 0 false tB [.ptr b 0 0, buf]) := by
  refine acall_of hm hf hx (by simp) ?_
  have hl := (List.getElem?_eq_some_iff.1 h).1
  have l0 : aload H b 0 0 = some adr := by rw [aload_at h]; rfl
  have hag := ageOk_at h
  rcases ha with rfl | rfl
  · have hu : vToUns H (.ptr b 0 0) = some (.ptr b 0 0) := vToUns_at h (by simp)
    have hfu : vFromUns H tB 2 (.ptr b 0 0) = some (.ptr b 0 0) := vFromUns_at h (by simp)
    have hst : astore H b 0 0 (.ptr b 0 0) = some (H.set b (.cells 0 false tB [.ptr b 0 0, buf])) := by rw [astore_at h]; simp
    simp (config := {contextual := true, implicitDefEqProofs := false}) (disch := omega) [l0, hag, hu]
    refine call1_eq (hne _ _ _) ?_
    simp (config := {contextual := true, implicitDefEqProofs := false}) (disch := omega) [l0, hag, hfu, hst, hfp]
  · simp (config := {contextual := true, implicitDefEqProofs := false}) (disch := omega) [l0, hag]
    obtain ⟨hl2, h2⟩ := List.getElem?_eq_some_iff.1 h
    rw [← h2, List.set_getElem_self]

/-- What is known of the other functions that a Builder's methods call. -/
abbrev CCok (P : Program) (cc tB : Nat) : Prop := ∀ (H : AHeap) (b : Nat) (adr buf : AVal) (fp : Nat → Prop), H[b]? = some (.cells 0 false tB [adr, buf]) → (adr = .nilptr ∨ adr = .ptr b 0 0) → fp b →
  ACall P cc [.ptr b 0 0] H fp fun v H' => v = .tuple [] ∧ H' = H.set b (.cells 0 false tB [.ptr b 0 0, buf])

theorem writeString_ok (hm : P.follows .mixedOrders = true) {f : FuncId} {fn : Func} (hf : P.funcs[f]? = some fn) {cc : Nat} (hx : xfun P fn = some (xWriteString cc tE)) (hcc : CCok P cc tB)
    (h : Bld B tB tE H b s) (hB : ∀ r, B r → r < H.length) {t : List UInt8} (hl : s.length + t.length ≤ roomLim) (hfp : ∀ r, ¬ B r → fp r) :
    ACall P f [.ptr b 0 0, .str t] H fp fun v H' => v = .tuple [.int .i64 t.length, .undef] ∧ Bld B tB tE H' b (s ++ t) ∧ H.length ≤ H'.length ∧ ∀ k, B k → H'[k]? = H[k]? := by
  have hlt := h.lt
  obtain ⟨hb, adr, buf, h2, h3, h4, hn⟩ := h
  refine acall_of hm hf hx (by simp) ?_
  simp (config := {contextual := true, implicitDefEqProofs := false}) (disch := omega)
  refine call1_eq (hcc _ _ _ _ _ h2 h3 (.inl (hfp b hb))) ?_
  obtain ⟨H1, hH1⟩ : ∃ H1, H.set b (.cells 0 false tB [.ptr b 0 0, buf]) = H1 := ⟨_, rfl⟩
  rw [hH1]
  have e1 : H1[b]? = some (.cells 0 false tB [.ptr b 0 0, buf]) := by rw [← hH1, List.getElem?_set_self hlt]
  have hlen1 : H1.length = H.length := by rw [← hH1]; simp
  have fr1 : ∀ k, k ≠ b → H1[k]? = H[k]? := fun k hk => by rw [← hH1, List.getElem?_set_ne (Ne.symm hk)]
  have h4 : OwnX (fun k => B k ∨ k = b) H1 tE buf (bytesOf s) := h4.keep fun k hk _ => fr1 k fun e => hk (.inr e)
  have hB1 : ∀ r, (B r ∨ r = b) → r < H1.length := by
    rintro r (hr | rfl)
    · have := hB r hr; omega
    · omega
  obtain ⟨buf', H2, ha, ho, hle, hfr⟩ := h4.append (bytes := 1) hB1 (asrc_str (s := t)) (by simp) (bytesOf_one t) (by simpa using hl)
  have hn' : s ++ t = [] → buf' = .nilslice := by
    intro e
    obtain ⟨e1, e2⟩ := List.append_eq_nil_iff.1 e
    subst e1 e2
    rw [hn rfl] at ha
    simp [aappend, asrc] at ha
    exact ha.1.symm
  have l1 : aload H1 b 0 1 = some buf := by rw [aload_at e1]; rfl
  have hag := ageOk_at e1
  have e2 : H2[b]? = some (.cells 0 false tB [.ptr b 0 0, buf]) := by rw [hfr b (.inr rfl)]; exact e1
  have hag2 := ageOk_at e2
  have hst : astore H2 b 0 1 buf' = some (H2.set b (.cells 0 false tB [.ptr b 0 0, buf'])) := by rw [astore_at e2]; simp [ho.one]
  have htg : ∀ r, appTarget buf r → fp r ∨ H.length ≤ r := fun r hr => .inl (hfp r fun c => h4.target hr (.inl c))
  simp (config := {contextual := true, implicitDefEqProofs := false}) (disch := omega) [l1, hag, ha, hag2, ho.cells, ho.known, hst, htg, hfp b hb]
  refine ⟨?_, by omega, fun k hk => ?_⟩
  · refine ⟨hb, .ptr b 0 0, buf', ?_, .inr rfl, ?_, hn'⟩
    · rw [List.getElem?_set_self (by omega)]
    · rw [bytesOf_app]
      exact ho.keep fun k hk _ => List.getElem?_set_ne (fun e => hk (.inr e.symm))
  · have hkb : k ≠ b := fun e => hb (e ▸ hk)
    rw [List.getElem?_set_ne (Ne.symm hkb), hfr k (.inl hk), fr1 k hkb]
theorem write_ok (hm : P.follows .mixedOrders = true) {f : FuncId} {fn : Func} (hf : P.funcs[f]? = some fn) {cc : Nat} (hx : xfun P fn = some (xWrite cc tE)) (hcc : CCok P cc tB)
    (h : Bld B tB tE H b s) (hB : ∀ r, B r → r < H.length) {t : List UInt8} {x : AVal} (hxs : Sl H x (bytesOf t)) (hxB : ∀ r, appTarget x r → B r) (hl : s.length + t.length ≤ roomLim) (hfp : ∀ r, ¬ B r → fp r) :
    ACall P f [.ptr b 0 0, x] H fp fun v H' => v = .tuple [.int .i64 t.length, .undef] ∧ Bld B tB tE H' b (s ++ t) ∧ H.length ≤ H'.length ∧ ∀ k, B k → H'[k]? = H[k]? := by
  have hlt := h.lt
  obtain ⟨hb, adr, buf, h2, h3, h4, hn⟩ := h
  refine acall_of hm hf hx (by simp) ?_
  simp (config := {contextual := true, implicitDefEqProofs := false}) (disch := omega)
  refine call1_eq (hcc _ _ _ _ _ h2 h3 (.inl (hfp b hb))) ?_
  obtain ⟨H1, hH1⟩ : ∃ H1, H.set b (.cells 0 false tB [.ptr b 0 0, buf]) = H1 := ⟨_, rfl⟩
  rw [hH1]
  have e1 : H1[b]? = some (.cells 0 false tB [.ptr b 0 0, buf]) := by rw [← hH1, List.getElem?_set_self hlt]
  have hlen1 : H1.length = H.length := by rw [← hH1]; simp
  have fr1 : ∀ k, k ≠ b → H1[k]? = H[k]? := fun k hk => by rw [← hH1, List.getElem?_set_ne (Ne.symm hk)]
  have h4 : OwnX (fun k => B k ∨ k = b) H1 tE buf (bytesOf s) := h4.keep fun k hk _ => fr1 k fun e => hk (.inr e)
  have hxs1 : Sl H1 x (bytesOf t) := hxs.keepAt fun r hr _ => fr1 r fun e => hb (e ▸ hxB r hr)
  have hB1 : ∀ r, (B r ∨ r = b) → r < H1.length := by
    rintro r (hr | rfl)
    · have := hB r hr; omega
    · omega
  obtain ⟨buf', H2, ha, ho, hle, hfr⟩ := h4.append (bytes := 1) hB1 hxs1.src (by simp) (bytesOf_one t) (by simpa using hl)
  have hn' : s ++ t = [] → buf' = .nilslice := by
    intro e
    obtain ⟨e1, e2⟩ := List.append_eq_nil_iff.1 e
    subst e1 e2
    rw [hn rfl] at ha
    simp [aappend, hxs1.src] at ha
    exact ha.1.symm
  have l1 : aload H1 b 0 1 = some buf := by rw [aload_at e1]; rfl
  have hag := ageOk_at e1
  have e2 : H2[b]? = some (.cells 0 false tB [.ptr b 0 0, buf]) := by rw [hfr b (.inr rfl)]; exact e1
  have hag2 := ageOk_at e2
  have hst : astore H2 b 0 1 buf' = some (H2.set b (.cells 0 false tB [.ptr b 0 0, buf'])) := by rw [astore_at e2]; simp [ho.one]
  have hfin : ∀ k, B k → (H2.set b (.cells 0 false tB [.ptr b 0 0, buf']))[k]? = H[k]? := by
    intro k hk
    have hkb : k ≠ b := fun e => hb (e ▸ hk)
    rw [List.getElem?_set_ne (Ne.symm hkb), hfr k (.inl hk), fr1 k hkb]
  have hxl : vLen (H2.set b (.cells 0 false tB [.ptr b 0 0, buf'])) x = some (.int .i64 t.length) := by simpa using (hxs.keepAt fun r hr _ => hfin r (hxB r hr)).len
  have htg : ∀ r, appTarget buf r → fp r ∨ H.length ≤ r := fun r hr => .inl (hfp r fun c => h4.target hr (.inl c))
  simp (config := {contextual := true, implicitDefEqProofs := false}) (disch := omega) [l1, hag, ha, hag2, ho.cells, ho.known, hst, htg, hfp b hb, hxl]
  refine ⟨?_, by omega, fun k hk => ?_⟩
  · refine ⟨hb, .ptr b 0 0, buf', ?_, .inr rfl, ?_, hn'⟩
    · rw [List.getElem?_set_self (by omega)]
    · rw [bytesOf_app]
      exact ho.keep fun k hk _ => List.getElem?_set_ne (fun e => hk (.inr e.symm))
  · have hkb : k ≠ b := fun e => hb (e ▸ hk)
    rw [List.getElem?_set_ne (Ne.symm hkb), hfr k (.inl hk), fr1 k hkb]

theorem writeByte_ok (hm : P.follows .mixedOrders = true) {f : FuncId} {fn : Func} (hf : P.funcs[f]? = some fn) {cc : Nat} (hx : xfun P fn = some (xWriteByte cc tE)) (hcc : CCok P cc tB)
    (h : Bld B tB tE H b s) (hB : ∀ r, B r → r < H.length) {c : UInt8} (hl : s.length + 1 ≤ roomLim) (hfp : ∀ r, ¬ B r → fp r) :
    ACall P f [.ptr b 0 0, .int .u8 c.toNat] H fp fun v H' => v = .undef ∧ Bld B tB tE H' b (s ++ [c]) ∧ H.length ≤ H'.length ∧ ∀ k, B k → H'[k]? = H[k]? := by
  have hlt := h.lt
  obtain ⟨hb, adr, buf, h2, h3, h4, hn⟩ := h
  refine acall_of hm hf hx (by simp) ?_
  simp (config := {contextual := true, implicitDefEqProofs := false}) (disch := omega)
  refine call1_eq (hcc _ _ _ _ _ h2 h3 (.inl (hfp b hb))) ?_
  obtain ⟨H1, hH1⟩ : ∃ H1, H.set b (.cells 0 false tB [.ptr b 0 0, buf]) = H1 := ⟨_, rfl⟩
  rw [hH1]
  have e1 : H1[b]? = some (.cells 0 false tB [.ptr b 0 0, buf]) := by rw [← hH1, List.getElem?_set_self hlt]
  have hlen1 : H1.length = H.length := by rw [← hH1]; simp
  have fr1 : ∀ k, k ≠ b → H1[k]? = H[k]? := fun k hk => by rw [← hH1, List.getElem?_set_ne (Ne.symm hk)]
  have h4 : OwnX (fun k => B k ∨ k = b) H1 tE buf (bytesOf s) := h4.keep fun k hk _ => fr1 k fun e => hk (.inr e)
  have hB1 : ∀ r, (B r ∨ r = b) → r < H1.length := by
    rintro r (hr | rfl)
    · have := hB r hr; omega
    · omega
  have h4 : OwnX (fun k => B k ∨ k = b) (H1 ++ [.cells 0 false tE (bytesOf [c])]) tE buf (bytesOf s) := h4.keep fun k _ hk => List.getElem?_append_left hk
  obtain ⟨buf', H2, ha, ho, hle, hfr⟩ := h4.append (bytes := 1) (x := .slice H1.length 0 0 1 1) (new := bytesOf [c]) (n := 1) (fun r hr => by have := hB1 r hr; simp; omega) (by simp [asrc, bytesOf]) rfl (by simp [AVal.one]) (by simpa using hl)
  have hfr : ∀ k, (B k ∨ k = b) → H2[k]? = H1[k]? := fun k hk => by rw [hfr k hk, List.getElem?_append_left (hB1 k hk)]
  have hle : H1.length ≤ H2.length := by simp at hle; omega
  have hn' : s ++ [c] = [] → buf' = .nilslice := by intro e; simp at e
  have ha : aappend 1 1 tE buf (.slice H1.length 0 0 1 1) (H1 ++ [.cells 0 false tE [.int .u8 (c.toNat : Int)]]) = some (buf', H2) := ha
  have l1 : aload H1 b 0 1 = some buf := by rw [aload_at e1]; rfl
  have hbs : [AVal.int .u8 (c.toNat : Int)] = bytesOf [c] := rfl
  have hag := ageOk_at e1
  have e2 : H2[b]? = some (.cells 0 false tB [.ptr b 0 0, buf]) := by rw [hfr b (.inr rfl)]; exact e1
  have hag2 := ageOk_at e2
  have hst : astore H2 b 0 1 buf' = some (H2.set b (.cells 0 false tB [.ptr b 0 0, buf'])) := by rw [astore_at e2]; simp [ho.one]
  have htg : ∀ r, appTarget buf r → fp r ∨ H.length ≤ r := fun r hr => .inl (hfp r fun c => h4.target hr (.inl c))
  simp (config := {contextual := true, implicitDefEqProofs := false}) (disch := omega) [l1, hag, ha, hag2, ho.cells, ho.known, hst, htg, hfp b hb, zrep, afill]
  refine ⟨?_, by omega, fun k hk => ?_⟩
  · refine ⟨hb, .ptr b 0 0, buf', ?_, .inr rfl, ?_, hn'⟩
    · rw [List.getElem?_set_self (by omega)]
    · rw [bytesOf_app]
      exact ho.keep fun k hk _ => List.getElem?_set_ne (fun e => hk (.inr e.symm))
  · have hkb : k ≠ b := fun e => hb (e ▸ hk)
    rw [List.getElem?_set_ne (Ne.symm hkb), hfr k (.inl hk), fr1 k hkb]

theorem bString_ok (hm : P.follows .mixedOrders = true) {f : FuncId} {fn : Func} (hf : P.funcs[f]? = some fn) (hx : xfun P fn = some (xString tE))
    (h : Bld B tB tE H b s) (hl : s.length ≤ roomLim) (hfp : ∀ r, ¬ B r → fp r) :
    ACall P f [.ptr b 0 0] H fp fun v H' => v = .str s ∧ H'.length = H.length ∧ ∀ k, B k → H'[k]? = H[k]? := by
  have hlt := h.lt
  obtain ⟨hb, adr, buf, h2, h3, h4, hn⟩ := h
  have l1 : aload H b 0 1 = some buf := by rw [aload_at h2]; rfl
  have hag := ageOk_at h2
  refine acall_of hm hf hx (by simp) ?_
  rcases h4 with ⟨rfl, e⟩ | ⟨r, g, hr, rfl, h5⟩
  · have e : s = [] := List.eq_nil_of_length_eq_zero (by simpa using congrArg List.length e)
    subst e
    simp (config := {contextual := true, implicitDefEqProofs := false}) (disch := omega) [l1, hag]
  · by_cases e : s = []
    · have := hn e
      cases this
    · have h0 : 0 < s.length := List.length_pos_iff.2 e
      have hu := vUnsStr_at h5 e (by unfold roomLim at hl; omega)
      have hag2 := ageOk_at h5
      simp (config := {contextual := true, implicitDefEqProofs := false}) (disch := omega) [l1, hag, hag2, h0, hu, hfp r fun c => hr (.inl c)]
      exact fun k hk => List.getElem?_set_ne (fun c => hr (.inl (by rw [c]; exact hk)))
theorem bLen_ok (hm : P.follows .mixedOrders = true) {f : FuncId} {fn : Func} (hf : P.funcs[f]? = some fn) (hx : xfun P fn = some xBLen)
    (h : Bld B tB tE H b s) : ACall P f [.ptr b 0 0] H fp fun v H' => v = .int .i64 s.length ∧ H' = H := by
  obtain ⟨hb, adr, buf, h2, h3, h4, hn⟩ := h
  have l1 : aload H b 0 1 = some buf := by rw [aload_at h2]; rfl
  have hag := ageOk_at h2
  have hl := h4.sl.len
  refine acall_of hm hf hx (by simp) ?_
  simp (config := {contextual := true, implicitDefEqProofs := false}) (disch := omega) [l1, hag, hl]
end
end Go.Proofs.YtalbjkemcckokaaGreat.Ab

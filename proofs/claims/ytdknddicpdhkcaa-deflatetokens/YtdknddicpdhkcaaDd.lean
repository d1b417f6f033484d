/- Deflate: the finder of matches. Conditions: none; for the statements about layer 47. -/
import Derived.Test.YtdknddicpdhkcaaDc
import Derived.WalkArith
namespace Go.Proofs.Ytdknddicpdhkcaa.Ab
set_option linter.unusedVariables false
set_option linter.unusedSimpArgs false

/-! ### What it computes -/
def key3 (s : List UInt8) (q : Nat) : Int × Int × Int := (((chr s q).toNat : Nat), ((chr s (q + 1)).toNat : Nat), ((chr s (q + 2)).toNat : Nat))
def lastP (s : List UInt8) (l : Int × Int × Int) : Nat → Option Nat
  | 0 => none
  | p + 1 => if p + 3 ≤ s.length ∧ key3 s p = l then some p else lastP s l p
def asI : Option Nat → Int
  | some q => q
  | none => -1
def prevV (s : List UInt8) (q : Nat) : Int := if q + 3 ≤ s.length then asI (lastP s (key3 s q) q) else -1
def scanC (s : List UInt8) (p : Nat) : Nat → Nat × Nat
  | 0 => (0, 0)
  | D + 1 => if key3 s (p - (D + 1)) = key3 s p ∧ (scanC s p D).1 < com s p (p - (D + 1)) then (com s p (p - (D + 1)), D + 1) else scanC s p D
def findM (s : List UInt8) (p : Nat) : Nat × Nat := if p + 3 ≤ s.length then scanC s p (min 4096 p) else (0, 0)

theorem lastP_some {s : List UInt8} {l : Int × Int × Int} : ∀ {n q : Nat}, lastP s l n = some q → q < n ∧ q + 3 ≤ s.length ∧ key3 s q = l ∧ ∀ r, q < r → r < n → r + 3 ≤ s.length → key3 s r ≠ l
  | 0, q, h => by simp [lastP] at h
  | n + 1, q, h => by
    rw [lastP] at h
    split at h
    · rename_i hc
      cases h
      exact ⟨by omega, hc.1, hc.2, fun r h1 h2 => by omega⟩
    · rename_i hc
      obtain ⟨h1, h2, h3, h4⟩ := lastP_some h
      refine ⟨by omega, h2, h3, fun r g1 g2 g3 g4 => ?_⟩
      by_cases e : r = n
      · subst e; exact hc ⟨g3, g4⟩
      · exact h4 r g1 (by omega) g3 g4
theorem lastP_none {s : List UInt8} {l : Int × Int × Int} : ∀ {n : Nat}, lastP s l n = none → ∀ r, r < n → r + 3 ≤ s.length → key3 s r ≠ l
  | 0, _, r, h, _ => by omega
  | n + 1, h, r, h1, h2 => by
    rw [lastP] at h
    split at h
    · cases h
    · rename_i hc
      intro g
      by_cases e : r = n
      · subst e; exact hc ⟨h2, g⟩
      · exact lastP_none h r (by omega) h2 g
theorem scanC_le (s : List UInt8) (p : Nat) : ∀ D, (scanC s p D).1 ≤ 258 ∧ (scanC s p D).2 ≤ D ∧ ((scanC s p D).1 = 0 ∨ 1 ≤ (scanC s p D).2)
  | 0 => by simp [scanC]
  | D + 1 => by
    have := scanC_le s p D
    have h2 := com_le s p (p - (D + 1))
    rw [scanC]; split
    · exact ⟨h2, Nat.le_refl _, .inr (by simp only []; omega)⟩
    · exact ⟨this.1, by omega, this.2.2⟩
theorem scanC_skip {s : List UInt8} {p D : Nat} : ∀ {D2 : Nat}, D ≤ D2 → (∀ d, D < d → d ≤ D2 → key3 s (p - d) = key3 s p → 258 ≤ (scanC s p D).1) → scanC s p D2 = scanC s p D
  | 0, h, _ => by rw [show D = 0 by omega]
  | D2 + 1, h, hk => by
    by_cases e : D = D2 + 1
    · rw [e]
    · have ih := scanC_skip (s := s) (p := p) (D := D) (D2 := D2) (by omega) fun d h1 h2 => hk d h1 (by omega)
      rw [scanC, ih]
      rw [if_neg]
      rintro ⟨h1, h2⟩
      have := hk (D2 + 1) (by omega) (Nat.le_refl _) h1
      have := com_le s p (p - (D2 + 1))
      omega

section
variable {s : List UInt8} {H : AHeap} {fp : Nat → Prop} {f m v p : Nat}

theorem key3_wf (s : List UInt8) (q : Nat) : akey3 .u8 (.agg [.int .u8 (key3 s q).1, .int .u8 (key3 s q).2.1, .int .u8 (key3 s q).2.2]) = some (key3 s q) := by
  have w : ∀ c : UInt8, (Lit.int .u8 ((c.toNat : Nat) : Int)).wf = true := fun c => by
    have := UInt8.toNat_lt c
    exact WalkArith.wf_u8 (by omega)
  unfold akey3 key3
  dsimp only
  rw [if_pos ⟨rfl, rfl, rfl, w _, w _, w _⟩]
def keyA (s : List UInt8) (q : Nat) : AVal := .agg [.int .u8 (key3 s q).1, .int .u8 (key3 s q).2.1, .int .u8 (key3 s q).2.2]

theorem key_ok (hs : s.length ≤ 2 ^ 40) (hp : p + 3 ≤ s.length) (hr : ageOk H f 0 = true) (hl : aload H f 0 0 = some (.str s)) : ACall Try.prog 68 [.ptr f 0 0, .int .i64 p] H fp fun v H' => v = keyA s p ∧ H' = H := by
  refine (ACall.drop (R := fun v' _ => v' = keyA s p) ?_ (by rintro v' H' rfl; rfl)).mono fun v' H' q => ⟨q.2.elim fun _ q => q.1, q.1⟩
  refine acall_of hmix Try.func68 x68_ok (by simp) ?_
  have hfl : f < H.length := by
    unfold ageOk at hr
    split at hr
    · rename_i hb; exact (List.getElem?_eq_some_iff.1 hb).1
    · cases hr
  have g0 : ∀ L, ageOk (H ++ L) f 0 = true := fun L => by unfold ageOk at hr ⊢; rw [List.getElem?_append_left hfl]; exact hr
  have g1 : ∀ L, aload (H ++ L) f 0 0 = some (.str s) := fun L => by unfold aload at hl ⊢; rw [List.getElem?_append_left hfl]; exact hl
  have a1 : abin .add (.int .i64 (p : Int)) (.int .i64 1) = some (.int .i64 ((p + 1 : Nat) : Int)) := addN (b := 1) (by omega)
  have a2 : abin .add (.int .i64 (p : Int)) (.int .i64 2) = some (.int .i64 ((p + 2 : Nat) : Int)) := addN (b := 2) (by omega)
  have i0 := vIdxStr_nat (s := s) (k := .i64) (n := p) (by omega)
  have i1 := vIdxStr_nat (s := s) (k := .i64) (n := p + 1) (by omega)
  have i2 := vIdxStr_nat (s := s) (k := .i64) (n := p + 2) (by omega)
  have hst : ∀ a b c : AVal, a.one = true → b.one = true → c.one = true → astores [.cells 0 false 87 [.int .u8 0, .int .u8 0, .int .u8 0]] 0 0 0 [a, b, c] = some [.cells 0 false 87 [a, b, c]] := by
    intro a b c h1 h2 h3
    exact astores_all (L := []) (cs := [.int .u8 0, .int .u8 0, .int .u8 0]) (new := [a, b, c]) rfl (by simp [h1, h2, h3])
  simp (config := {contextual := true, implicitDefEqProofs := false}) (disch := omega) [g0, g1, a1, a2, i0, i1, i2, afill, hst (.int .u8 ((chr s p).toNat : Nat)) (.int .u8 ((chr s (p + 1)).toNat : Nat)) (.int .u8 ((chr s (p + 2)).toNat : Nat)) rfl rfl rfl, resVal, keyA, key3, -abin_add, -Int.natCast_add]

/-- The finder at f, with its map m and its list v: all places before p are known. -/
def FD (H : AHeap) (f m v : Nat) (s : List UInt8) (p : Nat) : Prop :=
  H[f]? = some (.cells 0 false 79 [.str s, .map m, .slice v 0 0 s.length 1]) ∧ v ≠ f ∧
  (∃ es, H[m]? = some (.map es) ∧ mkeys .u8 es = true ∧ ∀ l, mget .u8 l es = (lastP s l p).map fun q => .int .i64 (q : Int)) ∧
  ∃ g : Nat → Int, H[v]? = some (.cells 0 false 3 (Arr s.length g)) ∧ ∀ q, q < p → g q = prevV s q

theorem vLookup_def {env : Env} {kd : IntKind} {zero : AVal} {ok : Bool} {x i : XOpd} : SOp.val env H (.lookup kd zero ok x i) = (match x.ev env, akey3 kd (i.ev env) with
    | .map r, some l => match H[r]? with
      | some (.map es) => if mkeys kd es = true then some (if ok = true then .tuple [(mget kd l es).getD zero, .bool (mget kd l es).isSome] else (mget kd l es).getD zero) else none
      | _ => none
    | _, _ => none) := rfl
def vLook (H : AHeap) (kd : IntKind) (zero : AVal) (ok : Bool) (x i : AVal) : Option AVal := match x, akey3 kd i with
    | .map r, some l => match H[r]? with
      | some (.map es) => if mkeys kd es = true then some (if ok = true then .tuple [(mget kd l es).getD zero, .bool (mget kd l es).isSome] else (mget kd l es).getD zero) else none
      | _ => none
    | _, _ => none
@[simp ↓] theorem val_lookup {env : Env} {kd : IntKind} {zero : AVal} {ok : Bool} {x i : XOpd} : SOp.val env H (.lookup kd zero ok x i) = vLook H kd zero ok (x.ev env) (i.ev env) := rfl
def vMapPut (H : AHeap) (kd : IntKind) (x k v : AVal) : Option (AVal × AHeap) := match x, akey3 kd k with
    | .map r, some l => match H[r]? with
      | some (.map es) => if mkeys kd es = true ∧ v.one = true then some (.tuple [], H.set r (.map (mput kd l k v es))) else none
      | _ => none
    | _, _ => none
@[simp ↓] theorem val_mapPut {env : Env} {kd : IntKind} {x k v : XOpd} : EOp.val env H (.mapPut kd x k v) = vMapPut H kd (x.ev env) (k.ev env) (v.ev env) := rfl
def mTarget (x : AVal) (k : Nat) : Prop := match x with
  | .map r => k = r
  | _ => False
@[simp] theorem mTarget_map {r k : Nat} : mTarget (.map r) k = (k = r) := rfl
@[simp ↓] theorem target_mapPut {env : Env} {kd : IntKind} {x k v : XOpd} {i : Nat} : EOp.target env (.mapPut kd x k v) i = mTarget (x.ev env) i := by
  simp only [EOp.target]; generalize XOpd.ev env x = u; cases u <;> rfl
@[simp ↓] theorem val_makeMap {env : Env} : EOp.val env H .makeMap = some (.map H.length, H ++ [.map []]) := rfl
@[simp ↓] theorem target_makeMap {env : Env} {i : Nat} : EOp.target env .makeMap i = False := rfl

theorem look_ok {es : List (AVal × AVal)} {zero : AVal} (hm : H[m]? = some (.map es)) (hk : mkeys .u8 es = true) (q : Nat) : vLook H .u8 zero true (.map m) (keyA s q) = some (.tuple [(mget .u8 (key3 s q) es).getD zero, .bool (mget .u8 (key3 s q) es).isSome]) := by
  simp only [vLook, keyA, key3_wf, hm, hk, if_true]
theorem mput_get {l l' : Int × Int × Int} {k v : AVal} (hk : akey3 .u8 k = some l) : ∀ {es : List (AVal × AVal)}, mkeys .u8 es = true → mget .u8 l' (mput .u8 l k v es) = if l' = l then some v else mget .u8 l' es
  | [], _ => by
    simp only [mput, mget, hk, Option.some.injEq]
    by_cases e : l = l'
    · rw [if_pos e, if_pos e.symm]
    · rw [if_neg e, if_neg (Ne.symm e)]
  | (k0, v0) :: es, hm => by
    simp only [mkeys] at hm
    split at hm
    · rename_i l0 h0
      simp only [Bool.and_eq_true, Option.isNone_iff_eq_none] at hm
      by_cases e : l0 = l
      · subst e
        simp only [mput, h0, if_true, mget, hk, Option.some.injEq]
        by_cases e2 : l0 = l'
        · rw [if_pos e2, if_pos e2.symm]
        · rw [if_neg e2, if_neg (Ne.symm e2), if_neg e2]
      · have ih := mput_get (l' := l') (v := v) hk hm.2
        simp only [mput, h0, Option.some.injEq, e, if_false, mget, ih]
        by_cases e2 : l0 = l'
        · subst e2; rw [if_pos rfl, if_neg e, if_pos rfl]
        · rw [if_neg e2, if_neg e2]
    · cases hm
theorem mput_keys {l : Int × Int × Int} {k v : AVal} (hk : akey3 .u8 k = some l) : ∀ {es : List (AVal × AVal)}, mkeys .u8 es = true → mkeys .u8 (mput .u8 l k v es) = true
  | [], _ => by simp [mput, mkeys, hk, mget]
  | (k0, v0) :: es, hm => by
    have hm0 := hm
    simp only [mkeys] at hm
    split at hm
    · rename_i l0 h0
      simp only [Bool.and_eq_true, Option.isNone_iff_eq_none] at hm
      by_cases e : l0 = l
      · subst e
        simp only [mput, h0, if_true, mkeys, hk, hm.1, hm.2, Option.isNone_none, Bool.and_self]
      · simp only [mput, h0, Option.some.injEq, e, if_false, mkeys, mput_get hk hm.2, hm.1, Option.isNone_none, mput_keys hk hm.2, Bool.and_self]
    · cases hm

theorem add_ok (hs : s.length ≤ 2 ^ 40) (hF : FD H f m v s p) (hp : p < s.length) : ACall Try.prog 58 [.ptr f 0 0, .int .i64 p] H (fun r => r = m ∨ r = v) fun u H' => u = .tuple [] ∧ FD H' f m v s (p + 1) := by
  obtain ⟨hf, hvf, ⟨es, hm, hk, hget⟩, g, hv, hg⟩ := hF
  refine acall_of hmix Try.func58 x58_ok (by simp) ?_
  have hmf : m ≠ f := by intro c; subst c; rw [hm] at hf; cases hf
  have hmv : m ≠ v := by intro c; subst c; rw [hm] at hv; cases hv
  have hvl := (List.getElem?_eq_some_iff.1 hv).1
  have hfl := (List.getElem?_eq_some_iff.1 hf).1
  have hml := (List.getElem?_eq_some_iff.1 hm).1
  have gf := ageOk_at hf
  have gv := ageOk_at hv
  have lf0 : aload H f 0 0 = some (.str s) := by rw [aload_at hf]; rfl
  have lf2 : aload H f 0 2 = some (.slice v 0 0 s.length 1) := by rw [aload_at hf]; rfl
  have st : ∀ x : Int, astore H v 0 p (.int .i64 x) = some (H.set v (.cells 0 false 3 (Arr s.length fun k => if k = p then x else g k))) := by
    intro x; rw [astore_at hv, if_pos ⟨by simpa using hp, rfl⟩, Arr_set]
  -- behind the first store
  have hf1 : ∀ b : ABlk, (H.set v b)[f]? = some (.cells 0 false 79 [.str s, .map m, .slice v 0 0 s.length 1]) := fun b => by rw [List.getElem?_set_ne hvf]; exact hf
  have gf1 := fun b => ageOk_at (hf1 b)
  have lf10 : ∀ b, aload (H.set v b) f 0 0 = some (.str s) := fun b => by rw [aload_at (hf1 b)]; rfl
  have a3 : abin .add (.int .i64 (p : Int)) (.int .i64 3) = some (.int .i64 ((p + 3 : Nat) : Int)) := addN (b := 3) (by omega)
  by_cases c : p + 3 ≤ s.length
  · have kst : astores [.cells 0 false 87 [.int .u8 0, .int .u8 0, .int .u8 0]] 0 0 0 [.int .u8 (key3 s p).1, .int .u8 (key3 s p).2.1, .int .u8 (key3 s p).2.2] = some [.cells 0 false 87 [.int .u8 (key3 s p).1, .int .u8 (key3 s p).2.1, .int .u8 (key3 s p).2.2]] :=
      astores_all (L := []) (cs := [.int .u8 0, .int .u8 0, .int .u8 0]) (new := [.int .u8 (key3 s p).1, .int .u8 (key3 s p).2.1, .int .u8 (key3 s p).2.2]) rfl rfl
    have hkA : keyA s p = .agg [.int .u8 (key3 s p).1, .int .u8 (key3 s p).2.1, .int .u8 (key3 s p).2.2] := rfl
    simp (config := {contextual := true, implicitDefEqProofs := false}) (disch := omega) [gf, gv, lf0, lf2, hp, show (p : Int) < s.length by omega, st, gf1, lf10, a3, show ¬ (s.length : Int) < ((p + 3 : Nat) : Int) by omega, show ¬ s.length < p + 3 by omega, -abin_add, -Int.natCast_add]
    refine call1_eq (key_ok hs c (gf1 _) (lf10 _)) ?_
    rw [hkA]
    have hG1 := hf1 (.cells 0 false 3 (Arr s.length fun k => if k = p then -1 else g k))
    have hG2 : (H.set v (.cells 0 false 3 (Arr s.length fun k => if k = p then -1 else g k)))[m]? = some (.map es) := by rw [List.getElem?_set_ne (Ne.symm hmv)]; exact hm
    have hG3 : (H.set v (.cells 0 false 3 (Arr s.length fun k => if k = p then -1 else g k)))[v]? = some (.cells 0 false 3 (Arr s.length fun k => if k = p then -1 else g k)) := List.getElem?_set_self hvl
    have hG4 : (H.set v (.cells 0 false 3 (Arr s.length fun k => if k = p then -1 else g k))).length = H.length := by simp
    generalize H.set v (.cells 0 false 3 (Arr s.length fun k => if k = p then -1 else g k)) = G at *
    have hG1' : ∀ L, (G ++ L)[f]? = some (.cells 0 false 79 [.str s, .map m, .slice v 0 0 s.length 1]) := fun L => by rw [List.getElem?_append_left (by omega)]; exact hG1
    have hG2' : ∀ L, (G ++ L)[m]? = some (.map es) := fun L => by rw [List.getElem?_append_left (by omega)]; exact hG2
    have hG3' : ∀ L, (G ++ L)[v]? = some (.cells 0 false 3 (Arr s.length fun k => if k = p then -1 else g k)) := fun L => by rw [List.getElem?_append_left (by omega)]; exact hG3
    have gf2 := fun L => ageOk_at (hG1' L)
    have gv2 := fun L => ageOk_at (hG3' L)
    have lf21 : ∀ L, aload (G ++ L) f 0 1 = some (.map m) := fun L => by rw [aload_at (hG1' L)]; rfl
    have lf22 : ∀ L, aload (G ++ L) f 0 2 = some (.slice v 0 0 s.length 1) := fun L => by rw [aload_at (hG1' L)]; rfl
    have lk := fun L => look_ok (s := s) (zero := .int .i64 0) (hG2' L) hk p
    rw [hget, hkA] at lk
    have hkw : akey3 .u8 (keyA s p) = some (key3 s p) := key3_wf s p
    have fin : ∀ (G5 : AHeap) (g5 : Nat → Int), G5[f]? = some (.cells 0 false 79 [.str s, .map m, .slice v 0 0 s.length 1]) → G5[v]? = some (.cells 0 false 3 (Arr s.length g5)) → m < G5.length → (∀ q, q < p → g5 q = g q) → g5 p = asI (lastP s (key3 s p) p) →
        FD (G5.set m (.map (mput .u8 (key3 s p) (keyA s p) (.int .i64 p) es))) f m v s (p + 1) := by
      intro G5 g5 h1 h2 h3 h4 h5
      refine ⟨by rw [List.getElem?_set_ne hmf]; exact h1, hvf, ⟨_, List.getElem?_set_self h3, mput_keys hkw hk, fun l => ?_⟩, g5, by rw [List.getElem?_set_ne hmv]; exact h2, fun q hq => ?_⟩
      · rw [mput_get hkw hk, lastP]
        by_cases e : l = key3 s p
        · rw [if_pos e, if_pos ⟨c, e.symm⟩]; rfl
        · rw [if_neg e, if_neg (fun h => e h.2.symm)]; exact hget l
      · by_cases e : q = p
        · subst e; rw [h5, prevV, if_pos c]
        · rw [h4 q (by omega)]; exact hg q (by omega)
    have mp : ∀ G5 : AHeap, G5[m]? = some (.map es) → vMapPut G5 .u8 (.map m) (.agg [.int .u8 (key3 s p).1, .int .u8 (key3 s p).2.1, .int .u8 (key3 s p).2.2]) (.int .i64 p) = some (.tuple [], G5.set m (.map (mput .u8 (key3 s p) (keyA s p) (.int .i64 p) es))) := by
      intro G5 h
      simp only [vMapPut, key3_wf, h]
      rw [if_pos ⟨hk, rfl⟩]; rfl
    cases hlast : lastP s (key3 s p) p with
    | none =>
      rw [hlast] at lk
      simp (config := {contextual := true, implicitDefEqProofs := false}) (disch := omega) [kst, gf2, lf21, lk, mp _ (hG2' _), -List.set_append_left, -List.set_append_right]
      exact ⟨.inr (by omega), fin _ (fun k => if k = p then (-1 : Int) else g k) (hG1' _) (hG3' _) (by rw [List.length_append]; omega) (fun q hq => by show (if q = p then (-1 : Int) else g q) = g q; rw [if_neg (by omega)]) (by show (if p = p then (-1 : Int) else g p) = _; rw [if_pos rfl, hlast]; rfl)⟩
    | some q =>
      rw [hlast] at lk
      have st2 : ∀ L, astore (G ++ L) v 0 p (.int .i64 (q : Int)) = some ((G ++ L).set v (.cells 0 false 3 (Arr s.length fun k => if k = p then (q : Int) else g k))) := by
        intro L
        rw [astore_at (hG3' L), if_pos ⟨by simpa using hp, rfl⟩, Arr_set]
        congr 3
        apply Arr_congr
        intro k _
        by_cases e : k = p
        · rw [if_pos e, if_pos e]
        · rw [if_neg e, if_neg e, if_neg e]
      have hH1 : ∀ L b, ((G ++ L).set v b)[f]? = some (.cells 0 false 79 [.str s, .map m, .slice v 0 0 s.length 1]) := fun L b => by rw [List.getElem?_set_ne hvf]; exact hG1' L
      have gf3 := fun L b => ageOk_at (hH1 L b)
      have lf31 : ∀ L b, aload ((G ++ L).set v b) f 0 1 = some (.map m) := fun L b => by rw [aload_at (hH1 L b)]; rfl
      have hH2 : ∀ L b, ((G ++ L).set v b)[m]? = some (.map es) := fun L b => by rw [List.getElem?_set_ne (Ne.symm hmv)]; exact hG2' L
      have hvG : v < G.length := by omega
      have lk3 : ∀ b : ABlk, aloads ((G ++ [ABlk.cells 0 false 87 [.int .u8 (key3 s p).1, .int .u8 (key3 s p).2.1, .int .u8 (key3 s p).2.2]]).set v b) G.length 0 0 3 = some [.int .u8 (key3 s p).1, .int .u8 (key3 s p).2.1, .int .u8 (key3 s p).2.2] := by
        intro b
        have hb : ((G ++ [ABlk.cells 0 false 87 [AVal.int .u8 (key3 s p).1, AVal.int .u8 (key3 s p).2.1, AVal.int .u8 (key3 s p).2.2]]).set v b)[G.length]? = some (.cells 0 false 87 [.int .u8 (key3 s p).1, .int .u8 (key3 s p).2.1, .int .u8 (key3 s p).2.2]) := by
          rw [List.getElem?_set_ne (by omega)]; simp
        rw [aloads_at hb]; rfl
      simp (config := {contextual := true, implicitDefEqProofs := false}) (disch := omega) [kst, gf2, lf21, lf22, lk, gv2, hp, show (p : Int) < s.length by omega, st2, gf3, lf31, lk3, mp _ (hH2 _ _), -List.set_append_left, -List.set_append_right]
      exact ⟨.inr (by omega), fin _ (fun k => if k = p then (q : Int) else g k) (hH1 _ _) (List.getElem?_set_self (by rw [List.length_append]; omega)) (by rw [List.length_set, List.length_append]; omega) (fun r hr => by show (if r = p then (q : Int) else g r) = g r; rw [if_neg (by omega)]) (by show (if p = p then (q : Int) else g p) = _; rw [if_pos rfl, hlast]; rfl)⟩
  · simp (config := {contextual := true, implicitDefEqProofs := false}) (disch := omega) [gf, gv, lf0, lf2, hp, show (p : Int) < s.length by omega, st, gf1, lf10, a3, show (s.length : Int) < ((p + 3 : Nat) : Int) by omega, show s.length < p + 3 by omega, -abin_add, -Int.natCast_add]
    refine ⟨hf1 _, hvf, ⟨es, by rw [List.getElem?_set_ne (Ne.symm hmv)]; exact hm, hk, fun l => ?_⟩, _, List.getElem?_set_self hvl, fun q hq => ?_⟩
    · rw [hget l, lastP, if_neg (fun h => c h.1)]
    · by_cases e : q = p
      · subst e; rw [if_pos rfl, prevV, if_neg c]
      · rw [if_neg e]; exact hg q (by omega)
end
end Go.Proofs.Ytdknddicpdhkcaa.Ab

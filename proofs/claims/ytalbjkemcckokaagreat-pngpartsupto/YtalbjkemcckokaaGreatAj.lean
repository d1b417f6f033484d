/- The abstract layer, tenth part: operations that make or write memory. Conditions: none; a library for the texts behind it. -/
import Derived.Test.YtalbjkemcckokaaGreatAi
import Derived.Laws.MakeOwn
import Derived.Lib.ConvBytes
namespace Go.Proofs.YtalbjkemcckokaaGreat.Ab
open Go.RowKit (Below)
set_option linter.unusedVariables false
set_option linter.unusedSimpArgs false

def zrep (n : Nat) (zero : List AVal) : List AVal := (List.replicate n zero).flatten

inductive EOp where
  | new (ety : Nat) (zero : List AVal)
  | box (ety : Nat) (x : XOpd)
  | buildSlice (ety z len : Nat) (zero : List AVal) (parts : List (Nat × Nat × XOpd))
  | store (n : Nat) (x v : XOpd)
  | append (z bytes ety : Nat) (s x : XOpd)
  | makeSlice (ety z bytes : Nat) (zero : List AVal) (l c : XOpd)
  | convSB (ety : Nat) (x : XOpd)
  | makeMap
  | mapPut (kd : IntKind) (x k v : XOpd)
  | unsafeStr (e : Nat) (x n : XOpd)
  | clear (z : Nat) (zero : List AVal) (x : XOpd)

/-- Cells that are bytes, as bytes. -/
def toBytesS : List AVal → Option (List UInt8)
  | [] => some []
  | .int .u8 n :: cs => if 0 ≤ n ∧ n < 256 then (toBytesS cs).map (UInt8.ofNat n.toNat :: ·) else none
  | _ => none
theorem toBytesS_inv : ∀ {cs : List AVal} {s : List UInt8}, toBytesS cs = some s → cs = s.map fun b => .int .u8 b.toNat
  | [], s, h => by simp only [toBytesS, Option.some.injEq] at h; subst h; rfl
  | c :: cs, s, h => by
    unfold toBytesS at h
    split at h
    · rename_i e; cases e
    · rename_i n cs' e
      cases e
      split at h
      · rename_i hn
        simp only [Option.map_eq_some_iff] at h
        obtain ⟨s', h1, rfl⟩ := h
        rw [toBytesS_inv h1]
        simp only [List.map_cons, List.cons.injEq, AVal.int.injEq, true_and, and_true]
        have : (UInt8.ofNat n.toNat).toNat = n.toNat % 256 := by simp
        rw [this]; omega
      · cases h
    · cases h

def EOp.val (env : Env) (H : AHeap) : EOp → Option (AVal × AHeap)
  | .new ety zero => some (.ptr H.length 0 0, H ++ [.cells 0 false ety zero])
  | .box ety x => if (x.ev env).known = true then some (.ptr H.length 0 0, H ++ [.cells 0 false ety (x.ev env).cells]) else none
  | .buildSlice ety z len zero parts => match afill env (zrep len zero) parts with
    | some cs => if cs.length = len * z then some (.slice H.length 0 0 len z, H ++ [.cells 0 false ety cs]) else none
    | none => none
  | .store n x v => match x.ev env with
    | .ptr r g o => if (v.ev env).known = true ∧ (v.ev env).cells.length = n ∧ ageOk H r g = true then (astores H r g o (v.ev env).cells).map fun H' => (.tuple [], H') else none
    | _ => none
  | .append z bytes ety s x => aappend z bytes ety (s.ev env) (x.ev env) H
  | .makeSlice ety z bytes zero l c => match l.ev env, c.ev env with
    | .int _ l, .int _ c => if 0 ≤ l ∧ l ≤ c ∧ c.toNat * bytes ≤ roomLim ∧ c ≤ 9223372036854775807 then some (.slice H.length 0 0 l.toNat z, H ++ [.cells 0 false ety (zrep l.toNat zero)]) else none
    | _, _ => none
  | .convSB ety x => match x.ev env with
    | .str s => some (.slice H.length 0 0 s.length 1, H ++ [.cells 0 false ety (s.map fun c => .int .u8 c.toNat)])
    | _ => none

  | .makeMap => some (.map H.length, H ++ [.map []])
  | .mapPut kd x k v => match x.ev env, akey3 kd (k.ev env) with
    | .map r, some l => match H[r]? with
      | some (.map es) => if mkeys kd es = true ∧ (v.ev env).one = true then some (.tuple [], H.set r (.map (mput kd l (k.ev env) (v.ev env) es))) else none
      | _ => none
    | _, _ => none
  | .unsafeStr e x n => match x.ev env, n.ev env with
    | .nilptr, .int .i64 m => if m = 0 then some (.str [], H) else none
    | .ptr r g o, .int .i64 m => match H[r]? with
      | some (.cells g' ro ety cs) =>
        if g = g' ∧ o = 0 ∧ ro = false ∧ ety = e ∧ 0 < m ∧ m ≤ cs.length ∧ m ≤ 9223372036854775807 then (toBytesS (cs.take m.toNat)).map fun s => (.str s, H.set r (.cells (g + 1) false ety []))
        else none
      | _ => none
    | _, _ => none
  | .clear z zero x => match x.ev env with
    | .nilslice => some (.tuple [], H)
    | .eslice => some (.tuple [], H)
    | .slice r g o len z' => if z' = z ∧ ageOk H r g = true then (astores H r g o (zrep len zero)).map fun H' => (.tuple [], H') else none
    | _ => none

/-- The blocks that an operation writes into. -/
def EOp.target (env : Env) : EOp → Nat → Prop
  | .store _ x _ => fun k => match x.ev env with
    | .ptr r _ _ => k = r
    | _ => False
  | .append _ _ _ s _ => appTarget (s.ev env)
  | .mapPut _ x _ _ => fun k => match x.ev env with
    | .map r => k = r
    | _ => False
  | .unsafeStr _ x _ => fun k => match x.ev env with
    | .ptr r _ _ => k = r
    | _ => False
  | .clear _ _ x => appTarget (x.ev env)
  | _ => fun _ => False

def eop (P : Program) (op : Op) : Option EOp :=
  match op with
  | .makeMap t none => match mapK P t with
    | some _ => some .makeMap
    | none => none
  | .mapUpdate t m k x => match mapK P t, xopd m, xopd k, xopd x with
    | some (kd, _, _), some m, some k, some x => some (.mapPut kd m k x)
    | _, _, _, _ => none
  | .alloc e => (zeroOf P e).map (.new e)
  | .box e x => (xopd x).map (.box e)
  | .buildSlice t len parts => match P.underlying t with
    | some (.slice e) => match P.info? e, zeroOf P e with
      | some inf, some zero => if 0 < inf.size ∧ zero.length = inf.size ∧ len * inf.size ≤ 16777216 then
          (xparts (fun i => some (i * inf.size, inf.size)) parts.toList).map (.buildSlice e inf.size len zero) else none
      | _, _ => none
    | _ => none
  | .store t x v => match P.info? t, xopd x, xopd v with
    | some inf, some x, some v => some (.store inf.size x v)
    | _, _, _ => none
  | .makeSlice t l c => match P.underlying t with
    | some (.slice e) => match P.info? e, zeroOf P e, xopd l, xopd c with
      | some inf, some zero, some l, some c => if 0 < inf.size ∧ zero.length = inf.size ∧ 0 < inf.bytes then some (.makeSlice e inf.size inf.bytes zero l c) else none
      | _, _, _, _ => none
    | _ => none
  | .convert src dst x => match P.underlying src, P.underlying dst, xopd x with
    | some .string, some (.slice e), some x => match P.underlying e with
      | some (.int .u8) => some (.convSB e x)
      | _ => none
    | _, _, _ => none
  | .call { callee := .builtin .append, args, argTypes } => match args.toList, argTypes.toList with
    | [s, x], [sT, xT] => match P.underlying sT, xopd s, xopd x with
      | some (.slice e), some s, some x => match P.info? e, zeroOf P e with
        | some inf, some zero => if 0 < inf.size ∧ zero.length = inf.size ∧ 0 < inf.bytes then
            match P.underlying xT with
            | some (.slice _) | some .string => some (.append inf.size inf.bytes e s x)
            | _ => none
          else none
        | _, _ => none
      | _, _, _ => none
    | _, _ => none
  | .call { callee := .builtin .unsafeString, args, argTypes } => match args.toList, argTypes.toList with
    | [x, n], [pt, _] => match P.underlying pt, xopd x, xopd n with
      | some (.pointer e), some x, some n => if P.cellsOf e = 1 then some (.unsafeStr e x n) else none
      | _, _, _ => none
    | _, _ => none
  | .call { callee := .builtin .clear, args, argTypes } => match args.toList, argTypes.toList with
    | [x], [t] => match P.underlying t, xopd x with
      | some (.slice e), some x => match P.info? e, zeroOf P e with
        | some inf, some zero => if 0 < inf.size ∧ zero.length = inf.size then some (.clear inf.size zero x) else none
        | _, _ => none
      | _, _ => none
    | _, _ => none
  | _ => none

/-- Carried out in the world w the operation yields a value that v describes, and a world that H' describes. -/
def EOk (P : Program) (W0 : World) (ι : Inj) (H : AHeap) (w : World) (s : Sem Next) (fp : Nat → Prop) (v : AVal) (H' : AHeap) : Prop :=
  ∃ ι' n y w', s.run P w = .ok n w' ∧ (n = .value y ∨ (n = .skip ∧ y = undef)) ∧ Step W0 fp ι H w ι' H' w' ∧ Rel W0 ι' H' w' ∧ VRel ι' v y

section
variable {P : Program} {W0 : World} {ι : Inj} {H : AHeap} {w : World} {env : Env} {a : Act}

theorem EOk.of_val {s : Sem Value} {fp : Nat → Prop} {v : AVal} {H' : AHeap} {ι' : Inj} {y : Value} {w' : World} (h : s.run P w = .ok y w') (hle : Step W0 fp ι H w ι' H' w') (hR : Rel W0 ι' H' w') (hv : VRel ι' v y) :
    EOk P W0 ι H w (do pure (.value (← s))) fp v H' := ⟨ι', .value y, y, w', by simp [h], .inl rfl, hle, hR, hv⟩

theorem zrep_get (zero : List AVal) : ∀ (n k : Nat), k < n * zero.length → (zrep n zero)[k]? = zero[k % zero.length]?
  | 0, k, h => by simp at h
  | n + 1, k, h => by
    have e : zrep (n + 1) zero = zero ++ zrep n zero := by simp [zrep, List.replicate_succ]
    rw [e, List.getElem?_append]
    split
    · rename_i hk; rw [Nat.mod_eq_of_lt hk]
    · rename_i hk
      have hm : (n + 1) * zero.length = n * zero.length + zero.length := Nat.succ_mul _ _
      rw [zrep_get zero n (k - zero.length) (by omega)]
      rw [show k % zero.length = (k - zero.length) % zero.length from Nat.mod_eq_sub_mod (by omega)]
theorem zrep_length (zero : List AVal) (n : Nat) : (zrep n zero).length = n * zero.length := by
  simp [zrep]

theorem zrep_rel {zero : List AVal} {z : Array Value} (h : VRels ι zero z.toList) (hz : 0 < zero.length) (n m : Nat) (hnm : n ≤ m) :
    VRels ι (zrep n zero) (((List.range (m * z.size)).map (fun i => z[i % z.size]!)).take (n * z.size)) := by
  have hl := h.length
  have hl' : z.size = zero.length := by rw [← hl, Array.length_toList]
  have hmul : n * z.size ≤ m * z.size := Nat.mul_le_mul_right _ hnm
  refine VRels.of_get ?_ ?_
  · rw [zrep_length, List.length_take, List.length_map, List.length_range, hl']
    rw [hl'] at hmul
    omega
  · intro i x hx
    have hi : i < n * zero.length := by
      have := (List.getElem?_eq_some_iff.1 hx).1
      rwa [zrep_length] at this
    rw [zrep_get zero n i hi] at hx
    obtain ⟨v, hv, hr⟩ := h.get _ x hx
    refine ⟨v, ?_, hr⟩
    rw [Array.getElem?_toList] at hv
    have hi' : i < n * z.size := by rw [hl']; exact hi
    rw [List.getElem?_take, if_pos hi', List.getElem?_map, List.getElem?_range (by omega)]
    simp only [Option.map_some]
    rw [hl']
    rw [getElem!_def, hv]

theorem new_ptr (hR : Rel W0 ι H w) (e : TypeId) {cs : List AVal} {c : Array Value} (hv : VRels ι cs c.toList) :
    ∃ ι', Step W0 (fun _ => False) ι H w ι' (H ++ [.cells 0 false e cs]) (w.alloc (.cells c e)) ∧ Rel W0 ι' (H ++ [.cells 0 false e cs]) (w.alloc (.cells c e)) ∧ VRel ι' (.ptr H.length 0 0) (.pointer (some ⟨w.heap.size, 0, none⟩)) := by
  obtain ⟨h1, h2⟩ := hR.alloc e [] (0, 0) (fun _ _ => by simp) hv
  have e1 : (c.toList ++ []).toArray = c := by simp
  rw [e1] at h1
  refine ⟨_, Step.push hR (fun k hk => Below.heap_alloc w _ k hk) (by simp) (Nat.le_refl _), h1, ?_⟩
  simp only [VRel]
  exact ⟨0, _, Inj.put_same _ _ _ _, Nat.le_refl _, ⟨_, rfl⟩, fun _ => rfl⟩

theorem eop_alloc (hR : Rel W0 ι H w) {e : TypeId} {s : EOp} (hs : eop P (.alloc e) = some s) {v : AVal} {H' : AHeap} (hv : s.val env H = some (v, H')) :
    EOk P W0 ι H w (do pure (.value (← Instr.alloc e true (.tuple #[])))) (s.target env) v H' := by
  simp only [eop, Option.map_eq_some_iff] at hs
  obtain ⟨zero, hz, rfl⟩ := hs
  simp only [EOp.val, Option.some.injEq, Prod.mk.injEq] at hv
  obtain ⟨rfl, rfl⟩ := hv
  obtain ⟨zv, h1, h2⟩ := zeroOf_run hz
  obtain ⟨ι', hle, hR', hp⟩ := new_ptr hR e (h2 ι)
  exact .of_val (by simp [Instr.alloc, h1, newVar, newRow]) hle hR' hp

theorem eop_box (hR : Rel W0 ι H w) (hE : ERel ι env a) {e : TypeId} {x : Operand} {s : EOp} (hs : eop P (.box e x) = some s) {v : AVal} {H' : AHeap} (hv : s.val env H = some (v, H')) :
    EOk P W0 ι H w (do pure (.value (← Instr.box e (a.eval x)))) (s.target env) v H' := by
  simp only [eop, Option.map_eq_some_iff] at hs
  obtain ⟨p, hp, rfl⟩ := hs
  have rx := xopd_rel hE hp
  simp only [EOp.val] at hv
  split at hv
  · rename_i hk
    simp only [Option.some.injEq, Prod.mk.injEq] at hv
    obtain ⟨rfl, rfl⟩ := hv
    obtain ⟨ι', hle, hR', hp⟩ := new_ptr hR e (rx.cells hk)
    exact .of_val (by simp [Instr.box, newVar, newRow]) hle hR' hp
  · cases hv

theorem eop_store (hR : Rel W0 ι H w) (hE : ERel ι env a) {t : TypeId} {x y : Operand} {s : EOp} (hs : eop P (.store t x y) = some s) {v : AVal} {H' : AHeap} (hv : s.val env H = some (v, H')) :
    EOk P W0 ι H w (do Instr.storeAt t (a.eval x) (a.eval y); pure .skip) (s.target env) v H' := by
  simp only [eop] at hs
  split at hs
  · rename_i inf p q hinf hp hq
    cases hs
    have rx := xopd_rel hE hp
    have ry := xopd_rel hE hq
    simp only [EOp.val] at hv
    split at hv
    · rename_i r g o e1
      rw [e1] at rx
      split at hv
      · rename_i hc
        obtain ⟨hk, hlen, hag⟩ := hc
        simp only [Option.map_eq_some_iff, Prod.mk.injEq] at hv
        obtain ⟨H1, hst, rfl, rfl⟩ := hv
        obtain ⟨win, hι, _⟩ := ageOk_inv hR hag
        have hcs := ry.cells hk
        have hcl := hcs.length
        obtain ⟨w', hw, hR', hfw, hsw⟩ := Rel.storeCells P hι _ _ o 0 H H1 w hR hcs (by simpa using hst)
        obtain ⟨fa1, fa2⟩ := astores_frame _ _ _ _ hst
        have hstep : Step W0 (fun k => k = r) ι H w ι H1 w' := by
          cases hxs : (q.ev env).cells with
          | nil =>
            rw [hxs] at hst hcs
            simp only [astores, Option.some.injEq] at hst; subst hst
            simp only [VRels] at hcs
            rw [hcs] at hw
            simp only [Go.storeCells, Sem.run_pure, Result.ok.injEq, true_and] at hw
            subst hw
            exact Step.refl _ _ _ _ _
          | cons z zs =>
            rw [hxs] at hst
            have hp : ι.put r g win = ι := by
              funext k; simp only [Inj.put]; split
              · rename_i e; rw [e, hι]
              · rfl
            have hown : W0.heap.size ≤ win.blk := by
              simp only [astores, Option.bind_eq_some_iff] at hst
              obtain ⟨H2, hst1, _⟩ := hst
              unfold astore at hst1
              split at hst1
              · rename_i g' ro ety cs hb
                split at hst1
                · rename_i hc2
                  obtain ⟨g2, win2, h1, h2⟩ := hR.blk r _ hb
                  rw [hι] at h1; cases h1
                  exact (h2.2.2.2.2.1 hc2.2.1).1
                · cases hst1
              · cases hst1
            have := Step.put (H' := H1) (w' := w') (g' := g) (win' := win) hι (.inr ⟨rfl, rfl⟩) hown (fun k _ hk => hfw k hk) (by omega) (.inl rfl) fa1 fa2
            rwa [hp] at this
        refine ⟨ι, .skip, undef, w', ?_, .inr ⟨rfl, rfl⟩, by simpa only [EOp.target, e1] using hstep, hR', by simp only [VRel]; exact ⟨[], rfl, by simp [VRels]⟩⟩
        have hsz : (a.eval y).cells.size = inf.size := by rw [← Array.length_toList]; omega
        simp [rx.ptr_at hι, Instr.storeAt, Instr.sureAddr, storeVar, sizeOf, typeInfo, hinf, hsz, hw]
      · cases hv
    · cases hv
  · cases hs

theorem eop_append (hR : Rel W0 ι H w) (hE : ERel ι env a) {args : Array Operand} {ats : Array TypeId} {ty : TypeId} {s : EOp}
    (hs : eop P (.call { callee := .builtin .append, args := args, argTypes := ats }) = some s) {v : AVal} {H' : AHeap} (hv : s.val env H = some (v, H')) :
    EOk P W0 ι H w (do pure (.value (← Builtin.append_ ats ty (args.map a.eval)))) (s.target env) v H' := by
  simp only [eop] at hs
  split at hs
  · rename_i x y sT xT hx ht
    have ex : args = #[x, y] := by apply Array.ext'; simpa using hx
    have et : ats = #[sT, xT] := by apply Array.ext'; simpa using ht
    subst ex et
    split at hs
    · rename_i e p q hu hp hq
      have rx := xopd_rel hE hp
      have ry := xopd_rel hE hq
      split at hs
      · rename_i inf zero hinf hz
        split at hs
        · rename_i hc
          obtain ⟨pz, hzl, pb⟩ := hc
          have hzero : ∃ zv, inf.zero = some zv ∧ zv.cells.size = inf.size := by
            unfold zeroOf at hz
            rw [hinf] at hz
            simp only at hz
            split at hz
            · rename_i zv hzv
              split at hz
              · rename_i c hc
                split at hz
                · rename_i hk
                  cases hz
                  have := ((ofConst_rel ι hc).cells hk).length
                  exact ⟨zv, hzv, by rw [← Array.length_toList]; omega⟩
                · cases hz
              · cases hz
            · cases hz
          obtain ⟨zv, hz1, hz2⟩ := hzero
          have key : ((∃ e', P.underlying xT = some (.slice e')) ∨ P.underlying xT = some .string) → s = .append inf.size inf.bytes e p q → EOk P W0 ι H w (do pure (.value (← Builtin.append_ #[sT, xT] ty #[a.eval x, a.eval y]))) (s.target env) v H' := by
            intro hxs es
            subst es
            simp only [EOp.val] at hv
            obtain ⟨ι', y', w', h1, h2, h3, h4⟩ := aappend_run P (ty := ty) hR hu hxs hinf rfl rfl hz1 hz2 pb pz rx ry hv
            exact .of_val h1 h2 h3 h4
          split at hs
          · rename_i e' hx'; cases hs; simpa using key (.inl ⟨e', hx'⟩) rfl
          · rename_i hx'; cases hs; simpa using key (.inr hx') rfl
          · cases hs
        · cases hs
      · cases hs
    · cases hs
  · cases hs

/-- A new row and the slice over it. -/
theorem new_slice (hR : Rel W0 ι H w) (e : TypeId) {cs : List AVal} {l extra : List Value} {len cap z : Nat} (fr : Nat × Nat) (hfr : ∀ i, i < (l ++ extra).length → ¬ (fr.1 ≤ i ∧ i < fr.2)) (hv : VRels ι cs l)
    (hlc : len ≤ cap) (h1 : cs.length = len * z) (h2 : (l ++ extra).length = cap * z) :
    ∃ ι', Step W0 (fun _ => False) ι H w ι' (H ++ [.cells 0 false e cs]) (w.alloc (.cells (l ++ extra).toArray e fr)) ∧ Rel W0 ι' (H ++ [.cells 0 false e cs]) (w.alloc (.cells (l ++ extra).toArray e fr)) ∧ VRel ι' (.slice H.length 0 0 len z) (.slice (some ⟨w.heap.size, 0, none⟩) len cap) := by
  obtain ⟨k1, k2⟩ := hR.alloc e extra fr hfr hv
  refine ⟨_, Step.push hR (fun k hk => Below.heap_alloc w _ k hk) (by simp) (Nat.le_refl _), k1, ?_⟩
  have := Nat.mul_le_mul_right z hlc
  simp only [VRel]
  exact ⟨0, _, Inj.put_same _ _ _ _, Nat.le_refl _, ⟨_, _, _, rfl⟩, fun _ => ⟨_, cap, rfl, hlc, by simp only; omega, by simp only; omega, .inr (by simp)⟩⟩

theorem eop_makeSlice (hR : Rel W0 ι H w) (hE : ERel ι env a) {t : TypeId} {l c : Operand} {s : EOp} (hs : eop P (.makeSlice t l c) = some s) {v : AVal} {H' : AHeap} (hv : s.val env H = some (v, H')) :
    EOk P W0 ι H w (do pure (.value (← Instr.makeSlice t (a.eval l) (a.eval c)))) (s.target env) v H' := by
  simp only [eop] at hs
  split at hs
  · rename_i e hu
    split at hs
    · rename_i inf zero p q hinf hz hp hq
      have rl := xopd_rel hE hp
      have rc := xopd_rel hE hq
      split at hs
      · rename_i hc
        obtain ⟨pz, hzl, pb⟩ := hc
        cases hs
        simp only [EOp.val] at hv
        split at hv
        · rename_i k1 m k2 n e1 e2
          rw [e1] at rl; rw [e2] at rc
          split at hv
          · rename_i hc
            obtain ⟨c0, c1, c2, c3⟩ := hc
            simp only [Option.some.injEq, Prod.mk.injEq] at hv
            obtain ⟨rfl, rfl⟩ := hv
            obtain ⟨zv, hz1, hz2⟩ := zeroOf_run hz
            have hzs : zv.cells.size = inf.size := by
              have := (hz2 ι).length
              rw [← Array.length_toList]; omega
            have hn : (n.toNat : Int) = n := by omega
            have hb : (inf.bytes : Int) * n ≤ 281474976710656 := by
              unfold roomLim at c2
              have : (inf.bytes : Int) * n = ((n.toNat * inf.bytes : Nat) : Int) := by
                rw [← hn]; push_cast; rw [Int.mul_comm]; simp
              omega
            have hrel := zrep_rel (hz2 ι) (by omega) m.toNat n.toNat (by omega)
            obtain ⟨ι', hle, hR', hsl⟩ := new_slice hR e (len := m.toNat) (cap := n.toNat) (z := inf.size) (extra := (((List.range (n.toNat * zv.cells.size)).map (fun i => zv.cells[i % zv.cells.size]!)).drop (m.toNat * zv.cells.size))) (0, 0) (fun _ _ => by simp) hrel (by omega)
              (by rw [zrep_length, hzl]) (by rw [List.take_append_drop]; simp [hzs])
            rw [List.take_append_drop] at hR' hle
            have hzi : inf.zero = some zv := by
              have := hz1 w
              unfold zeroValue at this
              simp only [Sem.run_bind, run_typeInfo' hinf, Result.andThen_ok] at this
              cases hq : inf.zero with
              | none => simp [hq] at this
              | some q => simp [hq] at this; rw [this]
            have hrun := run_make (P := P) w t e inf zv hu hinf hzi k1 k2 m n c0 c1 hb c3
            rw [← hzs] at hrun
            have hmade : madeCells zv.cells (n.toNat * zv.cells.size) = ((List.range (n.toNat * zv.cells.size)).map (fun i => zv.cells[i % zv.cells.size]!)).toArray := by
              unfold madeCells; apply Array.ext'; simp [Array.toList_range]
            rw [hmade] at hrun
            rw [rl.int_inv, rc.int_inv]
            exact .of_val hrun hle hR' hsl
          · cases hv
        · cases hv
      · cases hs
    · cases hs
  · cases hs

theorem bytesWorld_eq (w : World) (e : TypeId) (s : ByteArray) : Lib.bytesWorld w e s = w.drew.alloc (.cells (Lib.bytesCells w e s) e ((Lib.bytesCells w e s).size, (Lib.bytesCells w e s).size + 1)) := by
  have hh : (Lib.bytesWorld w e s).heap = (w.drew.alloc (.cells (Lib.bytesCells w e s) e ((Lib.bytesCells w e s).size, (Lib.bytesCells w e s).size + 1))).heap := by
    apply Array.ext_getElem?
    intro k
    have e1 : (w.drew.alloc (.cells (Lib.bytesCells w e s) e ((Lib.bytesCells w e s).size, (Lib.bytesCells w e s).size + 1))).heap[k]? = (w.heap.push (.cells (Lib.bytesCells w e s) e ((Lib.bytesCells w e s).size, (Lib.bytesCells w e s).size + 1)))[k]? := rfl
    rw [e1, Array.getElem?_push]
    by_cases hk : k < w.heap.size
    · rw [if_neg (by omega), Lib.bytesWorld_at_old w e s k hk]
    · by_cases hk2 : k = w.heap.size
      · subst hk2
        rw [if_pos rfl, Lib.bytesWorld_at_new]
      · rw [if_neg hk2, Array.getElem?_eq_none (by rw [Lib.bytesWorld_size]; omega), Array.getElem?_eq_none (by omega)]
  have e2 : Lib.bytesWorld w e s = { w.drew with heap := (Lib.bytesWorld w e s).heap } := by
    unfold Lib.bytesWorld World.freeze
    rw [if_neg (by decide)]
    rfl
  rw [e2, hh]
  rfl

theorem eop_convSB (hR : Rel W0 ι H w) (hE : ERel ι env a) {src dst : TypeId} {x : Operand} {s : EOp} (hs : eop P (.convert src dst x) = some s) {v : AVal} {H' : AHeap} (hv : s.val env H = some (v, H')) :
    EOk P W0 ι H w (do pure (.value (← convert src dst (a.eval x)))) (s.target env) v H' := by
  simp only [eop] at hs
  split at hs
  · rename_i e p h1 h2 hp
    have rx := xopd_rel hE hp
    split at hs
    · rename_i he
      cases hs
      simp only [EOp.val] at hv
      split at hv
      · rename_i bs e1
        rw [e1] at rx
        simp only [Option.some.injEq, Prod.mk.injEq] at hv
        obtain ⟨rfl, rfl⟩ := hv
        have hrun := Lib.run_convert_string_bytes (P := P) w src dst e ⟨bs.toArray⟩ h1 h2 he
        rw [bytesWorld_eq] at hrun
        have hsz : (ByteArray.mk bs.toArray).size = bs.length := by simp [ByteArray.size]
        rw [hsz] at hrun
        have hge : bs.length ≤ grownCap w bs.length 0 e := cut_appendCap_ge _ _ _ _
        have hcells : Lib.bytesCells w e ⟨bs.toArray⟩ = ((bs.map fun (c : UInt8) => Value.int .u8 (c.toNat : Int)) ++ List.replicate (grownCap w bs.length 0 e - bs.length) (Value.int .u8 0)).toArray := by
          unfold Lib.bytesCells
          rw [hsz]
          apply Array.ext'
          simp
        have hl : ((bs.map fun (c : UInt8) => Value.int .u8 (c.toNat : Int)) ++ List.replicate (grownCap w bs.length 0 e - bs.length) (Value.int .u8 0)).length = grownCap w bs.length 0 e * 1 := by simp; omega
        rw [hcells] at hrun
        obtain ⟨ι', hle, hR', hsl⟩ := new_slice hR.drew e (cs := bs.map fun (c : UInt8) => AVal.int .u8 c.toNat) (l := bs.map fun (c : UInt8) => Value.int .u8 (c.toNat : Int)) (extra := List.replicate (grownCap w bs.length 0 e - bs.length) (Value.int .u8 0)) (len := bs.length) (cap := grownCap w bs.length 0 e) (z := 1)
          ((((bs.map fun (c : UInt8) => Value.int .u8 (c.toNat : Int)) ++ List.replicate (grownCap w bs.length 0 e - bs.length) (Value.int .u8 0)).toArray).size, (((bs.map fun (c : UInt8) => Value.int .u8 (c.toNat : Int)) ++ List.replicate (grownCap w bs.length 0 e - bs.length) (Value.int .u8 0)).toArray).size + 1)
          (fun i hi => by simp only [List.size_toArray]; omega) (VRels_bytes ι bs) hge (by simp) hl
        rw [rx.str_inv]
        exact .of_val hrun ⟨hle.le, hle.ext, hle.real, hle.size, hle.len, hle.abs⟩ hR' hsl
      · cases hv
    · cases hs
  · cases hs

theorem eop_buildSlice (hR : Rel W0 ι H w) (hE : ERel ι env a) {t : TypeId} {len : Nat} {parts : Array (Nat × Operand)} {s : EOp} (hs : eop P (.buildSlice t len parts) = some s) {v : AVal} {H' : AHeap} (hv : s.val env H = some (v, H')) :
    EOk P W0 ι H w (do pure (.value (← Instr.buildSlice t len (parts.map fun (i, x) => (i, a.eval x))))) (s.target env) v H' := by
  simp only [eop] at hs
  split at hs
  · rename_i e hu
    split at hs
    · rename_i inf zero hinf hz
      split at hs
      · rename_i hc
        obtain ⟨pz, hzl, hlim⟩ := hc
        simp only [Option.map_eq_some_iff] at hs
        obtain ⟨xs, hx, rfl⟩ := hs
        simp only [EOp.val] at hv
        split at hv
        · rename_i cs hfill
          split at hv
          · rename_i hcl
            simp only [Option.some.injEq, Prod.mk.injEq] at hv
            obtain ⟨rfl, rfl⟩ := hv
            obtain ⟨zv, hz1, hz2⟩ := zeroOf_run hz
            have hzs : zv.cells.size = inf.size := by
              have := (hz2 ι).length
              rw [← Array.length_toList]; omega
            have hrel := zrep_rel (hz2 ι) (by omega) len len (Nat.le_refl _)
            rw [List.take_of_length_le (by simp)] at hrel
            obtain ⟨cs', h1, h2⟩ := afill_run hE parts.toList xs _ ((List.range (len * zv.cells.size)).map (fun i => zv.cells[i % zv.cells.size]!)).toArray cs hx (by simpa using hrel) hfill
            have hcl2 := h2.length
            obtain ⟨ι', hle, hR', hsl⟩ := new_slice hR e (l := cs'.toList) (extra := []) (len := len) (cap := len) (z := inf.size) (0, 0) (fun _ _ => by simp) h2 (Nat.le_refl _) hcl (by rw [List.append_nil]; omega)
            have e1 : (cs'.toList ++ []).toArray = cs' := by simp
            rw [e1] at hR' hle
            refine .of_val ?_ hle hR' hsl
            have hlim' : ¬ (16777216 < len * inf.size) := by omega
            have h1' : Instr.fill (fun i => some (i * inf.size, inf.size)) ((List.range (len * inf.size)).map (fun i => zv.cells[i % inf.size]!)).toArray (parts.toList.map fun (i, x) => (i, a.eval x)) = some cs' := by rw [← hzs] at h1 ⊢; exact h1
            have hr0 : ∀ z : Array Value, (Array.range (len * inf.size)).map (fun i => z[i % z.size]!) = ((List.range (len * inf.size)).map (fun i => z[i % z.size]!)).toArray := fun z => by apply Array.ext'; simp [Array.toList_range]
            by_cases h0 : len * inf.size = 0
            · have hl0 : len = 0 := by
                rcases Nat.mul_eq_zero.1 h0 with h | h
                · exact h
                · omega
              subst hl0
              simp only [Nat.zero_mul, List.range_zero, List.map_nil] at h1'
              have er : Array.range 0 = #[] := by apply Array.ext'; simp
              simp [Instr.buildSlice, run_underlying hu, sizeOf, typeInfo, hinf, er, h1', newRow]
            · have h0' : ¬ (len = 0 ∨ inf.size = 0) := by
                intro h
                rcases h with h | h <;> simp [h] at h0
              have h1'' : Instr.fill (fun i => some (i * inf.size, inf.size)) (Array.map (fun x => zv.cells[x % inf.size]!) (Array.range (len * inf.size))) (parts.toList.map fun (i, x) => (i, a.eval x)) = some cs' := by
                have := hr0 zv.cells
                rw [hzs] at this
                rw [this]; exact h1'
              simp [Instr.buildSlice, run_underlying hu, sizeOf, typeInfo, hinf, hlim', h0', hz1, hzs, h1'', newRow]
              exact fun h => absurd h h0
          · cases hv
        · cases hv
      · cases hs
    · cases hs
  · cases hs

theorem eop_makeMap (hR : Rel W0 ι H w) {t : TypeId} {r : Option Operand} {s : EOp} (hs : eop P (.makeMap t r) = some s) {v : AVal} {H' : AHeap} (hv : s.val env H = some (v, H')) :
    EOk P W0 ι H w (do pure (.value (← Instr.makeMap t (r.map a.eval)))) (s.target env) v H' := by
  cases r with
  | some r => simp only [eop] at hs; cases hs
  | none =>
    simp only [eop] at hs
    split at hs
    · cases hs
      simp only [EOp.val, Option.some.injEq, Prod.mk.injEq] at hv
      obtain ⟨rfl, rfl⟩ := hv
      have hbr : BRel (ι.put H.length 0 ⟨w.heap.size, 0, 0, 0⟩) W0.heap.size (w.alloc (.map #[] 0)) 0 ⟨w.heap.size, 0, 0, 0⟩ (.map []) :=
        ⟨rfl, hR.size, #[], 0, heap_alloc_new _ _, rfl, by simp⟩
      obtain ⟨h1, h2⟩ := hR.push ((Below.refl _ _).alloc hR.size _) (fun k hk => Below.heap_alloc w _ k hk) (Nat.le_refl _) hbr
      refine .of_val (v := .map H.length) (y := .map (some w.heap.size)) (by simp [Instr.makeMap]) (Step.push hR (fun k hk => Below.heap_alloc w _ k hk) (by simp) (Nat.le_refl _)) h1 ?_
      simp only [VRel]
      exact ⟨0, _, Inj.put_same _ _ _ _, ⟨_, rfl⟩, fun _ => rfl⟩
    · cases hs

theorem eop_mapPut (hR : Rel W0 ι H w) (hE : ERel ι env a) {t : TypeId} {m k x : Operand} {s : EOp} (hs : eop P (.mapUpdate t m k x) = some s) {v : AVal} {H' : AHeap} (hv : s.val env H = some (v, H')) :
    EOk P W0 ι H w (do Instr.mapUpdate t (a.eval m) (a.eval k) (a.eval x); pure .skip) (s.target env) v H' := by
  simp only [eop] at hs
  split at hs
  · rename_i kd kt e pm pk px hmk hm hk hx
    cases hs
    have rm := xopd_rel hE hm
    have rk := xopd_rel hE hk
    have rx := xopd_rel hE hx
    simp only [EOp.val] at hv
    split at hv
    · rename_i r l e1 e2
      rw [e1] at rm
      split at hv
      · rename_i es hb
        split at hv
        · rename_i hc
          simp only [Option.some.injEq, Prod.mk.injEq] at hv
          obtain ⟨rfl, rfl⟩ := hv
          obtain ⟨g, win, hι, hbr⟩ := hR.blk r _ hb
          obtain ⟨rfl, hown, ents, clock, hents, hsz, hcs⟩ := hbr
          have hmv : a.eval m = .map (some win.blk) := by
            simp only [VRel] at rm
            obtain ⟨g', win', h1, _, h2⟩ := rm
            rw [hι] at h1; cases h1
            exact h2 rfl
          have hlt : win.blk < w.heap.size := hR.lt hι
          obtain ⟨ents', clock', hrun, hsz', hcs'⟩ := run_mapPut (w := w) hmk e2 rk rx hc hents hsz hcs
          have hp : ι.put r 0 win = ι := by
            funext q; simp only [Inj.put]; split
            · rename_i e; rw [e, hι]
            · rfl
          have hbel : Below W0.heap.size w { w with heap := w.heap.setIfInBounds win.blk (.map ents' clock') } :=
            ⟨rfl, rfl, rfl, by simp, fun q hq => by simp only [Array.getElem?_setIfInBounds]; rw [if_neg (by omega)]⟩
          have hsame : ∀ q, q < w.heap.size → q ≠ win.blk → ({ w with heap := w.heap.setIfInBounds win.blk (.map ents' clock') } : World).heap[q]? = w.heap[q]? :=
            fun q _ hq => by simp only [Array.getElem?_setIfInBounds]; rw [if_neg (Ne.symm hq)]
          have hbr' : BRel (ι.put r 0 win) W0.heap.size { w with heap := w.heap.setIfInBounds win.blk (.map ents' clock') } 0 win (.map (mput kd l (pk.ev env) (px.ev env) es)) :=
            ⟨rfl, hown, ents', clock', by simp [Array.getElem?_setIfInBounds, hlt], hsz', by rw [hp]; exact hcs'⟩
          obtain ⟨h1, h2⟩ := hR.put hι (.inr ⟨rfl, rfl⟩) hbel hsame hown (.inl rfl) hbr'
          have hstep := Step.put (H' := H.set r (.map (mput kd l (pk.ev env) (px.ev env) es))) (w' := { w with heap := w.heap.setIfInBounds win.blk (.map ents' clock') }) (g' := 0) (win' := win) hι (.inr ⟨rfl, rfl⟩) hown hsame (by simp) (.inl rfl) (by simp) (fun q hq => List.getElem?_set_ne (Ne.symm hq))
          rw [hp] at h1 hstep
          refine ⟨ι, .skip, undef, _, ?_, .inr ⟨rfl, rfl⟩, by simpa only [EOp.target, e1] using hstep, h1, by simp only [VRel]; exact ⟨[], rfl, by simp [VRels]⟩⟩
          simp [hmv, hrun]
        · cases hv
      · cases hv
    · cases hv
  · cases hs

theorem heap_freeze (w : World) {b : Nat} {c : Array Value} {e : TypeId} {fr : Nat × Nat} (h : w.heap[b]? = some (.cells c e fr)) (o n : Nat) :
    (∃ fr', (w.freeze ⟨b, o, none⟩ n).heap[b]? = some (.cells c e fr')) ∧ (∀ k, k ≠ b → (w.freeze ⟨b, o, none⟩ n).heap[k]? = w.heap[k]?) ∧ (w.freeze ⟨b, o, none⟩ n).heap.size = w.heap.size := by
  unfold World.freeze
  by_cases hn : n = 0
  · simp [hn, h]
  · simp only [hn, if_false, Array.getElem?_modify, Array.size_modify]
    refine ⟨?_, fun k hk => by rw [if_neg (Ne.symm hk)], trivial⟩
    obtain ⟨lo, hi⟩ := fr
    simp [h]

theorem eop_unsafeStr (hR : Rel W0 ι H w) (hE : ERel ι env a) {args : Array Operand} {ats : Array TypeId} {ty : TypeId} {s : EOp}
    (hs : eop P (.call { callee := .builtin .unsafeString, args := args, argTypes := ats }) = some s) {v : AVal} {H' : AHeap} (hv : s.val env H = some (v, H')) :
    EOk P W0 ι H w (do pure (.value (← Builtin.unsafeString_ ats ty (args.map a.eval)))) (s.target env) v H' := by
  simp only [eop] at hs
  split at hs
  · rename_i x n pt it hx ht
    have ex : args = #[x, n] := by apply Array.ext'; simpa using hx
    have et : ats = #[pt, it] := by apply Array.ext'; simpa using ht
    subst ex et
    split at hs
    · rename_i e px pn hu hp hq
      split at hs
      · rename_i hce
        cases hs
        have rx := xopd_rel hE hp
        have rn := xopd_rel hE hq
        simp only [EOp.val] at hv
        split at hv
        · rename_i m e1 e2
          rw [e1] at rx; rw [e2] at rn
          split at hv
          · rename_i hm
            subst hm
            cases hv
            simp only [VRel] at rx
            refine .of_val (y := .string .empty) (w' := w) ?_ (Step.refl _ _ _ _ _) hR (by simp only [VRel]; rfl)
            have := Lib.run_unsafeString_none (P := P) w pt it ty none
            simpa [rx, rn.int_inv] using this
          · cases hv
        · rename_i r g o m e1 e2
          rw [e1] at rx; rw [e2] at rn
          split at hv
          · rename_i g' ro ety cs hb
            split at hv
            · rename_i hc
              obtain ⟨hg, ho, hro0, hee, hm0, hm1, hm2⟩ := hc
              simp only [Option.map_eq_some_iff, Prod.mk.injEq] at hv
              obtain ⟨l, hl, rfl, rfl⟩ := hv
              have hcs' := toBytesS_inv hl
              obtain ⟨g2, win, hι, hbr⟩ := hR.blk r _ hb
              obtain ⟨hg2, hlen, hext, _, hown0, c, el, fr, hcc, hsz, hcs, hro⟩ := hbr
              obtain ⟨hel, _⟩ := hro hro0
              obtain ⟨hown, hoff⟩ := hown0 hro0
              rw [← hg2, ← hg] at hι
              rw [ho] at rx
              have hll : l.length = m.toNat := by
                have := congrArg List.length hcs'
                simp only [List.length_take, List.length_map] at this
                omega
              have hcell : ∀ j x, l[j]? = some x → w.cell? ((⟨win.blk, 0, none⟩ : Addr).add j) = some (.int .u8 x.toNat) := by
                intro j x hj
                have hjl : j < l.length := (List.getElem?_eq_some_iff.1 hj).1
                have h1 : cs[j]? = some (.int .u8 x.toNat) := by
                  have h2 : (cs.take m.toNat)[j]? = some (.int .u8 x.toNat) := by rw [hcs']; simp [hj]
                  rw [List.getElem?_take] at h2
                  split at h2
                  · exact h2
                  · cases h2
                obtain ⟨y, hy, hr⟩ := hcs j _ h1
                rw [addr_add, cell?_cells hcc]
                rw [hoff] at hy
                rw [hy, hr.int_inv]
              have hrun := Lib.run_unsafeString_row (P := P) w pt it ty _ hu hce win.blk c.size (by simp [World.shape?, hcc, hel, hee]) l (by intro e; subst e; simp at hll; omega) (by omega) (by omega) hcell
              obtain ⟨⟨fr', hf1⟩, hf2, hf3⟩ := heap_freeze w hcc 0 l.length
              have hbel : Below W0.heap.size w (w.freeze ⟨win.blk, 0, none⟩ l.length) := Lib.below_freeze (Below.refl _ _) hown _
              have hbr' : BRel (ι.put r (g + 1) ⟨win.blk, 0, 0, 0⟩) W0.heap.size (w.freeze ⟨win.blk, 0, none⟩ l.length) (g + 1) ⟨win.blk, 0, 0, 0⟩ (.cells (g + 1) false ety []) :=
                ⟨rfl, rfl, Nat.le_refl _, fun h => by simp at h, fun _ => ⟨hown, rfl⟩, c, el, fr', hf1, by simp, fun i x hx => by simp at hx, fun _ => ⟨hel, fun i hi => by simp at hi⟩⟩
              obtain ⟨h1, h2⟩ := hR.put (g' := g + 1) (win' := ⟨win.blk, 0, 0, 0⟩) hι (.inl (Nat.lt_succ_self g)) hbel (fun k _ hk => hf2 k hk) hown (.inl rfl) hbr'
              have hstep := Step.put (H' := H.set r (.cells (g + 1) false ety [])) (w' := w.freeze ⟨win.blk, 0, none⟩ l.length) (g' := g + 1) (win' := ⟨win.blk, 0, 0, 0⟩) hι (.inl (by omega)) hown (fun k _ hk => hf2 k hk) (Nat.le_of_eq hf3.symm) (.inl rfl) (by simp) (fun k hk => List.getElem?_set_ne (Ne.symm hk))
              refine .of_val (y := .string ⟨l.toArray⟩) (w' := w.freeze ⟨win.blk, 0, none⟩ l.length) ?_ (by simpa only [EOp.target, e1] using hstep) h1 (by simp [VRel])
              have hpv : a.eval x = .pointer (some ⟨win.blk, 0, none⟩) := by rw [rx.ptr_at hι, hoff]
              have hnv : a.eval n = .int .i64 l.length := by rw [rn.int_inv, hll]; congr 1; omega
              simpa [hpv, hnv] using hrun
            · cases hv
          · cases hv
        · cases hv
      · cases hs
    · cases hs
  · cases hs

/-- Cells are written, as a step. -/
theorem stores_step (P : Program) (hR : Rel W0 ι H w) {r g o : Nat} {win : Win} (hι : ι r = some (g, win)) {xs : List AVal} {ys : List Value} (hv : VRels ι xs ys) {H1 : AHeap} (hst : astores H r g o xs = some H1) :
    ∃ w', (Go.storeCells ⟨win.blk, win.off + o, none⟩ ys 0).run P w = .ok () w' ∧ Rel W0 ι H1 w' ∧ Step W0 (fun k => k = r) ι H w ι H1 w' := by
  obtain ⟨w', hw, hR', hfw, hsw⟩ := Rel.storeCells P hι _ _ o 0 H H1 w hR hv (by simpa using hst)
  obtain ⟨fa1, fa2⟩ := astores_frame _ _ _ _ hst
  refine ⟨w', hw, hR', ?_⟩
  cases xs with
  | nil =>
    simp only [astores, Option.some.injEq] at hst; subst hst
    simp only [VRels] at hv
    rw [hv] at hw
    simp only [Go.storeCells, Sem.run_pure, Result.ok.injEq, true_and] at hw
    subst hw
    exact Step.refl _ _ _ _ _
  | cons z zs =>
    have hp : ι.put r g win = ι := by
      funext k; simp only [Inj.put]; split
      · rename_i e; rw [e, hι]
      · rfl
    have hown : W0.heap.size ≤ win.blk := by
      simp only [astores, Option.bind_eq_some_iff] at hst
      obtain ⟨H2, hst1, _⟩ := hst
      unfold astore at hst1
      split at hst1
      · rename_i g' ro ety cs hb
        split at hst1
        · rename_i hc2
          obtain ⟨g2, win2, h1, h2⟩ := hR.blk r _ hb
          rw [hι] at h1; cases h1
          exact (h2.2.2.2.2.1 hc2.2.1).1
        · cases hst1
      · cases hst1
    have := Step.put (H' := H1) (w' := w') (g' := g) (win' := win) hι (.inr ⟨rfl, rfl⟩) hown (fun k _ hk => hfw k hk) (by omega) (.inl rfl) fa1 fa2
    rwa [hp] at this

theorem eop_clear (hR : Rel W0 ι H w) (hE : ERel ι env a) {args : Array Operand} {ats : Array TypeId} {ty : TypeId} {s : EOp}
    (hs : eop P (.call { callee := .builtin .clear, args := args, argTypes := ats }) = some s) {v : AVal} {H' : AHeap} (hv : s.val env H = some (v, H')) :
    EOk P W0 ι H w (do pure (.value (← Builtin.clear_ ats ty (args.map a.eval)))) (s.target env) v H' := by
  simp only [eop] at hs
  split at hs
  · rename_i x t hx ht
    have ex : args = #[x] := by apply Array.ext'; simpa using hx
    have et : ats = #[t] := by apply Array.ext'; simpa using ht
    subst ex et
    split at hs
    · rename_i e px hu hp
      split at hs
      · rename_i inf zero hinf hz
        split at hs
        · rename_i hc0
          cases hs
          have rx := xopd_rel hE hp
          simp only [EOp.val] at hv
          split at hv
          · rename_i e1
            rw [e1] at rx
            simp only [VRel] at rx
            cases hv
            exact .of_val (y := .tuple #[]) (w' := w) (by simp [Builtin.clear_, run_underlying hu, rx]) (Step.refl _ _ _ _ _) hR (by simp only [VRel]; exact ⟨[], rfl, by simp [VRels]⟩)
          · rename_i e1
            rw [e1] at rx
            simp only [VRel] at rx
            obtain ⟨ad, rx⟩ := rx
            cases hv
            exact .of_val (y := .tuple #[]) (w' := w) (by simp [Builtin.clear_, run_underlying hu, rx]) (Step.refl _ _ _ _ _) hR (by simp only [VRel]; exact ⟨[], rfl, by simp [VRels]⟩)
          · rename_i r g o len z' e1
            rw [e1] at rx
            split at hv
            · rename_i hc
              obtain ⟨rfl, hag⟩ := hc
              simp only [Option.map_eq_some_iff, Prod.mk.injEq] at hv
              obtain ⟨H1, hst, rfl, rfl⟩ := hv
              obtain ⟨win, hι, _⟩ := ageOk_inv hR hag
              obtain ⟨ad, cap, hx, hle, h3, h4, h5⟩ := rx.slice_at hι
              obtain ⟨zv, hz1, hz2⟩ := zeroOf_run hz
              by_cases hl : len = 0
              · subst hl
                simp only [zrep, List.replicate_zero, List.flatten_nil, astores, Option.some.injEq] at hst
                subst hst
                exact .of_val (y := .tuple #[]) (w' := w) (by simp [Builtin.clear_, run_underlying hu, hx]) (by simp only [EOp.target, e1]; exact Step.refl _ _ _ _ _) hR (by simp only [VRel]; exact ⟨[], rfl, by simp [VRels]⟩)
              · have hcap : cap ≠ 0 := by omega
                have had := h5.resolve_left hcap
                subst had
                have hzr := zrep_rel (hz2 ι) (by omega) len len (Nat.le_refl _)
                have hzc : ((List.range (len * zv.cells.size)).map fun i => zv.cells[i % zv.cells.size]!).take (len * zv.cells.size) = (Builtin.zeroCells zv.cells len).toList := by
                  rw [List.take_of_length_le (by simp)]
                  simp [Builtin.zeroCells, List.range_eq_range', Array.toList_range]
                rw [hzc] at hzr
                obtain ⟨w', hw, hR', hstep⟩ := stores_step P hR hι hzr hst
                obtain ⟨k, rfl⟩ : ∃ k, len = k + 1 := ⟨len - 1, by omega⟩
                refine .of_val (y := .tuple #[]) (w' := w') ?_ (by simp only [EOp.target, e1]; exact hstep) hR' (by simp only [VRel]; exact ⟨[], rfl, by simp [VRels]⟩)
                simp [Builtin.clear_, run_underlying hu, hx, hz1, hw]
            · cases hv
          · cases hv
        · cases hs
      · cases hs
    · cases hs
  · cases hs

theorem eop_ok (hR : Rel W0 ι H w) (hE : ERel ι env a) {o : Oper} {s : EOp} (hs : eop P o.op = some s) {v : AVal} {H' : AHeap} (hv : s.val env H = some (v, H')) : EOk P W0 ι H w (execOp a.eval o) (s.target env) v H' := by
  obtain ⟨dst, op, type, pos, after, guard⟩ := o
  simp only at hs
  cases op
  case alloc e => exact eop_alloc hR hs hv
  case box e x => exact eop_box hR hE hs hv
  case buildSlice t len parts => exact eop_buildSlice hR hE hs hv
  case store t x y => exact eop_store hR hE hs hv
  case makeSlice t l c => exact eop_makeSlice hR hE hs hv
  case convert src dst x => exact eop_convSB hR hE hs hv
  case makeMap t r => exact eop_makeMap hR hs hv
  case mapUpdate t m k x => exact eop_mapPut hR hE hs hv
  case call c =>
    obtain ⟨callee, args, ats⟩ := c
    cases callee <;> try (simp only [eop] at hs; cases hs; done)
    rename_i b
    cases b <;> try (simp only [eop] at hs; cases hs; done)
    case append =>
      obtain ⟨ι', n, y, w', h1, h2⟩ := eop_append (ty := type) hR hE hs hv
      exact ⟨ι', n, y, w', by simpa [execOp, resolve, invoke, builtin] using h1, h2⟩
    case unsafeString =>
      obtain ⟨ι', n, y, w', h1, h2⟩ := eop_unsafeStr (ty := type) hR hE hs hv
      exact ⟨ι', n, y, w', by simpa [execOp, resolve, invoke, builtin] using h1, h2⟩
    case clear =>
      obtain ⟨ι', n, y, w', h1, h2⟩ := eop_clear (ty := type) hR hE hs hv
      exact ⟨ι', n, y, w', by simpa [execOp, resolve, invoke, builtin] using h1, h2⟩
  all_goals (simp only [eop] at hs; cases hs)
end
end Go.Proofs.YtalbjkemcckokaaGreat.Ab

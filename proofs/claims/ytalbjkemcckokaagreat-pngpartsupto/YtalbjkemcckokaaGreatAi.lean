/- The abstract layer, ninth part: all quiet operations together. Conditions: none; a library for the texts behind it. -/
import Derived.Test.YtalbjkemcckokaaGreatAx
import Derived.Laws.Tables
namespace Go.Proofs.YtalbjkemcckokaaGreat.Ab
set_option linter.unusedVariables false
set_option linter.unusedSimpArgs false

section
variable {P : Program} {W0 : World} {ι : Inj} {H : AHeap} {w : World} {env : Env} {a : Act}

theorem opts_rel (hE : ERel ι env a) : ∀ {os : List Operand} {xs : List XOpd}, opts os = some xs → VRels ι (xs.map (XOpd.ev env)) (os.map a.eval)
  | [], xs, h => by simp [opts] at h; subst h; simp [VRels]
  | o :: os, xs, h => by
    simp only [opts] at h
    split at h
    · rename_i x xs' h1 h2
      cases h
      simp only [List.map_cons, VRels]
      exact ⟨_, _, rfl, xopd_rel hE h1, opts_rel hE h2⟩
    · cases h

/-- Cells laid over others, one after the other. -/
theorem fold_set : ∀ (vs : List Value) (cs : Array Value) (off j0 : Nat), off + j0 + vs.length ≤ cs.size →
    ((vs.zipIdx j0).foldl (fun (cs : Array Value) (p : Value × Nat) => cs.setIfInBounds (off + p.2) p.1) cs).size = cs.size ∧
    ∀ k : Nat, ((vs.zipIdx j0).foldl (fun (cs : Array Value) (p : Value × Nat) => cs.setIfInBounds (off + p.2) p.1) cs)[k]? = if off + j0 ≤ k ∧ k < off + j0 + vs.length then vs[k - (off + j0)]? else cs[k]?
  | [], cs, off, j0, h => by
    refine ⟨rfl, fun k => ?_⟩
    rw [if_neg (fun hh => by simp at hh; omega)]
    rfl
  | v :: vs, cs, off, j0, h => by
    simp only [List.length_cons] at h
    simp only [List.zipIdx_cons, List.foldl_cons]
    obtain ⟨h1, h2⟩ := fold_set vs (cs.setIfInBounds (off + j0) v) off (j0 + 1) (by simp; omega)
    refine ⟨by rw [h1]; simp, fun k => ?_⟩
    rw [h2 k]
    simp only [List.length_cons]
    by_cases hk : k = off + j0
    · subst hk
      rw [if_neg (by omega), if_pos ⟨by omega, by omega⟩]
      rw [Array.getElem?_setIfInBounds]
      simp
      omega
    · by_cases hk2 : off + j0 ≤ k ∧ k < off + j0 + (vs.length + 1)
      · rw [if_pos ⟨by omega, by omega⟩, if_pos hk2]
        rw [show k - (off + j0) = (k - (off + (j0 + 1))) + 1 by omega]
        simp
      · rw [if_neg (by omega), if_neg hk2, Array.getElem?_setIfInBounds, if_neg (by omega)]

theorem VRel.cells {x : AVal} {v : Value} (h : VRel ι x v) (hk : x.known = true) : VRels ι x.cells v.cells.toList := by
  have one : ∀ (hc : ∀ cs, x ≠ .agg cs) (hv : ∀ cs, v ≠ .agg cs), VRels ι x.cells v.cells.toList := by
    intro hc hv
    have e1 : x.cells = [x] := by cases x <;> first | rfl | exact absurd rfl (hc _)
    have e2 : v.cells = #[v] := by cases v <;> first | rfl | exact absurd rfl (hv _)
    rw [e1, e2]
    simp only [VRels]
    exact ⟨v, [], by simp, h, rfl⟩
  cases x <;> simp only [AVal.known] at hk <;> try (cases hk; done)
  case agg cs =>
    simp only [VRel] at h
    obtain ⟨l, rfl, hl⟩ := h
    simpa [AVal.cells, Value.cells] using hl
  all_goals
    refine one (fun _ e => by cases e) (fun c e => ?_)
    subst e
    simp [VRel] at h

theorem VRels.splice {cs vs : List AVal} {l m : List Value} (h : VRels ι cs l) (k : VRels ι vs m) (off : Nat) (hle : off + vs.length ≤ cs.length) :
    VRels ι (cs.take off ++ vs ++ cs.drop (off + vs.length)) ((m.zipIdx).foldl (fun (cs : Array Value) (p : Value × Nat) => cs.setIfInBounds (off + p.2) p.1) l.toArray).toList := by
  have hl := h.length
  have hm := k.length
  obtain ⟨f1, f2⟩ := fold_set m l.toArray off 0 (by simp; omega)
  refine VRels.of_get ?_ ?_
  · simp only [Array.length_toList, f1, List.size_toArray, List.length_append, List.length_take, List.length_drop]; omega
  · intro i x hx
    have f3 := f2 i
    simp only [Nat.add_zero] at f3
    rw [Array.getElem?_toList, f3]
    rw [List.append_assoc, List.getElem?_append] at hx
    split at hx
    · rename_i hi
      simp at hi
      rw [List.getElem?_take, if_pos (by omega)] at hx
      rw [if_neg (by omega)]
      simpa using h.get i x hx
    · rename_i hi
      simp at hi
      have hto : (cs.take off).length = off := by simp; omega
      rw [hto] at hx
      rw [List.getElem?_append] at hx
      split at hx
      · rename_i hi2
        rw [if_pos (by omega)]
        exact k.get _ x hx
      · rename_i hi2
        rw [if_neg (by omega)]
        rw [List.getElem?_drop] at hx
        have : off + vs.length + (i - off - vs.length) = i := by omega
        rw [this] at hx
        simpa using h.get i x hx

theorem afill_run (hE : ERel ι env a) {place : Nat → Option (Nat × Nat)} : ∀ (parts : List (Nat × Operand)) (xs : List (Nat × Nat × XOpd)) (cells : List AVal) (cs : Array Value) (out : List AVal), xparts place parts = some xs →
    VRels ι cells cs.toList → afill env cells xs = some out → ∃ cs', Instr.fill place cs (parts.map fun (i, x) => (i, a.eval x)) = some cs' ∧ VRels ι out cs'.toList
  | [], xs, cells, cs, out, hp, hr, h => by
    simp only [xparts, Option.some.injEq] at hp; subst hp
    simp only [afill, Option.some.injEq] at h; subst h
    exact ⟨cs, by simp [Instr.fill], hr⟩
  | (i, o) :: rest, xs, cells, cs, out, hp, hr, h => by
    simp only [xparts] at hp
    split at hp
    · rename_i off size x xs' h1 h2 h3
      cases hp
      simp only [afill] at h
      split at h
      · rename_i hc
        obtain ⟨hk, hlen, hle⟩ := hc
        have rx := (xopd_rel hE h2).cells hk
        have hsz := rx.length
        have hcl := hr.length
        have hsz' : (a.eval o).cells.size = size := by rw [← Array.length_toList]; omega
        have hsp := hr.splice rx off (by omega)
        rw [hlen] at hsp
        have e0 : cs.toList.toArray = cs := by simp
        rw [e0] at hsp
        obtain ⟨cs', h4, h5⟩ := afill_run hE rest xs' _ _ out h3 hsp h
        refine ⟨cs', ?_, h5⟩
        simp only [List.map_cons, Instr.fill, h1, hsz', ne_eq, not_true_eq_false, decide_false, Bool.false_or]
        have hnot : ¬ (off + size > cs.size) := by rw [← Array.length_toList]; omega
        rw [if_neg (by simpa using hnot)]
        rw [← h4]
        congr 1
        rw [← Array.foldl_toList, Array.toList_zipIdx]
      · cases h
    · cases hp

theorem zeroOf_run {t : TypeId} {z : List AVal} (h : zeroOf P t = some z) : ∃ v, (∀ u, (zeroValue t).run P u = .ok v u) ∧ ∀ ι', VRels ι' z v.cells.toList := by
  unfold zeroOf at h
  split at h
  · rename_i i hi
    split at h
    · rename_i v hz
      split at h
      · rename_i c hc
        split at h
        · rename_i hk
          cases h
          exact ⟨v, fun u => by simp [zeroValue, typeInfo, hi, hz], fun ι' => (ofConst_rel ι' hc).cells hk⟩
        · cases h
      · cases h
    · cases h
  · cases h

theorem zeroV_run {t : TypeId} {z : AVal} (h : zeroV P t = some z) : ∃ v, (∀ u, (zeroValue t).run P u = .ok v u) ∧ ∀ ι', VRel ι' z v := by
  unfold zeroV at h
  split at h
  · rename_i i hi
    split at h
    · rename_i v hz
      exact ⟨v, fun u => by simp [zeroValue, typeInfo, hi, hz], fun ι' => ofConst_rel ι' h⟩
    · cases h
  · cases h

theorem sop_build (hE : ERel ι env a) {t : TypeId} {parts : Array (Nat × Operand)} {s : SOp} (hs : sop P (.build t parts) = some s) {v : AVal} (hv : s.val env H = some v) :
    SOk P ι w (s.reads env) (do pure (.value (← Instr.build t (parts.map fun (i, x) => (i, a.eval x))))) v := by
  simp only [sop] at hs
  split at hs
  · rename_i fs z hu hz
    obtain ⟨zv, hz1, hz2⟩ := zeroOf_run hz
    split at hs
    · rename_i places hpl
      simp only [Option.map_eq_some_iff] at hs
      obtain ⟨xs, hx, rfl⟩ := hs
      simp only [SOp.val, Option.map_eq_some_iff] at hv
      obtain ⟨out, ho, rfl⟩ := hv
      obtain ⟨cs', h1, h2⟩ := afill_run hE parts.toList xs z zv.cells out hx (hz2 ι) ho
      refine .of_val (y := .agg cs') (fun w => ?_) (by simp only [VRel]; exact ⟨cs'.toList, by simp, h2⟩)
      have h1' : Instr.fill (fun x => places[x]?) zv.cells (parts.toList.map fun (i, x) => (i, a.eval x)) = some cs' := h1
      simp [Instr.build, run_underlying hu, hz1, Array.mapM_eq_mapM_toList, run_places w _ _ hpl, h1']
    · cases hs
  · rename_i n e z hu hz
    obtain ⟨zv, hz1, hz2⟩ := zeroOf_run hz
    split at hs
    · rename_i inf hinf
      simp only [Option.map_eq_some_iff] at hs
      obtain ⟨xs, hx, rfl⟩ := hs
      simp only [SOp.val, Option.map_eq_some_iff] at hv
      obtain ⟨out, ho, rfl⟩ := hv
      obtain ⟨cs', h1, h2⟩ := afill_run hE parts.toList xs z zv.cells out hx (hz2 ι) ho
      refine .of_val (y := .agg cs') (fun w => ?_) (by simp only [VRel]; exact ⟨cs'.toList, by simp, h2⟩)
      have h1' : Instr.fill (fun i => some (i * inf.size, inf.size)) zv.cells (parts.toList.map fun (i, x) => (i, a.eval x)) = some cs' := h1
      simp [Instr.build, run_underlying hu, hz1, sizeOf, typeInfo, hinf, h1']
    · cases hs
  · cases hs

theorem sop_len (hR : Rel W0 ι H w) (hE : ERel ι env a) {args : Array Operand} {ats : Array TypeId} {ty : TypeId} {s : SOp}
    (hs : sop P (.call { callee := .builtin .len, args := args, argTypes := ats }) = some s) {v : AVal} (hv : s.val env H = some v) :
    SOk P ι w (s.reads env) (do pure (.value (← Builtin.len_ ats ty (args.map a.eval)))) v := by
  simp only [sop] at hs
  split at hs
  · rename_i x t hx ht
    have ex : args = #[x] := by apply Array.ext'; simpa using hx
    have et : ats = #[t] := by apply Array.ext'; simpa using ht
    subst ex et
    split at hs
    · rename_i p hu hp
      cases hs
      have rx := xopd_rel hE hp
      simp only [SOp.val] at hv
      split at hv
      · rename_i bs e1
        rw [e1] at rx
        cases hv
        refine .of_val (y := .int .i64 bs.length) (fun w => ?_) (by simp [VRel])
        have hsz : (ByteArray.mk bs.toArray).size = bs.length := by simp [ByteArray.size]
        simp [Builtin.len_, run_underlying hu, rx.str_inv, goInt, hsz]
      · cases hv
    · rename_i e p hu hp
      cases hs
      have rx := xopd_rel hE hp
      simp only [SOp.val] at hv
      split at hv
      · rename_i e1
        rw [e1] at rx
        simp only [VRel] at rx
        cases hv
        exact .of_val (y := .int .i64 0) (fun w => by simp [Builtin.len_, run_underlying hu, rx, goInt]) (by simp [VRel])
      · rename_i e1
        rw [e1] at rx
        simp only [VRel] at rx
        obtain ⟨ad, rx⟩ := rx
        cases hv
        exact .of_val (y := .int .i64 0) (fun w => by simp [Builtin.len_, run_underlying hu, rx, goInt]) (by simp [VRel])
      · rename_i r g o len z e1
        rw [e1] at rx
        split at hv
        · rename_i hag
          cases hv
          obtain ⟨win, hι, _⟩ := ageOk_inv hR hag
          obtain ⟨ad, cap, hx, _⟩ := rx.slice_at hι
          exact .of_val (y := .int .i64 len) (fun w => by simp [Builtin.len_, run_underlying hu, hx, goInt]) (by simp [VRel])
        · cases hv
      · cases hv
    · rename_i n e p hu hp
      cases hs
      simp only [SOp.val] at hv
      cases hv
      exact .of_val (y := .int .i64 n) (fun w => by simp [Builtin.len_, run_underlying hu, goInt]) (by simp [VRel])
    · cases hs
  · cases hs

theorem sop_ok (hR : Rel W0 ι H w) (hE : ERel ι env a) {o : Oper} {s : SOp} (hs : sop P o.op = some s) {v : AVal} (hv : s.val env H = some v) : SOk P ι w (s.reads env) (execOp a.eval o) v := by
  obtain ⟨dst, op, type, pos, after, guard⟩ := o
  simp only at hs
  cases op
  case move x =>
    simp only [sop, Option.map_eq_some_iff] at hs
    obtain ⟨p, hp, rfl⟩ := hs
    have rx := xopd_rel hE hp
    simp only [SOp.val] at hv; cases hv
    exact ⟨a.eval x, fun w _ => by simp [execOp], rx⟩
  case assign x =>
    simp only [sop, Option.map_eq_some_iff] at hs
    obtain ⟨p, hp, rfl⟩ := hs
    have rx := xopd_rel hE hp
    simp only [SOp.val] at hv; cases hv
    exact ⟨a.eval x, fun w _ => by simp [execOp], rx⟩
  case pick c x y =>
    simp only [sop] at hs
    split at hs
    · rename_i pc px py hc hx hy
      cases hs
      have rc := xopd_rel hE hc
      have rx := xopd_rel hE hx
      have ry := xopd_rel hE hy
      simp only [SOp.val] at hv
      split at hv
      · rename_i e; rw [e] at rc; cases hv
        exact ⟨a.eval x, fun w _ => by simp [execOp, rc.bool_inv, asBool], rx⟩
      · rename_i e; rw [e] at rc; cases hv
        exact ⟨a.eval y, fun w _ => by simp [execOp, rc.bool_inv, asBool], ry⟩
      · cases hv
    · cases hs
  case load t x => exact sop_load hR hE hs hv
  case nilCheck x => exact sop_nilCheck hR hE (x := x) rfl hs hv
  case binOp op t x y t' => exact sop_bin hR hE hs hv
  case unOp op t x =>
    simp only [sop, Option.map_eq_some_iff] at hs
    obtain ⟨p, hp, rfl⟩ := hs
    have rx := xopd_rel hE hp
    simp only [SOp.val] at hv
    unfold aunary at hv
    split at hv
    · rename_i k n e
      rw [e] at rx; cases hv
      exact .of_val (y := .int k (k.wrap (0 - n))) (fun w => by rw [rx.int_inv]; simp [Op.unary, Op.intArith]) (by simp [VRel])
    · rename_i k n e
      rw [e] at rx; cases hv
      exact .of_val (y := .int k (k.wrap (BitVec.ofInt k.bits (if k.signed then -1 else k.max) ^^^ BitVec.ofInt k.bits n).toNat)) (fun w => by rw [rx.int_inv]; simp [Op.unary, Op.intBits]) (by simp [VRel])
    · rename_i b e
      rw [e] at rx; cases hv
      exact .of_val (y := .bool !b) (fun w => by rw [rx.bool_inv]; simp [Op.unary]) (by simp [VRel])
    · cases hv
  case convert src dst x => exact sop_convert hR hE hs hv
  case fieldAddr t x f => exact sop_fieldAddr hR hE hs hv
  case field t x f => exact sop_field hE hs hv
  case indexAddr t x i => exact sop_indexAddr hR hE hs hv
  case index t x i => exact sop_index hE hs hv
  case slice t x lo hi mx =>
    cases mx with
    | none => exact sop_slice hR hE hs hv
    | some m =>
      cases hi with
      | none => simp [sop] at hs
      | some h => exact sop_slice3 hR hE hs hv
  case extract x i =>
    simp only [sop] at hs
    split at hs
    · rename_i p hp
      cases hs
      have rx := xopd_rel hE hp
      simp only [SOp.val] at hv
      split at hv
      · rename_i vs e
        rw [e] at rx
        simp only [VRel] at rx
        obtain ⟨l, hl, hr⟩ := rx
        obtain ⟨y, hy, hyr⟩ := hr.get _ v hv
        exact .of_val (y := y) (fun w => by simp [hl, Instr.extract, hy]) hyr
      · cases hv
    · cases hs
  case build t parts => exact sop_build hE hs hv
  case lookup t x i ok => exact sop_lookup hR hE (fun h => zeroV_run h) hs hv
  case makeFunc fn first caps =>
    cases fn <;> simp only [sop] at hs <;> try (cases hs; done)
    rename_i f
    split at hs
    · rename_i hz
      simp only [Option.map_eq_some_iff] at hs
      obtain ⟨xs, hx, rfl⟩ := hs
      simp only [SOp.val] at hv; cases hv
      have hf : first = #[] := by simpa using hz
      subst hf
      refine .of_val (y := .func (.func f) #[] (caps.map a.eval)) (fun w => by simp [Instr.makeFunc]) ?_
      simp only [VRel]
      exact ⟨caps.toList.map a.eval, by simp only [← List.map_toArray, Array.toArray_toList], opts_rel hE hx⟩
    · cases hs
  case call c =>
    obtain ⟨callee, args, ats⟩ := c
    cases callee <;> try (simp only [sop] at hs; cases hs; done)
    rename_i b
    cases b <;> try (simp only [sop] at hs; cases hs; done)
    case len =>
      have := sop_len (ty := type) hR hE hs hv
      obtain ⟨y, hy, hr⟩ := this
      exact ⟨y, fun w' hw' => by simpa [execOp, resolve, invoke, builtin] using hy w' hw', hr⟩
    case max =>
      simp only [sop] at hs
      split at hs
      · rename_i x y hxy
        have ex : args = #[x, y] := by apply Array.ext'; simpa using hxy
        subst ex
        split at hs
        · rename_i p q hp hq
          cases hs
          have rx := xopd_rel hE hp
          have ry := xopd_rel hE hq
          simp only [SOp.val] at hv
          split at hv
          · rename_i k m k' n e1 e2
            rw [e1] at rx; rw [e2] at ry
            cases hv
            exact ⟨.int k (if n > m then n else m), fun w _ => by simp [execOp, resolve, invoke, builtin, Builtin.max_, rx.int_inv, ry.int_inv, Builtin.max2], by simp [VRel]⟩
          · cases hv
        · cases hs
      · cases hs
    case min =>
      simp only [sop] at hs
      split at hs
      · rename_i x y hxy
        have ex : args = #[x, y] := by apply Array.ext'; simpa using hxy
        subst ex
        split at hs
        · rename_i p q hp hq
          cases hs
          have rx := xopd_rel hE hp
          have ry := xopd_rel hE hq
          simp only [SOp.val] at hv
          split at hv
          · rename_i k m k' n e1 e2
            rw [e1] at rx; rw [e2] at ry
            cases hv
            exact ⟨.int k (if n < m then n else m), fun w _ => by simp [execOp, resolve, invoke, builtin, Builtin.min_, rx.int_inv, ry.int_inv, Builtin.min2], by simp [VRel]⟩
          · cases hv
        · cases hs
      · cases hs
    case unsafeSliceData =>
      simp only [sop] at hs
      split at hs
      · rename_i x hx
        have ex : args = #[x] := by apply Array.ext'; simpa using hx
        subst ex
        simp only [Option.map_eq_some_iff] at hs
        obtain ⟨p, hp, rfl⟩ := hs
        have rx := xopd_rel hE hp
        simp only [SOp.val] at hv
        split at hv
        · rename_i e1
          rw [e1] at rx
          simp only [VRel] at rx
          cases hv
          exact ⟨.pointer none, fun w _ => by simp [execOp, resolve, invoke, builtin, rx, Lib.run_unsafeSliceData_nil], by simp [VRel]⟩
        · rename_i r g o len z e1
          rw [e1] at rx
          split at hv
          · rename_i hag
            cases hv
            obtain ⟨win, hι, _⟩ := ageOk_inv hR hag.1
            obtain ⟨ad, cap, hx, hle, h3, h4, h5⟩ := rx.slice_at hι
            have hcap : cap ≠ 0 := by omega
            have had := h5.resolve_left hcap
            subst had
            refine ⟨.pointer (some ⟨win.blk, win.off + o, none⟩), fun w _ => by simp [execOp, resolve, invoke, builtin, hx, Lib.run_unsafeSliceData_row _ _ _ _ _ _ hcap], ?_⟩
            simp only [VRel]
            exact ⟨g, win, hι, Nat.le_refl _, ⟨_, rfl⟩, fun _ => rfl⟩
          · cases hv
        · cases hv
      · cases hs
  all_goals (simp only [sop] at hs; cases hs)
end
end Go.Proofs.YtalbjkemcckokaaGreat.Ab

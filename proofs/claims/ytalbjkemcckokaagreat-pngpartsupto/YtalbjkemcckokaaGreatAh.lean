/- The abstract layer, eighth part: every quiet operation that is got out of the program does what its abstract one computes (the rest, and all together). Conditions: none; a library for the texts behind it. -/
import Derived.Test.YtalbjkemcckokaaGreatAg
namespace Go.Proofs.YtalbjkemcckokaaGreat.Ab
set_option linter.unusedVariables false
set_option linter.unusedSimpArgs false

section
variable {P : Program} {W0 : World} {ι : Inj} {H : AHeap} {w : World} {env : Env} {a : Act}

theorem aload_aloads {r g o : Nat} {x : AVal} (h : aload H r g o = some x) : aloads H r g o 1 = some [x] := by
  unfold aload at h
  unfold aloads
  split at h
  · rename_i g' ro e cs hb
    split at h
    · rename_i eg
      have hl := (List.getElem?_eq_some_iff.1 h)
      obtain ⟨hl, hx⟩ := hl
      simp only [hb]
      rw [if_pos ⟨eg, by omega⟩]
      congr 1
      rw [List.drop_eq_getElem_cons hl]
      simp [hx]
    · cases h
  · cases h

theorem sop_load (hR : Rel W0 ι H w) (hE : ERel ι env a) {t : TypeId} {x : Operand} {s : SOp} (hs : sop P (.load t x) = some s) {v : AVal} (hv : s.val env H = some v) :
    SOk P ι w (s.reads env) (do pure (.value (← Instr.loadAt t (a.eval x)))) v := by
  simp only [sop] at hs
  split at hs
  · rename_i p n hp hn
    cases hs
    have rx := xopd_rel hE hp
    simp only [SOp.val] at hv
    split at hv
    · rename_i r g o e1
      rw [e1] at rx
      simp only [Option.map_eq_some_iff] at hv
      obtain ⟨xs, hl, rfl⟩ := hv
      obtain ⟨win, hι, hx⟩ := hR.ptr_age hl rx
      rw [hx]
      obtain ⟨ys, hy1, hy2, hy3, hy4⟩ := hR.loads P hι hl
      refine .of_read (y := .agg ys.toArray) (fun w' hw' => ?_) (by simp only [VRel]; exact ⟨ys, rfl, hy2⟩)
      obtain ⟨h1, h2⟩ := aggN_run hn w'
      have h2' := h2 n rfl
      have hy1' := hy4 w' (hw' r (by simp [SOp.reads, e1]) g win hι)
      simp [Instr.loadAt, Instr.sureAddr, loadVar, h1, h2', hy1']
    · cases hv
  · rename_i p hp hn
    cases hs
    have rx := xopd_rel hE hp
    simp only [SOp.val] at hv
    split at hv
    · rename_i r g o e1
      rw [e1] at rx
      obtain ⟨win, hι, hx⟩ := hR.ptr_age (aload_aloads hv) rx
      rw [hx]
      obtain ⟨win', hι', y, hy1, hy2⟩ := hR.load hv
      rw [hι] at hι'
      simp only [Option.some.injEq, Prod.mk.injEq, true_and] at hι'
      subst hι'
      refine .of_read (y := y) (fun w' hw' => ?_) hy2
      obtain ⟨h1, h2⟩ := aggN_run hn w'
      have hy1' : w'.cell? ⟨win.blk, win.off + o, none⟩ = some y := by rw [← hy1]; simp [World.cell?, hw' r (by simp [SOp.reads, e1]) g win hι]
      simp [Instr.loadAt, Instr.sureAddr, loadVar, h1, run_load, hy1']
    · cases hv
  · cases hs

/-- At the head of a row of variables of one type lies such a variable. -/
theorem liesAt_head {e : TypeId} (hc : P.cellsOf e ≠ 0) {count : Nat} (hn : 0 < count) : liesAt P P.depth e count 0 e 1 = true := by
  have hd : P.depth = (2 * (P.types.size + Made.depth) + 1) + 1 := rfl
  rw [hd]
  simp only [liesAt, Bool.or_eq_true]
  left
  rw [hd]
  have h1 : 1 ≤ count := hn
  simp [rowAt, hc, h1, sameLayout]

theorem sop_convert (hR : Rel W0 ι H w) (hE : ERel ι env a) {src dst : TypeId} {x : Operand} {s : SOp} (hs : sop P (.convert src dst x) = some s) {v : AVal} (hv : s.val env H = some v) :
    SOk P ι w (s.reads env) (do pure (.value (← convert src dst (a.eval x)))) v := by
  simp only [sop] at hs
  split at hs
  · rename_i k0 k p h1 h2 hp
    cases hs
    have rx := xopd_rel hE hp
    simp only [SOp.val] at hv
    split at hv
    · rename_i k1 n e1
      rw [e1] at rx
      rw [rx.int_inv]
      cases hv
      exact .of_val (y := .int k (k.wrap n)) (fun w => by simp [convert, run_underlying h1, run_underlying h2, Conv.intToInt]) (by simp [VRel])
    · cases hv
  · rename_i p h1 h2 hp
    cases hs
    have rx := xopd_rel hE hp
    simp only [SOp.val] at hv
    split at hv
    · rename_i s1 e1
      rw [e1] at rx
      rw [rx.str_inv]
      cases hv
      exact .of_val (fun w => by simp [convert, run_underlying h1, run_underlying h2]; rfl) (by simp [VRel])
    · cases hv
  · rename_i e p h1 h2 hp
    split at hs
    · rename_i he
      cases hs
      have rx := xopd_rel hE hp
      simp only [SOp.val] at hv
      split at hv
      · rename_i cs n hsrc
        split at hv
        · cases hv
        · rename_i hns
          simp only [Option.map_eq_some_iff] at hv
          obtain ⟨bs, hb, rfl⟩ := hv
          rcases asrc_slice hR rx hsrc (fun s e => hns s e) with ⟨l, c, hy, rfl, rfl⟩ | ⟨a0, c, hy, ys, hy1, hy2⟩
          · rw [hy]
            simp only [toBytes, Option.some.injEq] at hb; subst hb
            exact .of_val (y := .string .empty) (fun w => by simp [convert, run_underlying h1, run_underlying h2, run_underlying he, Conv.bytesToString]) (by simp only [VRel]; rfl)
          · rw [hy]
            refine .of_read (y := .string ⟨bs.toArray⟩) (fun w' hw' => ?_) (by simp [VRel])
            rw [Nat.mul_one] at hy1
            have hy1' : (loadCells a0 n).run P w' = .ok (List.toArray ys) w' := hy1 w' (fun r g o len z' ex => hw' r (by simp [SOp.reads, ex]))
            simp only [convert, Sem.run_bind, run_underlying h1, run_underlying h2, run_underlying he, Result.andThen_ok, Conv.bytesToString, hy1', ← Array.forIn_toList]
            rw [int_toBytes P _ (fun n r u => by simp) cs ys bs hy2 hb .empty w']
            simp
      · cases hv
    · cases hs
  · -- a pointer as an unsafe one
    rename_i el p h1 h2 hp
    split at hs
    · rename_i inf hinf
      split at hs
      · rename_i hsz
        cases hs
        have rx := xopd_rel hE hp
        simp only [SOp.val] at hv
        split at hv
        · rename_i e1
          rw [e1] at rx
          simp only [VRel] at rx
          cases hv
          rw [rx]
          exact .of_val (y := .pointer none) (fun w => by simp [convert, run_underlying h1, run_underlying h2, Conv.unsafePointer]) (by simp [VRel])
        · rename_i r g o e1
          split at hv
          · rename_i g' ro ety cs hb
            split at hv
            · rename_i hc
              obtain ⟨rfl, ho⟩ := hc
              cases hv
              obtain ⟨g2, win, hι, hbr⟩ := hR.blk r _ hb
              obtain ⟨rfl, hlen, hext, _, _, c, el', fr, hcc, hsz', _, _⟩ := hbr
              rw [e1] at rx
              refine .of_read (y := .pointer (some ⟨win.blk, win.off + o, none⟩)) (fun w' hw' => ?_) (by rw [← rx.ptr_at hι]; exact rx)
              have hb' : w'.heap[win.blk]? = some (.cells c el' fr) := by rw [hw' r (by simp [SOp.reads, e1]) _ _ hι]; exact hcc
              rw [rx.ptr_at hι]
              exact Lib.run_to_unsafe (cells := c.size) (e := el') w' _ h1 h2 hinf hsz (by simp [World.shape?, hb']) (by simp only []; omega)
            · cases hv
          · cases hv
        · cases hv
      · cases hs
    · cases hs
  · -- and back
    rename_i el p h1 h2 hp
    split at hs
    · rename_i inf hinf
      split at hs
      · rename_i hsz
        cases hs
        have rx := xopd_rel hE hp
        simp only [SOp.val] at hv
        split at hv
        · rename_i e1
          rw [e1] at rx
          simp only [VRel] at rx
          cases hv
          rw [rx]
          exact .of_val (y := .pointer none) (fun w => by simp [convert, run_underlying h1, run_underlying h2, Conv.unsafePointer]) (by simp [VRel])
        · rename_i r g o e1
          split at hv
          · rename_i g' ro ety cs hb
            split at hv
            · rename_i hc
              obtain ⟨rfl, rfl, rfl, rfl, hn⟩ := hc
              cases hv
              obtain ⟨g2, win, hι, hbr⟩ := hR.blk r _ hb
              obtain ⟨rfl, hlen, hext, _, hown, c, el', fr, hcc, hsz', _, hro⟩ := hbr
              obtain ⟨rfl, _⟩ := hro rfl
              have hoff := (hown rfl).2
              rw [e1] at rx
              refine .of_read (y := .pointer (some ⟨win.blk, win.off + 0, none⟩)) (fun w' hw' => ?_) (by rw [← rx.ptr_at hι]; exact rx)
              have hb' : w'.heap[win.blk]? = some (.cells c el' fr) := by rw [hw' r (by simp [SOp.reads, e1]) _ _ hι]; exact hcc
              rw [rx.ptr_at hι]
              refine Lib.run_from_unsafe (cells := c.size) (e := el') w' _ h1 h2 hinf (by simp [World.shape?, hb']) ?_
              simp only [hoff, Nat.add_zero]
              exact liesAt_head hsz (Nat.div_pos (by omega) (Nat.pos_of_ne_zero hsz))
            · cases hv
          · cases hv
        · cases hv
      · cases hs
    · cases hs
  · cases hs

theorem part_run1 {t : TypeId} (hn : aggN P t = some none) {l : List Value} {o : Nat} {v : Value} (h : l[o]? = some v) : (part t l.toArray o).run P w = .ok v w := by
  obtain ⟨h1, h2⟩ := aggN_run hn w
  simp [part, h1, h]
theorem part_runN {t : TypeId} {n : Nat} (hn : aggN P t = some (some n)) {l : List Value} {o : Nat} : (part t l.toArray o).run P w = .ok (.agg (l.toArray.extract o (o + n))) w := by
  obtain ⟨h1, h2⟩ := aggN_run hn w
  have h2' := h2 n rfl
  simp [part, h1, h2']

theorem VRels.take_drop {as : List AVal} {l : List Value} (h : VRels ι as l) (o n : Nat) (hn : o + n ≤ as.length) : VRels ι ((as.drop o).take n) ((l.drop o).take n) := by
  have hl := h.length
  refine VRels.of_get (by simp; omega) ?_
  intro i x hx
  rw [List.getElem?_take] at hx
  split at hx
  · rename_i hi
    rw [List.getElem?_drop] at hx
    obtain ⟨v, hv, hr⟩ := h.get _ x hx
    exact ⟨v, by simp [List.getElem?_take, hi, List.getElem?_drop, hv], hr⟩
  · cases hx

theorem sop_field (hE : ERel ι env a) {t : TypeId} {x : Operand} {f : Nat} {s : SOp} (hs : sop P (.field t x f) = some s) {v : AVal} (hv : s.val env H = some v) :
    SOk P ι w (s.reads env) (do pure (.value (← Instr.field t (a.eval x) f))) v := by
  simp only [sop] at hs
  split at hs
  · rename_i fs p ht hp
    have rx := xopd_rel hE hp
    split at hs
    · rename_i fd hf
      split at hs
      · rename_i n hn
        cases hs
        simp only [SOp.val] at hv
        split at hv
        · rename_i cs e1
          rw [e1] at rx
          simp only [VRel] at rx
          obtain ⟨l, hl, hr⟩ := rx
          rw [hl]
          split at hv
          · rename_i hle
            cases hv
            refine .of_val (y := .agg (l.toArray.extract fd.offset (fd.offset + n))) (fun w => by simp [Instr.field, run_underlying ht, hf, asAgg, part_runN (P := P) (w := w) hn]) ?_
            simp only [VRel]
            refine ⟨(l.drop fd.offset).take n, ?_, hr.take_drop _ _ hle⟩
            simp [List.take_drop]
          · cases hv
        · cases hv
      · rename_i hn
        cases hs
        simp only [SOp.val] at hv
        split at hv
        · rename_i cs e1
          rw [e1] at rx
          simp only [VRel] at rx
          obtain ⟨l, hl, hr⟩ := rx
          rw [hl]
          obtain ⟨y, hy, hyr⟩ := hr.get _ v hv
          exact .of_val (y := y) (fun w => by simp [Instr.field, run_underlying ht, hf, asAgg, part_run1 (P := P) (w := w) hn hy]) hyr
        · cases hv
      · cases hs
    · cases hs
  · cases hs

theorem sop_fieldAddr (hR : Rel W0 ι H w) (hE : ERel ι env a) {t : TypeId} {x : Operand} {f : Nat} {s : SOp} (hs : sop P (.fieldAddr t x f) = some s) {v : AVal} (hv : s.val env H = some v) :
    SOk P ι w (s.reads env) (do pure (.value (← Instr.fieldAt t (a.eval x) f))) v := by
  simp only [sop] at hs
  split at hs
  · rename_i fs p ht hp
    have rx := xopd_rel hE hp
    split at hs
    · rename_i fd hf
      split at hs
      · rename_i i hi
        split at hs
        · rename_i hsz
          cases hs
          simp only [SOp.val] at hv
          split at hv
          · rename_i r g o e1
            rw [e1] at rx
            split at hv
            · rename_i hag
              cases hv
              obtain ⟨win, hι, _⟩ := ageOk_inv hR hag
              rw [rx.ptr_at hι]
              refine .of_val (y := .pointer (some ⟨win.blk, win.off + o + fd.offset, none⟩)) (fun w => ?_) ?_
              · simp [Instr.fieldAt, run_underlying ht, hf, Instr.sureAddr, fieldPlace, sizeOf, typeInfo, hi, hsz, addr_add]
              · simp only [VRel]
                exact ⟨g, win, hι, Nat.le_refl _, ⟨_, rfl⟩, fun _ => by rw [Nat.add_assoc]⟩
            · cases hv
          · cases hv
        · cases hs
      · cases hs
    · cases hs
  · cases hs

theorem sop_nilCheck (hR : Rel W0 ι H w) (hE : ERel ι env a) {x : Operand} {o : Oper} (ho : o.op = .nilCheck x) {s : SOp} (hs : sop P (.nilCheck x) = some s) {v : AVal} (hv : s.val env H = some v) :
    SOk P ι w (s.reads env) (execOp a.eval o) v := by
  simp only [sop, Option.map_eq_some_iff] at hs
  obtain ⟨p, hp, rfl⟩ := hs
  have rx := xopd_rel hE hp
  simp only [SOp.val] at hv
  split at hv
  · rename_i r g o' e1
    rw [e1] at rx
    split at hv
    · rename_i hag
      cases hv
      obtain ⟨win, hι, _⟩ := ageOk_inv hR hag
      have hx := rx.ptr_at hι
      exact ⟨a.eval x, fun w _ => by simp [execOp, ho, hx], rx⟩
    · cases hv
  · cases hv

theorem sop_indexAddr (hR : Rel W0 ι H w) (hE : ERel ι env a) {t : TypeId} {x i : Operand} {s : SOp} (hs : sop P (.indexAddr t x i) = some s) {v : AVal} (hv : s.val env H = some v) :
    SOk P ι w (s.reads env) (do pure (.value (← Instr.indexAt t (a.eval x) (a.eval i)))) v := by
  simp only [sop] at hs
  split at hs
  · rename_i e p q ht hp hq
    have rx := xopd_rel hE hp
    have ri := xopd_rel hE hq
    split at hs
    · rename_i inf hinf
      cases hs
      simp only [SOp.val] at hv
      split at hv
      · rename_i r g o len z' k n e1 e2
        rw [e1] at rx; rw [e2] at ri
        split at hv
        · rename_i hc
          obtain ⟨hag, rfl, h0, hn⟩ := hc
          cases hv
          obtain ⟨win, hι, _⟩ := ageOk_inv hR hag
          obtain ⟨ad, cap, hx, hlc, _, _, had⟩ := rx.slice_at hι
          have hcap : cap ≠ 0 := by omega
          have had' : ad = ⟨win.blk, win.off + o, none⟩ := by rcases had with had | had; · exact absurd had hcap
                                                              · exact had
          subst had'
          rw [hx, ri.int_inv]
          refine .of_val (y := .pointer (some ⟨win.blk, win.off + o + n.toNat * inf.size, none⟩)) (fun w => ?_) ?_
          · simp [Instr.indexAt, asIntOf, run_underlying ht, h0, hn, sizeOf, typeInfo, hinf, addr_add]
          · simp only [VRel]
            exact ⟨g, win, hι, Nat.le_refl _, ⟨_, rfl⟩, fun _ => by rw [Nat.add_assoc]⟩
        · cases hv
      · cases hv
    · cases hs
  · rename_i n0 e p q ht hp hq
    have rx := xopd_rel hE hp
    have ri := xopd_rel hE hq
    split at hs
    · rename_i inf hinf
      cases hs
      simp only [SOp.val] at hv
      split at hv
      · rename_i r g o k n e1 e2
        rw [e1] at rx; rw [e2] at ri
        split at hv
        · rename_i hc
          obtain ⟨hag, h0, hn⟩ := hc
          cases hv
          obtain ⟨win, hι, _⟩ := ageOk_inv hR hag
          rw [rx.ptr_at hι, ri.int_inv]
          refine .of_val (y := .pointer (some ⟨win.blk, win.off + o + n.toNat * inf.size, none⟩)) (fun w => ?_) ?_
          · simp [Instr.indexAt, asIntOf, run_underlying ht, Instr.sureAddr, h0, hn, sizeOf, typeInfo, hinf, addr_add]
          · simp only [VRel]
            exact ⟨g, win, hι, Nat.le_refl _, ⟨_, rfl⟩, fun _ => by rw [Nat.add_assoc]⟩
        · cases hv
      · cases hv
    · cases hs
  · cases hs

theorem bytes_get (s : List UInt8) (i : Nat) : (ByteArray.mk s.toArray)[i]? = s[i]? := by
  by_cases h : i < s.length
  · have h' : i < (ByteArray.mk s.toArray).size := by simpa [ByteArray.size] using h
    rw [getElem?_pos (ByteArray.mk s.toArray) i h', List.getElem?_eq_getElem h]
    rfl
  · have h' : ¬ i < (ByteArray.mk s.toArray).size := by simpa [ByteArray.size] using h
    rw [getElem?_neg (ByteArray.mk s.toArray) i h', List.getElem?_eq_none (by omega)]

theorem sop_index (hE : ERel ι env a) {t : TypeId} {x i : Operand} {s : SOp} (hs : sop P (.index t x i) = some s) {v : AVal} (hv : s.val env H = some v) :
    SOk P ι w (s.reads env) (do pure (.value (← Instr.index t (a.eval x) (a.eval i)))) v := by
  simp only [sop] at hs
  split at hs
  · rename_i p q ht hp hq
    have rx := xopd_rel hE hp
    have ri := xopd_rel hE hq
    cases hs
    simp only [SOp.val] at hv
    split at hv
    · rename_i bs k n e1 e2
      rw [e1] at rx; rw [e2] at ri
      split at hv
      · rename_i h0
        simp only [Option.map_eq_some_iff] at hv
        obtain ⟨b, hb, rfl⟩ := hv
        rw [rx.str_inv, ri.int_inv]
        refine .of_val (y := .int .u8 b.toNat) (fun w => ?_) (by simp [VRel])
        simp [Instr.index, asIntOf, run_underlying ht, h0, bytes_get, hb]
      · cases hv
    · cases hv
  · rename_i n0 e p q ht hp hq
    have rx := xopd_rel hE hp
    have ri := xopd_rel hE hq
    split at hs
    · rename_i inf hag hinf
      split at hs
      · rename_i hsz
        cases hs
        simp only [SOp.val] at hv
        split at hv
        · rename_i cs k n e1 e2
          rw [e1] at rx; rw [e2] at ri
          simp only [VRel] at rx
          obtain ⟨l, hl, hr⟩ := rx
          split at hv
          · rename_i hc
            obtain ⟨h0, hn⟩ := hc
            rw [hl, ri.int_inv]
            obtain ⟨y, hy, hyr⟩ := hr.get _ v hv
            refine .of_val (y := y) (fun w => ?_) hyr
            simp [Instr.index, asIntOf, run_underlying ht, h0, hn, sizeOf, typeInfo, hinf, hsz, part_run1 (P := P) (w := w) hag hy]
          · cases hv
        · cases hv
      · cases hs
    · cases hs
  · cases hs

theorem bytes_extract (s : List UInt8) (l h : Nat) : (ByteArray.mk s.toArray).extract l h = ⟨((s.drop l).take (h - l)).toArray⟩ := by
  apply ByteArray.ext
  simp [ByteArray.data_extract, List.take_drop]

/-- A bound of a slice expression: as the machine's operand and as a number. -/
theorem bnd_run {lo : Option Operand} {plo : Option XOpd} (hE : ERel ι env a) (hp : oopd lo = some plo) {d : Nat} {l : Int} (h : bnd (plo.map (XOpd.ev env)) d = some l) :
    (lo = none ∧ l = d) ∨ ∃ o k, lo = some o ∧ a.eval o = .int k l := by
  cases lo with
  | none =>
    simp only [oopd, Option.some.injEq] at hp; subst hp
    simp only [Option.map_none, bnd, Option.some.injEq] at h
    exact .inl ⟨rfl, h.symm⟩
  | some o =>
    simp only [oopd, Option.map_eq_some_iff] at hp
    obtain ⟨p, hp, rfl⟩ := hp
    have r := xopd_rel hE hp
    simp only [Option.map_some] at h
    unfold bnd at h
    split at h
    · rename_i e; cases e
    · rename_i k n e
      cases h
      simp only [Option.some.injEq] at e
      rw [e] at r
      exact .inr ⟨o, k, rfl, r.int_inv⟩
    · cases h

theorem sliceBounds_run {isS : Bool} {len cap : Nat} {lo hi : Option Operand} {l h : Int} (hlo : (lo = none ∧ l = 0) ∨ ∃ o k, lo = some o ∧ a.eval o = .int k l)
    (hhi : (hi = none ∧ h = len) ∨ ∃ o k, hi = some o ∧ a.eval o = .int k h) (h0 : 0 ≤ l) (h1 : l ≤ h) (h2 : h ≤ cap) :
    (Instr.sliceBounds isS len cap (lo.map a.eval) (hi.map a.eval) none).run P w = .ok (l.toNat, h.toNat, cap) w := by
  have g0 : 0 ≤ h := by omega
  rcases hlo with ⟨rfl, rfl⟩ | ⟨o1, k1, rfl, e1⟩ <;> rcases hhi with ⟨rfl, rfl⟩ | ⟨o2, k2, rfl, e2⟩
  · simp [Instr.sliceBounds]
  · simp [Instr.sliceBounds, Instr.sliceBound, asIntOf, e2, g0, h2]
  · have : l ≤ (len : Int) := h1
    simp [Instr.sliceBounds, Instr.sliceBound, asIntOf, e1, h0, this]
  · have : l ≤ ((h.toNat : Nat) : Int) := by omega
    have hm : max h 0 = h := by omega
    simp [Instr.sliceBounds, Instr.sliceBound, asIntOf, e1, e2, h0, g0, h2, hm, h1]

theorem sliceBounds3_run {len cap : Nat} {lo : Option Operand} {l h m : Int} (hlo : (lo = none ∧ l = 0) ∨ ∃ o k, lo = some o ∧ a.eval o = .int k l) {vh vm : Value} {kh km : IntKind} (eh : vh = .int kh h) (em : vm = .int km m)
    (h0 : 0 ≤ l) (h1 : l ≤ h) (h2 : h ≤ m) (h3 : m ≤ cap) :
    (Instr.sliceBounds true len cap (lo.map a.eval) (some vh) (some vm)).run P w = .ok (l.toNat, h.toNat, m.toNat) w := by
  subst eh em
  have g0 : 0 ≤ h := by omega
  have g1 : 0 ≤ m := by omega
  have g2 : h ≤ ((m.toNat : Nat) : Int) := by omega
  have g3 : l ≤ ((h.toNat : Nat) : Int) := by omega
  have m1 : max m 0 = m := by omega
  have m2 : max h 0 = h := by omega
  rcases hlo with ⟨rfl, rfl⟩ | ⟨o1, k1, rfl, e1⟩
  · simp [Instr.sliceBounds, Instr.sliceBound, asIntOf, g0, g1, g2, h2, h3, m1]
  · simp [Instr.sliceBounds, Instr.sliceBound, asIntOf, e1, h0, g0, g1, g2, g3, h1, h2, h3, m1, m2]

theorem bnd_int {x : XOpd} {o : Operand} (hE : ERel ι env a) (hp : xopd o = some x) {d : Nat} {n : Int} (h : bnd (some (x.ev env)) d = some n) : ∃ k, a.eval o = .int k n := by
  have rx := xopd_rel hE hp
  cases hx : x.ev env with
  | int k n' =>
    rw [hx] at h rx
    simp only [bnd, Option.some.injEq] at h
    subst h
    exact ⟨k, rx.int_inv⟩
  | _ => rw [hx] at h; simp [bnd] at h

theorem sop_slice3 (hR : Rel W0 ι H w) (hE : ERel ι env a) {t : TypeId} {x : Operand} {lo : Option Operand} {hi mx : Operand} {s : SOp} (hs : sop P (.slice t x lo (some hi) (some mx)) = some s) {v : AVal} (hv : s.val env H = some v) :
    SOk P ι w (s.reads env) (do pure (.value (← Instr.sliceAt t (a.eval x) (lo.map a.eval) (some (a.eval hi)) (some (a.eval mx))))) v := by
  simp only [sop] at hs
  split at hs
  · rename_i e p plo phi pmx ht hp hlo hhi hmx
    have rx := xopd_rel hE hp
    split at hs
    · rename_i inf hinf
      cases hs
      simp only [SOp.val] at hv
      split at hv
      · rename_i e1
        rw [e1] at rx
        simp only [VRel] at rx
        split at hv
        · rename_i l h m hl hh hm
          split at hv
          · rename_i hc
            obtain ⟨rfl, rfl, rfl⟩ := hc
            cases hv
            obtain ⟨kh, eh⟩ := bnd_int hE hhi hh
            obtain ⟨km, em⟩ := bnd_int hE hmx hm
            have hb := fun w => sliceBounds3_run (P := P) (w := w) (len := 0) (cap := 0) (bnd_run hE hlo hl) eh em (by omega) (by omega) (by omega) (by omega)
            refine .of_val (y := .slice none 0 0) (fun w => ?_) (by simp [VRel])
            simp [Instr.sliceAt, Instr.slice, run_underlying ht, rx, hb, sizeOf, typeInfo, hinf]
          · cases hv
        · cases hv
      · rename_i r g o len z' e1
        rw [e1] at rx
        split at hv
        · rename_i l h m hl hh hm
          split at hv
          · rename_i hc
            obtain ⟨hag, _, c0, c1, c2, c3⟩ := hc
            cases hv
            obtain ⟨win, hι, _⟩ := ageOk_inv hR hag
            obtain ⟨ad, cap, hx, hcap, _⟩ := rx.slice_at hι
            obtain ⟨kh, eh⟩ := bnd_int hE hhi hh
            obtain ⟨km, em⟩ := bnd_int hE hmx hm
            have hb := fun w => sliceBounds3_run (P := P) (w := w) (len := len) (cap := cap) (bnd_run hE hlo hl) eh em c0 c1 c2 (by omega)
            refine .of_val (y := .slice (if m.toNat = l.toNat then some ad else (some ad).map (·.add (l.toNat * inf.size))) (h.toNat - l.toNat) (m.toNat - l.toNat)) (fun w => ?_) ?_
            · simp [Instr.sliceAt, Instr.slice, run_underlying ht, hx, hb, sizeOf, typeInfo, hinf]
            · split
              · rename_i hz
                obtain ⟨rfl, rfl⟩ := hz
                have : h = 0 := by omega
                subst this
                simp [VRel]
              · simp [VRel]
          · cases hv
        · cases hv
      · cases hv
    · cases hs
  · cases hs

theorem sop_slice (hR : Rel W0 ι H w) (hE : ERel ι env a) {t : TypeId} {x : Operand} {lo hi : Option Operand} {s : SOp} (hs : sop P (.slice t x lo hi none) = some s) {v : AVal} (hv : s.val env H = some v) :
    SOk P ι w (s.reads env) (do pure (.value (← Instr.sliceAt t (a.eval x) (lo.map a.eval) (hi.map a.eval) none))) v := by
  simp only [sop] at hs
  split at hs
  · -- a string
    rename_i p plo phi ht hp hlo hhi
    have rx := xopd_rel hE hp
    cases hs
    simp only [SOp.val] at hv
    split at hv
    · rename_i bs e0 e1
      rw [e1] at rx
      split at hv
      · rename_i l h hl hh
        split at hv
        · rename_i hc
          obtain ⟨c0, c1, c2⟩ := hc
          cases hv
          rw [rx.str_inv]
          have hb := fun w => sliceBounds_run (P := P) (w := w) (isS := false) (len := bs.length) (cap := bs.length) (bnd_run hE hlo hl) (bnd_run hE hhi hh) c0 c1 c2
          refine .of_val (y := .string ⟨((bs.drop l.toNat).take (h.toNat - l.toNat)).toArray⟩) (fun w => ?_) (by simp [VRel])
          have hsz : (ByteArray.mk bs.toArray).size = bs.length := by simp [ByteArray.size]
          simp only [Instr.sliceAt, Instr.slice, run_underlying ht, hsz, hb, bytes_extract, Sem.run_bind, Result.andThen_ok, Sem.run_pure, Option.isSome_none, Bool.false_eq_true, if_false]
        · cases hv
      · cases hv
    all_goals first | cases hv | (rename_i e0 _; cases e0)
  · -- a slice
    rename_i e p plo phi ht hp hlo hhi
    have rx := xopd_rel hE hp
    split at hs
    · rename_i inf hinf
      cases hs
      simp only [SOp.val] at hv
      split at hv
      · rename_i e0 _; cases e0
      · rename_i e0 e1
        rw [e1] at rx
        simp only [VRel] at rx
        rw [rx]
        split at hv
        · rename_i l h hl hh
          split at hv
          · rename_i hc
            obtain ⟨rfl, rfl⟩ := hc
            cases hv
            have hb := fun w => sliceBounds_run (P := P) (w := w) (isS := true) (len := 0) (cap := 0) (bnd_run hE hlo hl) (bnd_run hE hhi hh) (by omega) (by omega) (by omega)
            refine .of_val (y := .slice none 0 0) (fun w => ?_) (by simp [VRel])
            simp [Instr.sliceAt, Instr.slice, run_underlying ht, hb, sizeOf, typeInfo, hinf]
          · cases hv
        · cases hv
      · rename_i e0 e1
        rw [e1] at rx
        simp only [VRel] at rx
        obtain ⟨ad, rx⟩ := rx
        rw [rx]
        split at hv
        · rename_i l h hl hh
          split at hv
          · rename_i hc
            obtain ⟨rfl, rfl⟩ := hc
            cases hv
            have hb := fun w => sliceBounds_run (P := P) (w := w) (isS := true) (len := 0) (cap := 0) (bnd_run hE hlo hl) (bnd_run hE hhi hh) (by omega) (by omega) (by omega)
            refine .of_val (y := .slice (some ad) 0 0) (fun w => ?_) (by simp [VRel])
            simp [Instr.sliceAt, Instr.slice, run_underlying ht, hb, sizeOf, typeInfo, hinf]
          · cases hv
        · cases hv
      · rename_i z r g o len z' e0 e1
        cases e0
        rw [e1] at rx
        split at hv
        · rename_i l h hl hh
          split at hv
          · rename_i hc
            obtain ⟨hag, rfl, c0, c1, c2⟩ := hc
            cases hv
            obtain ⟨win, hι, ro, e', cs, hb, hwl, hwe⟩ := ageOk_inv hR hag
            obtain ⟨ad, cap, hx, hlc, hw1, hw2, had⟩ := rx.slice_at hι
            have hcap : h ≤ cap := by
              rcases c2 with c2 | ⟨c2, c3⟩
              · omega
              · have : o + h.toNat * inf.size ≤ cs.length := by
                  unfold aloads at c2
                  rw [hb] at c2
                  simp only at c2
                  split at c2
                  · rename_i hq; exact hq.2
                  · cases c2
                have : h.toNat * inf.size ≤ cap * inf.size := by omega
                have := Nat.le_of_mul_le_mul_right this c3
                omega
            rw [hx]
            have hbd := fun w => sliceBounds_run (P := P) (w := w) (isS := true) (len := len) (cap := cap) (bnd_run hE hlo hl) (bnd_run hE hhi hh) c0 c1 hcap
            have hlc2 : l.toNat ≤ cap := by omega
            refine .of_val (y := .slice (some (if cap = l.toNat then ad else ad.add (l.toNat * inf.size))) (h.toNat - l.toNat) (cap - l.toNat)) (fun w => ?_) ?_
            · simp [Instr.sliceAt, Instr.slice, run_underlying ht, hbd, sizeOf, typeInfo, hinf]
              split <;> rfl
            · have hmul : (cap - l.toNat) * inf.size + l.toNat * inf.size = cap * inf.size := by rw [← Nat.add_mul]; rw [show cap - l.toNat + l.toNat = cap by omega]
              simp only [VRel]
              refine ⟨g, win, hι, Nat.le_refl _, ⟨_, _, _, rfl⟩, fun _ => ⟨_, _, rfl, by omega, by omega, by omega, ?_⟩⟩
              by_cases ec : cap = l.toNat
              · exact .inl (by omega)
              · right
                rw [if_neg ec]
                rcases had with had | had
                · omega
                · rw [had, addr_add, Nat.add_assoc]
          · cases hv
        · cases hv
      · rename_i e0 _; cases e0
      · cases hv
    · cases hs
  · -- an array behind its address
    rename_i n e p plo phi ht hp hlo hhi
    have rx := xopd_rel hE hp
    split at hs
    · rename_i inf hinf
      cases hs
      simp only [SOp.val] at hv
      split at hv
      · rename_i e0 _; cases e0
      · rename_i e0 _; cases e0
      · rename_i e0 _; cases e0
      · rename_i e0 _; cases e0
      · rename_i n' z r g o e0 e1
        cases e0
        rw [e1] at rx
        split at hv
        · rename_i l h hl hh
          split at hv
          · rename_i g' ro e' cs hb
            split at hv
            · rename_i hc
              obtain ⟨rfl, hlen, c0, c1, c2⟩ := hc
              cases hv
              obtain ⟨g2, win, hι, hBR⟩ := hR.blk r _ hb
              obtain ⟨rfl, hwl, hwe, _⟩ := hBR
              rw [rx.ptr_at hι]
              have hbd := fun w => sliceBounds_run (P := P) (w := w) (isS := false) (len := n) (cap := n) (bnd_run hE hlo hl) (bnd_run hE hhi hh) c0 c1 c2
              refine .of_val (y := .slice (some (if n = l.toNat then ⟨win.blk, win.off + o, none⟩ else (⟨win.blk, win.off + o, none⟩ : Addr).add (l.toNat * inf.size))) (h.toNat - l.toNat) (n - l.toNat)) (fun w => ?_) ?_
              · simp [Instr.sliceAt, run_underlying ht, Instr.sureAddr, hbd, sizeOf, typeInfo, hinf]
              · have hmul : (n - l.toNat) * inf.size + l.toNat * inf.size = n * inf.size := by rw [← Nat.add_mul]; rw [show n - l.toNat + l.toNat = n by omega]
                simp only [VRel]
                refine ⟨g, win, hι, Nat.le_refl _, ⟨_, _, _, rfl⟩, fun _ => ⟨_, _, rfl, by omega, by omega, by omega, ?_⟩⟩
                by_cases ec : n = l.toNat
                · exact .inl (by omega)
                · right
                  rw [if_neg ec, addr_add, Nat.add_assoc]
            · cases hv
          · cases hv
        · cases hv
      · cases hv
    · cases hs
  · cases hs
end
end Go.Proofs.YtalbjkemcckokaaGreat.Ab

/- The abstract layer: maps whose keys are arrays of three whole numbers. Conditions: none; a library for the texts behind it. -/
import Derived.Test.YtalbjkemcckokaaGreatAh
import Derived.WideKeyPair
namespace Go.Proofs.YtalbjkemcckokaaGreat.Ab
open Go.RowKit (Below)
open Go.WideMaps (ArrKey KeyLaw)
set_option linter.unusedVariables false
set_option linter.unusedSimpArgs false

theorem akey3_inv {kd : IntKind} {k : AVal} {l : Int × Int × Int} (h : akey3 kd k = some l) : k = .agg [.int kd l.1, .int kd l.2.1, .int kd l.2.2] ∧ (Lit.int kd l.1).wf = true ∧ (Lit.int kd l.2.1).wf = true ∧ (Lit.int kd l.2.2).wf = true := by
  unfold akey3 at h
  split at h
  · split at h
    · rename_i hc
      obtain ⟨rfl, rfl, rfl, h1, h2, h3⟩ := hc
      cases h
      exact ⟨rfl, h1, h2, h3⟩
    · cases h
  · cases h

theorem mget_at {kd : IntKind} {l : Int × Int × Int} : ∀ {es : List (AVal × AVal)} {j : Nat} {k v : AVal}, mkeys kd es = true → es[j]? = some (k, v) → akey3 kd k = some l → mget kd l es = some v
  | [], j, k, v, _, h, _ => by simp at h
  | (k0, v0) :: es, 0, k, v, _, h, hk => by
    simp only [List.getElem?_cons_zero, Option.some.injEq, Prod.mk.injEq] at h
    obtain ⟨rfl, rfl⟩ := h
    simp [mget, hk]
  | (k0, v0) :: es, j + 1, k, v, hm, h, hk => by
    simp only [List.getElem?_cons_succ] at h
    simp only [mkeys] at hm
    split at hm
    · rename_i l0 h0
      simp only [Bool.and_eq_true, Option.isNone_iff_eq_none] at hm
      have ih := mget_at hm.2 h hk
      by_cases e : l0 = l
      · subst e; rw [hm.1] at ih; cases ih
      · simp only [mget, h0, Option.some.injEq, e, if_false]; exact ih
    · cases hm
theorem mget_none {kd : IntKind} {l : Int × Int × Int} : ∀ {es : List (AVal × AVal)}, (∀ p ∈ es, akey3 kd p.1 ≠ some l) → mget kd l es = none
  | [], _ => rfl
  | (k0, v0) :: es, h => by
    have h0 := h (k0, v0) (by simp)
    simp only [mget, h0, if_false]
    exact mget_none fun p hp => h p (List.mem_cons_of_mem _ hp)
theorem mput_none {kd : IntKind} {l : Int × Int × Int} {k v : AVal} : ∀ {es : List (AVal × AVal)}, mget kd l es = none → mput kd l k v es = es ++ [(k, v)]
  | [], _ => rfl
  | (k0, v0) :: es, h => by
    simp only [mget] at h
    split at h
    · cases h
    · rename_i hc
      simp only [mput, hc, if_false, List.cons_append, mput_none h]
theorem mput_at {kd : IntKind} {l : Int × Int × Int} {k v : AVal} : ∀ {es : List (AVal × AVal)} {j : Nat} {k0 v0 : AVal}, mkeys kd es = true → es[j]? = some (k0, v0) → akey3 kd k0 = some l → mput kd l k v es = es.set j (k, v)
  | [], j, k0, v0, _, h, _ => by simp at h
  | (k1, v1) :: es, 0, k0, v0, _, h, hk => by
    simp only [List.getElem?_cons_zero, Option.some.injEq, Prod.mk.injEq] at h
    obtain ⟨rfl, rfl⟩ := h
    simp [mput, hk]
  | (k1, v1) :: es, j + 1, k0, v0, hm, h, hk => by
    simp only [List.getElem?_cons_succ] at h
    simp only [mkeys] at hm
    split at hm
    · rename_i l0 h0
      simp only [Bool.and_eq_true, Option.isNone_iff_eq_none] at hm
      have hg := mget_at hm.2 h hk
      by_cases e : l0 = l
      · subst e; rw [hm.1] at hg; cases hg
      · simp only [mput, h0, Option.some.injEq, e, if_false, List.set_cons_succ, mput_at hm.2 h hk]
    · cases hm
theorem mkeys_uniq {kd : IntKind} {l : Int × Int × Int} : ∀ {es : List (AVal × AVal)} {j j' : Nat} {p p' : AVal × AVal}, mkeys kd es = true → es[j]? = some p → es[j']? = some p' → akey3 kd p.1 = some l → akey3 kd p'.1 = some l → j = j'
  | [], j, j', p, p', _, h, _, _, _ => by simp at h
  | (k0, v0) :: es, 0, 0, p, p', _, _, _, _, _ => rfl
  | (k0, v0) :: es, 0, j' + 1, p, p', hm, h, h', hk, hk' => by
    simp only [List.getElem?_cons_zero, Option.some.injEq] at h
    subst h
    simp only [List.getElem?_cons_succ] at h'
    simp only [mkeys, hk, Bool.and_eq_true, Option.isNone_iff_eq_none] at hm
    have := mget_at hm.2 h' hk'
    rw [hm.1] at this; cases this
  | (k0, v0) :: es, j + 1, 0, p, p', hm, h, h', hk, hk' => by
    simp only [List.getElem?_cons_zero, Option.some.injEq] at h'
    subst h'
    simp only [List.getElem?_cons_succ] at h
    simp only [mkeys, hk', Bool.and_eq_true, Option.isNone_iff_eq_none] at hm
    have := mget_at hm.2 h hk
    rw [hm.1] at this; cases this
  | (k0, v0) :: es, j + 1, j' + 1, p, p', hm, h, h', hk, hk' => by
    simp only [List.getElem?_cons_succ] at h h'
    simp only [mkeys] at hm
    split at hm
    · simp only [Bool.and_eq_true] at hm
      rw [mkeys_uniq hm.2 h h' hk hk']
    · cases hm
theorem mkeys_all {kd : IntKind} : ∀ {es : List (AVal × AVal)}, mkeys kd es = true → ∀ p ∈ es, ∃ l, akey3 kd p.1 = some l
  | [], _, p, hp => by simp at hp
  | (k0, v0) :: es, hm, p, hp => by
    simp only [mkeys] at hm
    split at hm
    · rename_i l0 h0
      simp only [Bool.and_eq_true] at hm
      rcases List.mem_cons.1 hp with rfl | hp
      · exact ⟨l0, h0⟩
      · exact mkeys_all hm.2 p hp
    · cases hm

section
variable {P : Program} {ι : Inj} {w : World} {H : AHeap} {W0 : World} {env : Env} {a : Act}

theorem mapK_inv {t : TypeId} {kd : IntKind} {k e : TypeId} (h : mapK P t = some (kd, k, e)) : ∃ el, P.underlying t = some (.map k e) ∧ P.underlying el = some (.int kd) ∧ ArrKey P k el 3 ∧ ∃ m, P.types.size = m + 1 := by
  unfold mapK at h
  split at h
  · rename_i k' e' hu
    split at h
    · rename_i el hk
      split at h
      · rename_i kd' hel
        split at h
        · rename_i hc
          simp only [Option.some.injEq, Prod.mk.injEq] at h
          obtain ⟨rfl, rfl, rfl⟩ := h
          exact ⟨el, hu, hel, ⟨hk, by simp [Program.plainKey, hel], hc.1, hc.2.1⟩, P.types.size - 1, by omega⟩
        · cases h
      · cases h
    · cases h
  · cases h

theorem keyOf_three {k e : TypeId} {q : IntKind} (A : ArrKey P k e 3) (he : P.underlying e = some (.int q)) (hsz : ∃ m, P.types.size = m + 1) {x y z : Int} (wx : (Lit.int q x).wf = true) (wy : (Lit.int q y).wf = true) (wz : (Lit.int q z).wf = true) :
    keyOf P k (.agg #[.int q x, .int q y, .int q z]) = some (.string (keyBytes [.int q x, .int q y, .int q z])) := by
  have hkt := A.keyType hsz
  obtain ⟨m, hm⟩ := hsz
  unfold keyOf
  simp only [A.hu]
  rw [if_pos (by simp [hkt, Value.formed, A.hu, A.size]), hm]
  unfold Program.keyLits
  simp only [A.hu, Value.cells]
  rw [if_pos (by rw [A.size]; rfl), show List.range 3 = [0, 1, 2] from rfl, List.mapM_cons, List.mapM_cons, List.mapM_cons, List.mapM_nil]
  simp [A.one, Program.keyLits, he, wx, wy, wz]

theorem akey3_real {kd : IntKind} {k : AVal} {l : Int × Int × Int} (h : akey3 kd k = some l) {v : Value} (hv : VRel ι k v) : v = .agg #[.int kd l.1, .int kd l.2.1, .int kd l.2.2] := by
  rw [(akey3_inv h).1] at hv
  simp only [VRel, VRels] at hv
  obtain ⟨L, rfl, _, _, rfl, rfl, _, _, rfl, rfl, _, _, rfl, rfl, rfl⟩ := hv
  rfl

/-- The machine finds what the abstract map holds. -/
theorem run_find (w0 : World) {t : TypeId} {kd : IntKind} {kt e : TypeId} (hmk : mapK P t = some (kd, kt, e)) {k : AVal} {l : Int × Int × Int} (hk : akey3 kd k = some l) {kv : Value} (rk : VRel ι k kv) {es : List (AVal × AVal)} (hm : mkeys kd es = true) {ents : Array MapEntry}
    (hsz : ents.size = es.length) (hcs : ∀ (i : Nat) (x : AVal × AVal), es[i]? = some x → ∃ e, ents[i]? = some e ∧ VRel ι x.1 e.key ∧ VRel ι x.2 e.val) :
    (∀ u : World, (∀ em, (Instr.checkKey em 10000 kt kv).run P u = .ok () u) ∧ (Instr.keyThatStays kv kv).run P u = .ok kv u) ∧
    (((∀ u : World, (Instr.findKey kt kv ents.toList).run P u = .ok none u) ∧ mget kd l es = none) ∨
      ∃ (j : Nat) (k0 v0 : AVal) (x : MapEntry), (∀ u : World, (Instr.findKey kt kv ents.toList).run P u = .ok (some (j, x.val)) u) ∧ ents[j]? = some x ∧ x.key = kv ∧ es[j]? = some (k0, v0) ∧ akey3 kd k0 = some l ∧ VRel ι v0 x.val) := by
  obtain ⟨el, hu, hel, A, hts⟩ := mapK_inv hmk
  have K : KeyLaw P kt := A.law
  have e1 := akey3_real hk rk
  obtain ⟨_, w1, w2, w3⟩ := akey3_inv hk
  have hkey := keyOf_three A hel hts w1 w2 w3
  rw [← e1] at hkey
  have hall : ∀ x ∈ ents.toList, ∃ l, keyOf P kt x.key = some l := by
    intro x hx
    obtain ⟨i, hi, rfl⟩ := List.getElem_of_mem hx
    rw [Array.length_toList] at hi
    have hi2 : i < es.length := by omega
    obtain ⟨x', hx', h1, _⟩ := hcs i es[i] (by simp [hi2])
    rw [Array.getElem?_eq_getElem hi] at hx'
    cases hx'
    obtain ⟨l', hl'⟩ := mkeys_all hm es[i] (List.getElem_mem _)
    rw [Array.getElem_toList, akey3_real hl' h1]
    obtain ⟨_, u1, u2, u3⟩ := akey3_inv hl'
    exact ⟨_, keyOf_three A hel hts u1 u2 u3⟩
  refine ⟨fun u => ⟨fun em => K.check u em hkey, K.stays u hkey⟩, ?_⟩
  have two : ∀ u : World, ((Instr.findKey kt kv ents.toList).run P u = .ok none u ∧ mget kd l es = none) ∨
      ∃ (j : Nat) (k0 v0 : AVal) (x : MapEntry), (Instr.findKey kt kv ents.toList).run P u = .ok (some (j, x.val)) u ∧ ents[j]? = some x ∧ x.key = kv ∧ es[j]? = some (k0, v0) ∧ akey3 kd k0 = some l ∧ VRel ι v0 x.val := by
    intro u
    rcases K.find u hkey ents.toList hall with ⟨h1, h2⟩ | ⟨j, x, h1, h2, h3⟩
    · left
      refine ⟨h1, mget_none fun p hp hc => ?_⟩
      obtain ⟨i, hi, rfl⟩ := List.getElem_of_mem hp
      obtain ⟨x, hx, r1, _⟩ := hcs i es[i] (by simp [hi])
      refine h2 x (List.mem_of_getElem? (i := i) (by rw [Array.getElem?_toList]; exact hx)) ?_
      rw [akey3_real hc r1, e1]
    · right
      rw [Array.getElem?_toList] at h2
      have hj : j < es.length := by have := (Array.getElem?_eq_some_iff.1 h2).1; omega
      obtain ⟨x', hx', r1, r2⟩ := hcs j es[j] (by simp [hj])
      rw [h2] at hx'; cases hx'
      obtain ⟨l', hl'⟩ := mkeys_all hm es[j] (List.getElem_mem _)
      have e2 := akey3_real hl' r1
      rw [h3, e1] at e2
      have hll : l' = l := by
        simp only [Value.agg.injEq] at e2
        have e3 := congrArg Array.toList e2
        simp only [List.cons.injEq, Value.int.injEq, true_and, and_true] at e3
        obtain ⟨a1, a2, a3⟩ := l'
        obtain ⟨b1, b2, b3⟩ := l
        simp only [] at e3
        rw [e3.1, e3.2.1, e3.2.2]
      subst hll
      exact ⟨j, es[j].1, es[j].2, x, h1, h2, h3, by simp [hj], hl', r2⟩
  rcases two w0 with ⟨h1, h2⟩ | ⟨j, k0, v0, x, h1, h2, h3, h4, h5, h6⟩
  · left
    refine ⟨fun u => ?_, h2⟩
    rcases two u with ⟨g1, _⟩ | ⟨j, k0, v0, x, g1, g2, g3, g4, g5, g6⟩
    · exact g1
    · have := mget_at hm g4 g5; rw [h2] at this; cases this
  · right
    refine ⟨j, k0, v0, x, fun u => ?_, h2, h3, h4, h5, h6⟩
    rcases two u with ⟨_, g1⟩ | ⟨j', k0', v0', x', g1, g2, g3, g4, g5, g6⟩
    · have := mget_at hm h4 h5; rw [g1] at this; cases this
    · have e := mkeys_uniq hm h4 g4 h5 g5
      subst e
      rw [h2] at g2; cases g2
      exact g1

theorem sop_lookup (hR : Rel W0 ι H w) (hE : ERel ι env a) {t : TypeId} {x i : Operand} {ok : Bool} {s : SOp} (hz0 : ∀ {t : TypeId} {z : AVal}, zeroV P t = some z → ∃ v, (∀ u, (zeroValue t).run P u = .ok v u) ∧ ∀ ι', VRel ι' z v) (hs : sop P (.lookup t x i ok) = some s) {v : AVal} (hv : s.val env H = some v) :
    SOk P ι w (s.reads env) (do pure (.value (← Instr.lookup t (a.eval x) (a.eval i) ok))) v := by
  simp only [sop] at hs
  split at hs
  · rename_i kd kt e px pi hmk hx hi
    split at hs
    · rename_i z hz
      cases hs
      have rx := xopd_rel hE hx
      have ri := xopd_rel hE hi
      simp only [SOp.val] at hv
      split at hv
      · rename_i r l e1 e2
        rw [e1] at rx
        split at hv
        · rename_i es hb
          split at hv
          · rename_i hm
            obtain ⟨g, win, hι, hbr⟩ := hR.blk r _ hb
            obtain ⟨rfl, hown, ents, clock, hents, hsz, hcs⟩ := hbr
            have hxv : a.eval x = .map (some win.blk) := by
              simp only [VRel] at rx
              obtain ⟨g', win', h1, _, h2⟩ := rx
              rw [hι] at h1; cases h1
              exact h2 rfl
            obtain ⟨el, hu, hel, A, hts⟩ := mapK_inv hmk
            obtain ⟨zv, hz1, hz2⟩ := hz0 hz
            obtain ⟨hck, hf⟩ := run_find w hmk e2 ri hm hsz hcs
            have hread : ∀ w' : World, (∀ r' ∈ (SOp.lookup kd z ok px pi).reads env, ∀ g win, ι r' = some (g, win) → w'.heap[win.blk]? = w.heap[win.blk]?) → (getObj win.blk).run P w' = .ok (.map ents clock) w' := by
              intro w' hw'
              have := hw' r (by simp only [SOp.reads, e1]; simp) 0 win hι
              exact MapKept.run_getObj_map (by rw [this]; exact hents)
            rcases hf with ⟨h1, h2⟩ | ⟨j, k0, v0, x0, h1, h2, h3, h4, h5, h6⟩
            · rw [h2] at hv
              have hzr : VRel ι z zv := hz2 ι
              refine .of_read (y := if ok then .tuple #[zv, .bool false] else zv) (fun w' hw' => ?_) ?_
              · simp [Instr.lookup, run_underlying hu, hxv, hread w' hw', (hck w').1, h1 w', hz1, Result.andThen]
                try (cases ok <;> simp)
              · cases ok <;> simp at hv <;> subst hv
                · exact hzr
                · simp only [VRel]; exact ⟨[zv, .bool false], rfl, by simp only [VRels]; exact ⟨_, _, rfl, hzr, _, _, rfl, by simp [VRel], rfl⟩⟩
            · rw [mget_at hm h4 h5] at hv
              refine .of_read (y := if ok then .tuple #[x0.val, .bool true] else x0.val) (fun w' hw' => ?_) ?_
              · simp [Instr.lookup, run_underlying hu, hxv, hread w' hw', (hck w').1, h1 w', Result.andThen]
                try (cases ok <;> simp)
              · cases ok <;> simp at hv <;> subst hv
                · exact h6
                · simp only [VRel]; exact ⟨[x0.val, .bool true], rfl, by simp only [VRels]; exact ⟨_, _, rfl, h6, _, _, rfl, by simp [VRel], rfl⟩⟩
          · cases hv
        · cases hv
      · cases hv
    · cases hs
  · cases hs

/-- The machine's map, written. -/
theorem run_mapPut {t : TypeId} {kd : IntKind} {kt e : TypeId} (hmk : mapK P t = some (kd, kt, e)) {k x : AVal} {l : Int × Int × Int} (hk : akey3 kd k = some l) {kv xv : Value} (rk : VRel ι k kv) (rx : VRel ι x xv) {es : List (AVal × AVal)} (hm : mkeys kd es = true ∧ x.one = true) {b : Nat} {ents : Array MapEntry} {clock : Nat}
    (hb : w.heap[b]? = some (.map ents clock)) (hsz : ents.size = es.length) (hcs : ∀ (i : Nat) (x : AVal × AVal), es[i]? = some x → ∃ e, ents[i]? = some e ∧ VRel ι x.1 e.key ∧ VRel ι x.2 e.val) :
    ∃ ents' clock', (Instr.mapUpdate t (.map (some b)) kv xv).run P w = .ok () { w with heap := w.heap.setIfInBounds b (.map ents' clock') } ∧ ents'.size = (mput kd l k x es).length ∧
      (∀ (i : Nat) (x' : AVal × AVal), (mput kd l k x es)[i]? = some x' → ∃ e, ents'[i]? = some e ∧ VRel ι x'.1 e.key ∧ VRel ι x'.2 e.val) := by
  obtain ⟨el, hu, hel, A, hts⟩ := mapK_inv hmk
  obtain ⟨hck, hf⟩ := run_find (ι := ι) w hmk hk rk hm.1 hsz hcs
  rcases hf with ⟨h1, h2⟩ | ⟨j, k0, v0, x0, h1, h2, h3, h4, h5, h6⟩
  · refine ⟨ents.push { key := kv, val := xv, born := clock }, clock + 1, ?_, ?_, ?_⟩
    · simp [Instr.mapUpdate, run_underlying hu, MapKept.run_getObj_map hb, (hck w).1, h1 w, MapKept.run_setObj_map _ hb, Result.andThen]
    · rw [mput_none h2]; simp [hsz]
    · rw [mput_none h2]
      intro i x' hx'
      by_cases hi : i < es.length
      · rw [List.getElem?_append_left hi] at hx'
        obtain ⟨e', he', r1, r2⟩ := hcs i x' hx'
        exact ⟨e', by rw [Array.getElem?_push, if_neg (by omega)]; exact he', r1, r2⟩
      · have hi2 : i = es.length := by
          have := (List.getElem?_eq_some_iff.1 hx').1
          simp at this; omega
        subst hi2
        simp at hx'
        subst hx'
        exact ⟨_, by rw [Array.getElem?_push, if_pos hsz.symm], rk, rx⟩
  · have hj : j < ents.size := (Array.getElem?_eq_some_iff.1 h2).1
    refine ⟨ents.modify j fun e => { e with key := kv, val := xv }, clock, ?_, ?_, ?_⟩
    · have h7 : ((ents[j]?).map (·.key)).getD kv = kv := by rw [h2]; simp [h3]
      simp only [Instr.mapUpdate, Sem.run_bind, run_underlying hu, Result.andThen_ok, MapKept.run_getObj_map hb, (hck w).1, h1 w, h7, (hck w).2, MapKept.run_setObj_map _ hb]
    · rw [mput_at hm.1 h4 h5]; simp [hsz]
    · rw [mput_at hm.1 h4 h5]
      intro i x' hx'
      rw [List.getElem?_set] at hx'
      by_cases e' : j = i
      · subst e'
        rw [if_pos rfl, if_pos (by omega)] at hx'
        cases hx'
        exact ⟨_, by rw [Array.getElem?_modify, if_pos rfl, h2]; rfl, rk, rx⟩
      · rw [if_neg e'] at hx'
        obtain ⟨e0, he0, r1, r2⟩ := hcs i x' hx'
        exact ⟨e0, by rw [Array.getElem?_modify, if_neg e']; exact he0, r1, r2⟩
end
end Go.Proofs.YtalbjkemcckokaaGreat.Ab

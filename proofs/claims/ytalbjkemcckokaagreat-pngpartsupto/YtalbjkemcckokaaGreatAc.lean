/- The abstract layer, third part: the built-in append. Conditions: none; a library for the texts behind it. -/
import Derived.Test.YtalbjkemcckokaaGreatAb
namespace Go.Proofs.YtalbjkemcckokaaGreat.Ab
open Go.RowKit (Below)

/-- The block that an append writes into. -/
def appTarget (s : AVal) : Nat → Prop := fun x => match s with
  | .slice r _ _ _ _ => x = r
  | _ => False

/-- What is appended or copied: the cells and their number of elements. -/
def asrc (H : AHeap) (z : Nat) : AVal → Option (List AVal × Nat)
  | .nilslice => some ([], 0)
  | .eslice => some ([], 0)
  | .slice r g o len z' => if z' = z then (aloads H r g o (len * z)).map fun cs => (cs, len) else none
  | .str s => if z = 1 then some (s.map fun c => .int .u8 c.toNat, s.length) else none
  | _ => none

def roomLim : Nat := 140737488355328

def aappend (z bytes ety : Nat) (s x : AVal) (H : AHeap) : Option (AVal × AHeap) :=
  match asrc H z x with
  | none => none
  | some (new, n) =>
    match s with
    | .nilslice => if n = 0 then some (.nilslice, H) else if n * bytes ≤ roomLim then some (.slice H.length 0 0 n z, H ++ [.cells 0 false ety new]) else none
    | .eslice => if n = 0 then some (.eslice, H) else if n * bytes ≤ roomLim then some (.slice H.length 0 0 n z, H ++ [.cells 0 false ety new]) else none
    | .slice r g o len z' =>
      match H[r]? with
      | some (.cells g' ro e cs) =>
        if z' = z ∧ g = g' ∧ (ro = false ∨ n = 0) then
          if o + (len + n) * z ≤ cs.length then (astores H r g (o + len * z) new).map fun H' => (.slice r g o (len + n) z, H')
          else if o = 0 ∧ e = ety ∧ len * z ≤ cs.length ∧ (len + n) * bytes ≤ roomLim ∧ new.all AVal.one = true ∧ ro = false then
            some (.slice r (g + 1) 0 (len + n) z, H.set r (.cells (g + 1) false ety (cs.take (len * z) ++ new)))
          else none
        else none
      | _ => none
    | _ => none

theorem run_typeInfo' {P : Program} {t : TypeId} {i : TypeInfo} (h : P.info? t = some i) (w : World) : (typeInfo t).run P w = .ok i w := by
  simp [typeInfo, h]

theorem bytes_extract_all (s : List UInt8) : (⟨s.toArray⟩ : ByteArray).extract 0 s.length = ⟨s.toArray⟩ := by
  have h : (⟨s.toArray⟩ : ByteArray).size = s.length := by simp [ByteArray.size]
  rw [← h]; simp

theorem VRels_bytes (ι : Inj) : ∀ (s : List UInt8), VRels ι (s.map fun c => .int .u8 c.toNat) (s.map fun c => Value.int .u8 (c.toNat : Int))
  | [] => by simp [VRels]
  | c :: s => by simp only [List.map_cons, VRels]; exact ⟨_, _, rfl, by simp [VRel], VRels_bytes ι s⟩

/-- The source of an append, run. -/
theorem asrc_run (P : Program) {W0 : World} {ι : Inj} {H : AHeap} {w : World} (hR : Rel W0 ι H w) {z : Nat} {x : AVal} {y : Value} (hv : VRel ι x y) {cs : List AVal} {n : Nat} (h : asrc H z x = some (cs, n)) :
    (Builtin.lenOf y).run P w = .ok n w ∧ ∃ ys, (∀ m, (Builtin.firstCells z n y).run P (w.drewN m) = .ok (List.toArray ys) (w.drewN m)) ∧ VRels ι cs ys ∧ ys.length = n * z := by
  cases x <;> simp only [asrc] at h
  case nilslice =>
    simp only [Option.some.injEq, Prod.mk.injEq] at h; obtain ⟨rfl, rfl⟩ := h
    simp only [VRel] at hv; subst hv
    exact ⟨by simp [Builtin.lenOf], [], fun m => by simp [Builtin.firstCells], by simp [VRels], by simp⟩
  case eslice =>
    simp only [Option.some.injEq, Prod.mk.injEq] at h; obtain ⟨rfl, rfl⟩ := h
    simp only [VRel] at hv; obtain ⟨a, rfl⟩ := hv
    exact ⟨by simp [Builtin.lenOf], [], fun m => by simp [Builtin.firstCells, loadCells, loadCellsFrom], by simp [VRels], by simp⟩
  case str s =>
    split at h
    · rename_i hz; subst hz
      simp only [Option.some.injEq, Prod.mk.injEq] at h; obtain ⟨rfl, rfl⟩ := h
      simp only [VRel] at hv; subst hv
      refine ⟨by simp [Builtin.lenOf, ByteArray.size], s.map fun c => Value.int .u8 (c.toNat : Int), fun m => ?_, VRels_bytes ι s, by simp⟩
      simp only [Builtin.firstCells, bytes_extract_all, Sem.run_pure]
      congr 1
      simp
    · cases h
  case slice r g o len z' =>
    split at h
    · rename_i hz; subst hz
      simp only [Option.map_eq_some_iff, Prod.mk.injEq] at h
      obtain ⟨cs', hl, rfl, rfl⟩ := h
      simp only [VRel] at hv
      obtain ⟨g', win, hι, hle, ⟨a0, l0, c0, rfl⟩, he⟩ := hv
      have hg : g = g' := by
        unfold aloads at hl
        split at hl
        · rename_i g2 ro ety cs hb
          split at hl
          · rename_i hc
            obtain ⟨g3, win3, h3, h4⟩ := hR.blk r _ hb
            rw [hι] at h3; simp only [Option.some.injEq, Prod.mk.injEq] at h3
            obtain ⟨rfl, rfl⟩ := h3
            rw [hc.1]; exact h4.1
          · cases hl
        · cases hl
      subst hg
      obtain ⟨a, cap, e1, hlc, _, _, ha⟩ := he rfl
      simp only [Value.slice.injEq] at e1
      obtain ⟨rfl, rfl, rfl⟩ := e1
      refine ⟨by simp [Builtin.lenOf], ?_⟩
      rcases Nat.eq_zero_or_pos l0 with e0 | e0
      · subst e0
        refine ⟨[], fun m => by simp [Builtin.firstCells, loadCells, loadCellsFrom], ?_, by simp⟩
        have : cs' = [] := by
          unfold aloads at hl
          split at hl
          · split at hl
            · simp at hl; exact hl
            · cases hl
          · cases hl
        subst this; simp [VRels]
      · have ha' : a = ⟨win.blk, win.off + o, none⟩ := by rcases ha with ha | ha; · omega
                                                          · exact ha
        subst ha'
        obtain ⟨ys, h1, h2, h3, h4⟩ := hR.loads P hι hl
        refine ⟨ys, fun m => ?_, h2, h3⟩
        simp only [Builtin.firstCells]
        exact h4 (w.drewN m) rfl
    · cases h
  all_goals cases h

theorem zeroCells_size (z : Array Value) (n : Nat) : (Builtin.zeroCells z n).size = n * z.size := by simp [Builtin.zeroCells]

/-- A slice of the heap's age: where it lies. -/
theorem VRel.slice_at {ι : Inj} {r g o len z : Nat} {v : Value} {win : Win} (h : VRel ι (.slice r g o len z) v) (hw : ι r = some (g, win)) :
    ∃ a cap, v = .slice (some a) len cap ∧ len ≤ cap ∧ win.len ≤ o + cap * z ∧ o + cap * z ≤ win.ext ∧ (cap = 0 ∨ a = ⟨win.blk, win.off + o, none⟩) := by
  simp only [VRel] at h
  obtain ⟨g', win', h1, _, _, h2⟩ := h
  rw [hw] at h1
  simp only [Option.some.injEq, Prod.mk.injEq] at h1
  obtain ⟨rfl, rfl⟩ := h1
  exact h2 rfl

theorem cut_appendCap_ge (need old : Nat) (e : TypeId) (t : Nat) : need ≤ (Question.appendCap need old e).cut t := by
  simp [Question.cut]

/-- The machine's append where a new array is made. -/
theorem run_append_moves (P : Program) {w : World} {sT xT ty e : Nat} {i : TypeInfo} {zv : Value}
    (hu : P.underlying sT = some (.slice e)) (hxs : (∃ e', P.underlying xT = some (.slice e')) ∨ P.underlying xT = some .string) (hi : P.info? e = some i) (hzero : i.zero = some zv) (hb : 0 < i.bytes)
    {base : Option Addr} {sLen sCap n : Nat} {xv : Value} {olds ys : List Value} (hlen : (Builtin.lenOf xv).run P w = .ok n w)
    (ho : (Builtin.firstCells i.size sLen (.slice base sLen sCap)).run P w.drew = .ok (List.toArray olds) w.drew) (hf : (Builtin.firstCells i.size n xv).run P w.drew = .ok (List.toArray ys) w.drew)
    (hg : sCap < sLen + n) (hbd : (sLen + n) * i.bytes ≤ roomLim) :
    ∃ ncap, sLen + n ≤ ncap ∧ (Builtin.append_ #[sT, xT] ty #[.slice base sLen sCap, xv]).run P w =
      .ok (.slice (some ⟨w.heap.size, 0, none⟩) (sLen + n) ncap) (w.drew.alloc (.cells ((olds ++ ys) ++ (Builtin.zeroCells zv.cells (ncap - (sLen + n))).toList).toArray e (0, 0))) := by
  have hge := cut_appendCap_ge (sLen + n) sCap e (w.tape w.drawn (.appendCap (sLen + n) sCap e))
  generalize hcap : (Question.appendCap (sLen + n) sCap e).cut (w.tape w.drawn (.appendCap (sLen + n) sCap e)) = ncap at hge
  have h63 : ¬ (9223372036854775807 < ((sLen : Int) + (n : Int))) := by
    have : sLen + n ≤ (sLen + n) * i.bytes := Nat.le_mul_of_pos_right _ hb
    unfold roomLim at hbd; omega
  have h48 : ¬ (281474976710656 < Builtin.nextslicecap (sLen + n) sCap * i.bytes) := by
    have := growslice_fits (need := sLen + n) (old := sCap) (by omega) hbd; omega
  have hroom : ¬ (sLen + n ≤ sCap) := by omega
  refine ⟨ncap, hge, ?_⟩
  rcases hxs with ⟨e', hx⟩ | hx <;> simp [Builtin.append_, run_underlying hu, run_underlying hx, hlen, sizeOf, typeInfo, zeroValue, hi, hzero, hroom, h63, h48, Question.forced, ho, hf, newRow, hcap]
  all_goals (congr 2; simp)

/-- The machine's append where there is room. -/
theorem run_append_fits (P : Program) {w w' : World} {sT xT ty e : Nat} {i : TypeInfo}
    (hu : P.underlying sT = some (.slice e)) (hxs : (∃ e', P.underlying xT = some (.slice e')) ∨ P.underlying xT = some .string) (hi : P.info? e = some i)
    {a : Addr} {sLen sCap n : Nat} {xv : Value} {ys : List Value} (hlen : (Builtin.lenOf xv).run P w = .ok n w)
    (hf : (Builtin.firstCells i.size n xv).run P w = .ok (List.toArray ys) w) (hg : sLen + n ≤ sCap) (hst : (Go.storeCells (a.add (sLen * i.size)) ys).run P w = .ok () w') :
    (Builtin.append_ #[sT, xT] ty #[.slice (some a) sLen sCap, xv]).run P w = .ok (.slice (some a) (sLen + n) sCap) w' := by
  rcases hxs with ⟨e', hx⟩ | hx <;> simp [Builtin.append_, run_underlying hu, run_underlying hx, hlen, sizeOf, typeInfo, hi, hf, hg, hst]

theorem run_append_none (P : Program) {w : World} {sT xT ty e : Nat} {i : TypeInfo}
    (hu : P.underlying sT = some (.slice e)) (hxs : (∃ e', P.underlying xT = some (.slice e')) ∨ P.underlying xT = some .string) (hi : P.info? e = some i)
    {xv : Value} {ys : List Value} (hlen : (Builtin.lenOf xv).run P w = .ok 0 w) (hf : (Builtin.firstCells i.size 0 xv).run P w = .ok (List.toArray ys) w) :
    (Builtin.append_ #[sT, xT] ty #[.slice none 0 0, xv]).run P w = .ok (.slice none 0 0) w := by
  rcases hxs with ⟨e', hx⟩ | hx <;> simp [Builtin.append_, run_underlying hu, run_underlying hx, hlen, sizeOf, typeInfo, hi, hf]

set_option maxHeartbeats 800000 in
theorem aappend_run (P : Program) {W0 : World} {ι : Inj} {H H' : AHeap} {w : World} (hR : Rel W0 ι H w) {sT xT ty e z bytes : Nat} {i : TypeInfo} {zv : Value}
    (hu : P.underlying sT = some (.slice e)) (hxs : (∃ e', P.underlying xT = some (.slice e')) ∨ P.underlying xT = some .string) (hi : P.info? e = some i) (hz : i.size = z) (hby : i.bytes = bytes)
    (hzero : i.zero = some zv) (hzc : zv.cells.size = z) (hbp : 0 < bytes) (pz : 0 < z) {s x v : AVal} {sv xv : Value} (hs : VRel ι s sv) (hxv : VRel ι x xv) (h : aappend z bytes e s x H = some (v, H')) :
    ∃ ι' y w', (Builtin.append_ #[sT, xT] ty #[sv, xv]).run P w = .ok y w' ∧ Step W0 (appTarget s) ι H w ι' H' w' ∧ Rel W0 ι' H' w' ∧ VRel ι' v y := by
  subst hz hby
  unfold aappend at h
  split at h
  · cases h
  rename_i new n hsrc
  obtain ⟨hlen, ys, hfirst, hys, hysl⟩ := asrc_run P hR hxv hsrc
  have hf0 : (Builtin.firstCells i.size n xv).run P w = .ok (List.toArray ys) w := hfirst 0
  have hf1 : (Builtin.firstCells i.size n xv).run P w.drew = .ok (List.toArray ys) w.drew := hfirst 1
  have hnewl := hys.length
  -- appending to a slice without room
  have fresh : ∀ (base : Option Addr), n ≠ 0 → n * i.bytes ≤ roomLim → (∃ ι' y w', (Builtin.append_ #[sT, xT] ty #[.slice base 0 0, xv]).run P w = .ok y w' ∧ (∀ fp, Step W0 fp ι H w ι' (H ++ [.cells 0 false e new]) w') ∧ Rel W0 ι' (H ++ [.cells 0 false e new]) w' ∧ VRel ι' (.slice H.length 0 0 n i.size) y) := by
    intro base hn hbd
    obtain ⟨ncap, hge, hrun⟩ := run_append_moves P (ty := ty) hu hxs hi hzero hbp (base := base) (sLen := 0) (sCap := 0) (olds := []) hlen
      (by cases base <;> simp [Builtin.firstCells, loadCells, loadCellsFrom]) hf1 (by omega) (by simpa using hbd)
    obtain ⟨hR', hle⟩ := hR.drew.alloc e (Builtin.zeroCells zv.cells (ncap - n)).toList (0, 0) (fun _ _ => by simp) hys
    refine ⟨_, .slice (some ⟨w.heap.size, 0, none⟩) n ncap, _, by simpa using hrun, fun fp => (Step.push hR (fun k hk => Below.heap_alloc w.drew _ k hk) (by simp) (Nat.le_refl _)).mono (fun _ h => h.elim) hR, hR', ?_⟩
    simp only [Nat.zero_add] at hge
    · simp only [VRel]
      refine ⟨0, _, Inj.put_same _ _ _ _, Nat.le_refl _, ⟨_, _, _, rfl⟩, fun _ => ⟨_, ncap, rfl, hge, ?_, ?_, .inr (by simp)⟩⟩
      · simp only [Nat.zero_add, ← hnewl, hysl]; exact Nat.mul_le_mul_right _ hge
      · simp only [List.length_append, Array.length_toList, zeroCells_size, hzc, hysl, Nat.zero_add]
        rw [← Nat.add_mul]; rw [show n + (ncap - n) = ncap by omega]; exact Nat.le_refl _
  cases s <;> simp only at h
  case nilslice =>
    simp only [VRel] at hs; subst hs
    split at h
    · rename_i hn; subst hn
      simp only [Option.some.injEq, Prod.mk.injEq] at h; obtain ⟨rfl, rfl⟩ := h
      exact ⟨ι, .slice none 0 0, w, run_append_none P hu hxs hi hlen hf0, Step.refl _ _ _ _ _, hR, by simp [VRel]⟩
    · rename_i hn
      split at h
      · rename_i hbd
        simp only [Option.some.injEq, Prod.mk.injEq] at h; obtain ⟨rfl, rfl⟩ := h
        obtain ⟨ι', y, w', q1, q2, q3⟩ := fresh none hn hbd
        exact ⟨ι', y, w', q1, q2 _, q3⟩
      · cases h
  case eslice =>
    simp only [VRel] at hs; obtain ⟨a, rfl⟩ := hs
    split at h
    · rename_i hn; subst hn
      simp only [Option.some.injEq, Prod.mk.injEq] at h; obtain ⟨rfl, rfl⟩ := h
      have : ys = [] := by simpa using hysl
      subst this
      exact ⟨ι, .slice (some a) 0 0, w, run_append_fits P hu hxs hi hlen hf0 (by omega) (by simp [Go.storeCells]), Step.refl _ _ _ _ _, hR, by simp [VRel]⟩
    · rename_i hn
      split at h
      · rename_i hbd
        simp only [Option.some.injEq, Prod.mk.injEq] at h; obtain ⟨rfl, rfl⟩ := h
        obtain ⟨ι', y, w', q1, q2, q3⟩ := fresh (some a) hn hbd
        exact ⟨ι', y, w', q1, q2 _, q3⟩
      · cases h
  case slice r g o len z' =>
    split at h
    · rename_i g' ro e' cs hb
      split at h
      · rename_i hc
        obtain ⟨rfl, rfl, hro⟩ := hc
        obtain ⟨g2, win, hι, hBR⟩ := hR.blk r _ hb
        have hBR' := hBR
        obtain ⟨rfl, hwl, hwe, _, hown, c, el, fr, hcc, hsz, hcs, hfr⟩ := hBR
        obtain ⟨a, cap, rfl, hlc, hw1, hw2, ha⟩ := hs.slice_at hι
        split at h
        · -- the room is surely there
          rename_i hfit
          simp only [Option.map_eq_some_iff, Prod.mk.injEq] at h
          obtain ⟨H1, hst, rfl, rfl⟩ := h
          · have hneed : len + n ≤ cap := by
              have : (len + n) * i.size ≤ cap * i.size := by omega
              exact Nat.le_of_mul_le_mul_right this pz
            rcases Nat.eq_zero_or_pos cap with ec | pc
            · have e1 : len = 0 := by omega
              have e2 : n = 0 := by omega
              subst ec e1 e2
              have : ys = [] := by simpa using hysl
              subst this
              have : new = [] := by simpa using hnewl.symm
              subst this
              simp only [astores, Option.some.injEq] at hst; subst hst
              exact ⟨ι, _, w, run_append_fits P hu hxs hi hlen hf0 (by omega) (by simp [Go.storeCells]), Step.refl _ _ _ _ _, hR, hs⟩
            · have ha' : a = ⟨win.blk, win.off + o, none⟩ := by rcases ha with ha | ha; · omega
                                                                · exact ha
              subst ha'
              obtain ⟨w', hw', hR', hfw, hsw⟩ := Rel.storeCells P hι new ys (o + len * i.size) 0 H H1 w hR hys (by simpa using hst)
              obtain ⟨fa1, fa2⟩ := astores_frame _ _ _ _ hst
              have hstep : Step W0 (appTarget (.slice r g o len i.size)) ι H w ι H1 w' := by
                rcases hro with hro | hn0
                · have hp : ι.put r g win = ι := by
                    funext k; simp only [Inj.put]; split
                    · rename_i e; rw [e, hι]
                    · rfl
                  have := Step.put (H' := H1) (w' := w') (g' := g) (win' := win) hι (.inr ⟨rfl, rfl⟩) (hown hro).1 (fun k _ hk => hfw k hk) (by omega) (.inl rfl) fa1 fa2
                  rwa [hp] at this
                · subst hn0
                  have e1 : ys = [] := by simpa using hysl
                  subst e1
                  have e2 : new = [] := by simpa using hnewl.symm
                  subst e2
                  simp only [astores, Option.some.injEq] at hst; subst hst
                  simp only [Go.storeCells, Sem.run_pure, Result.ok.injEq, true_and] at hw'
                  subst hw'
                  exact Step.refl _ _ _ _ _
              refine ⟨ι, .slice (some ⟨win.blk, win.off + o, none⟩) (len + n) cap, w', ?_, hstep, hR', ?_⟩
              · have e3 : win.off + o + len * i.size = win.off + (o + len * i.size) := by omega
                exact run_append_fits P hu hxs hi hlen hf0 hneed (by rw [addr_add, e3]; exact hw')
              · simp only [VRel]
                exact ⟨g, win, hι, Nat.le_refl _, ⟨_, _, _, rfl⟩, fun _ => ⟨_, cap, rfl, hneed, hw1, hw2, .inr rfl⟩⟩
        · rename_i hnofit
          split at h
          · rename_i hc2
            obtain ⟨rfl, rfl, hlz, hbd, hone, rfl⟩ := hc2
            simp only [Option.some.injEq, Prod.mk.injEq] at h
            obtain ⟨rfl, rfl⟩ := h
            obtain ⟨rfl, hfr2⟩ := hfr rfl
            obtain ⟨hown, hoff⟩ := hown rfl
            have hnl : new.length = n * i.size := by rw [← hnewl, hysl]
            by_cases hroom : len + n ≤ cap
            · -- in place
              have pc : 0 < cap := by
                rcases Nat.eq_zero_or_pos cap with ec | pc
                · have e1 : len = 0 := by omega
                  have e2 : n = 0 := by omega
                  subst e1 e2; simp at hnofit
                · exact pc
              have ha' : a = ⟨win.blk, win.off + 0, none⟩ := by rcases ha with ha | ha; · omega
                                                                · exact ha
              subst ha'
              have hsplit : (len + n) * i.size = len * i.size + n * i.size := Nat.add_mul _ _ _
              have hcapz : (len + n) * i.size ≤ cap * i.size := Nat.mul_le_mul_right _ hroom
              let win' : Win := { win with len := (len + n) * i.size }
              obtain ⟨hR1, hle1⟩ := hR.put (w' := w) (g' := g + 1) (win' := win') (b' := .cells (g + 1) false el (cs.take (len * i.size) ++ List.replicate (n * i.size) .undef)) hι (.inl (by omega)) (Below.refl _ _) (fun _ _ _ => rfl) hown (.inl rfl)
                ⟨rfl, by simp [win']; omega, by simp only [win']; omega, fun h => by simp at h, fun _ => ⟨hown, hoff⟩, c, el, fr, hcc, by simpa [win'] using hsz, (by
                  intro k x hk
                  rw [List.getElem?_append] at hk
                  split at hk
                  · rename_i hkl
                    rw [List.getElem?_take] at hk
                    split at hk
                    · obtain ⟨v, h1, h2⟩ := hcs k x hk
                      exact ⟨v, h1, h2.mono (Inj.le_put hι (.inl (by omega)))⟩
                    · cases hk
                  · rename_i hkl
                    have hk2 := (List.getElem?_eq_some_iff.1 hk)
                    obtain ⟨hk2, hk3⟩ := hk2
                    simp at hk2 hk3 hkl
                    subst hk3
                    have : win.off + k < c.size := by
                      rw [Nat.min_eq_left hlz] at hk2
                      omega
                    exact ⟨_, Array.getElem?_eq_getElem this, by simp [VRel]⟩), fun _ => ⟨rfl, hfr2⟩⟩
              have hr : r < H.length := hR.dom_lt hι
              have hfill := astores_fill new (cs.take (len * i.size)) (List.replicate (n * i.size) .undef) (H.set r (.cells (g + 1) false el (cs.take (len * i.size) ++ List.replicate (n * i.size) .undef)))
                (by rw [List.getElem?_set_self hr]) (by simp [hnl]) hone
              rw [List.set_set] at hfill
              have htl : (cs.take (len * i.size)).length = len * i.size := by simp; omega
              rw [htl] at hfill
              obtain ⟨w', hw', hR', hfw, hsw⟩ := Rel.storeCells P (Inj.put_same ι r (g + 1) win') new ys (len * i.size) 0 _ _ w hR1 (hys.mono hle1) (by simpa using hfill)
              refine ⟨_, .slice (some ⟨win.blk, win.off + 0, none⟩) (len + n) cap, w', ?_, Step.put (g' := g + 1) (win' := win') hι (.inl (by omega)) hown (fun k _ hk => hfw k hk) (by omega) (.inl rfl) (by simp) (fun k hk => List.getElem?_set_ne (Ne.symm hk)), hR', ?_⟩
              · exact run_append_fits P hu hxs hi hlen hf0 hroom (by rw [addr_add]; exact hw')
              · simp only [VRel]
                exact ⟨g + 1, win', Inj.put_same _ _ _ _, Nat.le_refl _, ⟨_, _, _, rfl⟩, fun _ => ⟨_, cap, rfl, hroom, by simpa [win'] using hcapz, by simpa [win'] using hw2, .inr rfl⟩⟩
            · -- it moves
              have hsplit : (len + n) * i.size = len * i.size + n * i.size := Nat.add_mul _ _ _
              obtain ⟨_, olds, hold, holds, holdl⟩ := asrc_run (z := i.size) P hR (x := .slice r g 0 len i.size) hs (cs := cs.take (len * i.size)) (n := len) (by
                simp [asrc, aloads, hb, hlz])
              have hold1 : (Builtin.firstCells i.size len (.slice (some a) len cap)).run P w.drew = .ok (List.toArray olds) w.drew := hold 1
              obtain ⟨ncap, hge, hrun⟩ := run_append_moves P (ty := ty) hu hxs hi hzero hbp hlen hold1 hf1 (by omega) hbd
              have hle1 : ι.le (ι.put r (g + 1) ⟨w.heap.size, 0, (cs.take (len * i.size) ++ new).length, ((olds ++ ys) ++ (Builtin.zeroCells zv.cells (ncap - (len + n))).toList).length⟩) := Inj.le_put hι (.inl (by omega))
              obtain ⟨hR1, _⟩ := hR.drew.put (w' := w.drew.alloc (.cells ((olds ++ ys) ++ (Builtin.zeroCells zv.cells (ncap - (len + n))).toList).toArray el (0, 0))) (g' := g + 1)
                (win' := ⟨w.heap.size, 0, (cs.take (len * i.size) ++ new).length, ((olds ++ ys) ++ (Builtin.zeroCells zv.cells (ncap - (len + n))).toList).length⟩)
                (b' := .cells (g + 1) false el (cs.take (len * i.size) ++ new)) hι (.inl (by omega)) ((Below.refl _ w.drew).alloc hR.drew.size _) (fun k hk _ => Below.heap_alloc w.drew _ k hk) hR.size (.inr (Nat.le_refl _))
                (BRel.new (w := w.drew) hR.size (g + 1) el _ (0, 0) (fun _ _ => by simp) ((holds.append hys).mono hle1))
              refine ⟨_, .slice (some ⟨w.heap.size, 0, none⟩) (len + n) ncap, _, hrun, Step.put (g' := g + 1) hι (.inl (by omega)) hown (fun k hk _ => Below.heap_alloc w.drew _ k hk) (by simp) (.inr (Nat.le_refl _)) (by simp) (fun k hk => List.getElem?_set_ne (Ne.symm hk)), hR1, ?_⟩
              · simp only [VRel]
                refine ⟨g + 1, _, Inj.put_same _ _ _ _, Nat.le_refl _, ⟨_, _, _, rfl⟩, fun _ => ⟨_, ncap, rfl, hge, ?_, ?_, .inr (by simp)⟩⟩
                · have := Nat.mul_le_mul_right i.size hge
                  simp only [List.length_append, List.length_take, hnl, Nat.min_eq_left hlz]; omega
                · have h5 : (len + n + (ncap - (len + n))) * i.size = ncap * i.size := by rw [show len + n + (ncap - (len + n)) = ncap by omega]
                  rw [Nat.add_mul] at h5
                  simp only [List.length_append, Array.length_toList, zeroCells_size, hzc, hysl, holdl]; omega
          · cases h
      · cases h
    · cases h
  all_goals cases h
end Go.Proofs.YtalbjkemcckokaaGreat.Ab

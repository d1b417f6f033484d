/- The abstract layer, twelfth part: what is shown over abstract states holds of the machine. Conditions: none; a library for the texts behind it. -/
import Derived.Test.YtalbjkemcckokaaGreatAn
namespace Go.Proofs.YtalbjkemcckokaaGreat.Ab
open Go.RowKit (Below)
set_option linter.unusedVariables false
set_option linter.unusedSimpArgs false

section
variable {P : Program} {W0 : World}

theorem getD_put {a : Act} {n : Nat} (hn : a.tmps.size = n) {d : Option Nat} (hd : d.all (fun d => decide (d < n)) = true) (y : Value) (t : Nat) :
    (a.put d y).tmps.getD t undef = if d = some t then y else a.tmps.getD t undef := by
  cases d with
  | none => simp [Act.put]
  | some d =>
    simp at hd
    simp only [Act.put, Array.getD_eq_getD_getElem?, Array.getElem?_setIfInBounds]
    by_cases e : d = t
    · subst e
      have : d < a.tmps.size := by omega
      simp [this]
    · simp [e]

theorem ERel.put {ι : Inj} {env : Env} {a : Act} (hE : ERel ι env a) {n : Nat} (hn : a.tmps.size = n) {d : Option Nat} (hd : d.all (fun d => decide (d < n)) = true) {v : AVal} {y : Value} (hv : VRel ι v y) :
    ERel ι (env.put d v) (a.put d y) := by
  intro t
  rw [getD_put hn hd]
  cases d with
  | none => simpa [Env.put] using hE t
  | some d =>
    simp only [Env.put, Option.some.injEq]
    by_cases e : d = t
    · subst e; simpa using hv
    · rw [if_neg (fun h => e h.symm), if_neg e]; exact hE t

theorem size_put (a : Act) (d : Option Nat) (y : Value) : (a.put d y).tmps.size = a.tmps.size := by cases d <;> simp [Act.put]
theorem defers_put (a : Act) (d : Option Nat) (y : Value) : (a.put d y).defers = a.defers := by cases d <;> simp [Act.put]

/-- A call, run. -/
theorem exec_call {ι : Inj} {env : Env} {a : Act} {w : World} (hE : ERel ι env a) {o : Oper} {f : FuncId} {args : Array Operand} {ats : Array TypeId} (ho : o.op = .call { callee := .value (.func f), args := args, argTypes := ats }) :
    (execOp a.eval o).run P w = (callFunc f (args.toList.map a.eval).toArray).run P w := by
  have e : (args.toList.map a.eval).toArray = args.map a.eval := by simp only [← List.map_toArray, Array.toArray_toList]
  simp [execOp, ho, resolve, Deferred.ofValue, invoke, Act.eval, e]

theorem exec_callv {a : Act} {w : World} {o : Oper} {t : Nat} {args : Array Operand} {ats : Array TypeId} (ho : o.op = .call { callee := .value (.tmp t), args := args, argTypes := ats }) {f : FuncId} {l : List Value}
    (hf : a.tmps.getD t undef = .func (.func f) #[] l.toArray) :
    (execOp a.eval o).run P w = (callFunc f (args.toList.map a.eval ++ l).toArray).run P w := by
  have e : (args.toList.map a.eval ++ l).toArray = args.map a.eval ++ l.toArray := by
    rw [← List.append_toArray]; simp only [← List.map_toArray, Array.toArray_toList]
  simp only [execOp, ho, resolve, Act.eval, hf, Deferred.ofValue, Sem.run_bind, Sem.run_pure, Result.andThen_ok, invoke]
  rw [e]; simp

/-- One operation. -/
theorem xop_sound {Wr : Nat → Prop} {ι : Inj} {env : Env} {H : AHeap} {a : Act} {w : World} (hR : Rel W0 ι H w) (hE : ERel ι env a) {o : Oper} {x : XOp} (hx : xop P o = some x) {K : AVal → AHeap → Prop} (h : x.vc (ACall P) Wr env H K)
    {next : Act → World → Prop} {Q : Exit → Act → World → Prop} (hn : ∀ v y ι' H' w', K v H' → Step W0 Wr ι H w ι' H' w' → Rel W0 ι' H' w' → VRel ι' v y → next (a.put o.dst y) w') : o.wp P a w next Q := by
  unfold xop at hx
  unfold Oper.wp
  split at hx
  · rename_i s hs
    cases hx
    simp only [XOp.vc] at h
    obtain ⟨v, hv, hK⟩ := h
    obtain ⟨y, hy, hr⟩ := sop_ok (w := w) hR hE hs hv
    rw [hy w (fun _ _ _ _ _ => rfl)]
    exact hn v y ι H w hK (Step.refl _ _ _ _ _) hR hr
  · split at hx
    · rename_i e he
      cases hx
      simp only [XOp.vc] at h
      obtain ⟨v, H', hv, htg, hK⟩ := h
      obtain ⟨ι', n, y, w', hrun, hny, hst, hR', hr⟩ := eop_ok hR hE he hv
      rw [hrun]
      have hst' := hst.mono (fun r hr => .inl (htg r hr)) hR
      rcases hny with rfl | ⟨rfl, rfl⟩
      · exact hn v y ι' H' w' hK hst' hR' hr
      · exact hn v undef ι' H' w' hK hst' hR' hr
    · split at hx
      · rename_i f args ats ho
        simp only [Option.map_eq_some_iff] at hx
        obtain ⟨xs, hxs, rfl⟩ := hx
        simp only [XOp.vc] at h
        rw [exec_call hE ho]
        exact h W0 ι w _ hR (opts_rel hE hxs) o a next Q hn
      · rename_i t args ats ho
        simp only [Option.map_eq_some_iff] at hx
        obtain ⟨xs, hxs, rfl⟩ := hx
        simp only [XOp.vc] at h
        split at h
        · rename_i g caps hg
          have ht := hE t
          simp only [XOpd.ev] at hg
          rw [hg] at ht
          simp only [VRel] at ht
          obtain ⟨l, hl, hlr⟩ := ht
          rw [exec_callv ho hl]
          exact h W0 ι w _ hR ((opts_rel hE hxs).append hlr) o a next Q hn
        · exact h.elim
      · cases hx

theorem yielded_bool {ops : Array Oper} {a : Act} {j t : Nat} {b : Bool} (ht : (ops[j]?).bind (·.dst) = some t) (h : a.tmps.getD t undef = .bool b) : yielded ops a.tmps j = some b := by
  unfold yielded
  rw [ht]
  simp only [Option.bind_some]
  rw [Array.getD_eq_getD_getElem?] at h
  cases hq : a.tmps[t]? with
  | none => rw [hq] at h; simp [undef] at h
  | some q => rw [hq] at h; simp at h; rw [h]
theorem yielded_none {ops : Array Oper} {a : Act} {j t : Nat} (ht : (ops[j]?).bind (·.dst) = some t) (h : a.tmps.getD t undef = .tuple #[]) : yielded ops a.tmps j = none := by
  unfold yielded
  rw [ht]
  simp only [Option.bind_some]
  rw [Array.getD_eq_getD_getElem?] at h
  cases hq : a.tmps[t]? with
  | none => rfl
  | some q => rw [hq] at h; simp at h; rw [h]

theorem xins_inv {n : Nat} {ops : Array Oper} {o : Oper} {i : XIns} (h : xins P n ops o = some i) :
    o.dst.all (fun d => decide (d < n)) = true ∧ xop P o = some i.op ∧ i.dst = o.dst ∧ ((o.guard = none ∧ i.guard = none) ∨ ∃ j want t, o.guard = some (j, want) ∧ (ops[j]?).bind (·.dst) = some t ∧ i.guard = some (t, want)) := by
  unfold xins at h
  split at h
  · rename_i hd
    split at h
    · rename_i x hx hg
      cases h
      exact ⟨hd, hx, rfl, .inl ⟨hg, rfl⟩⟩
    · rename_i x j want hx hg
      split at h
      · rename_i t ht
        cases h
        exact ⟨hd, hx, rfl, .inr ⟨j, want, t, hg, ht, rfl⟩⟩
      · cases h
    · cases h
  · cases h

theorem undef_rel (ι : Inj) : VRel ι (.tuple []) undef := by simp only [VRel]; exact ⟨[], rfl, by simp [VRels]⟩

theorem xinss_get {n : Nat} {ops : Array Oper} : ∀ (l : List Oper) (xs : List XIns), xinss P n ops l = some xs → ∀ (i : Nat) (x : XIns), xs[i]? = some x → ∃ o, l[i]? = some o ∧ xins P n ops o = some x
  | [], xs, h, i, x, hx => by simp only [xinss, Option.some.injEq] at h; subst h; simp at hx
  | o :: l, xs, h, i, x, hx => by
    simp only [xinss] at h
    split at h
    · rename_i y ys hy hys
      cases h
      cases i with
      | zero => simp at hx; subst hx; exact ⟨o, by simp, hy⟩
      | succ i => simpa using xinss_get l ys hys i x (by simpa using hx)
    · cases h

/-- What a guard says, over abstract states and in the machine. -/
theorem guarded_cases {ι : Inj} {env : Env} {a : Act} (hE : ERel ι env a) {ops : Array Oper} {o : Oper} {g : Option (Nat × Bool)}
    (hg : (o.guard = none ∧ g = none) ∨ ∃ j want t, o.guard = some (j, want) ∧ (ops[j]?).bind (·.dst) = some t ∧ g = some (t, want)) {run skip : Prop} (h : guarded env g run skip) :
    (Region.wanted o (yielded ops a.tmps) = true ∧ run) ∨ (Region.wanted o (yielded ops a.tmps) = false ∧ skip) := by
  rcases hg with ⟨g1, g2⟩ | ⟨j, want, t, g1, g2, g3⟩
  · simp only [guarded, g2] at h
    exact .inl ⟨by simp [Region.wanted, g1], h⟩
  · simp only [guarded, g3] at h
    split at h
    · rename_i b hb
      have hy := yielded_bool g2 (by have := hE t; rw [hb] at this; exact this.bool_inv)
      by_cases e : b = want
      · exact .inl ⟨by simp [Region.wanted, g1, hy, e], h.1 e⟩
      · exact .inr ⟨by simp [Region.wanted, g1, hy, e], h.2 e⟩
    · rename_i hb
      have hy := yielded_none g2 (by have := hE t; rw [hb] at this; simp only [VRel, VRels] at this; obtain ⟨l, h1, h2⟩ := this; subst h2; exact h1)
      exact .inr ⟨by simp [Region.wanted, g1, hy], h⟩
    · exact h.elim

/-- Operations one after the other. -/
theorem vcOps_sound {Wr : Nat → Prop} {n : Nat} {ops : Array Oper} {Q : Exit → Act → World → Prop} : ∀ (l : List Oper) (xs : List XIns), xinss P n ops l = some xs → ∀ (K : Env → AHeap → Prop) (env : Env) (H : AHeap) (ι : Inj) (a : Act) (w : World),
    vcOps (ACall P) Wr xs K env H → Rel W0 ι H w → ERel ι env a → a.tmps.size = n →
    (∀ env' H' ι' a' w', K env' H' → Step W0 Wr ι H w ι' H' w' → Rel W0 ι' H' w' → ERel ι' env' a' → a'.tmps.size = n → a'.defers = a.defers → Q .normal a' w') → wpList P ops Q l a w
  | [], xs, hx, K, env, H, ι, a, w, h, hR, hE, hsz, hQ => by
    simp only [xinss, Option.some.injEq] at hx; subst hx
    exact hQ env H ι a w h (Step.refl _ _ _ _ _) hR hE hsz rfl
  | o :: l, xs, hx, K, env, H, ι, a, w, h, hR, hE, hsz, hQ => by
    simp only [xinss] at hx
    split at hx
    · rename_i i xs' hi hxs
      cases hx
      obtain ⟨hd, hop, hdst, hg⟩ := xins_inv hi
      simp only [vcOps] at h
      unfold wpList
      rcases guarded_cases hE hg h with ⟨hw, hv⟩ | ⟨hw, hv⟩
      · rw [if_pos hw]
        refine .inl (xop_sound hR hE hop hv fun v y ι' H' w' hK hle hR' hr => ?_)
        rw [hdst] at hK
        exact vcOps_sound l xs' hxs K _ H' ι' _ w' hK hR' ((hE.mono hle.le).put hsz hd hr) (by rw [size_put]; exact hsz)
          fun env2 H2 ι2 a2 w2 k1 k2 k3 k4 k5 k6 => hQ env2 H2 ι2 a2 w2 k1 (Step.trans hR hle k2 fun _ h => .inl h) k3 k4 k5 (by rw [k6, defers_put])
      · rw [hw]
        simp only [Bool.false_eq_true, if_false]
        rw [hdst] at hv
        exact vcOps_sound l xs' hxs K _ H ι _ w hv hR (hE.put hsz hd (undef_rel ι)) (by rw [size_put]; exact hsz)
          fun env2 H2 ι2 a2 w2 k1 k2 k3 k4 k5 k6 => hQ env2 H2 ι2 a2 w2 k1 k2 k3 k4 k5 (by rw [k6, defers_put])
    · cases hx

/-- A block that was not written lies where it lay. -/
theorem Step.same_win {fp : Nat → Prop} {ι ι' : Inj} {H H' : AHeap} {w w' : World} (hR : Rel W0 ι H w) (hs : Step W0 fp ι H w ι' H' w') (hR' : Rel W0 ι' H' w') {r g : Nat} {win : Win} (h : ι r = some (g, win)) (hn : ¬ fp r) : ι' r = some (g, win) := by
  have hr := hR.dom_lt h
  have hb : H[r]? = some H[r] := by simp [hr]
  have hb' := hs.abs r hr hn
  rw [hb] at hb'
  obtain ⟨g1, win1, h1, b1⟩ := hR.blk r _ hb
  obtain ⟨g2, win2, h2, b2⟩ := hR'.blk r _ hb'
  rw [h] at h1; cases h1
  obtain ⟨g3, win3, h3, hle, he⟩ := hs.le r g win h
  rw [h2] at h3; cases h3
  have hg : g = g2 := by
    cases hq : H[r] with
    | cells g' ro ety cs => rw [hq] at b1 b2; rw [← b1.1, ← b2.1]
    | map es => rw [hq] at b1 b2; rw [b1.1, b2.1]
  subst hg
  rw [h2, he rfl]

/-- The machine's blocks where abstract ones lie. -/
def blks (ι : Inj) (rs : List Nat) : List Nat := rs.flatMap fun r => match ι r with
  | some (_, win) => [win.blk]
  | none => []

theorem mem_blks {ι : Inj} {rs : List Nat} {k : Nat} (h : k ∈ blks ι rs) : ∃ r ∈ rs, ∃ g win, ι r = some (g, win) ∧ win.blk = k := by
  unfold blks at h
  rw [List.mem_flatMap] at h
  obtain ⟨r, hr, hk⟩ := h
  split at hk
  · rename_i g win hι
    simp at hk
    exact ⟨r, hr, g, win, hι, hk.symm⟩
  · simp at hk
theorem blks_mem {ι : Inj} {rs : List Nat} {r g : Nat} {win : Win} (hr : r ∈ rs) (h : ι r = some (g, win)) : win.blk ∈ blks ι rs := by
  unfold blks
  rw [List.mem_flatMap]
  exact ⟨r, hr, by rw [h]; simp⟩

/-- One order for all. -/
theorem canon_sound {Wr : Nat → Prop} {n : Nat} {ops : Array Oper} {xs : List XIns} (hxs : xinss P n ops ops.toList = some xs) (hsel : Region.noSelect ops = true) {Q : Exit → Act → World → Prop} (hQn : ∀ c a w, ¬ Q (.panic c) a w) :
    ∀ (f : Nat) (listed : Array Bool) (prev : List Nat) (ds : List DIns), canon ops xs f listed prev = some ds →
      ∀ (K : Env → AHeap → Prop) (env : Env) (H : AHeap) (ι : Inj) (a : Act) (w : World) (B : List (Nat × List Nat)) (Bk : List (Nat × Nat)), vcD (ACall P) Wr ds B K env H → Rel W0 ι H w → ERel ι env a → a.tmps.size = n →
      (∀ p ∈ Bk, p.1 ∈ prev ∧ ∃ rs, (p.1, rs) ∈ B ∧ ∃ r ∈ rs, ∃ g win, ι r = some (g, win) ∧ win.blk = p.2) →
      (∀ env' H' ι' a' w', K env' H' → Step W0 Wr ι H w ι' H' w' → Rel W0 ι' H' w' → ERel ι' env' a' → a'.tmps.size = n → a'.defers = a.defers → Q .normal a' w') → wpAnyF P ops Q Bk f listed a w := by
  intro f
  induction f with
  | zero =>
    intro listed prev ds hc K env H ι a w B Bk h hR hE hsz hB hQ
    simp only [canon] at hc
    split at hc
    · rename_i hr
      cases hc
      exact ⟨hr, hQ env H ι a w h (Step.refl _ _ _ _ _) hR hE hsz rfl⟩
    · cases hc
  | succ f ih =>
    intro listed prev ds hc K env H ι a w B Bk h hR hE hsz hB hQ
    simp only [canon] at hc
    split at hc
    · rename_i i hfind
      split at hc
      · rename_i x ds' hx hds
        cases hc
        have hmem := List.mem_of_find?_eq_some hfind
        have hp := List.find?_some hfind
        simp only [hx, Option.any_some, Bool.and_eq_true] at hp
        obtain ⟨hq, hok⟩ := hp
        simp only [okStill, Bool.and_eq_true] at hok
        obtain ⟨hfr, hinv⟩ := hok
        obtain ⟨oi, hoi', hins⟩ := xinss_get ops.toList xs hxs i x hx
        have hoi : ops[i]? = some oi := by simpa using hoi'
        obtain ⟨hd, hop, hdst, hg⟩ := xins_inv hins
        have hinv' : ∀ m, listed.getD m false = true → m ∉ aft ops i := by
          intro m hm
          have hms : m < listed.size := by
            rcases Nat.lt_or_ge m listed.size with h' | h'
            · exact h'
            · simp [Array.getElem?_eq_none h'] at hm
          have := List.all_eq_true.1 hinv m (List.mem_range.2 hms)
          rw [hm] at this
          simpa using this
        obtain ⟨o, ho⟩ : ∃ o, x.op = .s o := by
          unfold XIns.quiet at hq
          split at hq
          · rename_i s hs; exact ⟨s, hs⟩
          · cases hq
        have hs' : sop P oi.op = some o := by
          rw [ho] at hop
          unfold xop at hop
          split at hop
          · rename_i s' hs'; cases hop; exact hs'
          · split at hop
            · cases hop
            · split at hop
              · simp at hop
              · simp at hop
              · cases hop
        simp only [vcD, ho] at h
        rcases guarded_cases hE hg h with ⟨hw, v, hv, hK⟩ | ⟨hw, hK⟩
        · obtain ⟨y, hy, hr⟩ := sop_ok (w := w) hR hE hs' hv
          have hyi : YieldsIf P ops (fun w' => ∀ k ∈ blks ι (o.reads env), w'.heap[k]? = w.heap[k]?) oi y a :=
            .inl ⟨hw, fun w' hw' => hy w' fun r hr g win hι => hw' _ (blks_mem hr hι)⟩
          refine wpAnyF_first hoi (Region.noSelect_spec hsel) hQn f Bk listed a w (Region.free_spec hoi hfr) hinv' hmem (fun _ _ => rfl) hyi ?_
          rw [hdst] at hK
          refine ih _ (i :: prev) ds' hds K _ H ι _ w ((i, o.reads env) :: B) _ hK hR (hE.put hsz hd hr) (by rw [size_put]; exact hsz) ?_
            fun env2 H2 ι2 a2 w2 k1 k2 k3 k4 k5 k6 => hQ env2 H2 ι2 a2 w2 k1 k2 k3 k4 k5 (by rw [k6, defers_put])
          intro p hp
          rcases List.mem_append.1 hp with hp | hp
          · obtain ⟨k, hk, rfl⟩ := List.mem_map.1 hp
            obtain ⟨r, hr, g, win, h1, h2⟩ := mem_blks hk
            exact ⟨by simp, o.reads env, by simp, r, hr, g, win, h1, h2⟩
          · obtain ⟨h1, rs, h2, h3⟩ := hB p hp
            exact ⟨List.mem_cons_of_mem _ h1, rs, List.mem_cons_of_mem _ h2, h3⟩
        · refine wpAnyF_first (ks := []) (W := w) hoi (Region.noSelect_spec hsel) hQn f Bk listed a w (Region.free_spec hoi hfr) hinv' hmem (fun _ _ => rfl) (.inr ⟨hw, rfl⟩) ?_
          rw [hdst] at hK
          simp only [List.map_nil, List.nil_append]
          refine ih _ (i :: prev) ds' hds K _ H ι _ w B _ hK hR (hE.put hsz hd (undef_rel ι)) (by rw [size_put]; exact hsz) (fun p hp => ?_)
            fun env2 H2 ι2 a2 w2 k1 k2 k3 k4 k5 k6 => hQ env2 H2 ι2 a2 w2 k1 k2 k3 k4 k5 (by rw [k6, defers_put])
          obtain ⟨h1, h2⟩ := hB p hp
          exact ⟨List.mem_cons_of_mem _ h1, h2⟩
      · cases hc
    · split at hc
      · rename_i hr
        cases hc
        refine ⟨fun _ => hQ env H ι a w h (Step.refl _ _ _ _ _) hR hE hsz rfl, fun j hj => ?_⟩
        rw [hr] at hj; cases hj
      · rename_i j hr
        split at hc
        · rename_i x ds' hx hds
          split at hc
          · rename_i hnq
            cases hc
            obtain ⟨oj, hoj', hins⟩ := xinss_get ops.toList xs hxs j x hx
            have hoj : ops[j]? = some oj := by simpa using hoj'
            obtain ⟨hd, hop, hdst, hg⟩ := xins_inv hins
            refine ⟨fun h0 => (by rw [hr] at h0; cases h0), fun j' hj' => ?_⟩
            have : j' = j := by rw [hr] at hj'; simpa using hj'
            subst this
            let uno := prev.filter fun i => !(aft ops i).contains j'
            have hv' : guarded env x.guard (x.op.vc (ACall P) (fun r => Wr r ∧ ∀ p ∈ B, uno.contains p.1 = true → r ∉ p.2) env H fun v H' => vcD (ACall P) Wr ds' (B.filter fun p => uno.contains p.1) K (env.put x.dst v) H')
                (vcD (ACall P) Wr ds' (B.filter fun p => uno.contains p.1) K (env.put x.dst (.tuple [])) H) := by
              unfold XIns.quiet at hnq
              cases hxo : x.op with
              | s o => rw [hxo] at hnq; cases hnq
              | e o => simp only [vcD, hxo] at h; exact h
              | call f args => simp only [vcD, hxo] at h; exact h
              | callv f args => simp only [vcD, hxo] at h; exact h
            unfold wpOp
            simp only [hoj]
            have huno : ∀ p ∈ Bk, j' ∉ aft ops p.1 → uno.contains p.1 = true := by
              intro p hp hn
              simp only [uno, List.contains_iff_mem, List.mem_filter]
              exact ⟨(hB p hp).1, by simpa using hn⟩
            rcases guarded_cases hE hg hv' with ⟨hw, hv⟩ | ⟨hw, hv⟩
            · rw [if_pos hw]
              refine .inl (xop_sound hR hE hop hv fun v y ι' H' w' hK hst hR' hrv => ?_)
              rw [hdst] at hK
              have hkeep : ∀ p ∈ Bk, j' ∉ aft ops p.1 → ∃ rs, (p.1, rs) ∈ B ∧ ∃ r ∈ rs, ∃ g win, ι r = some (g, win) ∧ win.blk = p.2 ∧ ¬ (Wr r ∧ ∀ p ∈ B, uno.contains p.1 = true → r ∉ p.2) := by
                intro p hp hn
                obtain ⟨_, rs, h1, r, h2, g, win, h3, h4⟩ := hB p hp
                exact ⟨rs, h1, r, h2, g, win, h3, h4, fun hh => hh.2 _ h1 (huno p hp hn) h2⟩
              refine ⟨fun p hp hn => ?_, ?_⟩
              · obtain ⟨rs, h1, r, h2, g, win, h3, h4, h5⟩ := hkeep p hp hn
                rw [← h4]
                refine hst.real _ (hR.lt h3) fun r' g' win' hf h3' hown he => ?_
                have : r' = r := hR.inj r' r g' g win' win h3' h3 he hown
                subst this
                exact h5 hf
              · refine ih _ prev ds' hds K _ H' ι' _ w' _ _ hK hR' ((hE.mono hst.le).put hsz hd hrv) (by rw [size_put]; exact hsz) (fun p hp => ?_)
                  fun env2 H2 ι2 a2 w2 k1 k2 k3 k4 k5 k6 => hQ env2 H2 ι2 a2 w2 k1 (Step.trans hR (hst.mono (fun r h => .inl h.1) hR) k2 fun _ h => .inl h) k3 k4 k5 (by rw [k6, defers_put])
                rw [List.mem_filter] at hp
                have hn : j' ∉ aft ops p.1 := by simpa using hp.2
                obtain ⟨rs, h1, r, h2, g, win, h3, h4, h5⟩ := hkeep p hp.1 hn
                exact ⟨(hB p hp.1).1, rs, List.mem_filter.2 ⟨h1, huno p hp.1 hn⟩, r, h2, g, win, hst.same_win hR hR' h3 h5, h4⟩
            · rw [hw]
              simp only [Bool.false_eq_true, if_false]
              rw [hdst] at hv
              refine ⟨by simp, ih _ prev ds' hds K _ H ι _ w _ _ hv hR (hE.put hsz hd (undef_rel ι)) (by rw [size_put]; exact hsz) (fun p hp => ?_)
                fun env2 H2 ι2 a2 w2 k1 k2 k3 k4 k5 k6 => hQ env2 H2 ι2 a2 w2 k1 k2 k3 k4 k5 (by rw [k6, defers_put])⟩
              rw [List.mem_filter] at hp
              have hn : j' ∉ aft ops p.1 := by simpa using hp.2
              obtain ⟨h0, rs, h1, h2⟩ := hB p hp.1
              exact ⟨h0, rs, List.mem_filter.2 ⟨h1, huno p hp.1 hn⟩, h2⟩
          · cases hc
        · cases hc
      · cases hc

theorem altOf_all {Φ : Trans} {Wr : Nat → Prop} {B : List (Nat × List Nat)} {K : Env → AHeap → Prop} {env : Env} {H : AHeap} : ∀ {l : List (Option DT)} {t : DT}, altOf l = some t → vcT Φ Wr t B K env H → ∀ o ∈ l, ∃ t', o = some t' ∧ vcT Φ Wr t' B K env H
  | [], _, _, _, o, ho => by cases ho
  | [a], t, h, hv, o, ho => by
    simp only [altOf] at h
    simp only [List.mem_singleton] at ho
    subst ho
    exact ⟨t, h, hv⟩
  | a :: b :: l, t, h, hv, o, ho => by
    simp only [altOf] at h
    split at h
    · rename_i x y hy
      cases h
      simp only [vcT] at hv
      rcases List.mem_cons.1 ho with e | ho
      · subst e; exact ⟨x, rfl, hv.1⟩
      · exact altOf_all hy hv.2 o ho
    · cases h

theorem canonT_sound {Wr : Nat → Prop} {n : Nat} {ops : Array Oper} {xs : List XIns} (hxs : xinss P n ops ops.toList = some xs) (hsel : Region.noSelect ops = true) {Q : Exit → Act → World → Prop} (hQn : ∀ c a w, ¬ Q (.panic c) a w) :
    ∀ (f : Nat) (listed : Array Bool) (prev : List Nat) (ds : DT), canonT ops xs f listed prev = some ds →
      ∀ (K : Env → AHeap → Prop) (env : Env) (H : AHeap) (ι : Inj) (a : Act) (w : World) (B : List (Nat × List Nat)) (Bk : List (Nat × Nat)), vcT (ACall P) Wr ds B K env H → Rel W0 ι H w → ERel ι env a → a.tmps.size = n →
      (∀ p ∈ Bk, p.1 ∈ prev ∧ ∃ rs, (p.1, rs) ∈ B ∧ ∃ r ∈ rs, ∃ g win, ι r = some (g, win) ∧ win.blk = p.2) →
      (∀ env' H' ι' a' w', K env' H' → Step W0 Wr ι H w ι' H' w' → Rel W0 ι' H' w' → ERel ι' env' a' → a'.tmps.size = n → a'.defers = a.defers → Q .normal a' w') → wpAnyF P ops Q Bk f listed a w := by
  intro f
  induction f with
  | zero =>
    intro listed prev ds hc K env H ι a w B Bk h hR hE hsz hB hQ
    simp only [canonT] at hc
    split at hc
    · rename_i hr
      cases hc
      exact ⟨hr, hQ env H ι a w h (Step.refl _ _ _ _ _) hR hE hsz rfl⟩
    · cases hc
  | succ f ih =>
    intro listed prev ds hc K env H ι a w B Bk h hR hE hsz hB hQ
    simp only [canonT] at hc
    split at hc
    · rename_i i hfind
      split at hc
      · rename_i x ds' hx hds
        cases hc
        have hmem := List.mem_of_find?_eq_some hfind
        have hp := List.find?_some hfind
        simp only [hx, Option.any_some, Bool.and_eq_true] at hp
        obtain ⟨hq, hok⟩ := hp
        simp only [okStill, Bool.and_eq_true] at hok
        obtain ⟨hfr, hinv⟩ := hok
        obtain ⟨oi, hoi', hins⟩ := xinss_get ops.toList xs hxs i x hx
        have hoi : ops[i]? = some oi := by simpa using hoi'
        obtain ⟨hd, hop, hdst, hg⟩ := xins_inv hins
        have hinv' : ∀ m, listed.getD m false = true → m ∉ aft ops i := by
          intro m hm
          have hms : m < listed.size := by
            rcases Nat.lt_or_ge m listed.size with h' | h'
            · exact h'
            · simp [Array.getElem?_eq_none h'] at hm
          have := List.all_eq_true.1 hinv m (List.mem_range.2 hms)
          rw [hm] at this
          simpa using this
        obtain ⟨o, ho⟩ : ∃ o, x.op = .s o := by
          unfold XIns.quiet at hq
          split at hq
          · rename_i s hs; exact ⟨s, hs⟩
          · cases hq
        have hs' : sop P oi.op = some o := by
          rw [ho] at hop
          unfold xop at hop
          split at hop
          · rename_i s' hs'; cases hop; exact hs'
          · split at hop
            · cases hop
            · split at hop
              · simp at hop
              · simp at hop
              · cases hop
        simp only [vcT, ho] at h
        rcases guarded_cases hE hg h with ⟨hw, v, hv, hK⟩ | ⟨hw, hK⟩
        · obtain ⟨y, hy, hr⟩ := sop_ok (w := w) hR hE hs' hv
          have hyi : YieldsIf P ops (fun w' => ∀ k ∈ blks ι (o.reads env), w'.heap[k]? = w.heap[k]?) oi y a :=
            .inl ⟨hw, fun w' hw' => hy w' fun r hr g win hι => hw' _ (blks_mem hr hι)⟩
          refine wpAnyF_first hoi (Region.noSelect_spec hsel) hQn f Bk listed a w (Region.free_spec hoi hfr) hinv' hmem (fun _ _ => rfl) hyi ?_
          rw [hdst] at hK
          refine ih _ (i :: prev) ds' hds K _ H ι _ w ((i, o.reads env) :: B) _ hK hR (hE.put hsz hd hr) (by rw [size_put]; exact hsz) ?_
            fun env2 H2 ι2 a2 w2 k1 k2 k3 k4 k5 k6 => hQ env2 H2 ι2 a2 w2 k1 k2 k3 k4 k5 (by rw [k6, defers_put])
          intro p hp
          rcases List.mem_append.1 hp with hp | hp
          · obtain ⟨k, hk, rfl⟩ := List.mem_map.1 hp
            obtain ⟨r, hr, g, win, h1, h2⟩ := mem_blks hk
            exact ⟨by simp, o.reads env, by simp, r, hr, g, win, h1, h2⟩
          · obtain ⟨h1, rs, h2, h3⟩ := hB p hp
            exact ⟨List.mem_cons_of_mem _ h1, rs, List.mem_cons_of_mem _ h2, h3⟩
        · refine wpAnyF_first (ks := []) (W := w) hoi (Region.noSelect_spec hsel) hQn f Bk listed a w (Region.free_spec hoi hfr) hinv' hmem (fun _ _ => rfl) (.inr ⟨hw, rfl⟩) ?_
          rw [hdst] at hK
          simp only [List.map_nil, List.nil_append]
          refine ih _ (i :: prev) ds' hds K _ H ι _ w B _ hK hR (hE.put hsz hd (undef_rel ι)) (by rw [size_put]; exact hsz) (fun p hp => ?_)
            fun env2 H2 ι2 a2 w2 k1 k2 k3 k4 k5 k6 => hQ env2 H2 ι2 a2 w2 k1 k2 k3 k4 k5 (by rw [k6, defers_put])
          obtain ⟨h1, h2⟩ := hB p hp
          exact ⟨List.mem_cons_of_mem _ h1, h2⟩
      · cases hc
    · have hall := altOf_all hc h
      refine ⟨fun hr => ?_, fun j hj => ?_⟩
      · rw [hr] at hc
        simp only [List.map_nil, altOf, Option.some.injEq] at hc
        subst hc
        exact hQ env H ι a w h (Step.refl _ _ _ _ _) hR hE hsz rfl
      · obtain ⟨t', ht', h⟩ := hall _ (List.mem_map_of_mem hj)
        split at ht'
        · rename_i x ds' hx hds
          split at ht'
          · rename_i hnq
            cases ht'
            obtain ⟨oj, hoj1, hins⟩ := xinss_get ops.toList xs hxs j x hx
            have hoj : ops[j]? = some oj := by simpa using hoj1
            obtain ⟨hd, hop, hdst, hg⟩ := xins_inv hins
            let uno := prev.filter fun i => !(aft ops i).contains j
            have hv' : guarded env x.guard (x.op.vc (ACall P) (fun r => Wr r ∧ ∀ p ∈ B, uno.contains p.1 = true → r ∉ p.2) env H fun v H' => vcT (ACall P) Wr ds' (B.filter fun p => uno.contains p.1) K (env.put x.dst v) H')
                (vcT (ACall P) Wr ds' (B.filter fun p => uno.contains p.1) K (env.put x.dst (.tuple [])) H) := by
              unfold XIns.quiet at hnq
              cases hxo : x.op with
              | s o => rw [hxo] at hnq; cases hnq
              | e o => simp only [vcT, hxo] at h; exact h
              | call f args => simp only [vcT, hxo] at h; exact h
              | callv f args => simp only [vcT, hxo] at h; exact h
            unfold wpOp
            simp only [hoj]
            have huno : ∀ p ∈ Bk, j ∉ aft ops p.1 → uno.contains p.1 = true := by
              intro p hp hn
              simp only [uno, List.contains_iff_mem, List.mem_filter]
              exact ⟨(hB p hp).1, by simpa using hn⟩
            rcases guarded_cases hE hg hv' with ⟨hw, hv⟩ | ⟨hw, hv⟩
            · rw [if_pos hw]
              refine .inl (xop_sound hR hE hop hv fun v y ι' H' w' hK hst hR' hrv => ?_)
              rw [hdst] at hK
              have hkeep : ∀ p ∈ Bk, j ∉ aft ops p.1 → ∃ rs, (p.1, rs) ∈ B ∧ ∃ r ∈ rs, ∃ g win, ι r = some (g, win) ∧ win.blk = p.2 ∧ ¬ (Wr r ∧ ∀ p ∈ B, uno.contains p.1 = true → r ∉ p.2) := by
                intro p hp hn
                obtain ⟨_, rs, h1, r, h2, g, win, h3, h4⟩ := hB p hp
                exact ⟨rs, h1, r, h2, g, win, h3, h4, fun hh => hh.2 _ h1 (huno p hp hn) h2⟩
              refine ⟨fun p hp hn => ?_, ?_⟩
              · obtain ⟨rs, h1, r, h2, g, win, h3, h4, h5⟩ := hkeep p hp hn
                rw [← h4]
                refine hst.real _ (hR.lt h3) fun r' g' win' hf h3' hown he => ?_
                have : r' = r := hR.inj r' r g' g win' win h3' h3 he hown
                subst this
                exact h5 hf
              · refine ih _ prev ds' hds K _ H' ι' _ w' _ _ hK hR' ((hE.mono hst.le).put hsz hd hrv) (by rw [size_put]; exact hsz) (fun p hp => ?_)
                  fun env2 H2 ι2 a2 w2 k1 k2 k3 k4 k5 k6 => hQ env2 H2 ι2 a2 w2 k1 (Step.trans hR (hst.mono (fun r h => .inl h.1) hR) k2 fun _ h => .inl h) k3 k4 k5 (by rw [k6, defers_put])
                rw [List.mem_filter] at hp
                have hn : j ∉ aft ops p.1 := by simpa using hp.2
                obtain ⟨rs, h1, r, h2, g, win, h3, h4, h5⟩ := hkeep p hp.1 hn
                exact ⟨(hB p hp.1).1, rs, List.mem_filter.2 ⟨h1, huno p hp.1 hn⟩, r, h2, g, win, hst.same_win hR hR' h3 h5, h4⟩
            · rw [hw]
              simp only [Bool.false_eq_true, if_false]
              rw [hdst] at hv
              refine ⟨by simp, ih _ prev ds' hds K _ H ι _ w _ _ hv hR (hE.put hsz hd (undef_rel ι)) (by rw [size_put]; exact hsz) (fun p hp => ?_)
                fun env2 H2 ι2 a2 w2 k1 k2 k3 k4 k5 k6 => hQ env2 H2 ι2 a2 w2 k1 k2 k3 k4 k5 (by rw [k6, defers_put])⟩
              rw [List.mem_filter] at hp
              have hn : j ∉ aft ops p.1 := by simpa using hp.2
              obtain ⟨h0, rs, h1, h2⟩ := hB p hp.1
              exact ⟨h0, rs, List.mem_filter.2 ⟨h1, huno p hp.1 hn⟩, h2⟩
          · cases ht'
        · cases ht'

/-- How a real exit answers an abstract one. -/
def XExit.real : XExit → Exit
  | .normal => .normal
  | .exit id => .exit id
  | .ret => .ret

/-- What is shown of code over abstract states holds of the machine. -/
theorem vc_sound (hm : P.follows .mixedOrders = true) {Wr : Nat → Prop} {n : Nat} : ∀ (c : Code) (x : XCode), xcode P n c = some x → ∀ (Q : XExit → Env → AHeap → Prop) (env : Env) (H : AHeap) (ι : Inj) (a : Act) (w : World) (Q' : Exit → Act → World → Prop),
    vc (ACall P) Wr x Q env H → Rel W0 ι H w → ERel ι env a → a.tmps.size = n →
    (∀ e env' H' ι' a' w', Q e env' H' → Step W0 Wr ι H w ι' H' w' → Rel W0 ι' H' w' → ERel ι' env' a' → a'.tmps.size = n → a'.defers = a.defers → Q' e.real a' w') → c.wp P Q' a w := by
  intro c
  induction c with
  | skip =>
    intro x hx Q env H ι a w Q' h hR hE hsz hQ
    simp only [xcode, Option.some.injEq] at hx; subst hx
    exact wp_skip (hQ .normal env H ι a w h (Step.refl _ _ _ _ _) hR hE hsz rfl)
  | ret =>
    intro x hx Q env H ι a w Q' h hR hE hsz hQ
    simp only [xcode, Option.some.injEq] at hx; subst hx
    exact wp_ret (hQ .ret env H ι a w h (Step.refl _ _ _ _ _) hR hE hsz rfl)
  | exit id =>
    intro x hx Q env H ι a w Q' h hR hE hsz hQ
    simp only [xcode, Option.some.injEq] at hx; subst hx
    exact wp_exit (hQ (.exit id) env H ι a w h (Step.refl _ _ _ _ _) hR hE hsz rfl)
  | seq x y ihx ihy =>
    intro z hz Q env H ι a w Q' h hR hE hsz hQ
    simp only [xcode] at hz
    split at hz
    · rename_i x' y' hx hy
      cases hz
      simp only [vc] at h
      refine wp_seq (ihx x' hx _ env H ι a w _ h hR hE hsz ?_)
      intro e env' H' ι' a' w' hq hle hR' hE' hsz' hd'
      cases e with
      | normal =>
        exact ihy y' hy Q env' H' ι' a' w' Q' hq hR' hE' hsz' fun e2 env2 H2 ι2 a2 w2 k1 k2 k3 k4 k5 k6 => hQ e2 env2 H2 ι2 a2 w2 k1 (Step.trans hR hle k2 fun _ h => .inl h) k3 k4 k5 (by rw [k6, hd'])
      | exit id => exact hQ _ env' H' ι' a' w' hq hle hR' hE' hsz' hd'
      | ret => exact hQ _ env' H' ι' a' w' hq hle hR' hE' hsz' hd'
    · cases hz
  | cond c x y ihx ihy =>
    intro z hz Q env H ι a w Q' h hR hE hsz hQ
    simp only [xcode] at hz
    split at hz
    · rename_i c' x' y' hc hx hy
      cases hz
      simp only [vc] at h
      split at h
      · rename_i b hb
        have rc := xopd_rel hE hc
        rw [hb] at rc
        cases b
        · exact wp_cond_false rc.bool_inv (ihy y' hy Q env H ι a w Q' (h.2 rfl) hR hE hsz hQ)
        · exact wp_cond_true rc.bool_inv (ihx x' hx Q env H ι a w Q' (h.1 rfl) hR hE hsz hQ)
      · exact h.elim
    · cases hz
      exact h.elim
    · cases hz
  | block id x ih =>
    intro z hz Q env H ι a w Q' h hR hE hsz hQ
    simp only [xcode, Option.map_eq_some_iff] at hz
    obtain ⟨x', hx, rfl⟩ := hz
    simp only [vc] at h
    refine wp_block (ih x' hx _ env H ι a w _ h hR hE hsz ?_)
    intro e env' H' ι' a' w' hq hle hR' hE' hsz' hd'
    cases e with
    | normal => exact hQ _ env' H' ι' a' w' hq hle hR' hE' hsz' hd'
    | ret => exact hQ _ env' H' ι' a' w' hq hle hR' hE' hsz' hd'
    | exit id' =>
      simp only [XExit.blk] at hq
      simp only [XExit.real, Exit.inBlock]
      split at hq
      · rename_i e; rw [if_pos e]; exact hQ .normal env' H' ι' a' w' hq hle hR' hE' hsz' hd'
      · rename_i e; rw [if_neg e]; exact hQ (.exit id') env' H' ι' a' w' hq hle hR' hE' hsz' hd'
  | loop x ih =>
    intro z hz Q env H ι a w Q' h hR hE hsz hQ
    simp only [xcode, Option.map_eq_some_iff] at hz
    obtain ⟨x', hx, rfl⟩ := hz
    simp only [vc] at h
    obtain ⟨I, k, hI, hround⟩ := h
    refine wp_loop_ghost (fun k a' w' => ∃ env' H' ι', I k env' H' ∧ Step W0 Wr ι H w ι' H' w' ∧ Rel W0 ι' H' w' ∧ ERel ι' env' a' ∧ a'.tmps.size = n ∧ a'.defers = a.defers) k ⟨env, H, ι, hI, Step.refl _ _ _ _ _, hR, hE, hsz, rfl⟩ ?_
    rintro m a1 w1 ⟨env1, H1, ι1, hI1, hle1, hR1, hE1, hsz1, hd1⟩
    refine ih x' hx _ env1 H1 ι1 a1 w1 _ (hround m env1 H1 hI1) hR1 hE1 hsz1 ?_
    intro e env' H' ι' a' w' hq hle hR' hE' hsz' hd'
    have htr := Step.trans hR hle1 hle fun _ h => .inl h
    cases e with
    | normal =>
      obtain ⟨m', hlt, hI'⟩ := hq
      exact ⟨m', hlt, env', H', ι', hI', htr, hR', hE', hsz', by rw [hd', hd1]⟩
    | exit id => exact hQ _ env' H' ι' a' w' hq htr hR' hE' hsz' (by rw [hd', hd1])
    | ret => exact hQ _ env' H' ι' a' w' hq htr hR' hE' hsz' (by rw [hd', hd1])
  | region id ops draw =>
    intro z hz Q env H ι a w Q' h hR hE hsz hQ
    simp only [xcode, Option.some.injEq] at hz
    cases hreg : xregion P n ops draw with
    | none => rw [hreg] at hz; subst hz; exact h.elim
    | some z' =>
    rw [hreg] at hz
    simp only [Option.getD_some] at hz
    subst hz
    cases draw with
    | false =>
      simp only [xregion, Option.map_eq_some_iff] at hreg
      obtain ⟨xs, hxs, rfl⟩ := hreg
      simp only [vc] at h
      exact wp_region_list (vcOps_sound ops.toList xs hxs (Q .normal) env H ι a w h hR hE hsz fun env' H' ι' a' w' k1 k2 k3 k4 k5 k6 => hQ .normal env' H' ι' a' w' k1 k2 k3 k4 k5 k6)
    | true =>
      simp only [xregion] at hreg
      split at hreg
      · rename_i xs hxs
        split at hreg
        · rename_i hsel
          have hR1 : Rel W0 ι H { w with drawn := w.drawn + 1 } := hR.drew
          unfold xdrawn at hreg
          split at hreg
          · rename_i ds hds
            cases hreg
            simp only [vc] at h
            have key := canon_sound (Q := fun e a' w' => e = .normal ∧ Q' .normal a' w') hxs hsel (fun c a w h => by cases h.1) ops.size _ [] ds hds (Q .normal) env H ι a _ [] [] h hR1 hE hsz (fun p hp => by cases hp)
              fun env' H' ι' a' w' k1 k2 k3 k4 k5 k6 => ⟨rfl, hQ .normal env' H' ι' a' w' k1 ⟨k2.le, k2.ext, k2.real, k2.size, k2.len, k2.abs⟩ k3 k4 k5 k6⟩
            refine wp_mono (wp_region_any hm (wpAny_of_F _ _ _ _ _ key)) ?_
            intro e a' w' hq
            obtain ⟨rfl, hq⟩ := hq
            exact hq
          · simp only [Option.map_eq_some_iff] at hreg
            obtain ⟨ds, hds, rfl⟩ := hreg
            simp only [vc] at h
            have key := canonT_sound (Q := fun e a' w' => e = .normal ∧ Q' .normal a' w') hxs hsel (fun c a w h => by cases h.1) ops.size _ [] ds hds (Q .normal) env H ι a _ [] [] h hR1 hE hsz (fun p hp => by cases hp)
              fun env' H' ι' a' w' k1 k2 k3 k4 k5 k6 => ⟨rfl, hQ .normal env' H' ι' a' w' k1 ⟨k2.le, k2.ext, k2.real, k2.size, k2.len, k2.abs⟩ k3 k4 k5 k6⟩
            refine wp_mono (wp_region_any hm (wpAny_of_F _ _ _ _ _ key)) ?_
            intro e a' w' hq
            obtain ⟨rfl, hq⟩ := hq
            exact hq
        · cases hreg
      · cases hreg
  | _ =>
    intro x hx Q env H ι a w Q' h hR hE hsz hQ
    simp only [xcode, Option.some.injEq] at hx
    subst hx
    exact h.elim
end
end Go.Proofs.YtalbjkemcckokaaGreat.Ab

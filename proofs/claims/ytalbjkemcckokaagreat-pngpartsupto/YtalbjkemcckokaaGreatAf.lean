/- The abstract layer, sixth part: the program's quiet operations do what the abstract ones compute. Conditions: none; a library for the texts behind it. -/
import Derived.Test.YtalbjkemcckokaaGreatAe
namespace Go.Proofs.YtalbjkemcckokaaGreat.Ab
set_option linter.unusedVariables false
set_option linter.unusedSimpArgs false

section
variable {P : Program} {W0 : World} {ι : Inj} {H : AHeap} {w : World} {env : Env} {a : Act}

theorem SOk.of_val {s : Sem Value} {rd : List Nat} {v : AVal} {y : Value} (h : ∀ w', s.run P w' = .ok y w') (hv : VRel ι v y) : SOk P ι w rd (do pure (.value (← s))) v := ⟨y, fun w' _ => by simp [h], hv⟩
theorem SOk.of_read {s : Sem Value} {rd : List Nat} {v : AVal} {y : Value} (h : ∀ w', (∀ r ∈ rd, ∀ g win, ι r = some (g, win) → w'.heap[win.blk]? = w.heap[win.blk]?) → s.run P w' = .ok y w') (hv : VRel ι v y) : SOk P ι w rd (do pure (.value (← s))) v :=
  ⟨y, fun w' hw' => by simp [h w' hw'], hv⟩

theorem run_binOp_int {k : IntKind} {x y : Int} {op : BinOp} {t : TypeId} {v : AVal} (hop : op ≠ .shl ∧ op ≠ .shr) (h : ibin op k x y = some v) : ∃ u, (∀ w, (binOp op t (.int k x) (.int k y)).run P w = .ok u w) ∧ VRel ι v u := by
  cases op <;> simp only [ibin] at h <;>
    first
    | (split at h
       · cases h
       · rename_i hy
         cases h
         refine ⟨_, fun w => by simp [binOp, Op.intDiv, hy]; rfl, by simp [VRel]⟩)
    | (cases h; exact ⟨_, fun w => by simp [binOp, Op.intArith, Op.intDiv, Op.intBits, Op.intCmp]; rfl, by simp [VRel]⟩)
    | cases h
    | exact absurd rfl hop.1
    | exact absurd rfl hop.2

theorem run_binOp_shift {k yk : IntKind} {x y : Int} {op : BinOp} {t : TypeId} {v : AVal} (hop : op = .shl ∨ op = .shr) (h : ishift op k x y = some v) : ∃ u, (∀ w, (binOp op t (.int k x) (.int yk y)).run P w = .ok u w) ∧ VRel ι v u := by
  unfold ishift at h
  split at h
  · cases h
  rename_i hy
  rcases hop with rfl | rfl <;> cases h <;> exact ⟨_, fun w => by simp [binOp, Op.shift, hy]; rfl, by simp [VRel]⟩

theorem run_binOp_str {x y : List UInt8} {op : BinOp} {t : TypeId} {v : AVal} (h : sbin op x y = some v) : ∃ u, (∀ w, (binOp op t (.string ⟨x.toArray⟩) (.string ⟨y.toArray⟩)).run P w = .ok u w) ∧ VRel ι v u := by
  cases op <;> simp only [sbin] at h <;>
    first
    | (split at h
       · rename_i hl
         cases h
         refine ⟨.string ⟨(x ++ y).toArray⟩, fun w => ?_, by simp [VRel]⟩
         have : ¬ (9223372036854775807 < (x.length : Int) + (y.length : Int)) := by omega
         have hmax : IntKind.i64.max = 9223372036854775807 := by decide
         simp [binOp, Op.stringOp, ByteArray.size, hmax, this]
         rfl
       · cases h)
    | (cases h; exact ⟨_, fun w => by simp [binOp, Op.stringOp]; rfl, by simp [VRel]⟩)
    | cases h

theorem eqGuard_plain (op : BinOp) (t : TypeId) (x y : Operand) (u v : Value) (hu : ∀ c, u ≠ .agg c) (hn : u ≠ .nilIface) : (eqGuard op t x y u v).run P w = .ok () w := by
  unfold eqGuard
  cases op <;> simp <;> (cases u <;> cases v <;> simp_all)

def PK.fits : PK → TypeDesc → Prop
  | .i, d => ∃ k, d = .int k
  | .s, d => d = .string
  | .b, d => d = .bool

theorem cellEq_run {pk : PK} {x y : AVal} {r : Bool} (h : cellEq pk x y = some r) {u v : Value} (hu : VRel ι x u) (hv : VRel ι y v) {t : TypeId} {d : TypeDesc} (ht : P.underlying t = some d)
    (hd : pk.fits d) (n : Nat) : (Op.equalIn (n + 1) t u v).run P w = .ok r w := by
  unfold cellEq at h
  split at h
  · split at h
    · rename_i k a k' b e
      cases h; subst e
      have h1 := hu.int_inv; have h2 := hv.int_inv
      subst h1 h2
      obtain ⟨k, rfl⟩ := hd
      simp [Op.equalIn, run_underlying ht]
    · cases h
  · cases h
    have h1 := hu.str_inv; have h2 := hv.str_inv
    subst h1 h2
    cases hd
    simp only [Op.equalIn, Sem.run_bind, run_underlying ht, Result.andThen_ok, Sem.run_pure]
    rw [beq_toListBytes]; simp
  · cases h
    have h1 := hu.bool_inv; have h2 := hv.bool_inv
    subst h1 h2
    cases hd
    simp [Op.equalIn, run_underlying ht]
  · cases h

theorem part_run {t : TypeId} {d : TypeDesc} (ht : P.underlying t = some d) {pk : PK} (hd : pk.fits d) {l : List Value} {o : Nat} {v : Value} (h : l[o]? = some v) : (part t l.toArray o).run P w = .ok v w := by
  have hag : (isAgg t).run P w = .ok false w := by
    cases pk
    · obtain ⟨k, rfl⟩ := hd; simp [isAgg, run_underlying ht]
    · cases hd; simp [isAgg, run_underlying ht]
    · cases hd; simp [isAgg, run_underlying ht]
  simp [part, hag, h]

theorem fieldsEq_run (n : Nat) {xs ys : List AVal} {us vs : List Value} (hu : VRels ι xs us) (hv : VRels ι ys vs) : ∀ (fs : List Field) (offs : List (Nat × PK)) (r : Bool), plainFields P fs = some offs → fieldsEq xs ys offs = some r →
    (Op.eqFields (n + 1) us.toArray vs.toArray fs).run P w = .ok r w
  | [], offs, r, hp, h => by
    simp only [plainFields, Option.some.injEq] at hp; subst hp
    simp only [fieldsEq, Option.some.injEq] at h; subst h
    simp [Op.eqFields]
  | f :: fs, offs, r, hp, h => by
    simp only [plainFields] at hp
    split at hp
    · cases hp
    rename_i hname
    have main : ∀ (pk : PK) (d : TypeDesc), P.underlying f.type = some d → pk.fits d → ∀ offs', plainFields P fs = some offs' → offs = (f.offset, pk) :: offs' → (Op.eqFields (n + 1) us.toArray vs.toArray (f :: fs)).run P w = .ok r w := by
      intro pk d ht hd offs' hp' e
      subst e
      simp only [fieldsEq] at h
      split at h
      · rename_i x y hx hy
        obtain ⟨u, hu1, hu2⟩ := hu.get _ x hx
        obtain ⟨v, hv1, hv2⟩ := hv.get _ y hy
        have p1 := part_run (P := P) (w := w) ht hd hu1
        have p2 := part_run (P := P) (w := w) ht hd hv1
        split at h
        · rename_i hc
          have hq := cellEq_run (P := P) (w := w) hc hu2 hv2 ht hd n
          have ih := fieldsEq_run n hu hv fs offs' r hp' h
          simp only [Op.eqFields, ne_eq, hname, not_false_eq_true, if_true, Sem.run_bind, p1, p2, hq, Result.andThen_ok, Bool.not_true, Bool.false_eq_true, if_false]
          exact ih
        · rename_i hc
          cases h
          have hq := cellEq_run (P := P) (w := w) hc hu2 hv2 ht hd n
          simp only [Op.eqFields, ne_eq, hname, not_false_eq_true, if_true, Sem.run_bind, p1, p2, hq, Result.andThen_ok, Bool.not_false, Sem.run_pure]
        · cases h
      · cases h
    split at hp
    · rename_i k ht
      simp only [Option.map_eq_some_iff] at hp; obtain ⟨o', hp', rfl⟩ := hp
      exact main .i _ ht ⟨k, rfl⟩ o' hp' rfl
    · rename_i ht
      simp only [Option.map_eq_some_iff] at hp; obtain ⟨o', hp', rfl⟩ := hp
      exact main .s _ ht rfl o' hp' rfl
    · rename_i ht
      simp only [Option.map_eq_some_iff] at hp; obtain ⟨o', hp', rfl⟩ := hp
      exact main .b _ ht rfl o' hp' rfl
    · cases hp

theorem run_eqS {t : TypeId} {fs : Array Field} (ht : P.underlying t = some (.struct fs)) (h1 : P.stoodInHeld t = false) (h2 : P.eqGuardType P.depth t = false) {offs : List (Nat × PK)} (hp : plainFields P fs.toList = some offs)
    {xs ys : List AVal} {us vs : List Value} (hu : VRels ι xs us) (hv : VRels ι ys vs) {r : Bool} (h : fieldsEq xs ys offs = some r) (x y : Operand) :
    (do eqGuard .eql t x y (.agg us.toArray) (.agg vs.toArray); binOp .eql t (.agg us.toArray) (.agg vs.toArray) : Sem Value).run P w = .ok (.bool r) w ∧
    (do eqGuard .neq t x y (.agg us.toArray) (.agg vs.toArray); binOp .neq t (.agg us.toArray) (.agg vs.toArray) : Sem Value).run P w = .ok (.bool !r) w := by
  have hf : P.fieldsOf t = fs := by simp [Program.fieldsOf, ht]
  have he : (Op.equal t (.agg us.toArray) (.agg vs.toArray)).run P w = .ok r w := by
    have := run_equalIn_struct (P := P) w 9999 t us.toArray vs.toArray (by rw [hf]; exact ht) h1
    unfold Op.equal Op.maxDepth
    rw [this, hf]
    exact fieldsEq_run 9998 hu hv fs.toList offs r hp h
  constructor <;> simp [eqGuard, h2, binOp, he]

end
end Go.Proofs.YtalbjkemcckokaaGreat.Ab

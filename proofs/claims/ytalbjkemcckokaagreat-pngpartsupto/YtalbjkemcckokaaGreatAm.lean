/- The abstract layer, thirteenth part: functions: a call is shown by its body. Conditions: none; a library for the texts behind it. -/
import Derived.Test.YtalbjkemcckokaaGreatAl
namespace Go.Proofs.YtalbjkemcckokaaGreat.Ab
open Go.RowKit (Below)
set_option linter.unusedVariables false
set_option linter.unusedSimpArgs false

inductive XRes where
  | tmp (t : Nat)
  | cell1 (t : Nat)
  | cellN (t n : Nat)

structure XFun where
  n : Nat
  res : List XRes
  body : XCode

def xress (P : Program) : List ResultVar → Option (List XRes)
  | [] => some []
  | .tmp t :: l => (xress P l).map (.tmp t :: ·)
  | .cell a t :: l => match aggN P t, xress P l with
    | some (some n), some xs => some (.cellN a n :: xs)
    | some none, some xs => some (.cell1 a :: xs)
    | _, _ => none

def xfun (P : Program) (fn : Func) : Option XFun :=
  match fn.body with
  | some c => match xcode P fn.ntmps c, xress P fn.results.toList with
    | some x, some r => if (fn.name == "runtime.NumGoroutine") = false then some ⟨fn.ntmps, r, x⟩ else none
    | _, _ => none
  | none => none

def resVal (env : Env) (H : AHeap) : List XRes → Option (List AVal)
  | [] => some []
  | .tmp t :: l => (resVal env H l).map (env t :: ·)
  | .cell1 t :: l => match env t with
    | .ptr r g o => match aload H r g o, resVal env H l with
      | some v, some vs => some (v :: vs)
      | _, _ => none
    | _ => none
  | .cellN t n :: l => match env t with
    | .ptr r g o => match aloads H r g o n, resVal env H l with
      | some c, some vs => some (.agg c :: vs)
      | _, _ => none
    | _ => none

def retVal : List AVal → AVal
  | [x] => x
  | l => .tuple l

def entry (args : List AVal) : Env := fun t => args.getD t (.tuple [])

def XExit.ends : XExit → Bool
  | .exit _ => false
  | _ => true

/-- What the body of a function must come to. -/
def fpost (xf : XFun) (R : AVal → AHeap → Prop) : XExit → Env → AHeap → Prop := fun e env H => e.ends = true ∧ ∃ l, resVal env H xf.res = some l ∧ R (retVal l) H

section
variable {P : Program} {W0 : World}

theorem resVal_run {ι : Inj} {env : Env} {H : AHeap} {a : Act} {w : World} (hR : Rel W0 ι H w) (hE : ERel ι env a) : ∀ (rs : List ResultVar) (xs : List XRes) (l : List AVal), xress P rs = some xs → resVal env H xs = some l →
    ∃ vs, (rs.mapM fun | .tmp t => pure (a.tmps.getD t undef) | .cell c t => do loadVar t (← asAddr (a.tmps.getD c undef)) : Sem (List Value)).run P w = .ok vs w ∧ VRels ι l vs
  | [], xs, l, hx, h => by
    simp only [xress, Option.some.injEq] at hx; subst hx
    simp only [resVal, Option.some.injEq] at h; subst h
    exact ⟨[], by simp, by simp [VRels]⟩
  | .tmp t :: rs, xs, l, hx, h => by
    simp only [xress, Option.map_eq_some_iff] at hx
    obtain ⟨xs', hx, rfl⟩ := hx
    simp only [resVal, Option.map_eq_some_iff] at h
    obtain ⟨l', h, rfl⟩ := h
    obtain ⟨vs, h1, h2⟩ := resVal_run hR hE rs xs' l' hx h
    refine ⟨a.tmps.getD t undef :: vs, ?_, ?_⟩
    · simp only [List.mapM_cons, Sem.run_bind, Sem.run_pure, Result.andThen_ok]
      rw [h1]; simp
    · simp only [VRels]; exact ⟨_, _, rfl, hE t, h2⟩
  | .cell c t :: rs, xs, l, hx, h => by
    simp only [xress] at hx
    split at hx
    · rename_i n xs' hn hxs
      cases hx
      simp only [resVal] at h
      split at h
      · rename_i r g o hp
        split at h
        · rename_i cs vs' hl hvs
          cases h
          obtain ⟨vs, h1, h2⟩ := resVal_run hR hE rs xs' vs' hxs hvs
          have ht := hE c
          rw [hp] at ht
          obtain ⟨win, hι, hv⟩ := hR.ptr_age hl ht
          obtain ⟨ys, hy1, hy2, hy3⟩ := hR.loads P hι hl
          obtain ⟨a1, a2⟩ := aggN_run (P := P) hn w
          have a2' := a2 n rfl
          refine ⟨.agg ys.toArray :: vs, ?_, ?_⟩
          · have e1 : (asAddr (a.tmps.getD c undef)).run P w = .ok ⟨win.blk, win.off + o, none⟩ w := by rw [hv]; rfl
            have e2 : (loadVar t ⟨win.blk, win.off + o, none⟩).run P w = .ok (.agg ys.toArray) w := by simp [loadVar, a1, a2', hy1]
            simp only [List.mapM_cons, Sem.run_bind, e1, e2, h1, Result.andThen_ok, Sem.run_pure]
          · simp only [VRels]; exact ⟨_, _, rfl, by simp only [VRel]; exact ⟨ys, rfl, hy2⟩, h2⟩
        · cases h
      · cases h
    · rename_i xs' hn hxs
      cases hx
      simp only [resVal] at h
      split at h
      · rename_i r g o hp
        split at h
        · rename_i cs vs' hl hvs
          cases h
          obtain ⟨vs, h1, h2⟩ := resVal_run hR hE rs xs' vs' hxs hvs
          have ht := hE c
          rw [hp] at ht
          obtain ⟨win, hι, hv⟩ := hR.ptr_age (aload_aloads hl) ht
          obtain ⟨win', hι', y, hy1, hy2⟩ := hR.load hl
          rw [hι] at hι'
          simp only [Option.some.injEq, Prod.mk.injEq, true_and] at hι'
          subst hι'
          obtain ⟨a1, _⟩ := aggN_run (P := P) hn w
          refine ⟨y :: vs, ?_, ?_⟩
          · have e1 : (asAddr (a.tmps.getD c undef)).run P w = .ok ⟨win.blk, win.off + o, none⟩ w := by rw [hv]; rfl
            have e2 : (loadVar t ⟨win.blk, win.off + o, none⟩).run P w = .ok y w := by simp [loadVar, a1, run_load, hy1]
            simp only [List.mapM_cons, Sem.run_bind, e1, e2, h1, Result.andThen_ok, Sem.run_pure]
          · simp only [VRels]; exact ⟨_, _, rfl, hy2, h2⟩
        · cases h
      · cases h
    · cases hx

theorem retVal_rel {ι : Inj} {l : List AVal} {vs : List Value} (h : VRels ι l vs) : VRel ι (retVal l) (if h : vs.length = 1 then vs[0] else .tuple vs.toArray) := by
  have hl := h.length
  match l, vs, h, hl with
  | [x], [y], h, _ =>
    simp only [VRels] at h
    obtain ⟨v, vs', e, h1, _⟩ := h
    cases e
    simpa [retVal] using h1
  | [], [], h, _ => simp only [retVal, VRel]; exact ⟨[], by simp, h⟩
  | x :: y :: l, u :: v :: vs, h, _ => simp only [retVal, VRel]; exact ⟨u :: v :: vs, by simp, h⟩

theorem entry_rel {ι : Inj} {args : List AVal} {vs : List Value} (h : VRels ι args vs) (m : Nat) : ERel ι (entry args) { tmps := vs.toArray ++ Array.replicate m undef, defers := [] } := by
  intro t
  simp only [entry, Array.getD_eq_getD_getElem?, List.getD_eq_getElem?_getD]
  have hl := h.length
  by_cases ht : t < args.length
  · have : args[t]? = some args[t] := by simp [ht]
    obtain ⟨v, h1, h2⟩ := h.get t _ this
    rw [this, Array.getElem?_append, if_pos (by simp; omega)]
    simp [h1]
    exact h2
  · rw [List.getElem?_eq_none (by omega), Array.getElem?_append, if_neg (by simp; omega)]
    simp only [Option.getD_none, Array.getElem?_replicate]
    split <;> exact undef_rel ι

/-- A CALL BY ITS BODY. -/
theorem acall_of_vc (hm : P.follows .mixedOrders = true) {f : FuncId} {fn : Func} {xf : XFun} (hf : P.funcs[f]? = some fn) (hx : xfun P fn = some xf) {args : List AVal} {H : AHeap} {fp : Nat → Prop} {R : AVal → AHeap → Prop} (hlen : args.length ≤ xf.n)
    (h : vc (ACall P) (fun r => fp r ∨ H.length ≤ r) xf.body (fpost xf R) (entry args) H) : ACall P f args H fp R := by
  unfold xfun at hx
  split at hx
  · rename_i c hb
    split at hx
    · rename_i x r hc hr
      split at hx
      · rename_i hname
        cases hx
        intro W0 ι w vs hRel hv o a next Q hn
        have hlv := hv.length
        have hcf : (callFunc f vs.toArray).run P w = .ok (.enter f vs.toArray) w := by
          simp only [callFunc, Sem.run_bind, run_program, Result.andThen_ok, hf, hname, Bool.false_eq_true, if_false, hb, Option.isNone_some, Sem.run_pure]
        rw [hcf]
        simp only [Oper.upon_enter]
        refine calls_of_wp hf hb ?_
        simp only [List.size_toArray]
        refine vc_sound hm c x hc _ _ H ι _ w _ h hRel (entry_rel hv _) (by simp; simp only at hlen; omega) ?_
        intro e env' H' ι' a' w' hq hle hR' hE' hsz' hd'
        obtain ⟨he, l, hl, hRl⟩ := hq
        obtain ⟨rs, h1, h2⟩ := resVal_run (P := P) hR' hE' fn.results.toList r l hr hl
        have hres : (results fn a'.tmps).run P w' = .ok (if h : rs.length = 1 then rs[0] else .tuple rs.toArray) w' := by
          unfold results
          simp only [Array.mapM_eq_mapM_toList, Sem.run_bind, Sem.run_map, Sem.run_pure]
          refine (congrArg (fun r => Result.andThen (Result.andThen r _) _) h1).trans ?_
          simp
        have fin : bodyPost P fn (fun | .returned v, w'' => next (a.put o.dst v) w'' | .panicked chain, w'' => Q (.panic chain) a w'' | .outgrown, _ => LetsOut Q) .normal a' w' :=
          ⟨hd', _, hres, hn _ _ ι' H' w' hRl (hle.mono (fun _ h => h) hRel) hR' (retVal_rel h2)⟩
        cases e with
        | normal => exact fin
        | ret => exact fin
        | exit id => simp [XExit.ends] at he
      · cases hx
    · cases hx
  · cases hx
end
end Go.Proofs.YtalbjkemcckokaaGreat.Ab

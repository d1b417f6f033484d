/- The abstract layer: from a call's contract to the row of a law. Conditions: none; a library for the texts behind it. -/
import Derived.Test.YtalbjkemcckokaaGreatAs
import Derived.ProofKit
import Derived.OpenShut
namespace Go.Proofs.YtalbjkemcckokaaGreat.Ab
open Go.RowKit (Below)
open Go.ChangeShapes Go.WideShapes Go.ChangeAt Go.RowKit
set_option linter.unusedVariables false
set_option linter.unusedSimpArgs false

section
variable {P : Program}

/-- The machine's call does what the contract says. -/
theorem calls_of_acall {f : FuncId} {fn : Func} (hf : P.funcs[f]? = some fn) (hb : fn.body.isSome = true) (hname : (fn.name == "runtime.NumGoroutine") = false) {args : List AVal} {H : AHeap} {fp : Nat → Prop} {R : AVal → AHeap → Prop} (h : ACall P f args H fp R)
    {W0 W : World} {ι : Inj} {vs : List Value} (hR : Rel W0 ι H W) (hv : VRels ι args vs) :
    Calls P f vs.toArray W fun e W' => ∃ (y : Value) (a : AVal) (ι' : Inj) (H' : AHeap), e = .returned y ∧ R a H' ∧ Rel W0 ι' H' W' ∧ VRel ι' a y := by
  have h1 := h W0 ι W vs hR hv { (default : Oper) with dst := some 0 } { tmps := #[undef], defers := [] } (fun a w' => ∃ (x : AVal) (ι' : Inj) (H' : AHeap), R x H' ∧ Rel W0 ι' H' w' ∧ VRel ι' x (a.tmps.getD 0 undef)) (fun _ _ _ => False) (by
    intro v y ι' H' w' hr hs hR' hy
    exact ⟨v, ι', H', hr, hR', by simpa [Act.put] using hy⟩)
  have hcf : (callFunc f vs.toArray).run P W = .ok (.enter f vs.toArray) W := by
    obtain ⟨c, hc⟩ := Option.isSome_iff_exists.1 hb
    simp only [callFunc, Sem.run_bind, run_program, Result.andThen_ok, hf, hname, Bool.false_eq_true, if_false, hc, Option.isNone_some, Sem.run_pure]
  rw [hcf, Oper.upon_enter] at h1
  refine h1.mono fun e W' q => ?_
  cases e with
  | returned y =>
    obtain ⟨x, ι', H', a1, a2, a3⟩ := q
    exact ⟨y, x, ι', H', rfl, a1, a2, by simpa [Act.put] using a3⟩
  | panicked c => exact q.elim
  | outgrown => obtain ⟨_, _, q⟩ := q; exact q.elim

section
variable {H : Type} {enc : TypeId × Value → H}
/-- What a law leaves: nothing of what was there has turned; blocks that it made itself may be marked as they like. -/
theorem post_of_below {f : Func} {s : ChangeSpec} {apart fresh handsOn again : Bool} {W W' : World} {args : Array Value} {v : Value} {ds gs : List (DataW H)} {before pa pv : List MemPlace}
    (hW : DataW.Whole enc P f.params.toList s.vars apart W args.toList ds gs before)
    (hres : ∀ (b : Nat) (sp : Nat → Bool) (hd : Bool), DataW.TrodAll enc P W' b sp hd f.resultTypes.toList (v.resultList f.resultTypes.size) (s.fn H (ds ++ gs)).results [])
    (hargs : ∀ sp : Nat → Bool, (∀ p ∈ before, sp p.block = true) → DataW.TrodAll enc P W' 0 sp true f.params.toList args.toList (s.fn H (ds ++ gs)).args pa)
    (hvars : ∀ sp : Nat → Bool, (∀ p ∈ before, sp p.block = true) → DataW.TrodVars enc P W' sp s.vars (s.fn H (ds ++ gs)).vars pv)
    (hps : before = pa ++ pv) (hb : Below W.heap.size W W')
    (hok : ∀ (j : Nat) (t : TypeId) (r : Value), f.resultTypes[j]? = some t → (v.resultList f.resultTypes.size)[j]? = some r → Value.okWide P W' .any 0 t r) :
    s.post enc P f apart fresh handsOn again W args v W' := by
  have hold : ∀ p ∈ before, (fun b => decide (b < W.heap.size)) p.block = true := fun p hp => by simpa using hW.lt p hp
  refine ⟨ds, gs, before, [], pa, pv, hW, hres _ _ _, hargs _ hold, hvars _ hold, World.keptBut_mono (fun p hp => ⟨hp, ?_⟩) (hb.frame (· ∈ before)), fun _ => ?_⟩
  · rw [hps, List.mem_append] at hp
    exact Or.inr hp
  · have hlt := hW.lt
    obtain ⟨_, _, _, _, _, hz, hn⟩ := hW
    refine ⟨hok, _, _, ([] ++ pa) ++ pv, ⟨[] ++ pa, pv, trodAll_append (hargs _ (fun _ _ => rfl)) (hres _ _ _), hvars _ (fun _ _ => rfl), rfl, ?_, ?_⟩, ?_⟩
    · intro b off hp
      have hp2 : MemPlace.cell b off ∈ before := by rw [hps]; simpa using hp
      rw [hb.frozen (hlt _ hp2)]
      exact hz b off hp2
    · intro ha
      have := hn ha
      rw [hps] at this
      simpa using this
    · intro p hp _
      rw [hps]
      simpa using hp
end
end
end Go.Proofs.YtalbjkemcckokaaGreat.Ab

/- The abstract layer: calls into Go's library: entries that have no body, and contracts of the machine's calls. Conditions: none; a library for the texts behind it. -/
import Derived.Test.YtalbjkemcckokaaGreatAv
import Derived.Lib.Builder
namespace Go.Proofs.YtalbjkemcckokaaGreat.Ab
open Go.RowKit (Below)
set_option linter.unusedVariables false
set_option linter.unusedSimpArgs false

section
variable {P : Program}

/-- An entry without a body that leaves the world as it is. -/
theorem acall_entry {f : FuncId} {fn : Func} {e : Array Value → Sem Value} (hf : P.funcs[f]? = some fn) (hname : (fn.name == "runtime.NumGoroutine") = false) (hb : fn.body.isNone = true) (hn : Extern.findNext fn = none) (he : Extern.find fn = some e)
    {args : List AVal} {H : AHeap} {fp : Nat → Prop} {v : AVal} (h : ∀ (W0 : World) (ι : Inj) (w : World) (l : List Value), Rel W0 ι H w → VRels ι args l → ∃ y, (e l.toArray).run P w = .ok y w ∧ VRel ι v y) :
    ACall P f args H fp fun v' H' => v' = v ∧ H' = H := by
  intro W0 ι w vs hR hv o a next Q hq
  obtain ⟨y, h1, h2⟩ := h W0 ι w vs hR hv
  rw [run_callFunc_extern hf hname hb hn he, h1]
  simp only [Result.andThen_ok]
  rw [Oper.upon_value]
  exact hq v y ι H w ⟨rfl, rfl⟩ (Step.refl _ _ _ _ _) hR h2

theorem acall_noEscape {f : FuncId} {fn : Func} (hf : P.funcs[f]? = some fn) (hname : (fn.name == "runtime.NumGoroutine") = false) (hb : fn.body.isNone = true) (hn : Extern.findNext fn = none) (he : Extern.find fn = some Extern.AbiNoEscape.same)
    {x : AVal} {H : AHeap} {fp : Nat → Prop} : ACall P f [x] H fp fun v' H' => v' = x ∧ H' = H := by
  refine acall_entry hf hname hb hn he fun W0 ι w l hR hv => ?_
  simp only [VRels] at hv
  obtain ⟨y, ys, rfl, h1, rfl⟩ := hv
  exact ⟨y, Lib.run_noEscape w y, h1⟩

theorem acall_indexByteString {f : FuncId} {fn : Func} (hf : P.funcs[f]? = some fn) (hname : (fn.name == "runtime.NumGoroutine") = false) (hb : fn.body.isNone = true) (hn : Extern.findNext fn = none) (he : Extern.find fn = some Extern.BytealgIndexByte.indexByte)
    {s : List UInt8} {c : Int} {H : AHeap} {fp : Nat → Prop} : ACall P f [.str s, .int .u8 c] H fp fun v' H' => v' = .int .i64 (firstIdx ⟨s.toArray⟩ c.toNat.toUInt8) ∧ H' = H := by
  refine acall_entry hf hname hb hn he fun W0 ι w l hR hv => ?_
  simp only [VRels, VRel] at hv
  obtain ⟨_, _, rfl, rfl, _, _, rfl, rfl, rfl⟩ := hv
  exact ⟨_, run_indexByte_string ⟨s.toArray⟩ c w, by simp [VRel]⟩

theorem acall_cmpstring {f : FuncId} {fn : Func} (hf : P.funcs[f]? = some fn) (hname : (fn.name == "runtime.NumGoroutine") = false) (hb : fn.body.isNone = true) (hn : Extern.findNext fn = none) (he : Extern.find fn = some Extern.BytealgCompare.compare)
    {s t : List UInt8} {H : AHeap} {fp : Nat → Prop} : ACall P f [.str s, .str t] H fp fun v' H' => v' = .int .i64 (Extern.BytealgCompare.cmp ⟨s.toArray⟩ ⟨t.toArray⟩) ∧ H' = H := by
  refine acall_entry hf hname hb hn he fun W0 ι w l hR hv => ?_
  simp only [VRels, VRel] at hv
  obtain ⟨_, _, rfl, rfl, _, _, rfl, rfl, rfl⟩ := hv
  exact ⟨_, rfl, by simp [VRel, goInt]⟩

/-- A call of which a contract is known that says: a flat answer, and nothing that was there has turned. -/
theorem acall_calls {f : FuncId} {fn : Func} (hf : P.funcs[f]? = some fn) (hb : fn.body.isSome = true) (hname : (fn.name == "runtime.NumGoroutine") = false)
    {args : List AVal} {H : AHeap} {fp : Nat → Prop} {v : AVal} (hfl : v.flat = true)
    (h : ∀ (W0 : World) (ι : Inj) (w : World) (l : List Value), Rel W0 ι H w → VRels ι args l → ∃ y, VRel ι v y ∧ Calls P f l.toArray w fun e w' => e = .returned y ∧ Below w.heap.size w w') :
    ACall P f args H fp fun v' H' => v' = v ∧ H' = H := by
  intro W0 ι w vs hR hv o a next Q hq
  obtain ⟨y, hy, hc⟩ := h W0 ι w vs hR hv
  have hcf : (callFunc f vs.toArray).run P w = .ok (.enter f vs.toArray) w := by
    obtain ⟨c, hc⟩ := Option.isSome_iff_exists.1 hb
    simp only [callFunc, Sem.run_bind, run_program, Result.andThen_ok, hf, hname, Bool.false_eq_true, if_false, hc, Option.isNone_some, Sem.run_pure]
  rw [hcf, Oper.upon_enter]
  refine hc.mono fun e w' q => ?_
  obtain ⟨rfl, hB⟩ := q
  have hreal : ∀ k, k < w.heap.size → w'.heap[k]? = w.heap[k]? := fun k hk => hB.block k hk
  refine hq v y ι H w' ⟨rfl, rfl⟩ ⟨Inj.le_refl _, fun r g win h => .inl ⟨g, win, h, rfl⟩, fun k hk _ => hreal k hk, hB.size, Nat.le_refl _, fun _ _ _ => rfl⟩
    ⟨hR.below.trans (hB.mono hR.size), ?_, hR.dom, hR.inj⟩ hy
  intro r b hb
  obtain ⟨g, win, h1, h2⟩ := hR.blk r b hb
  exact ⟨g, win, h1, h2.transfer (Inj.le_refl _) (hreal _ (hR.lt h1))⟩
end
end Go.Proofs.YtalbjkemcckokaaGreat.Ab

/- The abstract layer, first part: abstract values and heaps, and what it means that they describe the machine's values and memory. Conditions: none; a library for the texts behind it. -/
import Derived.Below
import Derived.StillTail
import Derived.Deep.Quiet
import Derived.Deep.LoopGhost
import Derived.KernelRfl
import Derived.Lib.Builder
import Derived.Lib.UnsafeStr
import Derived.Laws.Cover3
import Derived.Laws.Externs
namespace Go.Proofs.YtalbjkemcckokaaGreat.Ab
open Go.RowKit (Below)

/-- An abstract value. 'ptr r g o': cell o of abstract block r, as it was at the block's age g. 'slice r g o len z': from cell o on, len elements of z cells each. 'eslice': no element, no room. -/
inductive AVal where
  | undef
  | bool (b : Bool)
  | int (k : IntKind) (n : Int)
  | str (s : List UInt8)
  | nilptr
  | ptr (r g o : Nat)
  | nilslice
  | eslice
  | slice (r g o len z : Nat)
  | map (r : Nat)
  | nilmap
  | func (f : FuncId) (caps : List AVal)
  | nilfunc
  | agg (cs : List AVal)
  | tuple (vs : List AVal)

instance : Inhabited AVal := ⟨.undef⟩

/-- Where an abstract block lies: real block, first cell, how many cells are known, how many may be used. -/
structure Win where
  blk : Nat
  off : Nat
  len : Nat
  ext : Nat

abbrev Inj := Nat → Option (Nat × Win)

mutual
def VRel (ι : Inj) : AVal → Value → Prop
  | .undef, _ => True
  | .bool b, v => v = .bool b
  | .int k n, v => v = .int k n
  | .str s, v => v = .string ⟨s.toArray⟩
  | .nilptr, v => v = .pointer none
  | .ptr r g o, v => ∃ g' win, ι r = some (g', win) ∧ g ≤ g' ∧ (∃ a, v = .pointer a) ∧ (g = g' → v = .pointer (some ⟨win.blk, win.off + o, none⟩))
  | .nilslice, v => v = .slice none 0 0
  | .eslice, v => ∃ a, v = .slice (some a) 0 0
  | .slice r g o len z, v => ∃ g' win, ι r = some (g', win) ∧ g ≤ g' ∧ (∃ a l c, v = .slice a l c) ∧
      (g = g' → ∃ a cap, v = .slice (some a) len cap ∧ len ≤ cap ∧ win.len ≤ o + cap * z ∧ o + cap * z ≤ win.ext ∧ (cap = 0 ∨ a = ⟨win.blk, win.off + o, none⟩))
  | .map r, v => ∃ g' win, ι r = some (g', win) ∧ (∃ a, v = .map a) ∧ (g' = 0 → v = .map (some win.blk))
  | .nilmap, v => v = .map none
  | .func f caps, v => ∃ l, v = .func (.func f) #[] (List.toArray l) ∧ VRels ι caps l
  | .nilfunc, v => v = .nilFunc
  | .agg cs, v => ∃ l, v = .agg (List.toArray l) ∧ VRels ι cs l
  | .tuple vs, v => ∃ l, v = .tuple (List.toArray l) ∧ VRels ι vs l
def VRels (ι : Inj) : List AVal → List Value → Prop
  | [], l => l = []
  | a :: as, l => ∃ v vs, l = v :: vs ∧ VRel ι a v ∧ VRels ι as vs
end

def Inj.le (ι ι' : Inj) : Prop := ∀ r g win, ι r = some (g, win) → ∃ g' win', ι' r = some (g', win') ∧ g ≤ g' ∧ (g = g' → win' = win)

theorem Inj.le_refl (ι : Inj) : ι.le ι := fun _ g win h => ⟨g, win, h, Nat.le_refl _, fun _ => rfl⟩
theorem Inj.le_trans {a b c : Inj} (h : a.le b) (k : b.le c) : a.le c := by
  intro r g win hr
  obtain ⟨g1, w1, h1, hle1, he1⟩ := h r g win hr
  obtain ⟨g2, w2, h2, hle2, he2⟩ := k r g1 w1 h1
  refine ⟨g2, w2, h2, Nat.le_trans hle1 hle2, fun e => ?_⟩
  have e1 : g = g1 := by omega
  have e2 : g1 = g2 := by omega
  rw [he2 e2, he1 e1]

mutual
theorem VRel.mono {ι ι' : Inj} (h : ι.le ι') : ∀ {a : AVal} {v : Value}, VRel ι a v → VRel ι' a v
  | .undef, _, _ => by simp [VRel]
  | .bool b, _, hv => by simpa [VRel] using hv
  | .int k n, _, hv => by simpa [VRel] using hv
  | .str s, _, hv => by simpa [VRel] using hv
  | .nilptr, _, hv => by simpa [VRel] using hv
  | .ptr r g o, v, hv => by
    simp only [VRel] at hv ⊢
    obtain ⟨g', win, hr, hle, hc, he⟩ := hv
    obtain ⟨g2, w2, h2, hle2, he2⟩ := h r g' win hr
    refine ⟨g2, w2, h2, Nat.le_trans hle hle2, hc, fun e => ?_⟩
    have e1 : g' = g2 := by omega
    rw [he2 e1]; exact he (by omega)
  | .nilslice, _, hv => by simpa [VRel] using hv
  | .eslice, _, hv => by simpa [VRel] using hv
  | .slice r g o len z, v, hv => by
    simp only [VRel] at hv ⊢
    obtain ⟨g', win, hr, hle, hc, he⟩ := hv
    obtain ⟨g2, w2, h2, hle2, he2⟩ := h r g' win hr
    refine ⟨g2, w2, h2, Nat.le_trans hle hle2, hc, fun e => ?_⟩
    have e1 : g' = g2 := by omega
    rw [he2 e1]; exact he (by omega)
  | .map r, v, hv => by
    simp only [VRel] at hv ⊢
    obtain ⟨g', win, hr, hc, he⟩ := hv
    obtain ⟨g2, w2, h2, hle2, he2⟩ := h r g' win hr
    refine ⟨g2, w2, h2, hc, fun e => ?_⟩
    have e1 : g' = g2 := by omega
    rw [he2 e1]; exact he (by omega)
  | .nilmap, _, hv => by simpa [VRel] using hv
  | .func f caps, v, hv => by
    simp only [VRel] at hv ⊢
    obtain ⟨l, e, hl⟩ := hv
    exact ⟨l, e, VRels.mono h hl⟩
  | .nilfunc, _, hv => by simpa [VRel] using hv
  | .agg cs, v, hv => by
    simp only [VRel] at hv ⊢
    obtain ⟨l, e, hl⟩ := hv
    exact ⟨l, e, VRels.mono h hl⟩
  | .tuple vs, v, hv => by
    simp only [VRel] at hv ⊢
    obtain ⟨l, e, hl⟩ := hv
    exact ⟨l, e, VRels.mono h hl⟩
theorem VRels.mono {ι ι' : Inj} (h : ι.le ι') : ∀ {as : List AVal} {l : List Value}, VRels ι as l → VRels ι' as l
  | [], l, hl => by simpa [VRels] using hl
  | a :: as, l, hl => by
    simp only [VRels] at hl ⊢
    obtain ⟨v, vs, e, h1, h2⟩ := hl
    exact ⟨v, vs, e, VRel.mono h h1, VRels.mono h h2⟩
end

theorem VRels.length {ι : Inj} : ∀ {as : List AVal} {l : List Value}, VRels ι as l → l.length = as.length
  | [], l, h => by simp [VRels] at h; simp [h]
  | a :: as, l, h => by
    simp only [VRels] at h
    obtain ⟨v, vs, rfl, _, h2⟩ := h
    simp [VRels.length h2]

theorem VRels.get {ι : Inj} : ∀ {as : List AVal} {l : List Value}, VRels ι as l → ∀ (i : Nat) (x : AVal), as[i]? = some x → ∃ v, l[i]? = some v ∧ VRel ι x v
  | [], l, h, i, x, hx => by simp at hx
  | a :: as, l, h, i, x, hx => by
    simp only [VRels] at h
    obtain ⟨v, vs, rfl, h1, h2⟩ := h
    cases i with
    | zero => simp at hx; subst hx; exact ⟨v, by simp, h1⟩
    | succ i => simpa using VRels.get h2 i x (by simpa using hx)

theorem VRels.of_get {ι : Inj} : ∀ {as : List AVal} {l : List Value}, l.length = as.length → (∀ (i : Nat) (x : AVal), as[i]? = some x → ∃ v, l[i]? = some v ∧ VRel ι x v) → VRels ι as l
  | [], l, h, _ => by simpa [VRels] using h
  | a :: as, [], h, _ => by simp at h
  | a :: as, v :: vs, h, H => by
    simp only [VRels]
    obtain ⟨v', h1, h2⟩ := H 0 a (by simp)
    simp at h1; subst h1
    exact ⟨v, vs, rfl, h2, VRels.of_get (by simpa using h) (fun i x hx => by simpa using H (i + 1) x (by simpa using hx))⟩

theorem VRels.append {ι : Inj} : ∀ {as bs : List AVal} {l m : List Value}, VRels ι as l → VRels ι bs m → VRels ι (as ++ bs) (l ++ m)
  | [], bs, l, m, h, k => by simp [VRels] at h; subst h; simpa using k
  | a :: as, bs, l, m, h, k => by
    simp only [VRels, List.cons_append] at h ⊢
    obtain ⟨v, vs, rfl, h1, h2⟩ := h
    exact ⟨v, vs ++ m, rfl, h1, VRels.append h2 k⟩

/-- The cells of a value: of a struct or array its parts, else itself. -/
def AVal.cells : AVal → List AVal
  | .agg cs => cs
  | v => [v]

/-- A value that fits in one cell, whose kind is known. -/
def AVal.one : AVal → Bool
  | .undef | .agg _ | .tuple _ => false
  | _ => true

/-- A block of the abstract heap: a row of cells, at an age; 'ro': it lies in memory that was there before; 'ety': its element type. -/
inductive ABlk where
  | cells (g : Nat) (ro : Bool) (ety : Nat) (cs : List AVal)
  | map (es : List (AVal × AVal))

abbrev AHeap := List ABlk

def BRel (ι : Inj) (base : Nat) (w : World) (g : Nat) (win : Win) : ABlk → Prop
  | .cells g' ro ety cs => g' = g ∧ win.len = cs.length ∧ win.len ≤ win.ext ∧ (ro = true → win.blk < base) ∧ (ro = false → base ≤ win.blk ∧ win.off = 0) ∧
      ∃ (c : Array Value) (elem : TypeId) (fr : Nat × Nat), w.heap[win.blk]? = some (.cells c elem fr) ∧ win.off + win.ext ≤ c.size ∧
        (∀ (i : Nat) (x : AVal), cs[i]? = some x → ∃ v, c[win.off + i]? = some v ∧ VRel ι x v) ∧
        (ro = false → elem = ety ∧ ∀ i, i < win.ext → ¬ (fr.1 ≤ win.off + i ∧ win.off + i < fr.2))
  | .map es => g = 0 ∧ base ≤ win.blk ∧
      ∃ (ents : Array MapEntry) (clock : Nat), w.heap[win.blk]? = some (.map ents clock) ∧ ents.size = es.length ∧
        (∀ (i : Nat) (x : AVal × AVal), es[i]? = some x → ∃ e, ents[i]? = some e ∧ VRel ι x.1 e.key ∧ VRel ι x.2 e.val)

structure Rel (W0 : World) (ι : Inj) (H : AHeap) (w : World) : Prop where
  below : Below W0.heap.size W0 w
  blk : ∀ (r : Nat) (b : ABlk), H[r]? = some b → ∃ g win, ι r = some (g, win) ∧ BRel ι W0.heap.size w g win b
  dom : ∀ r, H.length ≤ r → ι r = none
  inj : ∀ r r' g g' win win', ι r = some (g, win) → ι r' = some (g', win') → win.blk = win'.blk → W0.heap.size ≤ win.blk → r = r'

theorem Rel.size {W0 : World} {ι : Inj} {H : AHeap} {w : World} (h : Rel W0 ι H w) : W0.heap.size ≤ w.heap.size := h.below.size

/-- A draw from the tape changes nothing. -/
theorem BRel.drewN {ι : Inj} {base : Nat} {w : World} {g : Nat} {win : Win} {b : ABlk} (h : BRel ι base w g win b) (n : Nat) : BRel ι base (w.drewN n) g win b := by
  cases b <;> exact h
theorem Rel.drewN {W0 : World} {ι : Inj} {H : AHeap} {w : World} (h : Rel W0 ι H w) (n : Nat) : Rel W0 ι H (w.drewN n) :=
  ⟨⟨h.below.os, h.below.tape, h.below.output, h.below.size, h.below.block⟩, fun r b hb => let ⟨g, win, h1, h2⟩ := h.blk r b hb; ⟨g, win, h1, h2.drewN n⟩, h.dom, h.inj⟩
theorem Rel.drew {W0 : World} {ι : Inj} {H : AHeap} {w : World} (h : Rel W0 ι H w) : Rel W0 ι H w.drew := h.drewN 1

/-! ### Reading -/

def aload (H : AHeap) (r g o : Nat) : Option AVal :=
  match H[r]? with
  | some (.cells g' _ _ cs) => if g = g' then cs[o]? else none
  | _ => none

theorem addr_add (b o j : Nat) : (⟨b, o, none⟩ : Addr).add j = ⟨b, o + j, none⟩ := by
  unfold Addr.add; split
  · rename_i h; simp [h]
  · rfl

theorem cell?_cells {w : World} {b : Nat} {c : Array Value} {e : TypeId} {fr : Nat × Nat} (h : w.heap[b]? = some (.cells c e fr)) (o : Nat) : w.cell? ⟨b, o, none⟩ = c[o]? := by
  simp [World.cell?, h]

theorem Rel.load {W0 : World} {ι : Inj} {H : AHeap} {w : World} (hR : Rel W0 ι H w) {r g o : Nat} {x : AVal} (h : aload H r g o = some x) :
    ∃ win, ι r = some (g, win) ∧ ∃ y, w.cell? ⟨win.blk, win.off + o, none⟩ = some y ∧ VRel ι x y := by
  unfold aload at h
  split at h
  · rename_i g' ro ety cs hb
    split at h
    · rename_i e; subst e
      obtain ⟨g2, win, h1, h2⟩ := hR.blk r _ hb
      obtain ⟨rfl, _, _, _, _, c, e, fr, hc, _, hcs, _⟩ := h2
      obtain ⟨y, hy, hv⟩ := hcs o x h
      exact ⟨win, h1, y, by rw [cell?_cells hc]; exact hy, hv⟩
    · cases h
  · cases h

theorem VRel.ptr_at {ι : Inj} {r g o : Nat} {v : Value} {win : Win} (h : VRel ι (.ptr r g o) v) (hw : ι r = some (g, win)) : v = .pointer (some ⟨win.blk, win.off + o, none⟩) := by
  simp only [VRel] at h
  obtain ⟨g', win', h1, _, _, h2⟩ := h
  rw [hw] at h1
  simp only [Option.some.injEq, Prod.mk.injEq] at h1
  obtain ⟨rfl, rfl⟩ := h1
  exact h2 rfl

/-! ### Writing one cell -/

def astore (H : AHeap) (r g o : Nat) (v : AVal) : Option AHeap :=
  match H[r]? with
  | some (.cells g' ro ety cs) => if g = g' ∧ ro = false ∧ o < cs.length ∧ v.one = true then some (H.set r (.cells g' ro ety (cs.set o v))) else none
  | _ => none

theorem VRel.oneCell {ι : Inj} {x : AVal} {v : Value} (h : VRel ι x v) (ho : x.one = true) : v.oneCell' = true := by
  cases x <;> simp only [AVal.one, VRel] at h ho
  case ptr => obtain ⟨_, _, _, _, ⟨a, rfl⟩, _⟩ := h; rfl
  case slice => obtain ⟨_, _, _, _, ⟨a, l, c, rfl⟩, _⟩ := h; rfl
  case map => obtain ⟨_, _, _, ⟨a, rfl⟩, _⟩ := h; rfl
  case eslice => obtain ⟨a, rfl⟩ := h; rfl
  case func => obtain ⟨l, rfl, _⟩ := h; rfl
  all_goals first
    | (subst h; rfl)
    | exact absurd ho (by decide)

end Go.Proofs.YtalbjkemcckokaaGreat.Ab

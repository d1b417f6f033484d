/- The abstract layer: slices that are one's own, and appending to them. Conditions: none; a library for the texts behind it. -/
import Derived.Test.YtalbjkemcckokaaGreatAr
namespace Go.Proofs.YtalbjkemcckokaaGreat.Ab
open Go.RowKit (Below)
set_option linter.unusedVariables false
set_option linter.unusedSimpArgs false

section
variable {H : AHeap} {r g e : Nat} {ro : Bool} {cs : List AVal}
theorem aload_at (h : H[r]? = some (.cells g ro e cs)) {o : Nat} : aload H r g o = cs[o]? := by simp [aload, h]
theorem ageOk_at (h : H[r]? = some (.cells g ro e cs)) : ageOk H r g = true := by simp [ageOk, h]
theorem aloads_at (h : H[r]? = some (.cells g ro e cs)) {o n : Nat} : aloads H r g o n = if o + n ≤ cs.length then some ((cs.drop o).take n) else none := by simp [aloads, h]
theorem astore_at (h : H[r]? = some (.cells g false e cs)) {o : Nat} {x : AVal} : astore H r g o x = if o < cs.length ∧ x.one = true then some (H.set r (.cells g false e (cs.set o x))) else none := by simp [astore, h]
theorem astores_at_all (h : H[r]? = some (.cells g false e cs)) {new : List AVal} (h1 : cs.length = new.length) (h2 : new.all AVal.one = true) : astores H r g 0 new = some (H.set r (.cells g false e new)) := by
  simpa using astores_fill (r := r) (g := g) (e := e) new [] cs H (by simpa using h) h1 h2
end

/-- A slice of one-cell elements that owns its block, a block from number m on: what is appended lies in this block, or in a new one. -/
def Own (m : Nat) (H : AHeap) (ety : Nat) (w : AVal) (xs : List AVal) : Prop :=
  (w = .nilslice ∧ xs = []) ∨ ∃ r g, m ≤ r ∧ w = .slice r g 0 xs.length 1 ∧ H[r]? = some (.cells g false ety xs)

section
variable {m ety : Nat} {H H' : AHeap} {w : AVal} {xs : List AVal}

theorem Own.sl (h : Own m H ety w xs) : Sl H w xs := by
  rcases h with ⟨rfl, rfl⟩ | ⟨r, g, hm, rfl, hb⟩
  · exact .inl ⟨rfl, rfl⟩
  · refine .inr (.inr ⟨r, g, 0, rfl, ?_⟩)
    simp [aloads, hb]

theorem Own.one (h : Own m H ety w xs) : w.one = true := by
  rcases h with ⟨rfl, rfl⟩ | ⟨r, g, hm, rfl, hb⟩ <;> rfl
theorem Own.known (h : Own m H ety w xs) : w.known = true := by
  rcases h with ⟨rfl, rfl⟩ | ⟨r, g, hm, rfl, hb⟩ <;> rfl
theorem Own.cells (h : Own m H ety w xs) : w.cells = [w] := by
  rcases h with ⟨rfl, rfl⟩ | ⟨r, g, hm, rfl, hb⟩ <;> rfl
theorem Own.target (h : Own m H ety w xs) {r : Nat} (ht : appTarget w r) : m ≤ r := by
  rcases h with ⟨rfl, rfl⟩ | ⟨r', g, hm, rfl, hb⟩
  · exact ht.elim
  · simp only [appTarget] at ht; omega

/-- It stays where nothing touches the blocks from m on but new ones. -/
theorem Own.keep (h : Own m H ety w xs) (hk : ∀ k, m ≤ k → k < H.length → H'[k]? = H[k]?) : Own m H' ety w xs := by
  rcases h with ⟨rfl, rfl⟩ | ⟨r, g, hm, rfl, hb⟩
  · exact .inl ⟨rfl, rfl⟩
  · exact .inr ⟨r, g, hm, rfl, by rw [hk r hm (List.getElem?_eq_some_iff.1 hb).1]; exact hb⟩
theorem Own.app (h : Own m H ety w xs) (L : AHeap) : Own m (H ++ L) ety w xs :=
  h.keep fun k _ hk => List.getElem?_append_left hk
theorem Own.mono {m' : Nat} (h : Own m H ety w xs) (hm : m' ≤ m) : Own m' H ety w xs := by
  rcases h with ⟨rfl, rfl⟩ | ⟨r, g, h1, rfl, hb⟩
  · exact .inl ⟨rfl, rfl⟩
  · exact .inr ⟨r, g, by omega, rfl, hb⟩

theorem Own.append (h : Own m H ety w xs) (hm : m ≤ H.length) {x : AVal} {new : List AVal} {n bytes : Nat} (hx : asrc H 1 x = some (new, n)) (hn : n = new.length) (ho : new.all AVal.one = true) (hr : (xs.length + n) * bytes ≤ roomLim) :
    ∃ w' H', aappend 1 bytes ety w x H = some (w', H') ∧ Own m H' ety w' (xs ++ new) ∧ H.length ≤ H'.length ∧ ∀ k, k < m → H'[k]? = H[k]? := by
  subst hn
  rcases h with ⟨rfl, rfl⟩ | ⟨r, g, h1, rfl, hb⟩
  · by_cases e : new.length = 0
    · refine ⟨.nilslice, H, by simp [aappend, hx, e], .inl ⟨rfl, by simp [List.eq_nil_of_length_eq_zero e]⟩, Nat.le_refl _, fun _ _ => rfl⟩
    · refine ⟨.slice H.length 0 0 new.length 1, H ++ [.cells 0 false ety new], ?_, .inr ⟨H.length, 0, hm, by simp, by simp⟩, by simp, fun k hk => List.getElem?_append_left (by omega)⟩
      simp only [List.length_nil, Nat.zero_add] at hr
      simp [aappend, hx, e, hr]
  · by_cases e : new.length = 0
    · have e2 := List.eq_nil_of_length_eq_zero e
      subst e2
      refine ⟨.slice r g 0 xs.length 1, H, ?_, .inr ⟨r, g, h1, by simp, by simpa using hb⟩, Nat.le_refl _, fun _ _ => rfl⟩
      simp [aappend, hx, hb, astores]
    · refine ⟨.slice r (g + 1) 0 (xs.length + new.length) 1, H.set r (.cells (g + 1) false ety (xs ++ new)), ?_, .inr ⟨r, g + 1, h1, by simp, ?_⟩, by simp, fun k hk => by rw [List.getElem?_set_ne (by omega)]⟩
      · simp only [aappend, hx, hb]
        rw [if_pos ⟨trivial, trivial, .inl trivial⟩, if_neg (by omega), if_pos ⟨trivial, trivial, by omega, hr, ho, trivial⟩]
        simp
      · rw [List.getElem?_set_self (List.getElem?_eq_some_iff.1 hb).1]

/-- The same, built one by one: the block's age tells how often it was moved. -/
def Own1 (m : Nat) (H : AHeap) (ety : Nat) (w : AVal) (xs : List AVal) : Prop :=
  (w = .nilslice ∧ xs = []) ∨ ∃ r, m ≤ r ∧ xs ≠ [] ∧ w = .slice r (xs.length - 1) 0 xs.length 1 ∧ H[r]? = some (.cells (xs.length - 1) false ety xs)

theorem Own1.own (h : Own1 m H ety w xs) : Own m H ety w xs := by
  rcases h with h | ⟨r, h1, _, h2, h3⟩
  · exact .inl h
  · exact .inr ⟨r, _, h1, h2, h3⟩
theorem Own1.keep (h : Own1 m H ety w xs) (hk : ∀ k, m ≤ k → k < H.length → H'[k]? = H[k]?) : Own1 m H' ety w xs := by
  rcases h with h | ⟨r, h1, h0, h2, h3⟩
  · exact .inl h
  · exact .inr ⟨r, h1, h0, h2, by rw [hk r h1 (List.getElem?_eq_some_iff.1 h3).1]; exact h3⟩
theorem Own1.app (h : Own1 m H ety w xs) (L : AHeap) : Own1 m (H ++ L) ety w xs :=
  h.keep fun k _ hk => List.getElem?_append_left hk

theorem Own1.append (h : Own1 m H ety w xs) (hm : m ≤ H.length) {x : AVal} {a : AVal} {bytes : Nat} (hx : asrc H 1 x = some ([a], 1)) (ho : a.one = true) (hr : (xs.length + 1) * bytes ≤ roomLim) :
    ∃ w' H', aappend 1 bytes ety w x H = some (w', H') ∧ Own1 m H' ety w' (xs ++ [a]) ∧ H.length ≤ H'.length ∧ ∀ k, k < m → H'[k]? = H[k]? := by
  rcases h with ⟨rfl, rfl⟩ | ⟨r, h1, h0, rfl, hb⟩
  · refine ⟨.slice H.length 0 0 1 1, H ++ [.cells 0 false ety [a]], ?_, .inr ⟨H.length, hm, by simp, by simp, by simp⟩, by simp, fun k hk => List.getElem?_append_left (by omega)⟩
    simp only [List.length_nil, Nat.zero_add] at hr
    simp only [Nat.one_mul] at hr
    simp [aappend, hx, hr]
  · have hp : xs.length ≠ 0 := fun e => h0 (List.eq_nil_of_length_eq_zero e)
    refine ⟨.slice r (xs.length - 1 + 1) 0 (xs.length + 1) 1, H.set r (.cells (xs.length - 1 + 1) false ety (xs ++ [a])), ?_, .inr ⟨r, h1, by simp, ?_, ?_⟩, by simp, fun k hk => by rw [List.getElem?_set_ne (by omega)]⟩
    · simp only [aappend, hx, hb]
      rw [if_pos ⟨trivial, trivial, .inl trivial⟩, if_neg (by omega), if_pos ⟨trivial, trivial, by omega, hr, by simp [ho], trivial⟩]
      simp
    · simp only [List.length_append, List.length_cons, List.length_nil]; congr 1; omega
    · rw [List.getElem?_set_self (List.getElem?_eq_some_iff.1 hb).1]
      simp only [List.length_append, List.length_cons, List.length_nil]; congr 2; omega

theorem Sl.keep {v : AVal} (h : Sl H v xs) (hk : ∀ k, k < H.length → H'[k]? = H[k]?) : Sl H' v xs := by
  rcases h with h | h | ⟨r, g, o, rfl, h⟩
  · exact .inl h
  · exact .inr (.inl h)
  · refine .inr (.inr ⟨r, g, o, rfl, ?_⟩)
    have hr : r < H.length := by
      unfold aloads at h
      split at h
      · rename_i hb; exact (List.getElem?_eq_some_iff.1 hb).1
      · cases h
    unfold aloads at h ⊢
    rw [hk r hr]; exact h
theorem Ints.keep {v : AVal} {l : List Int} (h : Ints H v l) (hk : ∀ k, k < H.length → H'[k]? = H[k]?) : Ints H' v l := Sl.keep h hk

theorem Own.src (h : Own m H ety w xs) : asrc H 1 w = some (xs, xs.length) := by
  rcases h with ⟨rfl, rfl⟩ | ⟨r, g, h1, rfl, hb⟩
  · rfl
  · simp [asrc, aloads, hb]
theorem Sl.src {v : AVal} (h : Sl H v xs) : asrc H 1 v = some (xs, xs.length) := by
  rcases h with ⟨rfl, rfl⟩ | ⟨rfl, rfl⟩ | ⟨r, g, o, rfl, h⟩
  · rfl
  · rfl
  · simp [asrc, h]
end

section
variable {Φ : Trans} {Wr : Nat → Prop} {K : Env → AHeap → Prop} {env : Env} {H : AHeap}
theorem e1_of {ov : Option (AVal × AHeap)} {o : EOp} {d : Option Nat} {l : List XIns} {v : AVal} {H' : AHeap} (h : ov = some (v, H')) (ht : ∀ r, o.target env r → Wr r) (hk : vcOps Φ Wr l K (env.put d v) H') : e1 Φ Wr ov o d l K env :=
  ⟨v, H', h, ht, hk⟩
end

/-- An array literal of one cell, on its own ('[]int{x}'). -/
def vBuild (H : AHeap) (ety z len : Nat) (cs : Option (List AVal)) : Option (AVal × AHeap) := match cs with
  | some cs => if cs.length = len * z then some (.slice H.length 0 0 len z, H ++ [.cells 0 false ety cs]) else none
  | none => none
@[simp] theorem vBuild_some {H : AHeap} {ety z len : Nat} {cs : List AVal} : vBuild H ety z len (some cs) = if cs.length = len * z then some (.slice H.length 0 0 len z, H ++ [.cells 0 false ety cs]) else none := rfl
@[simp ↓] theorem val_buildSlice {env : Env} {H : AHeap} {ety z len : Nat} {zero : List AVal} {parts : List (Nat × Nat × XOpd)} : EOp.val env H (.buildSlice ety z len zero parts) = vBuild H ety z len (afill env (zrep len zero) parts) := by
  simp only [EOp.val]; generalize afill env (zrep len zero) parts = u; cases u <;> rfl
@[simp ↓] theorem target_buildSlice {env : Env} {ety z len : Nat} {zero : List AVal} {parts : List (Nat × Nat × XOpd)} {i : Nat} : EOp.target env (.buildSlice ety z len zero parts) i = False := rfl
@[simp ↓] theorem val_build {env : Env} {H : AHeap} {zero : List AVal} {parts : List (Nat × Nat × XOpd)} : SOp.val env H (.build zero parts) = (afill env zero parts).map .agg := rfl
end Go.Proofs.YtalbjkemcckokaaGreat.Ab

/- Inflate: the codes of a dynamic block. Conditions: none; for the statements about layers 46 and 47. -/
import Derived.Test.YtdknddicpdhkcaaTh
namespace Go.Proofs.Ytdknddicpdhkcaa.Ab
set_option linter.unusedVariables false
set_option linter.unusedSimpArgs false

def rest51c : XCode := (.seq (.ops [⟨some 95, none, (.s (.move (.t 12)))⟩, ⟨some 96, none, (.call 63 [(.t 95)])⟩, ⟨some 97, none, (.s (.move (.t 13)))⟩, ⟨some 98, none, (.call 63 [(.t 97)])⟩, ⟨none, none, (.e (.store 18 (.t 2) (.t 96)))⟩, ⟨none, none, (.e (.store 18 (.t 3) (.t 98)))⟩]) .ret)
def rest51f : XCode := (.seq (.draw [⟨⟨some 68, none, (.s (.move (.t 11)))⟩, 0, []⟩, ⟨⟨some 69, none, (.s (.move (.t 4)))⟩, 1, []⟩, ⟨⟨some 70, none, (.s (.slice (.sl 1) (.t 68) none (some (.t 69))))⟩, 2, []⟩, ⟨⟨some 71, none, (.s (.move (.t 11)))⟩, 3, []⟩, ⟨⟨some 72, none, (.s (.move (.t 4)))⟩, 4, []⟩, ⟨⟨some 73, none, (.s (.slice (.sl 1) (.t 71) (some (.t 72)) none))⟩, 5, []⟩, ⟨⟨some 12, none, (.s (.move (.t 70)))⟩, 6, []⟩, ⟨⟨some 13, none, (.s (.move (.t 73)))⟩, 7, []⟩]) (.seq (.seq (.ops [⟨some 74, none, (.s (.move (.t 12)))⟩, ⟨some 75, none, (.call 64 [(.t 74)])⟩, ⟨some 76, none, (.s (.un .not (.t 75)))⟩, ⟨some 77, none, (.s (.move (.t 76)))⟩, ⟨some 78, some (77, false), (.s (.move (.t 12)))⟩, ⟨some 79, some (77, false), (.s (.idxS 1 (.t 78) (.c (.int .i64 256))))⟩, ⟨some 80, some (77, false), (.s (.load1 (.t 79)))⟩, ⟨some 81, some (77, false), (.s (.bin .eql (.t 80) (.c (.int .i64 0))))⟩, ⟨some 82, none, (.s (.pick (.t 77) (.c (.bool true)) (.t 81)))⟩, ⟨some 83, none, (.s (.move (.t 82)))⟩, ⟨some 84, some (83, false), (.s (.move (.t 13)))⟩, ⟨some 85, some (83, false), (.call 64 [(.t 84)])⟩, ⟨some 86, some (83, false), (.s (.un .not (.t 85)))⟩, ⟨some 87, some (83, false), (.s (.move (.t 86)))⟩, ⟨some 88, some (87, true), (.s (.move (.t 13)))⟩, ⟨some 89, some (87, true), (.call 66 [(.t 88)])⟩, ⟨some 90, some (87, true), (.s (.un .not (.t 89)))⟩, ⟨some 91, some (83, false), (.s (.pick (.t 87) (.t 90) (.c (.bool false))))⟩, ⟨some 92, none, (.s (.pick (.t 83) (.c (.bool true)) (.t 91)))⟩]) (.cond (.t 92) (.ops [⟨some 93, none, (.s (.move (.t 0)))⟩, ⟨some 94, none, (.call 52 [(.t 93), (.c (.int .i64 4))])⟩]) .skip)) rest51c))
def rest51e : XCode := (.seq (.ops [⟨some 56, none, (.s (.move (.t 0)))⟩, ⟨some 57, none, (.s (.move (.t 8)))⟩, ⟨some 58, none, (.call 63 [(.t 57)])⟩, ⟨some 59, none, (.s (.move (.t 4)))⟩, ⟨some 60, none, (.s (.move (.t 5)))⟩, ⟨some 61, none, (.s (.bin .add (.t 59) (.t 60)))⟩, ⟨some 62, none, (.call 65 [(.t 56), (.t 58), (.t 61)])⟩, ⟨some 11, none, (.s (.move (.t 62)))⟩]) (.seq (.seq (.ops [⟨some 63, none, (.s (.move (.t 0)))⟩, ⟨some 64, none, (.call 46 [(.t 63)])⟩, ⟨some 65, none, (.s (.un .not (.t 64)))⟩]) (.cond (.t 65) (.seq (.ops [⟨some 66, none, (.s (.build [(.int .i64 0), (.int .i64 0), (.int .i64 0), (.int .i64 0), (.int .i64 0), (.int .i64 0), (.int .i64 0), (.int .i64 0), (.int .i64 0), (.int .i64 0), (.int .i64 0), (.int .i64 0), (.int .i64 0), (.int .i64 0), (.int .i64 0), (.int .i64 0), .nilslice, (.int .i64 0)] []))⟩, ⟨some 67, none, (.s (.build [(.int .i64 0), (.int .i64 0), (.int .i64 0), (.int .i64 0), (.int .i64 0), (.int .i64 0), (.int .i64 0), (.int .i64 0), (.int .i64 0), (.int .i64 0), (.int .i64 0), (.int .i64 0), (.int .i64 0), (.int .i64 0), (.int .i64 0), (.int .i64 0), .nilslice, (.int .i64 0)] []))⟩, ⟨none, none, (.e (.store 18 (.t 2) (.t 66)))⟩, ⟨none, none, (.e (.store 18 (.t 3) (.t 67)))⟩]) .ret) .skip)) rest51f))
def rest51d : XCode := (.seq (.seq (.ops [⟨some 51, none, (.s (.move (.t 0)))⟩, ⟨some 52, none, (.call 46 [(.t 51)])⟩, ⟨some 53, none, (.s (.un .not (.t 52)))⟩]) (.cond (.t 53) (.seq (.ops [⟨some 54, none, (.s (.build [(.int .i64 0), (.int .i64 0), (.int .i64 0), (.int .i64 0), (.int .i64 0), (.int .i64 0), (.int .i64 0), (.int .i64 0), (.int .i64 0), (.int .i64 0), (.int .i64 0), (.int .i64 0), (.int .i64 0), (.int .i64 0), (.int .i64 0), (.int .i64 0), .nilslice, (.int .i64 0)] []))⟩, ⟨some 55, none, (.s (.build [(.int .i64 0), (.int .i64 0), (.int .i64 0), (.int .i64 0), (.int .i64 0), (.int .i64 0), (.int .i64 0), (.int .i64 0), (.int .i64 0), (.int .i64 0), (.int .i64 0), (.int .i64 0), (.int .i64 0), (.int .i64 0), (.int .i64 0), (.int .i64 0), .nilslice, (.int .i64 0)] []))⟩, ⟨none, none, (.e (.store 18 (.t 2) (.t 54)))⟩, ⟨none, none, (.e (.store 18 (.t 3) (.t 55)))⟩]) .ret) .skip)) rest51e)
def rest51b : XCode := (.seq (.seq (.ops [⟨some 46, none, (.s (.move (.t 8)))⟩, ⟨some 47, none, (.call 64 [(.t 46)])⟩, ⟨some 48, none, (.s (.un .not (.t 47)))⟩]) (.cond (.t 48) (.ops [⟨some 49, none, (.s (.move (.t 0)))⟩, ⟨some 50, none, (.call 52 [(.t 49), (.c (.int .i64 4))])⟩]) .skip)) rest51d)
def rest51a : XCode := (.seq (.ops [⟨some 31, none, (.s (.build [(.int .i64 0), (.int .i64 0), (.int .i64 0), (.int .i64 0), (.int .i64 0), (.int .i64 0), (.int .i64 0), (.int .i64 0), (.int .i64 0), (.int .i64 0), (.int .i64 0), (.int .i64 0), (.int .i64 0), (.int .i64 0), (.int .i64 0), (.int .i64 0), (.int .i64 0), (.int .i64 0), (.int .i64 0)] [(0, 1, (.c (.int .i64 16))), (1, 1, (.c (.int .i64 17))), (2, 1, (.c (.int .i64 18))), (3, 1, (.c (.int .i64 0))), (4, 1, (.c (.int .i64 8))), (5, 1, (.c (.int .i64 7))), (6, 1, (.c (.int .i64 9))), (7, 1, (.c (.int .i64 6))), (8, 1, (.c (.int .i64 10))), (9, 1, (.c (.int .i64 5))), (10, 1, (.c (.int .i64 11))), (11, 1, (.c (.int .i64 4))), (12, 1, (.c (.int .i64 12))), (13, 1, (.c (.int .i64 3))), (14, 1, (.c (.int .i64 13))), (15, 1, (.c (.int .i64 2))), (16, 1, (.c (.int .i64 14))), (17, 1, (.c (.int .i64 1))), (18, 1, (.c (.int .i64 15)))]))⟩, ⟨some 7, none, (.e (.new 85 [(.int .i64 0), (.int .i64 0), (.int .i64 0), (.int .i64 0), (.int .i64 0), (.int .i64 0), (.int .i64 0), (.int .i64 0), (.int .i64 0), (.int .i64 0), (.int .i64 0), (.int .i64 0), (.int .i64 0), (.int .i64 0), (.int .i64 0), (.int .i64 0), (.int .i64 0), (.int .i64 0), (.int .i64 0)]))⟩, ⟨none, none, (.e (.store 19 (.t 7) (.t 31)))⟩]) (.seq (.ops [⟨some 32, none, (.e (.makeSlice 3 1 8 [(.int .i64 0)] (.c (.int .i64 19)) (.c (.int .i64 19))))⟩, ⟨some 8, none, (.s (.move (.t 32)))⟩]) (.seq (.seq (.ops [⟨some 33, none, (.s (.move (.t 6)))⟩, ⟨some 34, none, (.s (.slice (.arr 19 1) (.t 7) none (some (.t 33))))⟩, ⟨some 35, none, (.s (.lenSl (.t 34)))⟩, ⟨some 36, none, (.s (.move (.c (.int .i64 0))))⟩]) (.block 0 (.loop (.seq (.ops [⟨some 37, none, (.s (.bin .lss (.t 36) (.t 35)))⟩]) (.seq (.cond (.t 37) .skip (.exit 0)) (.seq (.block 1 (.seq (.ops [⟨some 38, none, (.s (.idxS 1 (.t 34) (.t 36)))⟩, ⟨some 39, none, (.s (.load1 (.t 38)))⟩, ⟨some 10, none, (.s (.move (.t 39)))⟩]) (.ops [⟨some 40, none, (.s (.move (.t 8)))⟩, ⟨some 41, none, (.s (.move (.t 10)))⟩, ⟨some 42, none, (.s (.move (.t 0)))⟩, ⟨some 43, none, (.call 47 [(.t 42), (.c (.int .i64 3))])⟩, ⟨some 44, none, (.s (.idxS 1 (.t 40) (.t 41)))⟩, ⟨none, none, (.e (.store 1 (.t 44) (.t 43)))⟩]))) (.ops [⟨some 45, none, (.s (.bin .add (.t 36) (.c (.int .i64 1))))⟩, ⟨some 36, none, (.s (.move (.t 45)))⟩]))))))) rest51b)))
def x51s : XFun := ⟨99, [(.cellN 2 18), (.cellN 3 18)], (.seq (.ops [⟨some 2, none, (.e (.new 69 [(.int .i64 0), (.int .i64 0), (.int .i64 0), (.int .i64 0), (.int .i64 0), (.int .i64 0), (.int .i64 0), (.int .i64 0), (.int .i64 0), (.int .i64 0), (.int .i64 0), (.int .i64 0), (.int .i64 0), (.int .i64 0), (.int .i64 0), (.int .i64 0), .nilslice, (.int .i64 0)]))⟩, ⟨some 3, none, (.e (.new 69 [(.int .i64 0), (.int .i64 0), (.int .i64 0), (.int .i64 0), (.int .i64 0), (.int .i64 0), (.int .i64 0), (.int .i64 0), (.int .i64 0), (.int .i64 0), (.int .i64 0), (.int .i64 0), (.int .i64 0), (.int .i64 0), (.int .i64 0), (.int .i64 0), .nilslice, (.int .i64 0)]))⟩]) (.seq (.ops [⟨some 14, none, (.s (.move (.t 0)))⟩, ⟨some 15, none, (.call 47 [(.t 14), (.c (.int .i64 5))])⟩, ⟨some 16, none, (.s (.bin .add (.t 15) (.c (.int .i64 257))))⟩, ⟨some 4, none, (.s (.move (.t 16)))⟩]) (.seq (.ops [⟨some 17, none, (.s (.move (.t 0)))⟩, ⟨some 18, none, (.call 47 [(.t 17), (.c (.int .i64 5))])⟩, ⟨some 19, none, (.s (.bin .add (.t 18) (.c (.int .i64 1))))⟩, ⟨some 5, none, (.s (.move (.t 19)))⟩]) (.seq (.ops [⟨some 20, none, (.s (.move (.t 0)))⟩, ⟨some 21, none, (.call 47 [(.t 20), (.c (.int .i64 4))])⟩, ⟨some 22, none, (.s (.bin .add (.t 21) (.c (.int .i64 4))))⟩, ⟨some 6, none, (.s (.move (.t 22)))⟩]) (.seq (.seq (.ops [⟨some 23, none, (.s (.move (.t 4)))⟩, ⟨some 24, none, (.s (.bin .gtr (.t 23) (.c (.int .i64 286))))⟩, ⟨some 25, none, (.s (.move (.t 24)))⟩, ⟨some 26, some (25, false), (.s (.move (.t 5)))⟩, ⟨some 27, some (25, false), (.s (.bin .gtr (.t 26) (.c (.int .i64 30))))⟩, ⟨some 28, none, (.s (.pick (.t 25) (.c (.bool true)) (.t 27)))⟩]) (.cond (.t 28) (.ops [⟨some 29, none, (.s (.move (.t 0)))⟩, ⟨some 30, none, (.call 52 [(.t 29), (.c (.int .i64 4))])⟩]) .skip)) rest51a)))))⟩
theorem x51s_ok : xfun Try.prog Try.f51 = some x51s := x51_ok

section
variable {B : Nat → Prop} {s : List UInt8} {t : St} {w bw v : AVal} {most p : Nat} {H : AHeap} {l bl : List Int} {fp : Nat → Prop}

/-- What a call that yields two books comes to. -/
def twoBooks (H : AHeap) (p : Nat) (s : List UInt8) (w : AVal) (most : Nat) (r : (List Int × List Int) × St) (v : AVal) (H' : AHeap) : Prop :=
  ∃ lw dw, v = .tuple [.agg (bookCells r.1.1 lw (mostG r.1.1 15)), .agg (bookCells r.1.2 dw (mostG r.1.2 15))] ∧ Ints H' lw (ordG r.1.1 15) ∧ Ints H' dw (ordG r.1.2 15) ∧
    (∀ r, appTarget lw r → H.length ≤ r) ∧ (∀ r, appTarget dw r → H.length ≤ r) ∧ H'[p]? = some (rdBlk s r.2 w most)

theorem bookCells_one {w : AVal} (h : w.one = true) {m : Int} : (bookCells l w m).all AVal.one = true := by simp [bookCells, h]
theorem zeroBook : [.int .i64 0, .int .i64 0, .int .i64 0, .int .i64 0, .int .i64 0, .int .i64 0, .int .i64 0, .int .i64 0, .int .i64 0, .int .i64 0, .int .i64 0, .int .i64 0, .int .i64 0, .int .i64 0, .int .i64 0, .int .i64 0, .nilslice, .int .i64 0] = bookCells [] .nilslice (mostG [] 15) := by kernel_rfl

def o19 : List AVal := ord19.map fun k : Nat => .int .i64 k

def inv51 (G : AHeap) (p : Nat) (s : List UInt8) (t : St) (w : AVal) (most : Nat) (N lit dist q : Nat) (n : Nat) (env : Env) (H' : AHeap) : Prop :=
  ∃ i, i ≤ N ∧ n = N - i ∧ H' = G.set p (rdBlk s (shM s t i).2 w most) ++ [.cells 0 false 85 o19, .cells 0 false 3 ((shM s t i).1.map (.int .i64))] ∧
    env 0 = .ptr p 0 0 ∧ env 2 = .ptr q 0 0 ∧ env 3 = .ptr (q + 1) 0 0 ∧ env 4 = .int .i64 lit ∧ env 5 = .int .i64 dist ∧ env 8 = .slice (G.length + 1) 0 0 19 1 ∧ env 34 = .slice G.length 0 0 N 1 ∧ env 35 = .int .i64 N ∧ env 36 = .int .i64 i

theorem zeroBook2 : [.int .i64 0, .int .i64 0, .int .i64 0, .int .i64 0, .int .i64 0, .int .i64 0, .int .i64 0, .int .i64 0, .int .i64 0, .int .i64 0, .int .i64 0, .int .i64 0, .int .i64 0, .int .i64 0, .int .i64 0, .int .i64 0, .nilslice, .int .i64 0] = bookCells [] .nilslice 0 := by kernel_rfl

theorem rest51c_ok {res : (List Int × List Int) × St} {H8 : AHeap} {env' : Env} {z0 z1 : List AVal} {av bv : AVal} (hpl : p < H.length) (hp8 : H8[p]? = some (rdBlk s res.2 w most)) (hz0 : H8[H.length]? = some (.cells 0 false 69 z0)) (hl0 : z0.length = 18) (hz1 : H8[H.length + 1]? = some (.cells 0 false 69 z1)) (hl1 : z1.length = 18)
    (ia : Ints H8 av res.1.1) (ib : Ints H8 bv res.1.2) (la : res.1.1.length ≤ 1000) (lb : res.1.2.length ≤ 1000) (ra : ∀ k ∈ res.1.1, 0 ≤ k ∧ k ≤ 15) (rb : ∀ k ∈ res.1.2, 0 ≤ k ∧ k ≤ 15) (e2 : env' 2 = .ptr H.length 0 0) (e3 : env' 3 = .ptr (H.length + 1) 0 0) (e12 : env' 12 = av) (e13 : env' 13 = bv) :
    vc (ACall Try.prog) (fun r => r = p ∨ H.length ≤ r) rest51c (rpost [.cellN 2 18, .cellN 3 18] (twoBooks H p s w most res)) env' H8 := by
  have hl8 := (List.getElem?_eq_some_iff.1 hz1).1
  unfold rest51c
  simp (config := {contextual := true, implicitDefEqProofs := false}) (disch := omega) [e2, e3, e12, e13]
  refine call1_of (newBook_raw ia la ra) (fun r h => h.elim) ?_
  rintro v H9 ⟨w1, rfl, hw1⟩ hl9 hf9
  simp (config := {contextual := true, implicitDefEqProofs := false}) (disch := omega) [e2, e3, e12, e13]
  have ib9 : Ints H9 bv res.1.2 := ib.keepAt fun r _ h => hf9 r h (fun h => h)
  refine call1_of (newBook_raw ib9 lb rb) (fun r h => h.elim) ?_
  rintro v H10 ⟨w2, rfl, hw2⟩ hl10 hf10
  have hz0' : H10[H.length]? = some (.cells 0 false 69 z0) := by rw [hf10 _ (by omega) (fun h => h), hf9 _ (by omega) (fun h => h)]; exact hz0
  have hz1' : H10[H.length + 1]? = some (.cells 0 false 69 z1) := by rw [hf10 _ (by omega) (fun h => h), hf9 _ (by omega) (fun h => h)]; exact hz1
  obtain ⟨H11, H12, g1, g2, f5, f6, hl12, hf12⟩ := stores2 hz0' hl0 hz1' hl1 (by omega) (B1 := bookCells res.1.1 w1 (mostG res.1.1 15)) (B2 := bookCells res.1.2 w2 (mostG res.1.2 15)) (by simp) (by simp) (bookCells_one hw1.own.one) (bookCells_one hw2.own.one)
  simp (config := {contextual := true, implicitDefEqProofs := false}) (disch := omega) [e2, e3, g1, g2, resVal, f5, f6]
  refine ⟨w1, w2, rfl, ?_, ?_, ?_, ?_, ?_⟩
  · refine hw1.own.sl.keepAt fun r hr hrl => ?_
    have h2 := hw1.own.target hr
    rw [hf12 r (by omega) (by omega)]
    exact hf10 r hrl (fun h => h)
  · refine hw2.own.sl.keepAt fun r hr hrl => ?_
    have h2 := hw2.own.target hr
    exact hf12 r (by omega) (by omega)
  · intro r hr; have h2 := hw1.own.target hr; omega
  · intro r hr; have h2 := hw2.own.target hr; omega
  · rw [hf12 p (by omega) (by omega), hf10 p (by omega) (fun h => h), hf9 p (by omega) (fun h => h)]; exact hp8

theorem rest51f_ok {r : List Int × St} {lit : Nat} {H7 : AHeap} {env' : Env} {z0 z1 : List AVal} {lv : AVal} (hpl : p < H.length) (hp7 : H7[p]? = some (rdBlk s r.2 w most)) (hz0 : H7[H.length]? = some (.cells 0 false 69 z0)) (hl0 : z0.length = 18) (hz1 : H7[H.length + 1]? = some (.cells 0 false 69 z1)) (hl1 : z1.length = 18)
    (he : r.2.err = 0) (il : Ints H7 lv r.1) (ll : r.1.length ≤ 900) (rl : ∀ k ∈ r.1, 0 ≤ k ∧ k ≤ 15) (hlv : ∀ r, appTarget lv r → H.length + 2 ≤ r) (hlit : 257 ≤ lit) (hlit2 : lit ≤ r.1.length)
    (e0 : env' 0 = .ptr p 0 0) (e2 : env' 2 = .ptr H.length 0 0) (e3 : env' 3 = .ptr (H.length + 1) 0 0) (e4 : env' 4 = .int .i64 lit) (e11 : env' 11 = lv) :
    vc (ACall Try.prog) (fun r => r = p ∨ H.length ≤ r) rest51f (rpost [.cellN 2 18, .cellN 3 18] (twoBooks H p s w most (dynD lit r))) env' H7 := by
  have hl7 := (List.getElem?_eq_some_iff.1 hz1).1
  rw [dynD, if_neg (by simp [he])]
  obtain ⟨av, ha1, ha2, ha3⟩ := Sl.take il (k := .i64) (n := lit) (by simpa using hlit2)
  obtain ⟨bv, hb1, hb2, hb3⟩ := Sl.drop il (k := .i64) (n := lit) (by simpa using hlit2)
  rw [← List.map_take] at ha2
  rw [← List.map_drop] at hb2
  have ha : Ints H7 av (r.1.take lit) := ha2
  have hb : Ints H7 bv (r.1.drop lit) := hb2
  have hal : (r.1.take lit).length = lit := by simp; omega
  have hbl : (r.1.drop lit).length ≤ 900 := by simp; omega
  have har : ∀ k ∈ r.1.take lit, 0 ≤ k ∧ k ≤ 15 := fun k hk => rl k (List.mem_of_mem_take hk)
  have hbr : ∀ k ∈ r.1.drop lit, 0 ≤ k ∧ k ≤ 15 := fun k hk => rl k (List.mem_of_mem_drop hk)
  have hav : ∀ r, appTarget av r → H.length + 2 ≤ r := fun r h => hlv r (ha3 r h)
  have hbv : ∀ r, appTarget bv r → H.length + 2 ≤ r := fun r h => hlv r (hb3 r h)
  generalize r.1.take lit = la at *
  generalize r.1.drop lit = lb at *
  have hix : vIdx H7 1 av (.int .i64 256) = some (av.at 256) := ha.idx (k := .i64) (n := 256) (by omega)
  have hld := ha.load (n := 256) (by omega)
  have hgd : la[256]'(by omega) = la.getD 256 0 := by rw [List.getD_eq_getElem?_getD, List.getElem?_eq_getElem (by omega)]; rfl
  have tail : ∀ (t8 : St) (env2 : Env), (if dynBad la lb then failM 4 r.2 else r.2) = t8 → env2 2 = .ptr H.length 0 0 → env2 3 = .ptr (H.length + 1) 0 0 → env2 12 = av → env2 13 = bv →
      vc (ACall Try.prog) (fun r => r = p ∨ H.length ≤ r) rest51c (rpost [.cellN 2 18, .cellN 3 18] (twoBooks H p s w most ((la, lb), if dynBad la lb then failM 4 r.2 else r.2))) env2 (H7.set p (rdBlk s t8 w most)) := by
    intro t8 env2 h8 f2 f3 f12 f13
    rw [h8]
    have hk : ∀ k, k ≠ p → (H7.set p (rdBlk s t8 w most))[k]? = H7[k]? := fun k h => List.getElem?_set_ne (Ne.symm h)
    exact rest51c_ok hpl (List.getElem?_set_self (by omega)) (by rw [hk _ (by omega)]; exact hz0) hl0 (by rw [hk _ (by omega)]; exact hz1) hl1
      (ha.keepAt fun r h _ => hk r (by have := hav r h; omega)) (hb.keepAt fun r h _ => hk r (by have := hbv r h; omega)) (by simp only []; omega) (by simp only []; omega) har hbr f2 f3 f12 f13
  have hsame : H7 = H7.set p (rdBlk s r.2 w most) := (set_same hp7).symm
  unfold rest51f
  by_cases c1 : complG la
  · by_cases c2 : la[256]'(by omega) = 0
    · have hbad : dynBad la lb := .inr (.inl (by rw [← hgd]; exact c2))
      simp (config := {contextual := true, implicitDefEqProofs := false}) (disch := omega) [e0, e2, e3, e4, e11, ha1, hb1]
      refine call1_eq (compl_ok ha (by omega)) ?_
      simp (config := {contextual := true, implicitDefEqProofs := false}) (disch := omega) [e0, e2, e3, e4, e11, c1, hix, hld, c2]
      refine call1_eq ((fail_ok hp7).use (fun r h => Or.inl (Or.inl h)) fun v H' q _ _ => q) ?_
      simp (config := {contextual := true, implicitDefEqProofs := false}) (disch := omega) [e0, e2, e3, e4, e11]
      exact tail _ _ (by rw [if_pos hbad]) (by simp [e2]) (by simp [e3]) (by simp) (by simp)
    · by_cases c3 : complG lb
      · have hbad : ¬ dynBad la lb := by
          rintro (h | h | h)
          · exact h c1
          · rw [← hgd] at h; exact c2 h
          · exact h.1 c3
        simp (config := {contextual := true, implicitDefEqProofs := false}) (disch := omega) [e0, e2, e3, e4, e11, ha1, hb1]
        refine call1_eq (compl_ok ha (by omega)) ?_
        simp (config := {contextual := true, implicitDefEqProofs := false}) (disch := omega) [e0, e2, e3, e4, e11, c1, hix, hld, c2]
        refine call1_eq (compl_ok hb (by omega)) ?_
        simp (config := {contextual := true, implicitDefEqProofs := false}) (disch := omega) [e0, e2, e3, e4, e11, c1, hix, hld, c2, c3]
        have := tail r.2
        rw [← hsame] at this
        exact this _ (by rw [if_neg hbad]) (by simp [e2]) (by simp [e3]) (by simp) (by simp)
      · by_cases c4 : fewG lb
        · have hbad : ¬ dynBad la lb := by
            rintro (h | h | h)
            · exact h c1
            · rw [← hgd] at h; exact c2 h
            · exact h.2 c4
          simp (config := {contextual := true, implicitDefEqProofs := false}) (disch := omega) [e0, e2, e3, e4, e11, ha1, hb1]
          refine call1_eq (compl_ok ha (by omega)) ?_
          simp (config := {contextual := true, implicitDefEqProofs := false}) (disch := omega) [e0, e2, e3, e4, e11, c1, hix, hld, c2]
          refine call1_eq (compl_ok hb (by omega)) ?_
          simp (config := {contextual := true, implicitDefEqProofs := false}) (disch := omega) [e0, e2, e3, e4, e11, c1, hix, hld, c2, c3]
          refine call1_eq (few_ok hb (by omega) hbr) ?_
          simp (config := {contextual := true, implicitDefEqProofs := false}) (disch := omega) [e0, e2, e3, e4, e11, c1, hix, hld, c2, c3, c4]
          have := tail r.2
          rw [← hsame] at this
          exact this _ (by rw [if_neg hbad]) (by simp [e2]) (by simp [e3]) (by simp) (by simp)
        · have hbad : dynBad la lb := .inr (.inr ⟨c3, c4⟩)
          simp (config := {contextual := true, implicitDefEqProofs := false}) (disch := omega) [e0, e2, e3, e4, e11, ha1, hb1]
          refine call1_eq (compl_ok ha (by omega)) ?_
          simp (config := {contextual := true, implicitDefEqProofs := false}) (disch := omega) [e0, e2, e3, e4, e11, c1, hix, hld, c2]
          refine call1_eq (compl_ok hb (by omega)) ?_
          simp (config := {contextual := true, implicitDefEqProofs := false}) (disch := omega) [e0, e2, e3, e4, e11, c1, hix, hld, c2, c3]
          refine call1_eq (few_ok hb (by omega) hbr) ?_
          simp (config := {contextual := true, implicitDefEqProofs := false}) (disch := omega) [e0, e2, e3, e4, e11, c1, hix, hld, c2, c3, c4]
          refine call1_eq ((fail_ok hp7).use (fun r h => Or.inl (Or.inl h)) fun v H' q _ _ => q) ?_
          simp (config := {contextual := true, implicitDefEqProofs := false}) (disch := omega) [e0, e2, e3, e4, e11]
          exact tail _ _ (by rw [if_pos hbad]) (by simp [e2]) (by simp [e3]) (by simp) (by simp)
  · have hbad : dynBad la lb := .inl c1
    simp (config := {contextual := true, implicitDefEqProofs := false}) (disch := omega) [e0, e2, e3, e4, e11, ha1, hb1]
    refine call1_eq (compl_ok ha (by omega)) ?_
    simp (config := {contextual := true, implicitDefEqProofs := false}) (disch := omega) [e0, e2, e3, e4, e11, c1]
    refine call1_eq ((fail_ok hp7).use (fun r h => Or.inl (Or.inl h)) fun v H' q _ _ => q) ?_
    simp (config := {contextual := true, implicitDefEqProofs := false}) (disch := omega) [e0, e2, e3, e4, e11]
    exact tail _ _ (by rw [if_pos hbad]) (by simp [e2]) (by simp [e3]) (by simp) (by simp)

/-- No books, for an error. -/
theorem zero_ret {Z : List AVal} (hZ : bookCells [] .nilslice (mostG [] 15) = Z) {H5 : AHeap} {z0 z1 : List AVal} {t5 : St} (hpl : p < H.length) (hp5 : H5[p]? = some (rdBlk s t5 w most)) (hz0 : H5[H.length]? = some (.cells 0 false 69 z0)) (hl0 : z0.length = 18) (hz1 : H5[H.length + 1]? = some (.cells 0 false 69 z1)) (hl1 : z1.length = 18) :
    ∃ H3 H4, vStore H5 18 (.agg Z) (.ptr H.length 0 0) = some (.tuple [], H3) ∧ vStore H3 18 (.agg Z) (.ptr (H.length + 1) 0 0) = some (.tuple [], H4) ∧ aloads H4 H.length 0 0 18 = some Z ∧
      aloads H4 (H.length + 1) 0 0 18 = some Z ∧ twoBooks H p s w most (([], []), t5) (.tuple [.agg Z, .agg Z]) H4 := by
  obtain ⟨H3, H4, g1, g2, f5, f6, hl12, hf12⟩ := stores2 hz0 hl0 hz1 hl1 (by omega) (B1 := Z) (B2 := Z) (by rw [← hZ]; simp) (by rw [← hZ]; simp) (by rw [← hZ]; exact bookCells_one rfl) (by rw [← hZ]; exact bookCells_one rfl)
  refine ⟨H3, H4, g1, g2, f5, f6, .nilslice, .nilslice, ?_, .inl ⟨rfl, ?_⟩, .inl ⟨rfl, ?_⟩, fun r h => h.elim, fun r h => h.elim, by rw [hf12 p (by omega) (by omega)]; exact hp5⟩
  · simp only [hZ]
  · kernel_rfl
  · kernel_rfl

theorem rest51d_ok {short : List Int} {t5 : St} {lit dist : Nat} {H5 : AHeap} {env' : Env} {z0 z1 : List AVal} {sv : AVal} (hs : s.length ≤ 2 ^ 50) (hpl : p < H.length) (hp5 : H5[p]? = some (rdBlk s t5 w most)) (hz0 : H5[H.length]? = some (.cells 0 false 69 z0)) (hl0 : z0.length = 18) (hz1 : H5[H.length + 1]? = some (.cells 0 false 69 z1)) (hl1 : z1.length = 18)
    (hat : t5.at' ≤ 8 * s.length) (is : Ints H5 sv short) (lsh : short.length = 19) (rsh : ∀ k ∈ short, 0 ≤ k ∧ k ≤ 15) (hlit : 257 ≤ lit) (hlit2 : lit ≤ 300) (hdist : 1 ≤ dist) (hdist2 : dist ≤ 50)
    (e0 : env' 0 = .ptr p 0 0) (e2 : env' 2 = .ptr H.length 0 0) (e3 : env' 3 = .ptr (H.length + 1) 0 0) (e4 : env' 4 = .int .i64 lit) (e5 : env' 5 = .int .i64 dist) (e8 : env' 8 = sv) :
    vc (ACall Try.prog) (fun r => r = p ∨ H.length ≤ r) rest51d (rpost [.cellN 2 18, .cellN 3 18] (twoBooks H p s w most (dynC s lit dist short t5))) env' H5 := by
  have hl5 := (List.getElem?_eq_some_iff.1 hz1).1
  unfold rest51d rest51e
  rw [zeroBook]
  generalize hZ : bookCells [] .nilslice (mostG [] 15) = Z
  simp (config := {contextual := true, implicitDefEqProofs := false}) (disch := omega) [e0, e2, e3, e4, e5, e8]
  refine call1_eq (ok_ok hp5) ?_
  by_cases c1 : t5.err = 0
  · rw [dynC, if_neg (show ¬ t5.err ≠ 0 by simp [c1])]
    simp (config := {contextual := true, implicitDefEqProofs := false}) (disch := omega) [e0, e2, e3, e4, e5, e8, c1]
    refine call1_of (newBook_raw is (by omega) rsh) (fun r h => h.elim) ?_
    rintro v H6 ⟨bw, rfl, hbw⟩ hl6 hf6
    have a1 : abin .add (.int .i64 (lit : Int)) (.int .i64 (dist : Int)) = some (.int .i64 ((lit + dist : Nat) : Int)) := by rw [abin_add, i64_id (by omega) (by omega)]; rfl
    simp (config := {contextual := true, implicitDefEqProofs := false}) (disch := omega) [e0, e2, e3, e4, e5, e8, c1, a1, -abin_add, -Int.natCast_add]
    have hp6 : H6[p]? = some (rdBlk s t5 w most) := by rw [hf6 p (by omega) (fun h => h)]; exact hp5
    have hlf := lenF_facts s (bl := short) (N := lit + dist) (t := t5) (by omega) hat
    refine call1_of (lens_ok hp6 hs hat hbw.own.sl (fun c => by have := hbw.own.target c; omega) (by omega) (N := lit + dist) (by omega)) (fun r h => .inl (.inl h)) ?_
    rintro v H7 ⟨il, hlv, hp7⟩ hl7 hf7
    have hz0' : H7[H.length]? = some (.cells 0 false 69 z0) := by rw [hf7 _ (by omega) (by omega), hf6 _ (by omega) (fun h => h)]; exact hz0
    have hz1' : H7[H.length + 1]? = some (.cells 0 false 69 z1) := by rw [hf7 _ (by omega) (by omega), hf6 _ (by omega) (fun h => h)]; exact hz1
    generalize lenF s short (lit + dist) t5 = r at *
    simp (config := {contextual := true, implicitDefEqProofs := false}) (disch := omega) [e0, e2, e3, e4, e5, e8, c1]
    refine call1_eq (ok_ok hp7) ?_
    by_cases c2 : r.2.err = 0
    · simp (config := {contextual := true, implicitDefEqProofs := false}) (disch := omega) [e0, e2, e3, e4, e5, e8, c2]
      have hN := (hlf.2.2.2.2.2 c2).1
      have ll : r.1.length ≤ 900 := by omega
      have hv2 : ∀ r, appTarget v r → H.length + 2 ≤ r := fun r h => by have := hlv r h; omega
      have hN2 : lit ≤ r.1.length := by omega
      refine rest51f_ok (r := r) (lit := lit) (lv := v) hpl hp7 hz0' hl0 hz1' hl1 c2 il ll hlf.1 hv2 hlit hN2 (by simp [e0]) (by simp [e2]) (by simp [e3]) (by simp [e4]) (by simp)
    · obtain ⟨H3, H4, g1, g2, f5, f6, hT⟩ := zero_ret hZ hpl hp7 hz0' hl0 hz1' hl1
      simp (config := {contextual := true, implicitDefEqProofs := false}) (disch := omega) [e0, e2, e3, e4, e5, e8, c2, g1, g2, resVal, f5, f6, afill]
      rw [dynD, if_pos c2]; exact hT
  · rw [dynC, if_pos c1]
    obtain ⟨H3, H4, g1, g2, f5, f6, hT⟩ := zero_ret hZ hpl hp5 hz0 hl0 hz1 hl1
    simp (config := {contextual := true, implicitDefEqProofs := false}) (disch := omega) [e0, e2, e3, e4, e5, e8, c1, g1, g2, resVal, f5, f6, afill]
    exact hT

theorem rest51b_ok {sh : List Int × St} {lit dist : Nat} {H5 : AHeap} {env' : Env} {z0 z1 : List AVal} {sv : AVal} (hs : s.length ≤ 2 ^ 50) (hpl : p < H.length) (hp5 : H5[p]? = some (rdBlk s sh.2 w most)) (hz0 : H5[H.length]? = some (.cells 0 false 69 z0)) (hl0 : z0.length = 18) (hz1 : H5[H.length + 1]? = some (.cells 0 false 69 z1)) (hl1 : z1.length = 18)
    (hat : sh.2.at' ≤ 8 * s.length) (is : Ints H5 sv sh.1) (lsh : sh.1.length = 19) (rsh : ∀ k ∈ sh.1, 0 ≤ k ∧ k ≤ 15) (hsv : ∀ r, appTarget sv r → r ≠ p) (hlit : 257 ≤ lit) (hlit2 : lit ≤ 300) (hdist : 1 ≤ dist) (hdist2 : dist ≤ 50)
    (e0 : env' 0 = .ptr p 0 0) (e2 : env' 2 = .ptr H.length 0 0) (e3 : env' 3 = .ptr (H.length + 1) 0 0) (e4 : env' 4 = .int .i64 lit) (e5 : env' 5 = .int .i64 dist) (e8 : env' 8 = sv) :
    vc (ACall Try.prog) (fun r => r = p ∨ H.length ≤ r) rest51b (rpost [.cellN 2 18, .cellN 3 18] (twoBooks H p s w most (dynB s lit dist sh))) env' H5 := by
  have hl5 := (List.getElem?_eq_some_iff.1 hz1).1
  unfold rest51b
  simp (config := {contextual := true, implicitDefEqProofs := false}) (disch := omega) [e0, e2, e3, e4, e5, e8]
  refine call1_eq (compl_ok is (by omega)) ?_
  by_cases c1 : complG sh.1
  · rw [dynB, if_pos c1]
    simp (config := {contextual := true, implicitDefEqProofs := false}) (disch := omega) [e0, e2, e3, e4, e5, e8, c1]
    exact rest51d_ok hs hpl hp5 hz0 hl0 hz1 hl1 hat is lsh rsh hlit hlit2 hdist hdist2 (by simp [e0]) (by simp [e2]) (by simp [e3]) (by simp [e4]) (by simp [e5]) (by simp [e8])
  · rw [dynB, if_neg c1]
    simp (config := {contextual := true, implicitDefEqProofs := false}) (disch := omega) [e0, e2, e3, e4, e5, e8, c1]
    refine call1_eq ((fail_ok hp5).use (fun r h => Or.inl (Or.inl h)) fun v H' q _ _ => q) ?_
    simp (config := {contextual := true, implicitDefEqProofs := false}) (disch := omega) [e0, e2, e3, e4, e5, e8, c1]
    have hk : ∀ k, k ≠ p → (H5.set p (rdBlk s (failM 4 sh.2) w most))[k]? = H5[k]? := fun k h => List.getElem?_set_ne (Ne.symm h)
    exact rest51d_ok hs hpl (List.getElem?_set_self (by omega)) (by rw [hk _ (by omega)]; exact hz0) hl0 (by rw [hk _ (by omega)]; exact hz1) hl1 (by simpa using hat) (is.keepAt fun r h _ => hk r (hsv r h)) lsh rsh hlit hlit2 hdist hdist2 (by simp [e0]) (by simp [e2]) (by simp [e3]) (by simp [e4]) (by simp [e5]) (by simp [e8])

theorem rest51a_ok {t4 : St} {lit dist N : Nat} {G : AHeap} {env' : Env} {z0 z1 : List AVal} (hs : s.length ≤ 2 ^ 50) (hpl : p < H.length) (hpG : G[p]? = some (rdBlk s t4 w most)) (hGl : G.length = H.length + 2) (hz0 : G[H.length]? = some (.cells 0 false 69 z0)) (hl0 : z0.length = 18) (hz1 : G[H.length + 1]? = some (.cells 0 false 69 z1)) (hl1 : z1.length = 18)
    (hat : t4.at' ≤ 8 * s.length) (hN : N ≤ 19) (hlit : 257 ≤ lit) (hlit2 : lit ≤ 300) (hdist : 1 ≤ dist) (hdist2 : dist ≤ 50)
    (e0 : env' 0 = .ptr p 0 0) (e2 : env' 2 = .ptr H.length 0 0) (e3 : env' 3 = .ptr (H.length + 1) 0 0) (e4 : env' 4 = .int .i64 lit) (e5 : env' 5 = .int .i64 dist) (e6 : env' 6 = .int .i64 N) :
    vc (ACall Try.prog) (fun r => r = p ∨ H.length ≤ r) rest51a (rpost [.cellN 2 18, .cellN 3 18] (twoBooks H p s w most (dynB s lit dist (shM s t4 N)))) env' G := by
  have hst : ∀ (z : List AVal), z.length = 19 → astores (G ++ [.cells 0 false 85 z]) G.length 0 0 o19 = some (G ++ [.cells 0 false 85 o19]) := by
    intro z hz
    rw [astores_new0, astores_all (hz.trans (by rfl)) (by kernel_rfl)]; rfl
  have ho19 : o19 = [.int .i64 16, .int .i64 17, .int .i64 18, .int .i64 0, .int .i64 8, .int .i64 7, .int .i64 9, .int .i64 6, .int .i64 10, .int .i64 5, .int .i64 11, .int .i64 4, .int .i64 12, .int .i64 3, .int .i64 13, .int .i64 2, .int .i64 14, .int .i64 1, .int .i64 15] := rfl
  have hst2 := hst [.int .i64 0, .int .i64 0, .int .i64 0, .int .i64 0, .int .i64 0, .int .i64 0, .int .i64 0, .int .i64 0, .int .i64 0, .int .i64 0, .int .i64 0, .int .i64 0, .int .i64 0, .int .i64 0, .int .i64 0, .int .i64 0, .int .i64 0, .int .i64 0, .int .i64 0] rfl
  rw [ho19] at hst2
  have hO : ∀ (A S : ABlk), (G.set p A ++ [.cells 0 false 85 o19, S])[G.length]? = some (.cells 0 false 85 o19) := by intro A S; rw [List.getElem?_append_right (by simp)]; simp
  have hS : ∀ (A O S : ABlk), (G.set p A ++ [O, S])[G.length + 1]? = some S := by intro A O S; rw [List.getElem?_append_right (by simp)]; simp
  have hP : ∀ (A O S : ABlk), (G.set p A ++ [O, S])[p]? = some A := by intro A O S; rw [List.getElem?_append_left (by simp; omega), List.getElem?_set_self (by omega)]
  have hset1 : ∀ (A A' O S : ABlk), (G.set p A ++ [O, S]).set p A' = G.set p A' ++ [O, S] := by intro A A' O S; rw [List.set_append_left _ _ (by simp; omega), List.set_set]
  have hset2 : ∀ (A O S S' : ABlk), (G.set p A ++ [O, S]).set (G.length + 1) S' = G.set p A ++ [O, S'] := by intro A O S S'; rw [List.set_append_right _ _ (by simp)]; simp
  have hkeep : ∀ (A O S : ABlk) k, k < G.length → k ≠ p → (G.set p A ++ [O, S])[k]? = G[k]? := by intro A O S k h1 h2; rw [List.getElem?_append_left (by simpa using h1), List.getElem?_set_ne (Ne.symm h2)]
  unfold rest51a
  have hsl : ∀ S : ABlk, vSlArr (G ++ [.cells 0 false 85 o19, S]) 19 1 (.ptr G.length 0 0) none (some (.int .i64 N)) = some (.slice G.length 0 0 N 1) := fun S => vSlArr_hi (r := G.length) (cs := o19) (e := 85) (ro := false) (by simp) rfl hN
  rw [ho19] at hsl
  simp (config := {contextual := true, implicitDefEqProofs := false}) (disch := omega) [e0, e2, e3, e4, e5, e6, afill, hst2, roomLim, zrep_one, hsl]
  rw [← ho19]
  refine ⟨by omega, ?_⟩
  refine vc_loop (inv51 G p s t4 w most N lit dist H.length) N ⟨0, by omega, by omega, by simp [shM, set_same hpG], by simp [e0], by simp [e2], by simp [e3], by simp [e4], by simp [e5], by simp, by simp, by simp, by simp⟩ ?_
  rintro n env H1 ⟨i, hi, rfl, rfl, f0, f2, f3, f4, f5, f8, f34, f35, f36⟩
  obtain ⟨g1, g2, g3, g4, g5⟩ := shM_facts s t4 hat i
  by_cases hlt : i < N
  · have hbl := bitsM_lt s 3 (shM s t4 i).2
    have hgO := ageOk_at (hO (rdBlk s (shM s t4 i).2 w most) (.cells 0 false 3 ((shM s t4 i).1.map (.int .i64))))
    have hld : aload (G.set p (rdBlk s (shM s t4 i).2 w most) ++ [.cells 0 false 85 o19, .cells 0 false 3 ((shM s t4 i).1.map (.int .i64))]) G.length 0 i = some (.int .i64 ((ord19.getD i 0 : Nat) : Int)) := by
      rw [aload_at (hO _ _)]
      simp only [o19, List.getElem?_map]
      have h19 : ord19.length = 19 := rfl
      rw [List.getD_eq_getElem?_getD, List.getElem?_eq_getElem (by omega)]; rfl
    have ho : ord19.getD i 0 < 19 := by
      have h19 : ∀ x ∈ ord19, x < 19 := by decide
      have hl19 : ord19.length = 19 := rfl
      rw [List.getD_eq_getElem?_getD, List.getElem?_eq_getElem (by omega)]
      exact h19 _ (List.getElem_mem _)
    have hsh1 : (shM s t4 (i + 1)).1 = (shM s t4 i).1.set (ord19.getD i 0) (bitsM s 3 (shM s t4 i).2).1 := rfl
    have hsh2 : (shM s t4 (i + 1)).2 = (bitsM s 3 (shM s t4 i).2).2 := rfl
    generalize ord19.getD i 0 = o at *
    simp (config := {contextual := true, implicitDefEqProofs := false}) (disch := omega) [f0, f2, f3, f4, f5, f8, f34, f35, f36, hlt, hgO, hld, show (i : Int) < N by omega]
    refine call1_eq ((bits_ok (hP _ _ _) (N := 3) (by omega) hs g3).use (fun r h => Or.inl (Or.inl h)) fun v H' q _ _ => q) ?_
    rw [hset1, ← hsh2]
    have hgS := ageOk_at (hS (rdBlk s (shM s t4 (i + 1)).2 w most) (.cells 0 false 85 o19) (.cells 0 false 3 ((shM s t4 i).1.map (.int .i64))))
    have hsto : astore (G.set p (rdBlk s (shM s t4 (i + 1)).2 w most) ++ [.cells 0 false 85 o19, .cells 0 false 3 ((shM s t4 i).1.map (.int .i64))]) (G.length + 1) 0 o (.int .i64 ((bitsM s 3 (shM s t4 i).2).1 : Nat)) = some (G.set p (rdBlk s (shM s t4 (i + 1)).2 w most) ++ [.cells 0 false 85 o19, .cells 0 false 3 ((shM s t4 (i + 1)).1.map (.int .i64))]) := by
      rw [astore_at (hS _ _ _), if_pos ⟨by simp [g1]; omega, rfl⟩, hset2, hsh1, List.map_set]
    simp (config := {contextual := true, implicitDefEqProofs := false}) (disch := omega) [f0, f2, f3, f4, f5, f8, f34, f35, f36, hgS, hsto, ho, i64_id, show (o : Int) < 19 by omega]
    refine ⟨by omega, ?_⟩
    exact again_iff (N - (i + 1)) (by omega) ⟨i + 1, by omega, rfl, rfl, by simp [f0], by simp [f2], by simp [f3], by simp [f4], by simp [f5], by simp [f8], by simp [f34], by simp [f35], by simp⟩
  · have hiN : i = N := by omega
    subst hiN
    simp (config := {contextual := true, implicitDefEqProofs := false}) (disch := omega) [f0, f2, f3, f4, f5, f8, f34, f35, f36]
    refine rest51b_ok (z0 := z0) (z1 := z1) (sv := .slice (G.length + 1) 0 0 19 1) hs hpl (hP _ _ _) (by rw [hkeep _ _ _ _ (by omega) (by omega)]; exact hz0) hl0 (by rw [hkeep _ _ _ _ (by omega) (by omega)]; exact hz1) hl1 g3 ?_ g1 g2 ?_ hlit hlit2 hdist hdist2 (by simp [f0]) (by simp [f2]) (by simp [f3]) (by simp [f4]) (by simp [f5]) (by simp [f8])
    · refine .inr (.inr ⟨G.length + 1, 0, 0, by simp [g1], ?_⟩)
      rw [aloads_at (hS _ _ _)]
      simp
      exact List.take_of_length_le (by simp)
    · intro r hr
      simp only [appTarget] at hr
      omega

theorem dyn_ok (hp : H[p]? = some (rdBlk s t w most)) (hs : s.length ≤ 2 ^ 50) (hat : t.at' ≤ 8 * s.length) :
    ACall Try.prog 51 [.ptr p 0 0] H (fun r => r = p) fun v H' => twoBooks H p s w most (dynM s t) v H' := by
  refine acall_of hmix Try.func51 x51s_ok (by simp) ?_
  have hpl := (List.getElem?_eq_some_iff.1 hp).1
  rw [zeroBook]
  generalize hZ : bookCells [] .nilslice (mostG [] 15) = Z
  have hZl : Z.length = 18 := by rw [← hZ]; simp
  have h1 := bitsM_at s 5 t hat
  have h2 := bitsM_at s 5 (bitsM s 5 t).2 h1.1
  have h3 := bitsM_at s 4 (bitsM s 5 (bitsM s 5 t).2).2 h2.1
  have l1 := bitsM_lt s 5 t
  have l2 := bitsM_lt s 5 (bitsM s 5 t).2
  have l3 := bitsM_lt s 4 (bitsM s 5 (bitsM s 5 t).2).2
  have hW : ∀ {b : ABlk}, (H ++ [ABlk.cells 0 false 69 Z, ABlk.cells 0 false 69 Z]).set p b = H.set p b ++ [ABlk.cells 0 false 69 Z, ABlk.cells 0 false 69 Z] := fun {b} => List.set_append_left _ _ hpl
  have hW2 : ∀ {a b : ABlk}, (H.set p a ++ [ABlk.cells 0 false 69 Z, ABlk.cells 0 false 69 Z]).set p b = H.set p b ++ [ABlk.cells 0 false 69 Z, ABlk.cells 0 false 69 Z] := fun {a b} => by rw [List.set_append_left _ _ (by simpa using hpl), List.set_set]
  have hP : ∀ {a : ABlk}, (H.set p a ++ [ABlk.cells 0 false 69 Z, ABlk.cells 0 false 69 Z])[p]? = some a := fun {a} => by rw [List.getElem?_append_left (by simpa using hpl), List.getElem?_set_self hpl]
  have hG1 : ∀ {a : ABlk}, (H.set p a ++ [ABlk.cells 0 false 69 Z, ABlk.cells 0 false 69 Z])[H.length]? = some (.cells 0 false 69 Z) := by intro a; rw [List.getElem?_append_right (by simp)]; simp
  have hG2 : ∀ {a : ABlk}, (H.set p a ++ [ABlk.cells 0 false 69 Z, ABlk.cells 0 false 69 Z])[H.length + 1]? = some (.cells 0 false 69 Z) := by intro a; rw [List.getElem?_append_right (by simp)]; simp
  simp
  refine call1_eq ((bits_ok (p := p) (s := s) (t := t) (w := w) (most := most) (N := 5) (by rw [List.getElem?_append_left hpl]; exact hp) (by omega) hs hat).use (fun r h => Or.inl (Or.inl h)) fun v H' q _ _ => q) ?_
  rw [hW]
  have a1 : abin .add (.int .i64 (((bitsM s 5 t).1 : Nat) : Int)) (.int .i64 257) = some (.int .i64 (((bitsM s 5 t).1 + 257 : Nat) : Int)) := by rw [abin_add, i64_id (by omega) (by omega)]; rfl
  have a2 : abin .add (.int .i64 (((bitsM s 5 (bitsM s 5 t).2).1 : Nat) : Int)) (.int .i64 1) = some (.int .i64 (((bitsM s 5 (bitsM s 5 t).2).1 + 1 : Nat) : Int)) := by rw [abin_add, i64_id (by omega) (by omega)]; rfl
  have a3 : abin .add (.int .i64 (((bitsM s 4 (bitsM s 5 (bitsM s 5 t).2).2).1 : Nat) : Int)) (.int .i64 4) = some (.int .i64 (((bitsM s 4 (bitsM s 5 (bitsM s 5 t).2).2).1 + 4 : Nat) : Int)) := by rw [abin_add, i64_id (by omega) (by omega)]; rfl
  simp (config := {contextual := true, implicitDefEqProofs := false}) (disch := omega) [a1, -abin_add, -Int.natCast_add]
  refine call1_eq ((bits_ok (N := 5) hP (by omega) hs h1.1).use (fun r h => Or.inl (Or.inl h)) fun v H' q _ _ => q) ?_
  rw [hW2]
  simp (config := {contextual := true, implicitDefEqProofs := false}) (disch := omega) [a2, -abin_add, -Int.natCast_add]
  refine call1_eq ((bits_ok (N := 4) hP (by omega) hs h2.1).use (fun r h => Or.inl (Or.inl h)) fun v H' q _ _ => q) ?_
  rw [hW2]
  unfold dynM
  generalize hlit : (bitsM s 5 t).1 + 257 = lit at *
  generalize hdist : (bitsM s 5 (bitsM s 5 t).2).1 + 1 = dist at *
  generalize hN : (bitsM s 4 (bitsM s 5 (bitsM s 5 t).2).2).1 + 4 = N at *
  generalize ht3 : (bitsM s 4 (bitsM s 5 (bitsM s 5 t).2).2).2 = t3 at *
  generalize (bitsM s 4 (bitsM s 5 (bitsM s 5 t).2).2).1 = b4 at *
  generalize ht4 : (if 286 < lit ∨ 30 < dist then failM 4 t3 else t3) = t4
  have hat4 : t4.at' ≤ 8 * s.length := by rw [← ht4]; split; (simp; omega); omega
  by_cases hb1 : 286 < lit
  · have e4 : failM 4 t3 = t4 := by rw [← ht4, if_pos (.inl hb1)]
    simp (config := {contextual := true, implicitDefEqProofs := false}) (disch := omega) [a3, show (286 : Int) < lit by omega, -abin_add, -Int.natCast_add]
    refine call1_eq ((fail_ok hP).use (fun r h => Or.inl (Or.inl h)) fun v H' q _ _ => q) ?_
    rw [e4, hW2]
    simp (config := {contextual := true, implicitDefEqProofs := false}) (disch := omega)
    exact rest51a_ok hs hpl hP (by simp) hG1 hZl hG2 hZl hat4 (by omega) (by omega) (by omega) (by omega) (by omega) (by simp) (by simp) (by simp) (by simp) (by simp) (by simp)
  · by_cases hb2 : 30 < dist
    · have e4 : failM 4 t3 = t4 := by rw [← ht4, if_pos (.inr hb2)]
      simp (config := {contextual := true, implicitDefEqProofs := false}) (disch := omega) [a3, show ¬ (286 : Int) < lit by omega, show (30 : Int) < dist by omega, -abin_add, -Int.natCast_add]
      refine call1_eq ((fail_ok hP).use (fun r h => Or.inl (Or.inl h)) fun v H' q _ _ => q) ?_
      rw [e4, hW2]
      simp (config := {contextual := true, implicitDefEqProofs := false}) (disch := omega)
      exact rest51a_ok hs hpl hP (by simp) hG1 hZl hG2 hZl hat4 (by omega) (by omega) (by omega) (by omega) (by omega) (by simp) (by simp) (by simp) (by simp) (by simp) (by simp)
    · have e4 : t3 = t4 := by rw [← ht4, if_neg (by omega)]
      rw [e4]
      simp (config := {contextual := true, implicitDefEqProofs := false}) (disch := omega) [a3, show ¬ (286 : Int) < lit by omega, show ¬ (30 : Int) < dist by omega, -abin_add, -Int.natCast_add]
      exact rest51a_ok hs hpl hP (by simp) hG1 hZl hG2 hZl hat4 (by omega) (by omega) (by omega) (by omega) (by omega) (by simp) (by simp) (by simp) (by simp) (by simp) (by simp)
end
end Go.Proofs.Ytdknddicpdhkcaa.Ab

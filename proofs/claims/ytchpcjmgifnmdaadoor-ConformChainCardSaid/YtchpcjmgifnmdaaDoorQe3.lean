/- Part 3 of a proof: conformChain holds for every input; no condition. -/
import Derived.Test.YtchpcjmgifnmdaaDoorProg
import Derived.KernelRfl
import Derived.DeepKeys3
import Derived.Test.YtchpcjmgifnmdaaDoorRows
import Derived.Test.YtchpcjmgifnmdaaDoorCards
import Derived.Test.YtchpcjmgifnmdaaDoorTie
import Derived.ProofKit
import Derived.OpenShut
import Derived.SizedLaws
import Derived.Deep.DeepHandedRow
import Derived.Lib.LaidTab
import Derived.Test.YtchpcjmgifnmdaaDoorGl
import Derived.Test.YtchpcjmgifnmdaaDoorAb0
import Derived.Test.YtchpcjmgifnmdaaDoorAb1
import Derived.Test.YtchpcjmgifnmdaaDoorAb2
import Derived.Test.YtchpcjmgifnmdaaDoorAb3
import Derived.Test.YtchpcjmgifnmdaaDoorAb4
import Derived.Test.YtchpcjmgifnmdaaDoorAb5
import Derived.Test.YtchpcjmgifnmdaaDoorAb6
import Derived.Test.YtchpcjmgifnmdaaDoorAb7
import Derived.Test.YtchpcjmgifnmdaaDoorAb8
import Derived.Test.YtchpcjmgifnmdaaDoorAb8a
import Derived.Test.YtchpcjmgifnmdaaDoorAb8b
import Derived.Test.YtchpcjmgifnmdaaDoorAb8c
import Derived.Test.YtchpcjmgifnmdaaDoorAb8m
import Derived.Test.YtchpcjmgifnmdaaDoorAb8d
import Derived.Test.YtchpcjmgifnmdaaDoorAb9
import Derived.Test.YtchpcjmgifnmdaaDoorAb10
import Derived.Test.YtchpcjmgifnmdaaDoorAb11
import Derived.Test.YtchpcjmgifnmdaaDoorAb12
import Derived.Test.YtchpcjmgifnmdaaDoorAb13
import Derived.Test.YtchpcjmgifnmdaaDoorAb14
import Derived.Test.YtchpcjmgifnmdaaDoorAb15
import Derived.Test.YtchpcjmgifnmdaaDoorAb16
import Derived.Test.YtchpcjmgifnmdaaDoorAb17
import Derived.Test.YtchpcjmgifnmdaaDoorAb18
import Derived.Test.YtchpcjmgifnmdaaDoorAb19
import Derived.Test.YtchpcjmgifnmdaaDoorAb20
import Derived.Test.YtchpcjmgifnmdaaDoorAb23
import Derived.Test.YtchpcjmgifnmdaaDoorQe2
set_option linter.unusedSimpArgs false
set_option linter.unusedVariables false
set_option linter.defProp false
/- Walks: the reference's deaf states; the law of checks. -/
namespace Go.Proofs.YtchpcjmgifnmdaaDoor
open Go Go.Proofs.YtchpcjmgifnmdaaDoor.Ab
set_option maxRecDepth 100000
set_option linter.unusedSimpArgs false

structure WA (x : Re) (r : List Int) : Prop where
  nd : r.Nodup
  lt : ∀ b ∈ r, 0 ≤ b ∧ b < x.st
  ra : ∀ b ∈ x.s0 :: r, RchA x b.toNat
theorem WA.len {x : Re} (hx : Ok x) {r : List Int} (h : WA x r) : r.length ≤ 10 := by
  have := hx.st
  exact nodup_i 10 r h.nd fun b hb => by have := h.lt b hb; omega
theorem WA.start (x : Re) : WA x [] := ⟨List.nodup_nil, fun _ h => by simp at h, fun b hb => by simp at hb; subst hb; exact .start⟩
theorem WA.add {x : Re} (hx : Ok x) {r : List Int} (h : WA x r) {m : Mv} (hm : m ∈ x.mv) (hf : m.fr ∈ x.s0 :: r) (hn : m.to ∉ x.s0 :: r) : WA x (r ++ [m.to]) := by
  have hmo := hx.mv m hm
  refine ⟨?_, fun b hb => ?_, fun b hb => ?_⟩
  · rw [List.nodup_append]
    refine ⟨h.nd, by simp, fun a ha b hb => ?_⟩
    simp only [List.mem_singleton] at hb
    subst hb
    intro e; subst e; exact hn (List.mem_cons_of_mem _ ha)
  · rcases List.mem_append.mp hb with hb | hb
    · exact h.lt b hb
    · simp only [List.mem_singleton] at hb; subst hb; exact hmo.to
  · rw [← List.cons_append] at hb
    rcases List.mem_append.mp hb with hb | hb
    · exact h.ra b hb
    · simp only [List.mem_singleton] at hb; subst hb
      exact .step hm (h.ra _ hf)
theorem WA.all {x : Re} (hx : Ok x) {r : List Int} (h : WA x r) (hc : ∀ a ∈ x.s0 :: r, ∀ m ∈ x.mv, m.fr = a → m.to ∈ x.s0 :: r) (s : Nat) : decide ((s : Int) ∈ x.s0 :: r) = (rchd x).testBit s := by
  rw [Bool.eq_iff_iff, decide_eq_true_eq, rchd_bit hx]
  constructor
  · intro hm
    have := h.ra _ hm
    rwa [Int.toNat_natCast] at this
  · intro hr
    induction hr with
    | start => have := hx.s0; rw [Int.toNat_of_nonneg this.1]; exact List.mem_cons_self
    | @step m hm _ ih =>
      have hmo := hx.mv m hm
      rw [Int.toNat_of_nonneg hmo.to.1]
      rw [Int.toNat_of_nonneg hmo.fr.1] at ih
      exact hc _ ih m hm rfl
def WB (x : Re) (L : List Int) : Prop := ∃ r, L = x.s0 :: r ∧ WA x r
theorem WB.len {x : Re} (hx : Ok x) {L : List Int} (h : WB x L) : 0 < L.length ∧ L.length ≤ 11 := by
  obtain ⟨r, rfl, h⟩ := h
  have := h.len hx
  simp; omega
theorem WB.start (x : Re) : WB x [x.s0] := ⟨[], rfl, WA.start x⟩
theorem WB.add {x : Re} (hx : Ok x) {L : List Int} (h : WB x L) {m : Mv} (hm : m ∈ x.mv) (hf : m.fr ∈ L) (hn : m.to ∉ L) : WB x (L ++ [m.to]) := by
  obtain ⟨r, rfl, h⟩ := h
  exact ⟨r ++ [m.to], rfl, h.add hx hm hf hn⟩
theorem WB.all {x : Re} (hx : Ok x) {L : List Int} (h : WB x L) (hc : ∀ a ∈ L, ∀ m ∈ x.mv, m.fr = a → m.to ∈ L) (s : Nat) : decide ((s : Int) ∈ L) = (rchd x).testBit s := by
  obtain ⟨r, rfl, h⟩ := h
  exact h.all hx hc s
/-- a list that is full, or grows -/
def GrowF (H : AH) (a : AV) (l : List Int) : Prop := a = .lst 1 (l.map intR) .full ∨ ∃ t, t < H.next ∧ a = .lst 1 (l.map intR) (.live t) ∧ H.tip t = some l.length
theorem GrowF.lst {H : AH} {a : AV} {l : List Int} (h : GrowF H a l) : ∃ tip, a = .lst 1 (l.map intR) tip := by
  rcases h with h | ⟨t, _, h, _⟩
  · exact ⟨_, h⟩
  · exact ⟨_, h⟩
def deafO (o : Option (Nat × Nat)) : AV := match o with
  | some p => .tup [.v (.int .i64 (p.1 : Nat)), .v (.int .i64 (p.2 : Nat)), .v (.bool true)]
  | none => .tup [.v (.int .i64 0), .v (.int .i64 0), .v (.bool false)]
end Go.Proofs.YtchpcjmgifnmdaaDoor

/- Walks: what is small; the least relation. -/
namespace Go.Proofs.YtchpcjmgifnmdaaDoor
open Go Go.Proofs.YtchpcjmgifnmdaaDoor.Ab
set_option maxRecDepth 100000
set_option linter.unusedSimpArgs false

def fewB (x : Re) : Bool := decide (errR x ≠ 0) || (decide (x.st ≤ 6) && decide (x.inp ≤ 2) && decide (x.out ≤ 2) && decide (x.mv.length ≤ 20))
theorem few16 (x : Re) : FCall Tryd.prog 16 [reV x] (· = .v (.bool (fewB x))) := by
  simp only [reV, reL, mvsV]
  refine ACall.enter [] Cd.fn16 (by simp) ?_
  simp only [Cd.cd16, Tk.t16, base0, base1, base2, base3, Option.isNone_none, Option.isNone_some, Nat.reduceBEq, true_or, or_true, false_or, or_false, Nat.reduceLT, Nat.reduceMod, Nat.reducePow, rmaps, nsucc, List.flatten_cons, List.flatten_nil, Nat.reduceEqDiff, Nat.reduceLeDiff, Nat.reduceAdd, Nat.reduceMul, Nat.reduceSub, ↓reduceIte, reduceCtorEq, decide_true, decide_false]
  first | refine FCall.go (err27 x) (FZs.one (FZ.reV x)) ?_ | refine FCall.go' (err27 x) (FZs.one (FZ.reV x)) ?_ | refine FCall.goQ (err27 x) (FZs.one (FZ.reV x)) ?_
  by_cases h1 : errR x = 0
  · have hb : fewB x = (decide (x.st ≤ 6) && decide (x.inp ≤ 2) && decide (x.out ≤ 2) && decide (x.mv.length ≤ 20)) := by unfold fewB; rw [decide_eq_false (by simpa using h1), Bool.false_or]
    rw [hb]
    by_cases h2 : x.st ≤ 6
    · by_cases h3 : x.inp ≤ 2
      · by_cases h4 : x.out ≤ 2
        · by_cases h5 : x.mv.length ≤ 20
          · simp only [List.length_map, show (errR x != 0) = false from by rw [h1]; rfl, decide_eq_true h2, decide_eq_true h3, decide_eq_true h4, show decide (((x.mv.length : Nat) : Int) ≤ 20) = true from decide_eq_true (by omega), Cd.cd16, Tk.t16, base0, base1, base2, base3, Option.isNone_none, Option.isNone_some, Nat.reduceBEq, true_or, or_true, false_or, or_false, Nat.reduceLT, Nat.reduceMod, Nat.reducePow, rmaps, nsucc, List.flatten_cons, List.flatten_nil, Nat.reduceEqDiff, Nat.reduceLeDiff, Nat.reduceAdd, Nat.reduceMul, Nat.reduceSub, ↓reduceIte, reduceCtorEq, decide_true, decide_false]
            exact fin_v (by simp [h5])
          · simp only [List.length_map, show (errR x != 0) = false from by rw [h1]; rfl, decide_eq_true h2, decide_eq_true h3, decide_eq_true h4, show decide (((x.mv.length : Nat) : Int) ≤ 20) = false from decide_eq_false (by omega), Cd.cd16, Tk.t16, base0, base1, base2, base3, Option.isNone_none, Option.isNone_some, Nat.reduceBEq, true_or, or_true, false_or, or_false, Nat.reduceLT, Nat.reduceMod, Nat.reducePow, rmaps, nsucc, List.flatten_cons, List.flatten_nil, Nat.reduceEqDiff, Nat.reduceLeDiff, Nat.reduceAdd, Nat.reduceMul, Nat.reduceSub, ↓reduceIte, reduceCtorEq, decide_true, decide_false]
            exact fin_v (by simp [h5])
        · simp only [List.length_map, show (errR x != 0) = false from by rw [h1]; rfl, decide_eq_true h2, decide_eq_true h3, decide_eq_false h4, Cd.cd16, Tk.t16, base0, base1, base2, base3, Option.isNone_none, Option.isNone_some, Nat.reduceBEq, true_or, or_true, false_or, or_false, Nat.reduceLT, Nat.reduceMod, Nat.reducePow, rmaps, nsucc, List.flatten_cons, List.flatten_nil, Nat.reduceEqDiff, Nat.reduceLeDiff, Nat.reduceAdd, Nat.reduceMul, Nat.reduceSub, ↓reduceIte, reduceCtorEq, decide_true, decide_false]
          exact fin_v (by simp)
      · simp only [List.length_map, show (errR x != 0) = false from by rw [h1]; rfl, decide_eq_true h2, decide_eq_false h3, Cd.cd16, Tk.t16, base0, base1, base2, base3, Option.isNone_none, Option.isNone_some, Nat.reduceBEq, true_or, or_true, false_or, or_false, Nat.reduceLT, Nat.reduceMod, Nat.reducePow, rmaps, nsucc, List.flatten_cons, List.flatten_nil, Nat.reduceEqDiff, Nat.reduceLeDiff, Nat.reduceAdd, Nat.reduceMul, Nat.reduceSub, ↓reduceIte, reduceCtorEq, decide_true, decide_false]
        exact fin_v (by simp)
    · simp only [List.length_map, show (errR x != 0) = false from by rw [h1]; rfl, decide_eq_false h2, Cd.cd16, Tk.t16, base0, base1, base2, base3, Option.isNone_none, Option.isNone_some, Nat.reduceBEq, true_or, or_true, false_or, or_false, Nat.reduceLT, Nat.reduceMod, Nat.reducePow, rmaps, nsucc, List.flatten_cons, List.flatten_nil, Nat.reduceEqDiff, Nat.reduceLeDiff, Nat.reduceAdd, Nat.reduceMul, Nat.reduceSub, ↓reduceIte, reduceCtorEq, decide_true, decide_false]
      exact fin_v (by simp)
  · simp only [bneT h1, Cd.cd16, Tk.t16, base0, base1, base2, base3, Option.isNone_none, Option.isNone_some, Nat.reduceBEq, true_or, or_true, false_or, or_false, Nat.reduceLT, Nat.reduceMod, Nat.reducePow, rmaps, nsucc, List.flatten_cons, List.flatten_nil, Nat.reduceEqDiff, Nat.reduceLeDiff, Nat.reduceAdd, Nat.reduceMul, Nat.reduceSub, ↓reduceIte, reduceCtorEq, decide_true, decide_false]
    exact fin_v (by unfold fewB; rw [decide_eq_true h1]; rfl)
def enR (p : Nd) : List AV := [setV p.x, setV p.y]
theorem FZs.enR (p : Nd) : FZs (enR p) := FZs.two (FZ.setV _) (FZ.setV _)
def relL (l : List Nd) : AV := .lst 2 (l.map enR) .unk
theorem FZ.relL (l : List Nd) : FZ (relL l) := FZ.lst rfl fun r hr => by
  obtain ⟨x, _, rfl⟩ := List.mem_map.mp hr
  exact FZs.enR x
def relO (o : Option (List Int)) (l : List Nd) : AV := match o with
  | some _ => .tup [nilS, .v (.int .i64 29)]
  | none => if 300 < l.length then .tup [nilS, .v (.int .i64 32)] else .tup [relL l, .v (.int .i64 0)]
noncomputable def relV (x y : Re) : AV := if bothR x y ≠ 0 then .tup [nilS, .v (.int .i64 (bothR x y))] else relO (resN x y).1 (resN x y).2
end Go.Proofs.YtchpcjmgifnmdaaDoor

/- Walks: the reference's search. -/
namespace Go.Proofs.YtchpcjmgifnmdaaDoor
open Go Go.Proofs.YtchpcjmgifnmdaaDoor.Ab
set_option maxRecDepth 100000
set_option linter.unusedSimpArgs false

def enN (p : Nd) : List AV := [setV p.x, setV p.y, ints p.tr]
theorem FZs.enN (p : Nd) : FZs (enN p) := FZs.three (FZ.setV _) (FZ.setV _) (FZ.ints _)
def pairsV (l : List Nd) : AV := .lst 3 (l.map enN) .unk
theorem FZ.pairsV (l : List Nd) : FZ (pairsV l) := FZ.lst rfl fun r hr => by
  obtain ⟨x, _, rfl⟩ := List.mem_map.mp hr
  exact FZs.enN x
end Go.Proofs.YtchpcjmgifnmdaaDoor

/- Walks: the reference's search, all of it. -/
namespace Go.Proofs.YtchpcjmgifnmdaaDoor
open Go Go.Proofs.YtchpcjmgifnmdaaDoor.Ab
set_option maxRecDepth 100000
set_option linter.unusedSimpArgs false

def enA (q : Nd × AV) : List AV := [setV q.1.x, setV q.1.y, q.2]
def TrOk (a : AV) (tr : List Int) : Prop := (a = nilS ∧ tr = []) ∨ ∃ tip, a = .lst 1 (tr.map intR) tip
theorem TrOk.view {H : AH} {a : AV} {tr : List Int} (h : TrOk a tr) : View H a (ints tr) := by
  rcases h with ⟨rfl, rfl⟩ | ⟨tip, rfl⟩
  · exact View.nil 1
  · exact View.tip fun rr hr => by
      obtain ⟨y, _, rfl⟩ := List.mem_map.mp hr
      exact FZs.v1 _
/-- a list that is full, or grows -/
def GrowG {α : Type} (enc : α → List AV) (k : Nat) (H : AH) (a : AV) (l : List α) : Prop := a = .lst k (l.map enc) .full ∨ ∃ t, t < H.next ∧ a = .lst k (l.map enc) (.live t) ∧ H.tip t = some l.length
theorem GrowG.lst {α : Type} {enc : α → List AV} {k : Nat} {H : AH} {a : AV} {l : List α} (h : GrowG enc k H a l) : ∃ tip, a = .lst k (l.map enc) tip := by
  rcases h with h | ⟨t, _, h, _⟩
  · exact ⟨_, h⟩
  · exact ⟨_, h⟩
theorem GrowG.mono {α : Type} {enc : α → List AV} {k : Nat} {H H' : AH} {a : AV} {l : List α} (h : GrowG enc k H a l) (hn : H.next ≤ H'.next) (ht : ∀ t, t < H.next → H'.tip t = H.tip t) : GrowG enc k H' a l := by
  rcases h with h | ⟨t, h1, h2, h3⟩
  · exact .inl h
  · exact .inr ⟨t, Nat.lt_of_lt_of_le h1 hn, h2, (ht t h1).trans h3⟩
/-- what the search knows of its list -/
structure SeI (x y : Re) (L : List (Nd × AV)) : Prop where
  G : GoodN x y (L.map Prod.fst)
  T : ∀ q ∈ L, TrOk q.2 q.1.tr
  B : ∀ j, j < L.length → (L.getD j default).1.tr.length ≤ j
theorem SeI.start {x y : Re} (hx : Ok x) (hy : Ok y) : SeI x y [(nd0 x y, nilS)] := ⟨good0 hx hy, fun q hq => by simp at hq; subst hq; exact .inl ⟨rfl, rfl⟩, fun j hj => by simp at hj; subst hj; exact Nat.le_refl _⟩
theorem SeI.len {x y : Re} (hx : Ok x) (hy : Ok y) {L : List (Nd × AV)} (h : SeI x y L) : L.length ≤ 1048576 := by
  have := h.G.len hx hy; simpa using this
theorem SeI.add {x y : Re} (hx : Ok x) (hy : Ok y) {L : List (Nd × AV)} (h : SeI x y L) {p : Nd} {a : AV} (h1 : p.x < 2 ^ nst x) (h2 : p.y < 2 ^ nst y) (hm : metN (L.map Prod.fst) p.x p.y = false) (ht : TrOk a p.tr) (hl : p.tr.length ≤ L.length) : SeI x y (L ++ [(p, a)]) := by
  refine ⟨?_, fun q hq => ?_, fun j hj => ?_⟩
  · have := h.G.add hx hy h1 h2
    unfold addN at this
    rw [hm] at this
    rw [List.map_append]; exact this
  · rcases List.mem_append.mp hq with hq | hq
    · exact h.T q hq
    · simp only [List.mem_singleton] at hq; subst hq; exact ht
  · by_cases hj' : j < L.length
    · rw [getD_append_left _ _ _ hj']; exact h.B j hj'
    · have : j = L.length := by simp at hj; omega
      subst this
      rw [getD_append_len]; exact hl
def SeR (x y : Re) (v : AV) : Prop := match (resN x y).1 with
  | some tr => ∃ L, v = .tup [ints tr, .v (.bool true), pairsV L]
  | none => v = .tup [nilS, .v (.bool false), pairsV (resN x y).2]
end Go.Proofs.YtchpcjmgifnmdaaDoor

/- Walks: the law that the least failing trace is found, or the least relation. -/
namespace Go.Proofs.YtchpcjmgifnmdaaDoor
open Go Go.Proofs.YtchpcjmgifnmdaaDoor.Ab
set_option maxRecDepth 100000
set_option linter.unusedSimpArgs false

def LenB (l : List Nd) : Prop := ∀ j, j < l.length → (l.getD j default).tr.length ≤ j
theorem LenB.add {l : List Nd} (h : LenB l) {p : Nd} (hp : p.tr.length ≤ l.length) : LenB (addN l p) := by
  unfold addN
  split
  · exact h
  · intro j hj
    by_cases hj' : j < l.length
    · rw [getD_append_left _ _ _ hj']; exact h j hj'
    · have : j = l.length := by simp at hj; omega
      subst this
      rw [getD_append_len]; exact hp
theorem LenB.ext {x y : Re} {l : List Nd} (h : LenB l) {p : Nd} (hp : p.tr.length + 1 ≤ l.length) : ∀ k, LenB (extN x y p l k)
  | 0 => h
  | k + 1 => by
    rw [extN_succ]
    have h1 := LenB.ext (x := x) (y := y) h hp k
    obtain ⟨q, hq⟩ := extN_pre x y p l k
    unfold extE
    split
    · exact h1
    · refine h1.add ?_
      rw [hq]; simp; omega
end Go.Proofs.YtchpcjmgifnmdaaDoor

/- What a search that finds nothing says of all traces; systems one after the other. -/
namespace Go.Proofs.YtchpcjmgifnmdaaDoor
open Go Go.Proofs.YtchpcjmgifnmdaaDoor.Ab
set_option linter.unusedSectionVars false

/-- a node is what its trace leads to -/
structure NdOk (x y : Re) (p : Nd) : Prop where
  ex : p.x = alongM x p.tr
  ey : p.y = alongM y p.tr
  nz : p.y ≠ 0
  ev : ∀ e ∈ p.tr, 0 ≤ e ∧ e ≤ (silc x : Int)
theorem fst_nz {x : Re} (hx : Ok x) : fstM x ≠ 0 := by
  have := (rcI_fst hx).st
  intro h
  rw [h, Nat.zero_testBit] at this; cases this
theorem along_snoc' (x : Re) (tr : List Int) (e : Nat) : alongM x (tr ++ [(e : Int)]) = aft x (alongM x tr) e := by
  unfold alongM; rw [List.foldl_append]; simp
theorem NdOk.ext {x y : Re} {p : Nd} (h : NdOk x y p) {e : Nat} (he : e ≤ silc x) (hz : aft y p.y e ≠ 0) : NdOk x y ⟨aft x p.x e, aft y p.y e, p.tr ++ [(e : Int)]⟩ := by
  refine ⟨?_, ?_, hz, fun b hb => ?_⟩
  · show aft x p.x e = _; rw [along_snoc', h.ex]
  · show aft y p.y e = _; rw [along_snoc', h.ey]
  · rcases List.mem_append.mp hb with hb | hb
    · exact h.ev b hb
    · simp only [List.mem_singleton] at hb; subst hb; omega
theorem extN_ok {x y : Re} {p : Nd} (hp : NdOk x y p) {l : List Nd} (hl : ∀ q ∈ l, NdOk x y q) : ∀ k, k ≤ silc x + 1 → ∀ q ∈ extN x y p l k, NdOk x y q
  | 0, _ => hl
  | k + 1, hk => by
    rw [extN_succ]
    have ih := extN_ok hp hl k (by omega)
    unfold extE
    split
    · exact ih
    · rename_i hz
      unfold addN
      split
      · exact ih
      · intro q hq
        rcases List.mem_append.mp hq with hq | hq
        · exact ih q hq
        · simp only [List.mem_singleton] at hq; subst hq; exact hp.ext (by omega) hz
theorem failsN_some {x y : Re} {a b e : Nat} (h : failsN x y a b = some e) : e ≤ silc x ∧ failsAt x y a b e = true := by
  have h1 := List.find?_some h
  have h2 := List.mem_of_find?_eq_some h
  have := List.mem_range.mp h2
  exact ⟨by omega, h1⟩
theorem failsN_none {x y : Re} {a b : Nat} (h : failsN x y a b = none) : ∀ e, e ≤ silc x → failsAt x y a b e = false := fun e he => by
  rw [failsN, firstIx_none_iff] at h
  exact h e (by omega)
/-- a trace that is found is one of the specification, but for its last event -/
theorem srch_sound {x y : Re} : ∀ (k : Nat) (l : List Nd) (i : Nat) (tr : List Int) (m : List Nd), srch x y k l i = some (some tr, m) → (∀ q ∈ l, NdOk x y q) → ∃ (p : Nd) (e : Nat), NdOk x y p ∧ tr = p.tr ++ [(e : Int)] ∧ e ≤ silc x ∧ failsN x y p.x p.y = some e
  | 0, _, _, _, _, h, _ => by cases h
  | k + 1, l, i, tr, m, h, hl => by
    unfold srch at h
    split at h
    · rename_i hi
      have hp := hl _ (getD_mem hi)
      split at h
      · rename_i e he
        simp only [Option.some.injEq, Prod.mk.injEq] at h
        exact ⟨_, e, hp, h.1.symm, (failsN_some he).1, he⟩
      · exact srch_sound k _ _ _ _ h (extN_ok hp hl _ (Nat.le_refl _))
    · simp at h
/-- what a list has from one place on, when nothing is found -/
theorem extN_met {x y : Re} {p : Nd} {l : List Nd} : ∀ (k e : Nat), e < k → aft y p.y e ≠ 0 → metN (extN x y p l k) (aft x p.x e) (aft y p.y e) = true
  | 0, _, h, _ => by omega
  | k + 1, e, h, hz => by
    rw [extN_succ]
    by_cases he : e = k
    · subst he
      unfold extE
      rw [if_neg hz]
      unfold addN
      split
      · assumption
      · rw [metN_iff]
        exact ⟨_, List.mem_append.mpr (.inr (List.mem_singleton.mpr rfl)), rfl, rfl⟩
    · have ih := extN_met (x := x) (l := l) k e (by omega) hz
      rw [metN_iff] at ih ⊢
      obtain ⟨q, hq, h1⟩ := ih
      obtain ⟨r, hr⟩ := extE_pre x y p (extN x y p l k) k
      exact ⟨q, by rw [hr]; exact List.mem_append.mpr (.inl hq), h1⟩
theorem srch_pre {x y : Re} : ∀ (k : Nat) (l : List Nd) (i : Nat) (m : List Nd), srch x y k l i = some (none, m) → ∃ r, m = l ++ r
  | 0, _, _, _, h => by cases h
  | k + 1, l, i, m, h => by
    unfold srch at h
    split at h
    · split at h
      · simp at h
      · obtain ⟨r, hr⟩ := srch_pre k _ _ _ h
        obtain ⟨q, hq⟩ := extN_pre x y (l.getD i default) l (silc x + 1)
        exact ⟨q ++ r, by rw [hr, hq, List.append_assoc]⟩
    · simp only [Option.some.injEq, Prod.mk.injEq, true_and] at h
      exact ⟨[], by rw [← h]; simp⟩
theorem met_mono {l r : List Nd} {a b : Nat} (h : metN l a b = true) : metN (l ++ r) a b = true := by
  rw [metN_iff] at h ⊢
  obtain ⟨q, hq, h1⟩ := h
  exact ⟨q, List.mem_append.mpr (.inl hq), h1⟩
theorem srch_all {x y : Re} : ∀ (k : Nat) (l : List Nd) (i : Nat) (m : List Nd), srch x y k l i = some (none, m) → ∀ j, i ≤ j → j < m.length → failsN x y (m.getD j default).x (m.getD j default).y = none ∧ ∀ e, e ≤ silc x → aft y (m.getD j default).y e ≠ 0 → metN m (aft x (m.getD j default).x e) (aft y (m.getD j default).y e) = true
  | 0, _, _, _, h => by cases h
  | k + 1, l, i, m, h => by
    intro j hij hj
    have h0 := h
    unfold srch at h
    split at h
    · rename_i hi
      split at h
      · simp at h
      · rename_i hf
        obtain ⟨r, hr⟩ := srch_pre k _ _ _ h
        obtain ⟨q, hq⟩ := extN_pre x y (l.getD i default) l (silc x + 1)
        by_cases hji : j = i
        · subst hji
          have hg : m.getD j default = l.getD j default := by rw [hr, hq, List.append_assoc, getD_append_left _ _ _ hi]
          rw [hg]
          refine ⟨hf, fun e he hz => ?_⟩
          rw [hr]
          exact met_mono (extN_met _ e (by omega) hz)
        · exact srch_all k _ _ _ h j (by omega) hj
    · simp only [Option.some.injEq, Prod.mk.injEq, true_and] at h
      subst h
      omega
/-- traces of events -/
def EvOk (x : Re) (tr : List Int) : Prop := ∀ e ∈ tr, 0 ≤ e ∧ e ≤ (silc x : Int)
theorem aft_zero {x : Re} (e : Nat) : aft x 0 e = 0 := by
  unfold aft rawA
  have : bitsN 0 = [] := rfl
  rw [this, List.foldl_nil]
  unfold cl
  apply clF_of_fix
  unfold stepM
  rw [this]; rfl
theorem conf_all {x y : Re} (hx : Ok x) (hy : Ok y) (h : (resN x y).1 = none) : ∀ tr : List Int, EvOk x tr → alongM y tr ≠ 0 → ∃ p ∈ (resN x y).2, p.x = alongM x tr ∧ p.y = alongM y tr := by
  obtain ⟨k, hk⟩ := resN_ok hx hy
  have he : resN x y = (none, (resN x y).2) := by rw [← h]
  rw [he] at hk
  have hall := srch_all k _ _ _ hk
  obtain ⟨r, hr⟩ := srch_pre k _ _ _ hk
  generalize (resN x y).2 = m at hall hr ⊢
  have key : ∀ t : List Int, EvOk x t.reverse → alongM y t.reverse ≠ 0 → ∃ p ∈ m, p.x = alongM x t.reverse ∧ p.y = alongM y t.reverse := by
    intro t
    induction t with
    | nil => exact fun _ _ => ⟨nd0 x y, by rw [hr]; simp, rfl, rfl⟩
    | cons e t ih =>
      rw [List.reverse_cons]
      intro hev hnz
      have hee := hev e (by simp)
      obtain ⟨en, hen⟩ : ∃ en : Nat, e = (en : Int) := ⟨_, (Int.toNat_of_nonneg hee.1).symm⟩
      subst hen
      rw [along_snoc'] at hnz
      have hnz' : alongM y t.reverse ≠ 0 := by
        intro h0; rw [h0] at hnz; exact hnz (aft_zero _)
      obtain ⟨p, hp, h1, h2⟩ := ih (fun b hb => hev b (List.mem_append.mpr (.inl hb))) hnz'
      obtain ⟨j, hj, rfl⟩ := mem_getD hp
      obtain ⟨_, h3⟩ := hall j (Nat.zero_le _) hj
      have h4 := h3 en (by omega) (by rw [h2]; exact hnz)
      rw [metN_iff] at h4
      obtain ⟨q, hq, h5, h6⟩ := h4
      exact ⟨q, hq, by rw [h5, h1, along_snoc'], by rw [h6, h2, along_snoc']⟩
  intro tr hev hnz
  have := key tr.reverse
  rw [List.reverse_reverse] at this
  exact this hev hnz
/-- nothing is found: after each trace of the specification the system shows what the specification shows -/
theorem conf_none {x y : Re} (hx : Ok x) (hy : Ok y) (h : (resN x y).1 = none) {tr : List Int} (hev : EvOk x tr) (hnz : alongM y tr ≠ 0) {e : Nat} (he : e ≤ silc x) : failsAt x y (alongM x tr) (alongM y tr) e = false := by
  obtain ⟨p, hp, h1, h2⟩ := conf_all hx hy h tr hev hnz
  obtain ⟨k, hk⟩ := resN_ok hx hy
  have hee : resN x y = (none, (resN x y).2) := by rw [← h]
  rw [hee] at hk
  obtain ⟨j, hj, rfl⟩ := mem_getD hp
  have := (srch_all k _ _ _ hk j (Nat.zero_le _) hj).1
  rw [h1, h2] at this
  exact failsN_none this e he
theorem conf_some {x y : Re} (hx : Ok x) (hy : Ok y) {tr : List Int} (h : (resN x y).1 = some tr) : ∃ (p : Nd) (e : Nat), NdOk x y p ∧ tr = p.tr ++ [(e : Int)] ∧ e ≤ silc x ∧ failsN x y p.x p.y = some e := by
  obtain ⟨k, hk⟩ := resN_ok hx hy
  have hee : resN x y = (some tr, (resN x y).2) := by rw [← h]
  rw [hee] at hk
  exact srch_sound k _ _ _ _ hk fun q hq => by
    simp only [List.mem_singleton] at hq; subst hq
    exact ⟨rfl, rfl, fst_nz hy, fun e he => by simp [nd0] at he⟩
/-- more states, more states behind them -/
theorem cl_mono {x : Re} (hx : Ok x) {l m : Nat} (hl : l < 2 ^ nst x) (hm : m < 2 ^ nst x) (h : ∀ b, l.testBit b = true → m.testBit b = true) (b : Nat) (hb : (cl x l).testBit b = true) : (cl x m).testBit b = true := by
  obtain ⟨a, ha, hr⟩ := (cl_bit hx hl).mp hb
  exact (cl_bit hx hm).mpr ⟨a, h a ha, hr⟩
theorem aft_mono {x : Re} (hx : Ok x) {l m e : Nat} (hl : l < 2 ^ nst x) (hm : m < 2 ^ nst x) (he : e ≤ silc x) (h : ∀ b, l.testBit b = true → m.testBit b = true) (b : Nat) (hb : (aft x l e).testBit b = true) : (aft x m e).testBit b = true := by
  refine cl_mono hx (rawA_lt hx hl e) (rawA_lt hx hm e) (fun c hc => ?_) b hb
  rcases (rawA_bit hx hl he).mp hc with ⟨h1, h2, h3⟩ | ⟨m', hm', h1, h2, h3, h4⟩
  · exact (rawA_bit hx hm he).mpr (.inl ⟨h1, h2, h _ h3⟩)
  · exact (rawA_bit hx hm he).mpr (.inr ⟨m', hm', h1, h _ h2, h3, h4⟩)
theorem nz_bit {x : Re} (hx : Ok x) {l : Nat} (hl : l < 2 ^ nst x) (h : l ≠ 0) : ∃ b, b < nst x ∧ l.testBit b = true := by
  apply Decidable.byContradiction
  intro hn
  apply h
  apply bit_ext
  intro i
  rw [Nat.zero_testBit]
  constructor
  · intro hb; exact absurd ⟨i, bits_n hx hl hb, hb⟩ hn
  · intro hb; cases hb
theorem bit_nz {l b : Nat} (h : l.testBit b = true) : l ≠ 0 := by
  intro h0; rw [h0, Nat.zero_testBit] at h; cases h
/-- the states after a trace are reached ones, and closed -/
theorem along_rc {x : Re} (hx : Ok x) : ∀ tr : List Int, EvOk x tr → (∀ b, (alongM x tr).testBit b = true → RchA x b) ∧ Cld x (alongM x tr) := by
  have key : ∀ (tr : List Int) (l : Nat), EvOk x tr → l < 2 ^ nst x → (∀ b, l.testBit b = true → RchA x b) → Cld x l → (∀ b, (tr.foldl (fun l e => aft x l e.toNat) l).testBit b = true → RchA x b) ∧ Cld x (tr.foldl (fun l e => aft x l e.toNat) l) := by
    intro tr
    induction tr with
    | nil => exact fun l _ _ h1 h2 => ⟨h1, h2⟩
    | cons e tr ih =>
      intro l hev hl h1 h2
      have hee := hev e (by simp)
      rw [List.foldl_cons]
      refine ih _ (fun b hb => hev b (by simp [hb])) (aft_lt hx hl _) (fun b hb => ?_) (cl_cld hx (rawA_lt hx hl _))
      obtain ⟨a, ha, hr⟩ := (cl_bit hx (rawA_lt hx hl _)).mp hb
      rcases (rawA_bit hx hl (by omega)).mp ha with ⟨_, _, h3⟩ | ⟨m, hm, _, h3, _, h5⟩
      · exact rch_rchA hx hr (h1 _ h3)
      · refine rch_rchA hx hr ?_
        rw [← h5]; exact .step hm (h1 _ h3)
  exact fun tr hev => key tr _ hev (fst_lt hx) (fun b hb => fst_rchA hx hb) (rcI_fst hx).cd
/-- a receptive system takes each input -/
theorem deaf_takes {x : Re} (hx : Ok x) (h : deafN x = none) {tr : List Int} (hev : EvOk x tr) (hnz : alongM x tr ≠ 0) {n : Nat} (hn : n < x.inp.toNat) : aft x (alongM x tr) n ≠ 0 := by
  obtain ⟨s, hs, hsb⟩ := nz_bit hx (along_lt hx tr) hnz
  obtain ⟨h1, h2⟩ := along_rc hx tr hev
  have hr := (rchd_bit hx).mpr (h1 s hsb)
  have hp : 2 ^ s < 2 ^ nst x := Nat.pow_lt_pow_right (by omega) hs
  have hd : dfs x s = none := by
    unfold deafN at h
    cases hf : firstIx (nst x) (fun s => (dfs x s).isSome) with
    | none =>
      rw [firstIx_none_iff] at hf
      have := hf s hs
      cases hd : dfs x s with
      | none => rfl
      | some n => rw [hd] at this; cases this
    | some t =>
      rw [hf] at h
      have := List.find?_some hf
      simp only [Option.bind_some, Option.map_eq_none_iff] at h
      rw [h] at this; cases this
  unfold dfs at hd
  rw [if_pos hr, firstIx_none_iff] at hd
  have h3 := hd n hn
  unfold deafAt at h3
  have h4 : aft x (cl x (2 ^ s)) n ≠ 0 := by simpa using h3
  obtain ⟨b, _, hb⟩ := nz_bit hx (aft_lt hx (cl_lt hx hp) n) h4
  have hsc := silc_le hx
  refine bit_nz (aft_mono hx (cl_lt hx hp) (along_lt hx tr) (by omega) (fun c hc => ?_) b hb)
  obtain ⟨a, ha, hra⟩ := (cl_bit hx hp).mp hc
  rw [Nat.testBit_two_pow, decide_eq_true_eq] at ha
  subst ha
  clear hd h3 h4 hb hc
  induction hra with
  | refl => exact hsb
  | @step u v _ hs' ih => exact h2 u v ih hs'
/-- one after the other -/
theorem chain_none {x y z : Re} (hx : Ok x) (hy : Ok y) (hz : Ok z) (hi1 : x.inp = y.inp) (hi2 : y.inp = z.inp) (hs1 : silc y = silc x) (hs2 : silc z = silc y) (h1 : (resN x y).1 = none) (h2 : (resN y z).1 = none) (h3 : deafN y = none) : (resN x z).1 = none := by
  cases hr : (resN x z).1 with
  | none => rfl
  | some tr =>
    exfalso
    obtain ⟨p, e, hp, _, he, hf⟩ := conf_some hx hz hr
    obtain ⟨_, hfa⟩ := failsN_some hf
    have hevx : EvOk x p.tr := hp.ev
    have hevy : EvOk y p.tr := fun b hb => by have := hp.ev b hb; rw [hs1]; exact this
    rw [hp.ex, hp.ey] at hfa
    have hznz : alongM z p.tr ≠ 0 := by rw [← hp.ey]; exact hp.nz
    have hxe : shw x (alongM x p.tr) e = true := by
      unfold failsAt at hfa
      rw [Bool.and_eq_true] at hfa; exact hfa.1
    have hze : shw z (alongM z p.tr) e = false := by
      unfold failsAt at hfa
      rw [Bool.and_eq_true] at hfa; simpa using hfa.2
    have hxnz : alongM x p.tr ≠ 0 := by
      intro h0
      unfold shw at hxe
      rw [h0, aft_zero] at hxe
      simp at hxe
    -- each beginning is a trace of y
    have key : ∀ t : List Int, EvOk x t.reverse → alongM x t.reverse ≠ 0 → alongM z t.reverse ≠ 0 → alongM y t.reverse ≠ 0 := by
      intro t
      induction t with
      | nil => exact fun _ _ _ => fst_nz hy
      | cons a t ih =>
        rw [List.reverse_cons]
        intro hev hxn hzn
        have hae := hev a (by simp)
        obtain ⟨an, han⟩ : ∃ an : Nat, a = (an : Int) := ⟨_, (Int.toNat_of_nonneg hae.1).symm⟩
        subst han
        have hev' : EvOk x t.reverse := fun b hb => hev b (List.mem_append.mpr (.inl hb))
        have hevy' : EvOk y t.reverse := fun b hb => by have := hev' b hb; rw [hs1]; exact this
        rw [along_snoc'] at hxn hzn ⊢
        have hxn' : alongM x t.reverse ≠ 0 := by intro h0; rw [h0] at hxn; exact hxn (aft_zero _)
        have hzn' : alongM z t.reverse ≠ 0 := by intro h0; rw [h0] at hzn; exact hzn (aft_zero _)
        have hyn' := ih hev' hxn' hzn'
        by_cases hin : an < y.inp.toNat
        · exact deaf_takes hy h3 hevy' hyn' hin
        · have := conf_none hx hy h1 hev' hyn' (e := an) (by omega)
          unfold failsAt shw at this
          rw [hi1, decide_eq_true (by omega : y.inp.toNat ≤ an)] at this
          intro h0
          rw [h0] at this
          simp at this
          exact hxn this
    have hyn : alongM y p.tr ≠ 0 := by
      have := key p.tr.reverse
      rw [List.reverse_reverse] at this
      exact this hevx hxnz hznz
    have f1 := conf_none hx hy h1 hevx hyn he
    have f2 := conf_none hy hz h2 hevy hznz (e := e) (by omega)
    unfold failsAt at f1 f2
    rw [hxe] at f1
    rw [hze] at f2
    simp only [Bool.true_and, Bool.not_eq_false', Bool.not_false, Bool.and_true] at f1 f2
    rw [f1] at f2; cases f2
end Go.Proofs.YtchpcjmgifnmdaaDoor

/- Walks: the law of one after the other. -/
namespace Go.Proofs.YtchpcjmgifnmdaaDoor
open Go Go.Proofs.YtchpcjmgifnmdaaDoor.Ab
set_option maxRecDepth 100000
set_option linter.unusedSimpArgs false

/-- the error of Conforms -/
noncomputable def cfE (x y : Re) : Int := if bothR x y ≠ 0 then bothR x y else match (resN x y).1 with | some _ => 29 | none => 0
theorem confV_tup (x y : Re) : ∃ a, confV x y = .tup [a, .v (.int .i64 (cfE x y))] ∧ FZ a := by
  unfold confV cfE
  by_cases h : bothR x y ≠ 0
  · rw [if_pos h, if_pos h]; exact ⟨_, rfl, FZ.nilS⟩
  · rw [if_neg h, if_neg h]
    cases (resN x y).1 with
    | none => exact ⟨_, rfl, FZ.nilS⟩
    | some tr => exact ⟨_, rfl, FZ.ints _⟩
set_option maxHeartbeats 8000000 in
theorem law5 (x y z : Re) (hx0 : x.mv.length * 32 ≤ 140737488355328) (hy0 : y.mv.length * 32 ≤ 140737488355328) (hz0 : z.mv.length * 32 ≤ 140737488355328) : FCall Tryd.prog 5 [reV x, reV y, reV z] (· = .v (.bool true)) := by
  have hOx := own18 x hx0
  have hOy := own18 y hy0
  have hOz := own18 z hz0
  simp only [reV, reL, mvsV]
  refine ACall.enter [] Cd.fn5 (by simp) ?_
  simp only [Cd.cd5, Tk.t5, base0, base1, base2, base3, Option.isNone_none, Option.isNone_some, Nat.reduceBEq, true_or, or_true, false_or, or_false, Nat.reduceLT, Nat.reduceMod, Nat.reducePow, rmaps, nsucc, List.flatten_cons, List.flatten_nil, Nat.reduceEqDiff, Nat.reduceLeDiff, Nat.reduceAdd, Nat.reduceMul, Nat.reduceSub, ↓reduceIte, reduceCtorEq, decide_true, decide_false]
  first | refine FCall.go awake15 (FZs.nil) ?_ | refine FCall.go' awake15 (FZs.nil) ?_ | refine FCall.goQ awake15 (FZs.nil) ?_
  simp only [Cd.cd5, Tk.t5, base0, base1, base2, base3, Option.isNone_none, Option.isNone_some, Nat.reduceBEq, true_or, or_true, false_or, or_false, Nat.reduceLT, Nat.reduceMod, Nat.reducePow, rmaps, nsucc, List.flatten_cons, List.flatten_nil, Nat.reduceEqDiff, Nat.reduceLeDiff, Nat.reduceAdd, Nat.reduceMul, Nat.reduceSub, ↓reduceIte, reduceCtorEq, decide_true, decide_false]
  first | refine FCall.go (two20 x y) (FZs.two (FZ.reV x) (FZ.reV y)) ?_ | refine FCall.go' (two20 x y) (FZs.two (FZ.reV x) (FZ.reV y)) ?_ | refine FCall.goQ (two20 x y) (FZs.two (FZ.reV x) (FZ.reV y)) ?_
  by_cases h1' : bothR x y ≠ 0
  · simp only [bneT h1', Cd.cd5, Tk.t5, base0, base1, base2, base3, Option.isNone_none, Option.isNone_some, Nat.reduceBEq, true_or, or_true, false_or, or_false, Nat.reduceLT, Nat.reduceMod, Nat.reducePow, rmaps, nsucc, List.flatten_cons, List.flatten_nil, Nat.reduceEqDiff, Nat.reduceLeDiff, Nat.reduceAdd, Nat.reduceMul, Nat.reduceSub, ↓reduceIte, reduceCtorEq, decide_true, decide_false]
    exact fin_v rfl
  have h1 : bothR x y = 0 := by simpa using h1'
  simp only [show (bothR x y != 0) = false from by rw [h1]; rfl, Cd.cd5, Tk.t5, base0, base1, base2, base3, Option.isNone_none, Option.isNone_some, Nat.reduceBEq, true_or, or_true, false_or, or_false, Nat.reduceLT, Nat.reduceMod, Nat.reducePow, rmaps, nsucc, List.flatten_cons, List.flatten_nil, Nat.reduceEqDiff, Nat.reduceLeDiff, Nat.reduceAdd, Nat.reduceMul, Nat.reduceSub, ↓reduceIte, reduceCtorEq, decide_true, decide_false]
  first | refine FCall.go (two20 y z) (FZs.two (FZ.reV y) (FZ.reV z)) ?_ | refine FCall.go' (two20 y z) (FZs.two (FZ.reV y) (FZ.reV z)) ?_ | refine FCall.goQ (two20 y z) (FZs.two (FZ.reV y) (FZ.reV z)) ?_
  by_cases h2' : bothR y z ≠ 0
  · simp only [bneT h2', Cd.cd5, Tk.t5, base0, base1, base2, base3, Option.isNone_none, Option.isNone_some, Nat.reduceBEq, true_or, or_true, false_or, or_false, Nat.reduceLT, Nat.reduceMod, Nat.reducePow, rmaps, nsucc, List.flatten_cons, List.flatten_nil, Nat.reduceEqDiff, Nat.reduceLeDiff, Nat.reduceAdd, Nat.reduceMul, Nat.reduceSub, ↓reduceIte, reduceCtorEq, decide_true, decide_false]
    exact fin_v rfl
  have h2 : bothR y z = 0 := by simpa using h2'
  simp only [show (bothR y z != 0) = false from by rw [h2]; rfl, Cd.cd5, Tk.t5, base0, base1, base2, base3, Option.isNone_none, Option.isNone_some, Nat.reduceBEq, true_or, or_true, false_or, or_false, Nat.reduceLT, Nat.reduceMod, Nat.reducePow, rmaps, nsucc, List.flatten_cons, List.flatten_nil, Nat.reduceEqDiff, Nat.reduceLeDiff, Nat.reduceAdd, Nat.reduceMul, Nat.reduceSub, ↓reduceIte, reduceCtorEq, decide_true, decide_false]
  first | refine FCall.go (few16 x) (FZs.one (FZ.reV x)) ?_ | refine FCall.go' (few16 x) (FZs.one (FZ.reV x)) ?_ | refine FCall.goQ (few16 x) (FZs.one (FZ.reV x)) ?_
  cases hfx : fewB x
  · simp only [Cd.cd5, Tk.t5, base0, base1, base2, base3, Option.isNone_none, Option.isNone_some, Nat.reduceBEq, true_or, or_true, false_or, or_false, Nat.reduceLT, Nat.reduceMod, Nat.reducePow, rmaps, nsucc, List.flatten_cons, List.flatten_nil, Nat.reduceEqDiff, Nat.reduceLeDiff, Nat.reduceAdd, Nat.reduceMul, Nat.reduceSub, ↓reduceIte, reduceCtorEq, decide_true, decide_false]
    exact fin_v rfl
  simp only [Cd.cd5, Tk.t5, base0, base1, base2, base3, Option.isNone_none, Option.isNone_some, Nat.reduceBEq, true_or, or_true, false_or, or_false, Nat.reduceLT, Nat.reduceMod, Nat.reducePow, rmaps, nsucc, List.flatten_cons, List.flatten_nil, Nat.reduceEqDiff, Nat.reduceLeDiff, Nat.reduceAdd, Nat.reduceMul, Nat.reduceSub, ↓reduceIte, reduceCtorEq, decide_true, decide_false]
  first | refine FCall.go (few16 y) (FZs.one (FZ.reV y)) ?_ | refine FCall.go' (few16 y) (FZs.one (FZ.reV y)) ?_ | refine FCall.goQ (few16 y) (FZs.one (FZ.reV y)) ?_
  cases hfy : fewB y
  · simp only [Cd.cd5, Tk.t5, base0, base1, base2, base3, Option.isNone_none, Option.isNone_some, Nat.reduceBEq, true_or, or_true, false_or, or_false, Nat.reduceLT, Nat.reduceMod, Nat.reducePow, rmaps, nsucc, List.flatten_cons, List.flatten_nil, Nat.reduceEqDiff, Nat.reduceLeDiff, Nat.reduceAdd, Nat.reduceMul, Nat.reduceSub, ↓reduceIte, reduceCtorEq, decide_true, decide_false]
    exact fin_v rfl
  simp only [Cd.cd5, Tk.t5, base0, base1, base2, base3, Option.isNone_none, Option.isNone_some, Nat.reduceBEq, true_or, or_true, false_or, or_false, Nat.reduceLT, Nat.reduceMod, Nat.reducePow, rmaps, nsucc, List.flatten_cons, List.flatten_nil, Nat.reduceEqDiff, Nat.reduceLeDiff, Nat.reduceAdd, Nat.reduceMul, Nat.reduceSub, ↓reduceIte, reduceCtorEq, decide_true, decide_false]
  first | refine FCall.go (few16 z) (FZs.one (FZ.reV z)) ?_ | refine FCall.go' (few16 z) (FZs.one (FZ.reV z)) ?_ | refine FCall.goQ (few16 z) (FZs.one (FZ.reV z)) ?_
  cases hfz : fewB z
  · simp only [Cd.cd5, Tk.t5, base0, base1, base2, base3, Option.isNone_none, Option.isNone_some, Nat.reduceBEq, true_or, or_true, false_or, or_false, Nat.reduceLT, Nat.reduceMod, Nat.reducePow, rmaps, nsucc, List.flatten_cons, List.flatten_nil, Nat.reduceEqDiff, Nat.reduceLeDiff, Nat.reduceAdd, Nat.reduceMul, Nat.reduceSub, ↓reduceIte, reduceCtorEq, decide_true, decide_false]
    exact fin_v rfl
  obtain ⟨hx, hy, a1, a2, a3⟩ := bothR_ok h1
  obtain ⟨_, hz, b1, b2, b3⟩ := bothR_ok h2
  obtain ⟨cxy, hcxy, zxy⟩ := confV_tup x y
  obtain ⟨cyz, hcyz, zyz⟩ := confV_tup y z
  obtain ⟨cxz, hcxz, zxz⟩ := confV_tup x z
  have hKxy := conforms17 x y
  have hKyz := conforms17 y z
  have hKxz := conforms17 x z
  rw [hcxy] at hKxy
  rw [hcyz] at hKyz
  rw [hcxz] at hKxz
  have h3 : bothR x z = 0 := by
    have e1 : errR x = 0 := by
      unfold bothR orI at h1
      by_cases h : errR x = 0
      · exact h
      · rw [if_pos h] at h1; exact absurd h1 h
    have e2 : errR z = 0 := by
      unfold bothR orI at h2
      by_cases h : errR y = 0
      · rw [h] at h2
        simp only [ne_eq, not_true, if_false] at h2
        by_cases h' : errR z = 0
        · exact h'
        · rw [if_pos h'] at h2; exact absurd h2 h'
      · rw [if_pos h] at h2; exact absurd h2 h
    unfold bothR
    rw [e1, e2, decide_eq_true (a1.trans b1), decide_eq_true (a2.trans b2)]; rfl
  have hey : errR y = 0 := by
    unfold bothR orI at h2
    by_cases h : errR y = 0
    · exact h
    · rw [if_pos h] at h2; exact absurd h2 h
  have hrv : recpV y = recpO (deafN y) := by rw [recpV, if_neg (by simpa using hey)]
  have hrp := recp25 y
  rw [hrv] at hrp
  have fin : cfE x y = 0 → cfE y z = 0 → deafN y = none → cfE x z = 0 := by
    unfold cfE
    rw [h1, h2, h3]
    simp only [ne_eq, not_true, if_false]
    intro c1 c2 c3
    have d1 : (resN x y).1 = none := by
      cases h : (resN x y).1 with
      | none => rfl
      | some t => rw [h] at c1; simp at c1
    have d2 : (resN y z).1 = none := by
      cases h : (resN y z).1 with
      | none => rfl
      | some t => rw [h] at c2; simp at c2
    rw [chain_none hx hy hz a1 b1 a3 b3 d1 d2 c3]
  simp only [Cd.cd5, Tk.t5, base0, base1, base2, base3, Option.isNone_none, Option.isNone_some, Nat.reduceBEq, true_or, or_true, false_or, or_false, Nat.reduceLT, Nat.reduceMod, Nat.reducePow, rmaps, nsucc, List.flatten_cons, List.flatten_nil, Nat.reduceEqDiff, Nat.reduceLeDiff, Nat.reduceAdd, Nat.reduceMul, Nat.reduceSub, ↓reduceIte, reduceCtorEq, decide_true, decide_false]
  first | refine FCall.go hOx (FZs.one (FZ.reV x)) ?_ | refine FCall.go' hOx (FZs.one (FZ.reV x)) ?_ | refine FCall.goQ hOx (FZs.one (FZ.reV x)) ?_
  simp only [Cd.cd5, Tk.t5, base0, base1, base2, base3, Option.isNone_none, Option.isNone_some, Nat.reduceBEq, true_or, or_true, false_or, or_false, Nat.reduceLT, Nat.reduceMod, Nat.reducePow, rmaps, nsucc, List.flatten_cons, List.flatten_nil, Nat.reduceEqDiff, Nat.reduceLeDiff, Nat.reduceAdd, Nat.reduceMul, Nat.reduceSub, ↓reduceIte, reduceCtorEq, decide_true, decide_false]
  first | refine FCall.go hOy (FZs.one (FZ.reV y)) ?_ | refine FCall.go' hOy (FZs.one (FZ.reV y)) ?_ | refine FCall.goQ hOy (FZs.one (FZ.reV y)) ?_
  simp only [Cd.cd5, Tk.t5, base0, base1, base2, base3, Option.isNone_none, Option.isNone_some, Nat.reduceBEq, true_or, or_true, false_or, or_false, Nat.reduceLT, Nat.reduceMod, Nat.reducePow, rmaps, nsucc, List.flatten_cons, List.flatten_nil, Nat.reduceEqDiff, Nat.reduceLeDiff, Nat.reduceAdd, Nat.reduceMul, Nat.reduceSub, ↓reduceIte, reduceCtorEq, decide_true, decide_false]
  first | refine FCall.go hKxy (FZs.two (FZ.reV x) (FZ.reV y)) ?_ | refine FCall.go' hKxy (FZs.two (FZ.reV x) (FZ.reV y)) ?_ | refine FCall.goQ hKxy (FZs.two (FZ.reV x) (FZ.reV y)) ?_
  simp only [Cd.cd5, Tk.t5, base0, base1, base2, base3, Option.isNone_none, Option.isNone_some, Nat.reduceBEq, true_or, or_true, false_or, or_false, Nat.reduceLT, Nat.reduceMod, Nat.reducePow, rmaps, nsucc, List.flatten_cons, List.flatten_nil, Nat.reduceEqDiff, Nat.reduceLeDiff, Nat.reduceAdd, Nat.reduceMul, Nat.reduceSub, ↓reduceIte, reduceCtorEq, decide_true, decide_false]
  first | refine FCall.go hOy (FZs.one (FZ.reV y)) ?_ | refine FCall.go' hOy (FZs.one (FZ.reV y)) ?_ | refine FCall.goQ hOy (FZs.one (FZ.reV y)) ?_
  simp only [Cd.cd5, Tk.t5, base0, base1, base2, base3, Option.isNone_none, Option.isNone_some, Nat.reduceBEq, true_or, or_true, false_or, or_false, Nat.reduceLT, Nat.reduceMod, Nat.reducePow, rmaps, nsucc, List.flatten_cons, List.flatten_nil, Nat.reduceEqDiff, Nat.reduceLeDiff, Nat.reduceAdd, Nat.reduceMul, Nat.reduceSub, ↓reduceIte, reduceCtorEq, decide_true, decide_false]
  first | refine FCall.go hOz (FZs.one (FZ.reV z)) ?_ | refine FCall.go' hOz (FZs.one (FZ.reV z)) ?_ | refine FCall.goQ hOz (FZs.one (FZ.reV z)) ?_
  simp only [Cd.cd5, Tk.t5, base0, base1, base2, base3, Option.isNone_none, Option.isNone_some, Nat.reduceBEq, true_or, or_true, false_or, or_false, Nat.reduceLT, Nat.reduceMod, Nat.reducePow, rmaps, nsucc, List.flatten_cons, List.flatten_nil, Nat.reduceEqDiff, Nat.reduceLeDiff, Nat.reduceAdd, Nat.reduceMul, Nat.reduceSub, ↓reduceIte, reduceCtorEq, decide_true, decide_false]
  first | refine FCall.go hKyz (FZs.two (FZ.reV y) (FZ.reV z)) ?_ | refine FCall.go' hKyz (FZs.two (FZ.reV y) (FZ.reV z)) ?_ | refine FCall.goQ hKyz (FZs.two (FZ.reV y) (FZ.reV z)) ?_
  simp only [Cd.cd5, Tk.t5, base0, base1, base2, base3, Option.isNone_none, Option.isNone_some, Nat.reduceBEq, true_or, or_true, false_or, or_false, Nat.reduceLT, Nat.reduceMod, Nat.reducePow, rmaps, nsucc, List.flatten_cons, List.flatten_nil, Nat.reduceEqDiff, Nat.reduceLeDiff, Nat.reduceAdd, Nat.reduceMul, Nat.reduceSub, ↓reduceIte, reduceCtorEq, decide_true, decide_false]
  first | refine FCall.go hOx (FZs.one (FZ.reV x)) ?_ | refine FCall.go' hOx (FZs.one (FZ.reV x)) ?_ | refine FCall.goQ hOx (FZs.one (FZ.reV x)) ?_
  simp only [Cd.cd5, Tk.t5, base0, base1, base2, base3, Option.isNone_none, Option.isNone_some, Nat.reduceBEq, true_or, or_true, false_or, or_false, Nat.reduceLT, Nat.reduceMod, Nat.reducePow, rmaps, nsucc, List.flatten_cons, List.flatten_nil, Nat.reduceEqDiff, Nat.reduceLeDiff, Nat.reduceAdd, Nat.reduceMul, Nat.reduceSub, ↓reduceIte, reduceCtorEq, decide_true, decide_false]
  first | refine FCall.go hOz (FZs.one (FZ.reV z)) ?_ | refine FCall.go' hOz (FZs.one (FZ.reV z)) ?_ | refine FCall.goQ hOz (FZs.one (FZ.reV z)) ?_
  simp only [Cd.cd5, Tk.t5, base0, base1, base2, base3, Option.isNone_none, Option.isNone_some, Nat.reduceBEq, true_or, or_true, false_or, or_false, Nat.reduceLT, Nat.reduceMod, Nat.reducePow, rmaps, nsucc, List.flatten_cons, List.flatten_nil, Nat.reduceEqDiff, Nat.reduceLeDiff, Nat.reduceAdd, Nat.reduceMul, Nat.reduceSub, ↓reduceIte, reduceCtorEq, decide_true, decide_false]
  first | refine FCall.go hKxz (FZs.two (FZ.reV x) (FZ.reV z)) ?_ | refine FCall.go' hKxz (FZs.two (FZ.reV x) (FZ.reV z)) ?_ | refine FCall.goQ hKxz (FZs.two (FZ.reV x) (FZ.reV z)) ?_
  simp only [Cd.cd5, Tk.t5, base0, base1, base2, base3, Option.isNone_none, Option.isNone_some, Nat.reduceBEq, true_or, or_true, false_or, or_false, Nat.reduceLT, Nat.reduceMod, Nat.reducePow, rmaps, nsucc, List.flatten_cons, List.flatten_nil, Nat.reduceEqDiff, Nat.reduceLeDiff, Nat.reduceAdd, Nat.reduceMul, Nat.reduceSub, ↓reduceIte, reduceCtorEq, decide_true, decide_false]
  first | refine FCall.go hOy (FZs.one (FZ.reV y)) ?_ | refine FCall.go' hOy (FZs.one (FZ.reV y)) ?_ | refine FCall.goQ hOy (FZs.one (FZ.reV y)) ?_
  simp only [Cd.cd5, Tk.t5, base0, base1, base2, base3, Option.isNone_none, Option.isNone_some, Nat.reduceBEq, true_or, or_true, false_or, or_false, Nat.reduceLT, Nat.reduceMod, Nat.reducePow, rmaps, nsucc, List.flatten_cons, List.flatten_nil, Nat.reduceEqDiff, Nat.reduceLeDiff, Nat.reduceAdd, Nat.reduceMul, Nat.reduceSub, ↓reduceIte, reduceCtorEq, decide_true, decide_false]
  first | refine FCall.go hrp (FZs.one (FZ.reV y)) ?_ | refine FCall.go' hrp (FZs.one (FZ.reV y)) ?_ | refine FCall.goQ hrp (FZs.one (FZ.reV y)) ?_
  by_cases c1 : cfE x y = 0
  · by_cases c2 : cfE y z = 0
    · cases c3 : deafN y with
      | none =>
        have c4 := fin c1 c2 c3
        simp only [recpO, c1, c2, c4, show ((0 : Int) != 0) = false from rfl, show ((0 : Int) == 0) = true from rfl, Cd.cd5, Tk.t5, base0, base1, base2, base3, Option.isNone_none, Option.isNone_some, Nat.reduceBEq, true_or, or_true, false_or, or_false, Nat.reduceLT, Nat.reduceMod, Nat.reducePow, rmaps, nsucc, List.flatten_cons, List.flatten_nil, Nat.reduceEqDiff, Nat.reduceLeDiff, Nat.reduceAdd, Nat.reduceMul, Nat.reduceSub, ↓reduceIte, reduceCtorEq, decide_true, decide_false]
        exact fin_v rfl
      | some p =>
        simp only [recpO, c1, c2, show ((0 : Int) != 0) = false from rfl, show ((29 : Int) != 0) = true from rfl, Cd.cd5, Tk.t5, base0, base1, base2, base3, Option.isNone_none, Option.isNone_some, Nat.reduceBEq, true_or, or_true, false_or, or_false, Nat.reduceLT, Nat.reduceMod, Nat.reducePow, rmaps, nsucc, List.flatten_cons, List.flatten_nil, Nat.reduceEqDiff, Nat.reduceLeDiff, Nat.reduceAdd, Nat.reduceMul, Nat.reduceSub, ↓reduceIte, reduceCtorEq, decide_true, decide_false]
        exact fin_v rfl
    · cases c3 : deafN y with
      | none =>
        simp only [recpO, c1, bneT c2, show ((0 : Int) != 0) = false from rfl, Cd.cd5, Tk.t5, base0, base1, base2, base3, Option.isNone_none, Option.isNone_some, Nat.reduceBEq, true_or, or_true, false_or, or_false, Nat.reduceLT, Nat.reduceMod, Nat.reducePow, rmaps, nsucc, List.flatten_cons, List.flatten_nil, Nat.reduceEqDiff, Nat.reduceLeDiff, Nat.reduceAdd, Nat.reduceMul, Nat.reduceSub, ↓reduceIte, reduceCtorEq, decide_true, decide_false]
        exact fin_v rfl
      | some p =>
        simp only [recpO, c1, bneT c2, show ((0 : Int) != 0) = false from rfl, Cd.cd5, Tk.t5, base0, base1, base2, base3, Option.isNone_none, Option.isNone_some, Nat.reduceBEq, true_or, or_true, false_or, or_false, Nat.reduceLT, Nat.reduceMod, Nat.reducePow, rmaps, nsucc, List.flatten_cons, List.flatten_nil, Nat.reduceEqDiff, Nat.reduceLeDiff, Nat.reduceAdd, Nat.reduceMul, Nat.reduceSub, ↓reduceIte, reduceCtorEq, decide_true, decide_false]
        exact fin_v rfl
  · cases c3 : deafN y with
    | none =>
      simp only [recpO, bneT c1, Cd.cd5, Tk.t5, base0, base1, base2, base3, Option.isNone_none, Option.isNone_some, Nat.reduceBEq, true_or, or_true, false_or, or_false, Nat.reduceLT, Nat.reduceMod, Nat.reducePow, rmaps, nsucc, List.flatten_cons, List.flatten_nil, Nat.reduceEqDiff, Nat.reduceLeDiff, Nat.reduceAdd, Nat.reduceMul, Nat.reduceSub, ↓reduceIte, reduceCtorEq, decide_true, decide_false]
      exact fin_v rfl
    | some p =>
      simp only [recpO, bneT c1, Cd.cd5, Tk.t5, base0, base1, base2, base3, Option.isNone_none, Option.isNone_some, Nat.reduceBEq, true_or, or_true, false_or, or_false, Nat.reduceLT, Nat.reduceMod, Nat.reducePow, rmaps, nsucc, List.flatten_cons, List.flatten_nil, Nat.reduceEqDiff, Nat.reduceLeDiff, Nat.reduceAdd, Nat.reduceMul, Nat.reduceSub, ↓reduceIte, reduceCtorEq, decide_true, decide_false]
      exact fin_v rfl
end Go.Proofs.YtchpcjmgifnmdaaDoor

/- Readers of the arguments; what the rows' list of variables gives; room. -/
namespace Go.Proofs.YtchpcjmgifnmdaaDoor
open Go Go.Proofs.YtchpcjmgifnmdaaDoor.Ab Go.ChangeShapes Go.WideShapes Go.ChangeAt Go.RowKit Go.Deep
set_option maxRecDepth 100000

theorem rdI : Rd Tryd.prog 3 (fun n : Int => [.v (.int .i64 n)]) (fun n => IntKind.i64.min ≤ n ∧ n ≤ IntKind.i64.max) := Rd.int Tryd.underlying3
theorem rdMv : Rd Tryd.prog 113 mvR (fun _ => True) :=
  (Rd.struct Tryd.underlying113 rfl (by kernel_rfl) (RdF.cons (s := 1) rfl (by kernel_rfl) rdI (RdF.cons (s := 1) rfl (by kernel_rfl) rdI (RdF.cons (s := 1) rfl (by kernel_rfl) rdI (RdF.cons (s := 1) rfl (by kernel_rfl) rdI RdF.nil))))).map
    (fun p => (⟨p.1, p.2.1, p.2.2.1, p.2.2.2.1⟩ : Mv)) (fun _ => rfl) (fun _ _ => trivial)
theorem rdMvs : Rd Tryd.prog 22 (fun l : List Mv => [mvsV l]) (fun _ => True) :=
  (Rd.slice Tryd.underlying22 (by kernel_rfl) (by decide) rdMv (fun _ => rfl)).map (fun l : List Mv => l) (fun _ => rfl) (fun _ _ => trivial)
theorem rdRe : Rd Tryd.prog 24 reL (fun _ => True) :=
  (Rd.struct Tryd.underlying24 rfl (by kernel_rfl) (RdF.cons (s := 1) rfl (by kernel_rfl) rdI (RdF.cons (s := 1) rfl (by kernel_rfl) rdI (RdF.cons (s := 1) rfl (by kernel_rfl) rdI (RdF.cons (s := 1) rfl (by kernel_rfl) rdI (RdF.cons (s := 1) rfl (by kernel_rfl) rdMvs RdF.nil)))))).map
    (fun p => (⟨p.1, p.2.1, p.2.2.1, p.2.2.2.1, p.2.2.2.2.1⟩ : Re)) (fun _ => rfl) (fun _ _ => trivial)
theorem own : ownKnob Tryd.prog.godebug = none := by kernel_rfl
theorem laidOut : laidOutB Tryd.prog = true := by kernel_rfl
theorem by22 : Tryd.prog.bytesOf 113 = 32 := by kernel_rfl
theorem by27 : Tryd.prog.bytesOf 3 = 8 := by kernel_rfl

/-! room -/
theorem slice_room {H : Type} {enc : TypeId × Value → H} {W : World} {base : Nat} {sp : Nat → Bool} {hd : Bool} {t e : TypeId} {fuel : Nat} {v : Value} {x : DataW H × List MemPlace} {g : G} {k : Nat} {rows : List (List AV)} {tip : Tip} {B R : Nat}
    (ht : Tryd.prog.underlying t = some (.slice e)) (h : DataW.trod enc Tryd.prog W base sp hd fuel t [v] = some x) (hv : VR g (.lst k rows tip) v) (hw : ∀ elems spare, x.1 = .slice elems spare → (elems.length + spare.length) * B ≤ R) : rows.length * B ≤ R := by
  rcases open_slice ht h with ⟨h1, _⟩ | ⟨a, len, cap, m, n, D, Pl, h1, _, _, _, _, hx, _⟩
  · simp only [List.cons.injEq, and_true] at h1
    subst h1
    cases hv with
    | lst q1 q2 => rw [← q1]; simp
  · simp only [List.cons.injEq, and_true] at h1
    subst h1
    cases hv with
    | lst q1 q2 =>
      rw [← q1]
      have := hw _ _ (by rw [hx])
      simp only [List.length_map, List.length_range] at this
      exact Nat.le_trans (Nat.mul_le_mul_right B (Nat.le_add_right _ _)) this
theorem re_room {H : Type} {enc : TypeId × Value → H} {W : World} {base : Nat} {sp : Nat → Bool} {hd : Bool} {v : Value} {d : DataW H} {ps : List MemPlace} {g : G} {y : Re}
    (h : DataW.Trod enc Tryd.prog W base sp hd 24 v d ps) (hv : VR g (reV y) v) (hw : ∀ n ∈ DataW.weights Tryd.prog 24 d, n ≤ reachBytes) : y.mv.length * 32 ≤ 140737488355328 := by
  obtain ⟨fuel, hf⟩ := h
  obtain ⟨xs, n, _, hx, hl, hlen, hfs⟩ := DataW.trod_struct Tryd.underlying24 hf
  have h4 : DataW.trod enc Tryd.prog W base sp hd n 22 ((v.cells.toList.drop 4).take (Tryd.prog.cellsOf 22)) = xs[4]? := hfs 4 _ rfl
  unfold reV at hv
  cases hv with
  | @agg _ arr ha hva =>
    have hsz : arr.size = 5 := ha
    have hv4 := hva 4 (by simp [reL])
    have e4 : ((Value.agg arr).cells.toList.drop 4).take 1 = [arr.getD 4 undef] := by
      show (arr.toList.drop 4).take 1 = _
      apply List.ext_getElem?
      intro i
      cases i with
      | zero =>
        rw [List.getElem?_take_of_lt (by omega), List.getElem?_drop, Array.getElem?_toList, Array.getElem?_eq_getElem (by omega)]
        simp [Array.getD_eq_getD_getElem?, Array.getElem?_eq_getElem (show 4 < arr.size by omega)]
      | succ i => rw [List.getElem?_eq_none (by rw [List.length_take]; omega), List.getElem?_eq_none (by simp)]
    have hc22 : Tryd.prog.cellsOf 22 = 1 := by kernel_rfl
    simp only [hc22] at h4
    rw [e4] at h4
    have hxl : xs.length = 5 := hlen
    rw [List.getElem?_eq_getElem (show 4 < xs.length by omega)] at h4
    have hd1 : d = .agg (xs.map (·.1)) := congrArg Prod.fst hx
    have := slice_room (B := 32) (R := reachBytes) Tryd.underlying22 h4 hv4 fun elems spare he => by
      refine hw _ ?_
      rw [hd1]
      simp only [DataW.weights, Tryd.underlying24]
      refine DataW.weights_mem_each (j := 4) (t := 22) rfl (d := .slice elems spare) ?_ _ ?_
      · rw [List.getElem?_map, List.getElem?_eq_getElem (show 4 < xs.length by omega)]
        exact congrArg some he
      · simp [DataW.weights, Tryd.underlying22, by22]
    rw [List.length_map] at this
    have h2 : reachBytes = 140737488351232 := rfl
    omega

/-! what the rows' list of variables gives -/
theorem gTab : Tryd.prog.globalNamed "math/bits.deBruijn64tab" = some 1 := by kernel_rfl
theorem gTabType : (Tryd.prog.globals[1]?).map (·.type) = some 180 := by kernel_rfl
theorem cells180 : Tryd.prog.cellsOf 180 = 64 := by kernel_rfl
theorem cells5 : Tryd.prog.cellsOf 5 = 1 := by kernel_rfl
theorem laid_cells {W : World} (h : laidMetH Tryd.prog [("math/bits.deBruijn32tab", Rows.laid_math_bits_deBruijn32tab), ("math/bits.deBruijn64tab", Rows.laid_math_bits_deBruijn64tab)] W) : ∀ b o x, gCell b o = Option.some x → W.cell? ⟨b, o, .none⟩ = Option.some x := by
  have h1 := h.filter fun x => x.1 == "math/bits.deBruijn64tab"
  have h2 : laidMet Tryd.prog [("math/bits.deBruijn64tab", Lib.tabData .u8 (tab64.map fun n : Nat => (n : Int)))] W := h1
  have hT := Lib.tabIs_of_head (rest := []) gTab gTabType Tryd.underlying180 Tryd.underlying5 cells5 cells180 h2
  intro b o x e
  unfold gCell at e
  split at e
  · rename_i hc
    obtain ⟨rfl, ho⟩ := hc
    simp only [Option.some.injEq] at e
    subst e
    have := hT.cell gTab o (by simpa [tab64] using ho)
    rw [this]
    congr 2
    rw [List.getD_eq_getElem?_getD, List.getElem?_map, List.getD_eq_getElem?_getD]
    rw [List.getElem?_eq_getElem (show o < tab64.length by simpa [tab64] using ho)]; rfl
  · cases e
end Go.Proofs.YtchpcjmgifnmdaaDoor

/- A world for the rows' witnesses: the tables hold what their initialisers lay. -/
namespace Go.Proofs.YtchpcjmgifnmdaaDoor
open Go Go.Proofs.YtchpcjmgifnmdaaDoor.Ab Go.ChangeShapes Go.WideShapes Go.ChangeAt Go.RowKit
set_option maxRecDepth 100000

def lay32 : Obj → Obj
  | .cells _ t frozen => .cells #[.int .u8 0, .int .u8 1, .int .u8 28, .int .u8 2, .int .u8 29, .int .u8 14, .int .u8 24, .int .u8 3, .int .u8 30, .int .u8 22, .int .u8 20, .int .u8 15, .int .u8 25, .int .u8 17, .int .u8 4, .int .u8 8, .int .u8 31, .int .u8 27, .int .u8 13, .int .u8 23, .int .u8 21, .int .u8 19, .int .u8 16, .int .u8 7, .int .u8 26, .int .u8 12, .int .u8 18, .int .u8 6, .int .u8 11, .int .u8 5, .int .u8 10, .int .u8 9] t frozen
  | o => o
def lay64 : Obj → Obj
  | .cells _ t frozen => .cells ((tab64.map fun n : Nat => Value.int .u8 (n : Int)).toArray) t frozen
  | o => o
/-- a world for the witness: the tables hold what their initialisers lay -/
noncomputable def laidWorld (os : Os) : World :=
  { World.holding Tryd.prog os ⟨#[], #[], []⟩ with heap := ((World.holding Tryd.prog os ⟨#[], #[], []⟩).heap.modify 0 lay32).modify 1 lay64 }
theorem row_le {H : Type} {P : Program} {ts : List TypeId} {ds : List (DataW H)} (h : (DataW.weightsEach P ts ds).all (· ≤ reachBytes) = true) {j : Nat} {t : TypeId} {d : DataW H} (ht : ts[j]? = some t) (hd : ds[j]? = some d) : ∀ n ∈ DataW.weights P t d, n ≤ reachBytes := fun n hn =>
  of_decide_eq_true (List.all_eq_true.1 h n (DataW.weights_mem_each ht hd n hn))
end Go.Proofs.YtchpcjmgifnmdaaDoor

/- The law holds: for every input it returns true, and each argument reads behind the call as it read before; the card ties the table of math/bits to the program's text. No condition. -/
namespace Go.Proofs.YtchpcjmgifnmdaaDoor
open Go Go.Proofs.YtchpcjmgifnmdaaDoor.Ab Go.ChangeShapes Go.WideShapes Go.ChangeAt Go.RowKit
set_option maxRecDepth 100000

def wArgs5 : Array Value := #[.agg #[.int .i64 0, .int .i64 0, .int .i64 0, .int .i64 0, .slice none 0 0], .agg #[.int .i64 0, .int .i64 0, .int .i64 0, .int .i64 0, .slice none 0 0], .agg #[.int .i64 0, .int .i64 0, .int .i64 0, .int .i64 0, .slice none 0 0]]
theorem laid_met5 (os : Os) : laidMet Tryd.prog Rows.conformChainRow.laid ((laidWorld os).forCall (fun _ _ => 0) ⟨#[], wArgs5, []⟩).memory :=
  laidMet_of_run' 66 (by kernel_rfl) (by kernel_rfl)
theorem reads5 (os : Os) {H : Type} (enc : TypeId × Value → H) : ∃ places, DataW.whole enc Tryd.prog ((laidWorld os).forCall (fun _ _ => 0) ⟨#[], wArgs5, []⟩).memory Tryd.f5.params.toList Rows.conformChainSpec.vars false wArgs5.toList 8 = some ([.agg [.lit (.int .i64 0), .lit (.int .i64 0), .lit (.int .i64 0), .lit (.int .i64 0), .nil], .agg [.lit (.int .i64 0), .lit (.int .i64 0), .lit (.int .i64 0), .lit (.int .i64 0), .nil], .agg [.lit (.int .i64 0), .lit (.int .i64 0), .lit (.int .i64 0), .lit (.int .i64 0), .nil]], [], places) :=
  ⟨[], by kernel_rfl⟩
set_option maxHeartbeats 800000 in
theorem lift5 (os : Os) (started : os.Started) (H : Type) (enc : TypeId × Value → H) (F : Stop.Interp) :
    ReturnsInHanded {} Tryd.checked os 5 .any ((OpenSpec.ofChange Rows.conformChainSpec).preRow enc Tryd.prog Tryd.f5 Rows.conformChainRow.domain false Rows.conformChainRow.laid) (((OpenSpec.ofChange Rows.conformChainSpec).at F).post enc Tryd.prog Tryd.f5 false true false false) := by
  obtain ⟨places, hx⟩ := reads5 os enc
  refine returnsInHanded_of_row (C := Tryd.checked) (s := OpenSpec.ofChange Rows.conformChainSpec) own started (by kernel_rfl) Tryd.func5
    (witness_row_at (enc := enc) (C := Tryd.checked) false (laidWorld os) wArgs5 rfl (by kernel_rfl) (by kernel_rfl) (by kernel_rfl)
      (OpenSpec.preRow_of_cond 8 hx (by kernel_rfl) (fun k hk => by cases hk) (by kernel_rfl) (laid_met5 os))) ?_
  intro W base args ds gs before hval0 hW _ _ hsz hL _ _
  have hval : ∀ (j : Nat) t v, Tryd.f5.params[j]? = some t → args[j]? = some v → Value.okWide Tryd.prog W .any base t v := hval0
  have hW' := hW
  obtain ⟨p, q, hA0, hV, rfl, _, _⟩ := hW
  have hA : DataW.TrodAll enc Tryd.prog W 0 (fun _ => true) true Tryd.f5.params.toList args.toList ds p := hA0
  rw [Tryd.params5] at hA hval hsz
  obtain ⟨v0, v1, v2, d0, d1, d2, p0, p1, p2, rfl, rfl, rfl, h0, h1, h2⟩ := trodAll_three hA
  obtain ⟨rfl, rfl⟩ := trodVars_none hV
  obtain ⟨c0, -, hc0⟩ := arg_struct rdRe Tryd.underlying24 (hval 0 24 v0 rfl rfl) h0
  have r0 := re_room h0 hc0 (row_le hsz (j := 0) rfl rfl)
  obtain ⟨c1, -, hc1⟩ := arg_struct rdRe Tryd.underlying24 (hval 1 24 v1 rfl rfl) h1
  have r1 := re_room h1 hc1 (row_le hsz (j := 1) rfl rfl)
  obtain ⟨c2, -, hc2⟩ := arg_struct rdRe Tryd.underlying24 (hval 2 24 v2 rfl rfl) h2
  have r2 := re_room h2 hc2 (row_le hsz (j := 2) rfl rfl)
  clear hA0 hval0
  simp only [List.append_nil] at hW'
  try rw [List.append_assoc] at hW'
  have hlt : ∀ x ∈ p0 ++ (p1 ++ p2), x.block < W.heap.size := fun x hx => by simpa using hW'.lt x (by first | exact hx | simpa using hx)
  refine ((law5 c0 c1 c2 r0 r1 r2).true (xs := #[v0, v1, v2]) (W := W) ⟨rfl, fun j hj => ?_⟩ (laid_cells hL)).mono fun e W' ⟨he, hb⟩ => ?_
  · match j, hj with
    | 0, _ => exact hc0
    | 1, _ => exact hc1
    | 2, _ => exact hc2
  subst he
  have harg0 : DataW.Trod enc Tryd.prog W' 0 (fun b => decide (b < W.heap.size)) true 24 v0 d0 p0 :=
    Below.trod laidOut (by kernel_rfl) (of_decide_eq_true (by kernel_rfl)) h0 hb (fun x hx => hlt x (List.mem_append.2 (.inl hx)))
  have harg1 : DataW.Trod enc Tryd.prog W' 0 (fun b => decide (b < W.heap.size)) true 24 v1 d1 p1 :=
    Below.trod laidOut (by kernel_rfl) (of_decide_eq_true (by kernel_rfl)) h1 hb (fun x hx => hlt x (List.mem_append.2 (.inr (List.mem_append.2 (.inl hx)))))
  have harg2 : DataW.Trod enc Tryd.prog W' 0 (fun b => decide (b < W.heap.size)) true 24 v2 d2 p2 :=
    Below.trod laidOut (by kernel_rfl) (of_decide_eq_true (by kernel_rfl)) h2 hb (fun x hx => hlt x (List.mem_append.2 (.inr (List.mem_append.2 (.inr hx)))))
  refine ⟨_, rfl, _, _, _, [], _, [], hW', ?_, trodAll_mk3 harg0 harg1 harg2, rfl, hb.frame _, fun h => by cases h⟩
  exact trodAll_mk1 (shut_bool Tryd.underlying4 _)
theorem conformChainSaid : Rows.ConformChainSaid :=
  OpenClaim.holds_of_cond 5 Tryd.f5 rfl rfl rfl rfl rfl rfl rfl ⟨rfl, rfl, rfl, rfl, rfl⟩ rfl rfl rfl rfl rfl (by kernel_rfl) Tryd.func5 (by kernel_rfl)
    (of_decide_eq_true (by kernel_rfl)) (by unfold Func.isWrapper; first | (rw [if_pos (by decide +kernel)]; kernel_rfl) | (rw [if_neg (by decide +kernel)]; exact ⟨rfl, rfl⟩))
    (fun os started H enc _ F => by rw [OpenClaim.pre_eq_preRow]; exact lift5 os started H enc F)
theorem plain5 (f : FuncId) (fn : Func) (hf : Tryd.pinned.checked.prog.funcNamed "examiner/examinerlaw42.ConformChain" = some f) (hfn : Tryd.pinned.checked.prog.funcs[f]? = some fn) :
    false = Tryd.pinned.checked.prog.looks [] ∧ ∀ (j : Nat) t, fn.params[j]? = some t → Tryd.pinned.checked.prog.wantsStandIn t = false := by
  obtain rfl : f = 5 := Option.some.inj ((show Tryd.prog.funcNamed "examiner/examinerlaw42.ConformChain" = some 5 by kernel_rfl).symm.trans hf) |>.symm
  obtain rfl : fn = Tryd.f5 := (Option.some.inj (Tryd.func5.symm.trans hfn)).symm
  refine ⟨by kernel_rfl, fun j t ht => ?_⟩
  rw [Tryd.params5] at ht
  have hm := Array.mem_of_getElem? ht
  simp only [List.mem_toArray, List.mem_cons, List.not_mem_nil, or_false] at hm
  rcases hm with rfl | rfl | rfl
  · exact (show Tryd.prog.wantsStandIn 24 = false by kernel_rfl)
  · exact (show Tryd.prog.wantsStandIn 24 = false by kernel_rfl)
  · exact (show Tryd.prog.wantsStandIn 24 = false by kernel_rfl)
theorem conformChain : Rows.ConformChainCardSaid :=
  Claim7.holds_tied_plain_at .later [] _ _ _ _ conformChainSaid (fun _ h => by cases h) (by kernel_rfl) (fun _ h => by cases h) conformChain_row_tie rfl ⟨rfl, rfl⟩ (by kernel_rfl) rfl plain5 (by kernel_rfl)
end Go.Proofs.YtchpcjmgifnmdaaDoor

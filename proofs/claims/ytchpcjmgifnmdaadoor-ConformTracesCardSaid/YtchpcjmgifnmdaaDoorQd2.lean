/- Part 2 of a proof: conformTraces holds for every input; no condition. -/
import Derived.Test.YtchpcjmgifnmdaaDoorProg
import Derived.KernelRfl
import Derived.DeepKeys3
import Derived.Test.YtchpcjmgifnmdaaDoorCards
import Derived.Test.YtchpcjmgifnmdaaDoorTie
import Derived.ProofKit
import Derived.OpenShut
import Derived.SizedLaws
import Derived.Deep.DeepHandedRow
import Derived.Lib.LaidTab
import Derived.Test.YtchpcjmgifnmdaaDoorGl
import Derived.Test.YtchpcjmgifnmdaaDoorAb0
import Derived.Test.YtchpcjmgifnmdaaDoorAb1
import Derived.Test.YtchpcjmgifnmdaaDoorAb2
import Derived.Test.YtchpcjmgifnmdaaDoorAb3
import Derived.Test.YtchpcjmgifnmdaaDoorAb4
import Derived.Test.YtchpcjmgifnmdaaDoorAb5
import Derived.Test.YtchpcjmgifnmdaaDoorAb6
import Derived.Test.YtchpcjmgifnmdaaDoorAb7
import Derived.Test.YtchpcjmgifnmdaaDoorAb8
import Derived.Test.YtchpcjmgifnmdaaDoorAb8a
import Derived.Test.YtchpcjmgifnmdaaDoorAb8b
import Derived.Test.YtchpcjmgifnmdaaDoorAb8c
import Derived.Test.YtchpcjmgifnmdaaDoorAb8m
import Derived.Test.YtchpcjmgifnmdaaDoorAb8d
import Derived.Test.YtchpcjmgifnmdaaDoorAb9
import Derived.Test.YtchpcjmgifnmdaaDoorAb10
import Derived.Test.YtchpcjmgifnmdaaDoorAb11
import Derived.Test.YtchpcjmgifnmdaaDoorAb12
import Derived.Test.YtchpcjmgifnmdaaDoorAb13
import Derived.Test.YtchpcjmgifnmdaaDoorAb14
import Derived.Test.YtchpcjmgifnmdaaDoorAb15
import Derived.Test.YtchpcjmgifnmdaaDoorAb16
import Derived.Test.YtchpcjmgifnmdaaDoorAb17
import Derived.Test.YtchpcjmgifnmdaaDoorAb18
import Derived.Test.YtchpcjmgifnmdaaDoorAb19
import Derived.Test.YtchpcjmgifnmdaaDoorAb20
import Derived.Test.YtchpcjmgifnmdaaDoorAb23
import Derived.Test.YtchpcjmgifnmdaaDoorQd1
set_option linter.unusedSimpArgs false
set_option linter.unusedVariables false
set_option linter.defProp false
/- The search for a failing trace, plainly. -/
namespace Go.Proofs.YtchpcjmgifnmdaaDoor
open Go Go.Proofs.YtchpcjmgifnmdaaDoor.Ab

theorem nodup_lt : ∀ (n : Nat) (l : List Nat), l.Nodup → (∀ x ∈ l, x < n) → l.length ≤ n
  | 0, l, _, h => by
    cases l with
    | nil => exact Nat.le_refl _
    | cons x l => have := h x (by simp); omega
  | n + 1, l, hn, h => by
    by_cases hm : n ∈ l
    · have h1 := List.length_erase_of_mem hm
      have h2 := nodup_lt n (l.erase n) (hn.erase _) fun x hx => by
        have h3 := (hn.mem_erase_iff).mp hx
        have := h x h3.2
        have := h3.1
        omega
      have : 0 < l.length := List.length_pos_of_mem hm
      omega
    · have := nodup_lt n l hn fun x hx => by
        have h1 := h x hx
        have : x ≠ n := fun e => hm (e ▸ hx)
        omega
      omega

structure Nd where
  x : Nat
  y : Nat
  tr : List Int
deriving Inhabited, DecidableEq
def metN (l : List Nd) (a b : Nat) : Bool := l.any fun p => decide (p.x = a) && decide (p.y = b)
def addN (l : List Nd) (p : Nd) : List Nd := if metN l p.x p.y then l else l ++ [p]
def extE (x y : Re) (p : Nd) (l : List Nd) (e : Nat) : List Nd := if aft y p.y e = 0 then l else addN l ⟨aft x p.x e, aft y p.y e, p.tr ++ [(e : Int)]⟩
def extN (x y : Re) (p : Nd) (l : List Nd) (k : Nat) : List Nd := (List.range k).foldl (extE x y p) l
def failsAt (x y : Re) (a b e : Nat) : Bool := shw x a e && !shw y b e
def failsN (x y : Re) (a b : Nat) : Option Nat := firstIx (silc x + 1) (failsAt x y a b)
def srch (x y : Re) : Nat → List Nd → Nat → Option (Option (List Int) × List Nd)
  | 0, _, _ => none
  | k + 1, l, i => if i < l.length then
      match failsN x y (l.getD i default).x (l.getD i default).y with
      | some e => some (some ((l.getD i default).tr ++ [(e : Int)]), l)
      | none => srch x y k (extN x y (l.getD i default) l (silc x + 1)) (i + 1)
    else some (none, l)
def SrchR (x y : Re) (l : List Nd) (i : Nat) (r : Option (List Int) × List Nd) : Prop := ∃ k, srch x y k l i = some r
theorem srch_mono {x y : Re} {r : Option (List Int) × List Nd} : ∀ (k : Nat) (l : List Nd) (i : Nat) (j : Nat), srch x y k l i = some r → srch x y (k + j) l i = some r
  | 0, _, _, _, h => by cases h
  | k + 1, l, i, j, h => by
    rw [show k + 1 + j = (k + j) + 1 from by omega]
    unfold srch at h ⊢
    split
    · rename_i h1
      rw [if_pos h1] at h
      split
      · rename_i e he
        rw [he] at h; exact h
      · rename_i he
        rw [he] at h; exact srch_mono k _ _ j h
    · rename_i h1
      rw [if_neg h1] at h; exact h
theorem SrchR.det {x y : Re} {l : List Nd} {i : Nat} {r r' : Option (List Int) × List Nd} (h : SrchR x y l i r) (h' : SrchR x y l i r') : r = r' := by
  obtain ⟨k, hk⟩ := h
  obtain ⟨k', hk'⟩ := h'
  have h1 := srch_mono k l i k' hk
  have h2 := srch_mono k' l i k hk'
  rw [Nat.add_comm k' k] at h2
  rw [h1] at h2
  exact Option.some.inj h2
theorem SrchR.next {x y : Re} {l : List Nd} {i : Nat} {r : Option (List Int) × List Nd} (hi : i < l.length) (hf : failsN x y (l.getD i default).x (l.getD i default).y = none) (h : SrchR x y (extN x y (l.getD i default) l (silc x + 1)) (i + 1) r) : SrchR x y l i r := by
  obtain ⟨k, hk⟩ := h
  refine ⟨k + 1, ?_⟩
  rw [srch, if_pos hi, hf]; exact hk
theorem SrchR.fail {x y : Re} {l : List Nd} {i e : Nat} (hi : i < l.length) (hf : failsN x y (l.getD i default).x (l.getD i default).y = some e) : SrchR x y l i (some ((l.getD i default).tr ++ [(e : Int)]), l) :=
  ⟨1, by rw [srch, if_pos hi, hf]⟩
theorem SrchR.done {x y : Re} {l : List Nd} {i : Nat} (hi : ¬ i < l.length) : SrchR x y l i (none, l) := ⟨1, by rw [srch, if_neg hi]⟩

structure GoodN (x y : Re) (l : List Nd) : Prop where
  lt : ∀ p ∈ l, p.x < 2 ^ nst x ∧ p.y < 2 ^ nst y
  nd : (l.map fun p => p.x * 1024 + p.y).Nodup
theorem metN_iff {l : List Nd} {a b : Nat} : metN l a b = true ↔ ∃ p ∈ l, p.x = a ∧ p.y = b := by simp [metN]
theorem metN_mem {x y : Re} (hx : Ok x) (hy : Ok y) {l : List Nd} (h : ∀ p ∈ l, p.x < 2 ^ nst x ∧ p.y < 2 ^ nst y) {a b : Nat} (hb : b < 1024) : metN l a b = true ↔ a * 1024 + b ∈ l.map fun p => p.x * 1024 + p.y := by
  rw [metN_iff, List.mem_map]
  constructor
  · rintro ⟨p, hp, rfl, rfl⟩; exact ⟨p, hp, rfl⟩
  · rintro ⟨p, hp, he⟩
    have := hy.pw (h p hp).2
    exact ⟨p, hp, by omega, by omega⟩
theorem GoodN.len {x y : Re} (hx : Ok x) (hy : Ok y) {l : List Nd} (h : GoodN x y l) : l.length ≤ 1048576 := by
  have := nodup_lt 1048576 _ h.nd fun v hv => by
    obtain ⟨p, hp, rfl⟩ := List.mem_map.mp hv
    have h1 := hx.pw (h.lt p hp).1
    have h2 := hy.pw (h.lt p hp).2
    omega
  simpa using this
theorem GoodN.add {x y : Re} (hx : Ok x) (hy : Ok y) {l : List Nd} (h : GoodN x y l) {p : Nd} (h1 : p.x < 2 ^ nst x) (h2 : p.y < 2 ^ nst y) : GoodN x y (addN l p) := by
  unfold addN
  split
  · exact h
  · rename_i hm
    refine ⟨fun q hq => ?_, ?_⟩
    · rcases List.mem_append.mp hq with hq | hq
      · exact h.lt q hq
      · simp only [List.mem_singleton] at hq; subst hq; exact ⟨h1, h2⟩
    · rw [metN_mem hx hy h.lt (hy.pw h2)] at hm
      rw [List.map_append, List.map_cons, List.map_nil, List.nodup_append]
      refine ⟨h.nd, by simp, fun a ha b hb => ?_⟩
      simp only [List.mem_singleton] at hb
      subst hb
      intro e; subst e; exact hm ha
theorem GoodN.extE {x y : Re} (hx : Ok x) (hy : Ok y) {l : List Nd} (h : GoodN x y l) {p : Nd} (h1 : p.x < 2 ^ nst x) (h2 : p.y < 2 ^ nst y) (e : Nat) : GoodN x y (extE x y p l e) := by
  unfold Go.Proofs.YtchpcjmgifnmdaaDoor.extE
  split
  · exact h
  · exact h.add hx hy (aft_lt hx h1 e) (aft_lt hy h2 e)
theorem extN_succ (x y : Re) (p : Nd) (l : List Nd) (k : Nat) : extN x y p l (k + 1) = extE x y p (extN x y p l k) k := by
  unfold extN; rw [List.range_succ, List.foldl_append]; rfl
theorem GoodN.extN {x y : Re} (hx : Ok x) (hy : Ok y) {l : List Nd} (h : GoodN x y l) {p : Nd} (h1 : p.x < 2 ^ nst x) (h2 : p.y < 2 ^ nst y) : ∀ k, GoodN x y (extN x y p l k)
  | 0 => h
  | k + 1 => by rw [extN_succ]; exact (GoodN.extN hx hy h h1 h2 k).extE hx hy h1 h2 k
theorem extE_pre (x y : Re) (p : Nd) (l : List Nd) (e : Nat) : ∃ r, extE x y p l e = l ++ r := by
  unfold extE
  split
  · exact ⟨[], by simp⟩
  · unfold addN
    split
    · exact ⟨[], by simp⟩
    · exact ⟨_, rfl⟩
theorem extN_pre (x y : Re) (p : Nd) (l : List Nd) : ∀ k, ∃ r, extN x y p l k = l ++ r
  | 0 => ⟨[], by simp [extN]⟩
  | k + 1 => by
    obtain ⟨r, hr⟩ := extN_pre x y p l k
    obtain ⟨r', hr'⟩ := extE_pre x y p (extN x y p l k) k
    exact ⟨r ++ r', by rw [extN_succ, hr', hr, List.append_assoc]⟩
def nd0 (x y : Re) : Nd := ⟨fstM x, fstM y, []⟩
theorem good0 {x y : Re} (hx : Ok x) (hy : Ok y) : GoodN x y [nd0 x y] :=
  ⟨fun p hp => by simp only [List.mem_singleton] at hp; subst hp; exact ⟨fst_lt hx, fst_lt hy⟩, by simp⟩
/-- how the pairs came, in the program's lists -/
structure Came (l : List Nd) (fr bys : List Int) : Prop where
  f : fr.length = l.length
  b : bys.length = l.length
  h0 : 0 < l.length
  z : fr.getD 0 0 = -1 ∧ (l.getD 0 default).tr = []
  s : ∀ k, 0 < k → k < l.length → ∃ j : Nat, fr.getD k 0 = (j : Int) ∧ j < k ∧ (l.getD k default).tr = (l.getD j default).tr ++ [bys.getD k 0]
theorem getD_append_left {α : Type} (l r : List α) (d : α) {i : Nat} (h : i < l.length) : (l ++ r).getD i d = l.getD i d := by
  rw [List.getD_eq_getElem?_getD, List.getElem?_append_left h, ← List.getD_eq_getElem?_getD]
theorem getD_append_len {α : Type} (l : List α) (x d : α) : (l ++ [x]).getD l.length d = x := by
  rw [List.getD_eq_getElem?_getD, List.getElem?_append_right (Nat.le_refl _)]; simp
theorem Came.push {l : List Nd} {fr bys : List Int} (h : Came l fr bys) {i : Nat} (hi : i < l.length) (a b : Nat) (e : Int) : Came (l ++ [⟨a, b, (l.getD i default).tr ++ [e]⟩]) (fr ++ [(i : Int)]) (bys ++ [e]) := by
  have h0 := h.h0
  refine ⟨by simp [h.f], by simp [h.b], by simp, ?_, fun k hk hkl => ?_⟩
  · rw [getD_append_left _ _ _ (by rw [h.f]; exact h0), getD_append_left _ _ _ h0]; exact h.z
  · simp only [List.length_append, List.length_singleton] at hkl
    by_cases hlt : k < l.length
    · obtain ⟨j, h1, h2, h3⟩ := h.s k hk hlt
      refine ⟨j, by rw [getD_append_left _ _ _ (by rw [h.f]; exact hlt)]; exact h1, h2, ?_⟩
      rw [getD_append_left _ _ _ hlt, getD_append_left _ _ _ (by omega), getD_append_left _ _ _ (by rw [h.b]; exact hlt)]; exact h3
    · have : k = l.length := by omega
      subst this
      refine ⟨i, ?_, hi, ?_⟩
      · rw [← h.f, getD_append_len]
      · rw [getD_append_len, getD_append_left _ _ _ hi, ← h.b, getD_append_len]
end Go.Proofs.YtchpcjmgifnmdaaDoor

/- Walks: sets of states as numbers. -/
namespace Go.Proofs.YtchpcjmgifnmdaaDoor
open Go Go.Proofs.YtchpcjmgifnmdaaDoor.Ab
set_option maxRecDepth 100000
set_option linter.unusedSimpArgs false

theorem room_of {by_ n : Nat} (h : n * by_ ≤ 140737488355328) (h' : n ≤ 140737488355328) : roomA by_ n = true := by simp [roomA, h, h']
def tzI (l : Nat) : Nat := (l &&& (18446744073709551616 - l)) * 285870213051353865 % 18446744073709551616 / 288230376151711744
theorem tz_tab : ∀ l, l < 1024 → l ≠ 0 → tzI l < 64 ∧ tab64.getD (tzI l) 0 = low l ∧ low l < 10 := by decide +kernel
theorem tz_eq (l : Nat) (hl : l < 1024) (h0 : l ≠ 0) : (IntKind.u64.wrap (IntKind.u64.wrap ((BitVec.ofInt IntKind.u64.bits (l : Int) &&& BitVec.ofInt IntKind.u64.bits (IntKind.u64.wrap (0 - (l : Int)))).toNat : Int) * 285870213051353865)).fdiv (2 ^ min (Int.toNat 58) IntKind.u64.bits) = ((tzI l : Nat) : Int) := by
  have h1 : IntKind.u64.wrap (0 - (l : Int)) = ((18446744073709551616 - l : Nat) : Int) := by
    simp [IntKind.wrap, IntKind.bits, IntKind.signed]; omega
  have h2 : (BitVec.ofInt IntKind.u64.bits (l : Int) &&& BitVec.ofInt IntKind.u64.bits (((18446744073709551616 - l : Nat) : Int))).toNat = l &&& (18446744073709551616 - l) := by
    show (BitVec.ofInt 64 (l : Int) &&& BitVec.ofInt 64 _).toNat = _
    rw [BitVec.toNat_and, BitVec.ofInt_natCast, BitVec.ofInt_natCast, BitVec.toNat_ofNat, BitVec.toNat_ofNat, Nat.mod_eq_of_lt (by omega), Nat.mod_eq_of_lt (by omega)]
  rw [h1, h2]
  have h3 : l &&& (18446744073709551616 - l) < 2 ^ 10 := Nat.lt_of_le_of_lt Nat.and_le_left hl
  unfold tzI
  generalize l &&& (18446744073709551616 - l) = k at h3 ⊢
  try rw [wrapU (x := ((k : Nat) : Int)) (by omega) (by omega)]
  have h4 : IntKind.u64.wrap ((k : Int) * 285870213051353865) = ((k * 285870213051353865 % 18446744073709551616 : Nat) : Int) := by
    simp [IntKind.wrap, IntKind.bits, IntKind.signed]
  rw [h4, show (min (Int.toNat 58) IntKind.u64.bits) = 58 from by decide, show ((2 : Int) ^ 58) = ((288230376151711744 : Nat) : Int) from by decide, Int.fdiv_eq_ediv_of_nonneg _ (by omega)]
  rfl

theorem hel180 : elOf Tryd.prog 180 = none := by unfold elOf; rw [Tryd.underlying180]
theorem ar180 : arrOf Tryd.prog 180 = some (64, 5) := by unfold arrOf; rw [Tryd.underlying180]
theorem gC (j : Nat) (h : j < 64) : gCell 1 ((j : Nat) : Int).toNat = some (.int .u8 ((tab64.getD j 0 : Nat) : Int)) := by
  rw [Int.toNat_natCast]; unfold gCell; rw [if_pos ⟨rfl, h⟩]
def tzT : List COp := [{ dst := some 11, op := Op.indexAddr 180 (Operand.global 1) (Operand.tmp 10), guard := none }, { dst := some 12, op := Op.load 5 (Operand.tmp 11), guard := none }, { dst := some 13, op := Op.convert 5 3 (Operand.tmp 12), guard := none }, { dst := some 2, op := Op.assign (Operand.tmp 13), guard := none }]
theorem tz_tail (f : AF) (z : Int) (w : Nat) (hw : w < 64) (K : Kont) (h : f.t 10 = .v (.int .u64 z)) (hz : (0 ≤ z) = True) (hz' : (z < ((64 : Nat) : Int)) = True) (hg : gCell 1 z.toNat = some (.int .u8 (w : Int)))
    (hK : ∀ f' : AF, f'.t 2 = .v (.int .i64 (w : Int)) → f'.ds = f.ds → K.run AX.normal f' AH.none) : cops Tryd.prog [] K tzT f AH.none := by
  unfold tzT
  simp only [h, hel180, ar180, hz, hz', hg, Cd.cd121, Tk.t121, base0, base1, base2, base3, Option.isNone_none, Option.isNone_some, Nat.reduceBEq, true_or, or_true, false_or, or_false, Nat.reduceLT, Nat.reduceMod, Nat.reducePow, rmaps, nsucc, List.flatten_cons, List.flatten_nil, Nat.reduceEqDiff, Nat.reduceLeDiff, Nat.reduceAdd, Nat.reduceMul, Nat.reduceSub, ↓reduceIte, reduceCtorEq, decide_true, decide_false]
  refine hK _ ?_ rfl
  show AV.v (.int .i64 (IntKind.i64.wrap (w : Int))) = _
  rw [wrapI (by omega) (by omega)]
theorem low121 (l : Nat) (hl : l < 1024) (h0 : l ≠ 0) : FCall Tryd.prog 121 [uv l] (· = .v (.int .i64 (low l : Nat))) := by
  simp only [uv]
  obtain ⟨t1, t2, t3⟩ := tz_tab l hl h0
  have hg := gC _ t1
  rw [t2] at hg
  have he := tz_eq l hl h0
  have hz : (0 ≤ ((tzI l : Nat) : Int)) = True := by simp
  have hz' : (((tzI l : Nat) : Int) < ((64 : Nat) : Int)) = True := by simp; omega
  refine ACall.enter [] Cd.fn121 (by simp) ?_
  unfold Cd.cd121
  have hS : ((58 : Int) < 0) = False := by simp
  have hT : [{ dst := some 11, op := Op.indexAddr 180 (Operand.global 1) (Operand.tmp 10), guard := none }, { dst := some 12, op := Op.load 5 (Operand.tmp 11), guard := none }, { dst := some 13, op := Op.convert 5 3 (Operand.tmp 12), guard := none }, { dst := some 2, op := Op.assign (Operand.tmp 13), guard := none }] = tzT := rfl
  rw [hT]
  generalize hT' : tzT = T
  generalize (285870213051353865 : Int) = C at he ⊢
  generalize (58 : Int) = S at he hS ⊢
  simp only [show ((l : Int) == 0) = false from by simp; omega, hS, he, Cd.cd121, Tk.t121, base0, base1, base2, base3, Option.isNone_none, Option.isNone_some, Nat.reduceBEq, true_or, or_true, false_or, or_false, Nat.reduceLT, Nat.reduceMod, Nat.reducePow, rmaps, nsucc, List.flatten_cons, List.flatten_nil, Nat.reduceEqDiff, Nat.reduceLeDiff, Nat.reduceAdd, Nat.reduceMul, Nat.reduceSub, ↓reduceIte, reduceCtorEq, decide_true, decide_false]
  subst hT'
  refine tz_tail _ _ _ (by omega) _ rfl hz hz' hg fun f' h1 h2 => ?_
  simp only [h1, h2, Cd.cd121, Tk.t121, base0, base1, base2, base3, Option.isNone_none, Option.isNone_some, Nat.reduceBEq, true_or, or_true, false_or, or_false, Nat.reduceLT, Nat.reduceMod, Nat.reducePow, rmaps, nsucc, List.flatten_cons, List.flatten_nil, Nat.reduceEqDiff, Nat.reduceLeDiff, Nat.reduceAdd, Nat.reduceMul, Nat.reduceSub, ↓reduceIte, reduceCtorEq, decide_true, decide_false]
  exact fin_v rfl
theorem tz103 (l : Nat) (hl : l < 1024) (h0 : l ≠ 0) : FCall Tryd.prog 103 [uv l] (· = .v (.int .i64 (low l : Nat))) := by
  simp only [uv]
  refine ACall.enter [] Cd.fn103 (by simp) ?_
  simp only [Cd.cd103, Tk.t103, base0, base1, base2, base3, Option.isNone_none, Option.isNone_some, Nat.reduceBEq, true_or, or_true, false_or, or_false, Nat.reduceLT, Nat.reduceMod, Nat.reducePow, rmaps, nsucc, List.flatten_cons, List.flatten_nil, Nat.reduceEqDiff, Nat.reduceLeDiff, Nat.reduceAdd, Nat.reduceMul, Nat.reduceSub, ↓reduceIte, reduceCtorEq, decide_true, decide_false]
  first | refine FCall.go (low121 l hl h0) (FZs.v1 _) ?_ | refine FCall.go' (low121 l hl h0) (FZs.v1 _) ?_ | refine FCall.goQ (low121 l hl h0) (FZs.v1 _) ?_
  simp only [Cd.cd103, Tk.t103, base0, base1, base2, base3, Option.isNone_none, Option.isNone_some, Nat.reduceBEq, true_or, or_true, false_or, or_false, Nat.reduceLT, Nat.reduceMod, Nat.reducePow, rmaps, nsucc, List.flatten_cons, List.flatten_nil, Nat.reduceEqDiff, Nat.reduceLeDiff, Nat.reduceAdd, Nat.reduceMul, Nat.reduceSub, ↓reduceIte, reduceCtorEq, decide_true, decide_false]
  exact fin_v rfl
theorem bneZ {l : Nat} (h : l ≠ 0) : ((l : Int) != 0) = true := by simp; omega
theorem setL_len (l : Nat) : (bitsI l).length ≤ 10 := by
  unfold bitsI bitsN; rw [List.length_map]; exact Nat.le_trans (List.length_filter_le _ _) (by simp)
theorem FZ.setV (l : Nat) : FZ (setV l) := FZ.ints _
def intR (x : Int) : List AV := [.v (.int .i64 x)]
theorem FZs.intR (x : Int) : FZs (intR x) := FZs.v1 _
theorem states62 (l : Nat) (hl : l < 1024) : FCall Tryd.prog 62 [uv l] (· = setV l) := by
  simp only [uv]
  refine ACall.enter [0] Cd.fn62 (by simp) ?_
  simp only [Cd.cd62, Tk.t62, base0, base1, base2, base3, Option.isNone_none, Option.isNone_some, Nat.reduceBEq, true_or, or_true, false_or, or_false, Nat.reduceLT, Nat.reduceMod, Nat.reducePow, rmaps, nsucc, List.flatten_cons, List.flatten_nil, Nat.reduceEqDiff, Nat.reduceLeDiff, Nat.reduceAdd, Nat.reduceMul, Nat.reduceSub, ↓reduceIte, reduceCtorEq, decide_true, decide_false]
  refine LWP.loop [] (fun m f H' => ∃ c a done, m = 2 * c ∧ (c < 1024) ∧ (done ++ bitsI c = bitsI l) ∧ (GrowE intR 1 H' a done) ∧ f.t 0 = .v (.int .u64 (c : Nat)) ∧ f.t 3 = a ∧ f.ds = [] ∧ True) ?_ ?_ (m := 2 * (l))
  · exact ⟨l, nilS, [], rfl, (hl), (by simp), (GrowE.nil), rfl, rfl, rfl, trivial⟩
  · rintro m f H' ⟨c, a, done, rfl, hc, hd, hg, f0, f3, hds, hH⟩
    by_cases h0 : c = 0
    · subst h0
      simp only [show (((0 : Nat) : Int) != 0) = false from rfl, f0, f3, hds, Cd.cd62, Tk.t62, base0, base1, base2, base3, Option.isNone_none, Option.isNone_some, Nat.reduceBEq, true_or, or_true, false_or, or_false, Nat.reduceLT, Nat.reduceMod, Nat.reducePow, rmaps, nsucc, List.flatten_cons, List.flatten_nil, Nat.reduceEqDiff, Nat.reduceLeDiff, Nat.reduceAdd, Nat.reduceMul, Nat.reduceSub, ↓reduceIte, reduceCtorEq, decide_true, decide_false]
      have e : done = bitsI l := by rw [← hd]; simp [bitsI, bitsN]
      subst e
      exact ⟨_, _, rfl, hg.view FZs.intR, FZ.setV l, rfl⟩
    · obtain ⟨b1, b2⟩ := bits_step c hc h0
      have e1 : bitsI c = (low c : Int) :: bitsI (c &&& (c - 1)) := by unfold bitsI; rw [b1]; rfl
      have hs : IntKind.u64.wrap ((c : Int) - 1) = ((c - 1 : Nat) : Int) := by rw [wrapU (by omega) (by omega)]; omega
      rcases hg with ⟨rfl, rfl⟩ | ⟨t, rfl, ht⟩
      · simp only [bneZ h0, f0, f3, hds, Cd.cd62, Tk.t62, base0, base1, base2, base3, Option.isNone_none, Option.isNone_some, Nat.reduceBEq, true_or, or_true, false_or, or_false, Nat.reduceLT, Nat.reduceMod, Nat.reducePow, rmaps, nsucc, List.flatten_cons, List.flatten_nil, Nat.reduceEqDiff, Nat.reduceLeDiff, Nat.reduceAdd, Nat.reduceMul, Nat.reduceSub, ↓reduceIte, reduceCtorEq, decide_true, decide_false]
        refine (tz103 c hc h0).go (FZs.v1 _) ?_
        simp only [hs, andU hc (show c - 1 < 1024 by omega), f0, f3, hds, Cd.cd62, Tk.t62, base0, base1, base2, base3, Option.isNone_none, Option.isNone_some, Nat.reduceBEq, true_or, or_true, false_or, or_false, Nat.reduceLT, Nat.reduceMod, Nat.reducePow, rmaps, nsucc, List.flatten_cons, List.flatten_nil, Nat.reduceEqDiff, Nat.reduceLeDiff, Nat.reduceAdd, Nat.reduceMul, Nat.reduceSub, ↓reduceIte, reduceCtorEq, decide_true, decide_false]
        refine ⟨_, Nat.mul_lt_mul_of_pos_left b2 (by omega), c &&& (c - 1), _, [(low c : Int)], rfl, by omega, by rw [← hd, e1]; rfl, GrowE.live (t := H'.next) rfl (by simp [AH.add, AH.tipset]), rfl, rfl⟩
      · have hlen : done.length ≤ 10 := by have := setL_len l; rw [← hd, List.length_append] at this; omega
        simp only [bneZ h0, f0, f3, hds, Cd.cd62, Tk.t62, base0, base1, base2, base3, Option.isNone_none, Option.isNone_some, Nat.reduceBEq, true_or, or_true, false_or, or_false, Nat.reduceLT, Nat.reduceMod, Nat.reducePow, rmaps, nsucc, List.flatten_cons, List.flatten_nil, Nat.reduceEqDiff, Nat.reduceLeDiff, Nat.reduceAdd, Nat.reduceMul, Nat.reduceSub, ↓reduceIte, reduceCtorEq, decide_true, decide_false]
        refine (tz103 c hc h0).go (FZs.v1 _) ?_
        simp only [hs, andU hc (show c - 1 < 1024 by omega), ht, List.length_map, room_of (by_ := 8) (n := done.length + 1) (by omega) (by omega), f0, f3, hds, Cd.cd62, Tk.t62, base0, base1, base2, base3, Option.isNone_none, Option.isNone_some, Nat.reduceBEq, true_or, or_true, false_or, or_false, Nat.reduceLT, Nat.reduceMod, Nat.reducePow, rmaps, nsucc, List.flatten_cons, List.flatten_nil, Nat.reduceEqDiff, Nat.reduceLeDiff, Nat.reduceAdd, Nat.reduceMul, Nat.reduceSub, ↓reduceIte, reduceCtorEq, decide_true, decide_false]
        refine ⟨_, Nat.mul_lt_mul_of_pos_left b2 (by omega), c &&& (c - 1), _, done ++ [(low c : Int)], rfl, by omega, by rw [← hd, e1]; simp, GrowE.live (t := t) (by simp [intR]) (by simp), rfl, rfl⟩
end Go.Proofs.YtchpcjmgifnmdaaDoor

/- Walks: small functions; systems are checked. -/
namespace Go.Proofs.YtchpcjmgifnmdaaDoor
open Go Go.Proofs.YtchpcjmgifnmdaaDoor.Ab
set_option maxRecDepth 100000
set_option linter.unusedSimpArgs false

theorem allS {p : Nat → Prop} {i : Nat} (h : ∀ j, j < i → p j) (hi : p i) : ∀ j, j < i + 1 → p j := fun j hj => by
  rcases Nat.lt_succ_iff_lt_or_eq.mp hj with h' | h'
  · exact h j h'
  · subst h'; exact hi
theorem ltT {i n : Nat} (h : i < n) : decide ((i : Int) < (n : Int)) = true := decide_eq_true (by omega)
theorem ltF {i n : Nat} (h : ¬ i < n) : decide ((i : Int) < (n : Int)) = false := decide_eq_false (by omega)
theorem inR {i n : Nat} (h : i < n) : (0 ≤ (i : Int) ∧ (i : Int) < (n : Int)) = True := by simp; omega
theorem spans66 (n lo hi : Int) : FCall Tryd.prog 66 [.v (.int .i64 n), .v (.int .i64 lo), .v (.int .i64 hi)] (· = .v (.bool (within n lo hi))) := by
  refine ACall.enter [] Cd.fn66 (by simp) ?_
  by_cases h : lo ≤ n <;> simp only [h, decide_true, decide_false, Cd.cd66, Tk.t66, base0, base1, base2, base3, Option.isNone_none, Option.isNone_some, Nat.reduceBEq, true_or, or_true, false_or, or_false, Nat.reduceLT, Nat.reduceMod, Nat.reducePow, rmaps, nsucc, List.flatten_cons, List.flatten_nil, Nat.reduceEqDiff, Nat.reduceLeDiff, Nat.reduceAdd, Nat.reduceMul, Nat.reduceSub, ↓reduceIte, reduceCtorEq, decide_true, decide_false] <;> exact fin_v (by simp [within, h])
theorem within36 (n lo hi : Int) : FCall Tryd.prog 36 [.v (.int .i64 n), .v (.int .i64 lo), .v (.int .i64 hi)] (· = .v (.bool (within n lo hi))) := by
  refine ACall.enter [] Cd.fn36 (by simp) ?_
  by_cases h : lo ≤ n <;> simp only [h, decide_true, decide_false, Cd.cd36, Tk.t36, base0, base1, base2, base3, Option.isNone_none, Option.isNone_some, Nat.reduceBEq, true_or, or_true, false_or, or_false, Nat.reduceLT, Nat.reduceMod, Nat.reducePow, rmaps, nsucc, List.flatten_cons, List.flatten_nil, Nat.reduceEqDiff, Nat.reduceLeDiff, Nat.reduceAdd, Nat.reduceMul, Nat.reduceSub, ↓reduceIte, reduceCtorEq, decide_true, decide_false] <;> exact fin_v (by simp [within, h])
theorem count107 (b : Bool) : FCall Tryd.prog 107 [.v (.bool b)] (· = .v (.int .i64 (if b then 1 else 0))) := by
  refine ACall.enter [] Cd.fn107 (by simp) ?_
  cases b <;> simp only [Cd.cd107, Tk.t107, base0, base1, base2, base3, Option.isNone_none, Option.isNone_some, Nat.reduceBEq, true_or, or_true, false_or, or_false, Nat.reduceLT, Nat.reduceMod, Nat.reducePow, rmaps, nsucc, List.flatten_cons, List.flatten_nil, Nat.reduceEqDiff, Nat.reduceLeDiff, Nat.reduceAdd, Nat.reduceMul, Nat.reduceSub, ↓reduceIte, reduceCtorEq, decide_true, decide_false] <;> exact fin_v (by simp)
theorem unless61 (b : Bool) (e : Int) : FCall Tryd.prog 61 [.v (.bool b), .v (.int .i64 e)] (· = .v (.int .i64 (if b then 0 else e))) := by
  refine ACall.enter [] Cd.fn61 (by simp) ?_
  cases b <;> simp only [Cd.cd61, Tk.t61, base0, base1, base2, base3, Option.isNone_none, Option.isNone_some, Nat.reduceBEq, true_or, or_true, false_or, or_false, Nat.reduceLT, Nat.reduceMod, Nat.reducePow, rmaps, nsucc, List.flatten_cons, List.flatten_nil, Nat.reduceEqDiff, Nat.reduceLeDiff, Nat.reduceAdd, Nat.reduceMul, Nat.reduceSub, ↓reduceIte, reduceCtorEq, decide_true, decide_false] <;> exact fin_v (by simp)
def orL : List Int → Int
  | [] => 0
  | a :: l => if a ≠ 0 then a else orL l
theorem orL_at : ∀ {l : List Int} {i : Nat}, i < l.length → (∀ j, j < i → l.getD j 0 = 0) → l.getD i 0 ≠ 0 → orL l = l.getD i 0
  | [], i, h, _, _ => by simp at h
  | a :: l, 0, _, _, h => by simp only [List.getD_cons_zero] at h ⊢; simp [orL, h]
  | a :: l, i + 1, h, hj, hn => by
    have h0 := hj 0 (by omega)
    simp only [List.getD_cons_zero] at h0
    simp only [List.getD_cons_succ] at hn ⊢
    rw [orL, if_neg (by simp [h0])]
    exact orL_at (by simpa using h) (fun j hj' => by have := hj (j + 1) (by omega); simpa using this) hn
theorem orL_zero : ∀ {l : List Int}, (∀ j, j < l.length → l.getD j 0 = 0) → orL l = 0
  | [], _ => rfl
  | a :: l, h => by
    have h0 := h 0 (by simp)
    simp only [List.getD_cons_zero] at h0
    rw [orL, if_neg (by simp [h0])]
    exact orL_zero fun j hj => by have := h (j + 1) (by simpa using hj); simpa using this
theorem bneT {a : Int} (h : a ≠ 0) : (a != 0) = true := by simpa using h
theorem or105 (l : List Int) (hl : l.length ≤ 100) (tip : Tip) : FCall Tryd.prog 105 [.lst 1 (l.map intR) tip] (· = .v (.int .i64 (orL l))) := by
  refine ACall.enter [] Cd.fn105 (by simp) ?_
  simp only [List.length_map, Cd.cd105, Tk.t105, base0, base1, base2, base3, Option.isNone_none, Option.isNone_some, Nat.reduceBEq, true_or, or_true, false_or, or_false, Nat.reduceLT, Nat.reduceMod, Nat.reducePow, rmaps, nsucc, List.flatten_cons, List.flatten_nil, Nat.reduceEqDiff, Nat.reduceLeDiff, Nat.reduceAdd, Nat.reduceMul, Nat.reduceSub, ↓reduceIte, reduceCtorEq, decide_true, decide_false]
  refine LWP.loop [] (fun m f H' => ∃ i, m = l.length - i ∧ (i ≤ l.length) ∧ (∀ j, j < i → l.getD j 0 = 0) ∧ f.t 3 = .v (.int .i64 0) ∧ f.t 6 = .lst 1 (l.map intR) tip ∧ f.t 7 = .v (.int .i64 (l.length : Nat)) ∧ f.t 8 = .v (.int .i64 (i : Nat)) ∧ f.ds = [] ∧ H' = AH.none) ?_ ?_ (m := l.length - (0))
  · exact ⟨0, rfl, (by omega), (fun j hj => by omega), rfl, rfl, rfl, rfl, rfl, rfl⟩
  · rintro m f H' ⟨i, rfl, hi, hz, f3, f6, f7, f8, hds, rfl⟩
    by_cases hlt : i < l.length
    · by_cases hn : l.getD i 0 = 0
      · simp only [List.length_map, ltT hlt, inR hlt, Int.toNat_natCast, getD_map intR l i hlt, intR, show (l.getD i default != 0) = false from by show (l.getD i 0 != 0) = false; rw [hn]; rfl, f3, f6, f7, f8, hds, Cd.cd105, Tk.t105, base0, base1, base2, base3, Option.isNone_none, Option.isNone_some, Nat.reduceBEq, true_or, or_true, false_or, or_false, Nat.reduceLT, Nat.reduceMod, Nat.reducePow, rmaps, nsucc, List.flatten_cons, List.flatten_nil, Nat.reduceEqDiff, Nat.reduceLeDiff, Nat.reduceAdd, Nat.reduceMul, Nat.reduceSub, ↓reduceIte, reduceCtorEq, decide_true, decide_false]
        refine ⟨_, by omega, i + 1, rfl, by omega, ?_⟩
        (repeat' apply And.intro) <;> first | rfl | (rw [wrapS (by omega)]) | omega | assumption | (exact allS hz hn)
      · simp only [List.length_map, ltT hlt, inR hlt, Int.toNat_natCast, getD_map intR l i hlt, intR, show (l.getD i default != 0) = true from by show (l.getD i 0 != 0) = true; exact bneT hn, f3, f6, f7, f8, hds, Cd.cd105, Tk.t105, base0, base1, base2, base3, Option.isNone_none, Option.isNone_some, Nat.reduceBEq, true_or, or_true, false_or, or_false, Nat.reduceLT, Nat.reduceMod, Nat.reducePow, rmaps, nsucc, List.flatten_cons, List.flatten_nil, Nat.reduceEqDiff, Nat.reduceLeDiff, Nat.reduceAdd, Nat.reduceMul, Nat.reduceSub, ↓reduceIte, reduceCtorEq, decide_true, decide_false]
        exact fin_v (by rw [orL_at hlt hz hn]; rfl)
    · have hi' : i = l.length := by omega
      subst hi'
      simp only [List.length_map, ltF hlt, f3, f6, f7, f8, hds, Cd.cd105, Tk.t105, base0, base1, base2, base3, Option.isNone_none, Option.isNone_some, Nat.reduceBEq, true_or, or_true, false_or, or_false, Nat.reduceLT, Nat.reduceMod, Nat.reducePow, rmaps, nsucc, List.flatten_cons, List.flatten_nil, Nat.reduceEqDiff, Nat.reduceLeDiff, Nat.reduceAdd, Nat.reduceMul, Nat.reduceSub, ↓reduceIte, reduceCtorEq, decide_true, decide_false]
      exact fin_v (by rw [orL_zero hz])
theorem or82 (l : List Int) (hl : l.length ≤ 100) (tip : Tip) : FCall Tryd.prog 82 [.lst 1 (l.map intR) tip] (· = .v (.int .i64 (orL l))) := by
  refine ACall.enter [] Cd.fn82 (by simp) ?_
  simp only [List.length_map, Cd.cd82, Tk.t82, base0, base1, base2, base3, Option.isNone_none, Option.isNone_some, Nat.reduceBEq, true_or, or_true, false_or, or_false, Nat.reduceLT, Nat.reduceMod, Nat.reducePow, rmaps, nsucc, List.flatten_cons, List.flatten_nil, Nat.reduceEqDiff, Nat.reduceLeDiff, Nat.reduceAdd, Nat.reduceMul, Nat.reduceSub, ↓reduceIte, reduceCtorEq, decide_true, decide_false]
  refine LWP.loop [] (fun m f H' => ∃ i, m = l.length - i ∧ (i ≤ l.length) ∧ (∀ j, j < i → l.getD j 0 = 0) ∧ f.t 3 = .v (.int .i64 0) ∧ f.t 6 = .lst 1 (l.map intR) tip ∧ f.t 7 = .v (.int .i64 (l.length : Nat)) ∧ f.t 8 = .v (.int .i64 (i : Nat)) ∧ f.ds = [] ∧ H' = AH.none) ?_ ?_ (m := l.length - (0))
  · exact ⟨0, rfl, (by omega), (fun j hj => by omega), rfl, rfl, rfl, rfl, rfl, rfl⟩
  · rintro m f H' ⟨i, rfl, hi, hz, f3, f6, f7, f8, hds, rfl⟩
    by_cases hlt : i < l.length
    · by_cases hn : l.getD i 0 = 0
      · simp only [List.length_map, ltT hlt, inR hlt, Int.toNat_natCast, getD_map intR l i hlt, intR, show (l.getD i default != 0) = false from by show (l.getD i 0 != 0) = false; rw [hn]; rfl, f3, f6, f7, f8, hds, Cd.cd82, Tk.t82, base0, base1, base2, base3, Option.isNone_none, Option.isNone_some, Nat.reduceBEq, true_or, or_true, false_or, or_false, Nat.reduceLT, Nat.reduceMod, Nat.reducePow, rmaps, nsucc, List.flatten_cons, List.flatten_nil, Nat.reduceEqDiff, Nat.reduceLeDiff, Nat.reduceAdd, Nat.reduceMul, Nat.reduceSub, ↓reduceIte, reduceCtorEq, decide_true, decide_false]
        refine ⟨_, by omega, i + 1, rfl, by omega, ?_⟩
        (repeat' apply And.intro) <;> first | rfl | (rw [wrapS (by omega)]) | omega | assumption | (exact allS hz hn)
      · simp only [List.length_map, ltT hlt, inR hlt, Int.toNat_natCast, getD_map intR l i hlt, intR, show (l.getD i default != 0) = true from by show (l.getD i 0 != 0) = true; exact bneT hn, f3, f6, f7, f8, hds, Cd.cd82, Tk.t82, base0, base1, base2, base3, Option.isNone_none, Option.isNone_some, Nat.reduceBEq, true_or, or_true, false_or, or_false, Nat.reduceLT, Nat.reduceMod, Nat.reducePow, rmaps, nsucc, List.flatten_cons, List.flatten_nil, Nat.reduceEqDiff, Nat.reduceLeDiff, Nat.reduceAdd, Nat.reduceMul, Nat.reduceSub, ↓reduceIte, reduceCtorEq, decide_true, decide_false]
        exact fin_v (by rw [orL_at hlt hz hn]; rfl)
    · have hi' : i = l.length := by omega
      subst hi'
      simp only [List.length_map, ltF hlt, f3, f6, f7, f8, hds, Cd.cd82, Tk.t82, base0, base1, base2, base3, Option.isNone_none, Option.isNone_some, Nat.reduceBEq, true_or, or_true, false_or, or_false, Nat.reduceLT, Nat.reduceMod, Nat.reducePow, rmaps, nsucc, List.flatten_cons, List.flatten_nil, Nat.reduceEqDiff, Nat.reduceLeDiff, Nat.reduceAdd, Nat.reduceMul, Nat.reduceSub, ↓reduceIte, reduceCtorEq, decide_true, decide_false]
      exact fin_v (by rw [orL_zero hz])
theorem nan122 (a : Int) : FCall Tryd.prog 122 [.v (.int .i64 a)] (· = .v (.bool false)) := by
  refine ACall.enter [] Cd.fn122 (by simp) ?_
  simp only [show (a != a) = false from by simp, Cd.cd122, Tk.t122, base0, base1, base2, base3, Option.isNone_none, Option.isNone_some, Nat.reduceBEq, true_or, or_true, false_or, or_false, Nat.reduceLT, Nat.reduceMod, Nat.reducePow, rmaps, nsucc, List.flatten_cons, List.flatten_nil, Nat.reduceEqDiff, Nat.reduceLeDiff, Nat.reduceAdd, Nat.reduceMul, Nat.reduceSub, ↓reduceIte, reduceCtorEq, decide_true, decide_false]
  exact fin_v rfl
theorem cmp106 (a b : Int) : FCall Tryd.prog 106 [.v (.int .i64 a), .v (.int .i64 b)] (· = .v (.int .i64 (cmpI a b))) := by
  refine ACall.enter [] Cd.fn106 (by simp) ?_
  simp only [Cd.cd106, Tk.t106, base0, base1, base2, base3, Option.isNone_none, Option.isNone_some, Nat.reduceBEq, true_or, or_true, false_or, or_false, Nat.reduceLT, Nat.reduceMod, Nat.reducePow, rmaps, nsucc, List.flatten_cons, List.flatten_nil, Nat.reduceEqDiff, Nat.reduceLeDiff, Nat.reduceAdd, Nat.reduceMul, Nat.reduceSub, ↓reduceIte, reduceCtorEq, decide_true, decide_false]
  first | refine FCall.go (nan122 _) (FZs.v1 _) ?_ | refine FCall.go' (nan122 _) (FZs.v1 _) ?_ | refine FCall.goQ (nan122 _) (FZs.v1 _) ?_
  simp only [Cd.cd106, Tk.t106, base0, base1, base2, base3, Option.isNone_none, Option.isNone_some, Nat.reduceBEq, true_or, or_true, false_or, or_false, Nat.reduceLT, Nat.reduceMod, Nat.reducePow, rmaps, nsucc, List.flatten_cons, List.flatten_nil, Nat.reduceEqDiff, Nat.reduceLeDiff, Nat.reduceAdd, Nat.reduceMul, Nat.reduceSub, ↓reduceIte, reduceCtorEq, decide_true, decide_false]
  first | refine FCall.go (nan122 _) (FZs.v1 _) ?_ | refine FCall.go' (nan122 _) (FZs.v1 _) ?_ | refine FCall.goQ (nan122 _) (FZs.v1 _) ?_
  by_cases h1 : a < b
  · simp only [decide_eq_true h1, Cd.cd106, Tk.t106, base0, base1, base2, base3, Option.isNone_none, Option.isNone_some, Nat.reduceBEq, true_or, or_true, false_or, or_false, Nat.reduceLT, Nat.reduceMod, Nat.reducePow, rmaps, nsucc, List.flatten_cons, List.flatten_nil, Nat.reduceEqDiff, Nat.reduceLeDiff, Nat.reduceAdd, Nat.reduceMul, Nat.reduceSub, ↓reduceIte, reduceCtorEq, decide_true, decide_false]
    exact fin_v (by simp [cmpI, h1])
  · by_cases h2 : b < a
    · simp only [decide_eq_false h1, show decide (a > b) = true from decide_eq_true h2, Cd.cd106, Tk.t106, base0, base1, base2, base3, Option.isNone_none, Option.isNone_some, Nat.reduceBEq, true_or, or_true, false_or, or_false, Nat.reduceLT, Nat.reduceMod, Nat.reducePow, rmaps, nsucc, List.flatten_cons, List.flatten_nil, Nat.reduceEqDiff, Nat.reduceLeDiff, Nat.reduceAdd, Nat.reduceMul, Nat.reduceSub, ↓reduceIte, reduceCtorEq, decide_true, decide_false]
      exact fin_v (by simp [cmpI, h1, h2])
    · simp only [decide_eq_false h1, show decide (a > b) = false from decide_eq_false h2, Cd.cd106, Tk.t106, base0, base1, base2, base3, Option.isNone_none, Option.isNone_some, Nat.reduceBEq, true_or, or_true, false_or, or_false, Nat.reduceLT, Nat.reduceMod, Nat.reducePow, rmaps, nsucc, List.flatten_cons, List.flatten_nil, Nat.reduceEqDiff, Nat.reduceLeDiff, Nat.reduceAdd, Nat.reduceMul, Nat.reduceSub, ↓reduceIte, reduceCtorEq, decide_true, decide_false]
      exact fin_v (by simp [cmpI, h1, h2])
theorem FZ.intL {l : List Int} {tip : Tip} (ht : tip.stays = true) : FZ (.lst 1 (l.map intR) tip) := FZ.lst ht fun r hr => by
  obtain ⟨x, _, rfl⟩ := List.mem_map.mp hr
  exact FZs.v1 _
theorem orL4 (a b c d : Int) : orL [a, b, c, d] = orI a (orI b (orI c d)) := by
  simp only [orL, orI]
  by_cases h1 : a = 0 <;> by_cases h2 : b = 0 <;> by_cases h3 : c = 0 <;> by_cases h4 : d = 0 <;> simp [h1, h2, h3, h4]
theorem cmpMv67 (a b : Mv) : FCall Tryd.prog 67 [mvV a, mvV b] (· = .v (.int .i64 (cmpMv a b))) := by
  simp only [mvV, mvR]
  refine ACall.enter [] Cd.fn67 (by simp) ?_
  simp only [Cd.cd67, Tk.t67, base0, base1, base2, base3, Option.isNone_none, Option.isNone_some, Nat.reduceBEq, true_or, or_true, false_or, or_false, Nat.reduceLT, Nat.reduceMod, Nat.reducePow, rmaps, nsucc, List.flatten_cons, List.flatten_nil, Nat.reduceEqDiff, Nat.reduceLeDiff, Nat.reduceAdd, Nat.reduceMul, Nat.reduceSub, ↓reduceIte, reduceCtorEq, decide_true, decide_false]
  first | refine FCall.go (cmp106 _ _) (FZs.v2 _ _) ?_ | refine FCall.go' (cmp106 _ _) (FZs.v2 _ _) ?_ | refine FCall.goQ (cmp106 _ _) (FZs.v2 _ _) ?_
  simp only [Cd.cd67, Tk.t67, base0, base1, base2, base3, Option.isNone_none, Option.isNone_some, Nat.reduceBEq, true_or, or_true, false_or, or_false, Nat.reduceLT, Nat.reduceMod, Nat.reducePow, rmaps, nsucc, List.flatten_cons, List.flatten_nil, Nat.reduceEqDiff, Nat.reduceLeDiff, Nat.reduceAdd, Nat.reduceMul, Nat.reduceSub, ↓reduceIte, reduceCtorEq, decide_true, decide_false]
  first | refine FCall.go (cmp106 _ _) (FZs.v2 _ _) ?_ | refine FCall.go' (cmp106 _ _) (FZs.v2 _ _) ?_ | refine FCall.goQ (cmp106 _ _) (FZs.v2 _ _) ?_
  simp only [Cd.cd67, Tk.t67, base0, base1, base2, base3, Option.isNone_none, Option.isNone_some, Nat.reduceBEq, true_or, or_true, false_or, or_false, Nat.reduceLT, Nat.reduceMod, Nat.reducePow, rmaps, nsucc, List.flatten_cons, List.flatten_nil, Nat.reduceEqDiff, Nat.reduceLeDiff, Nat.reduceAdd, Nat.reduceMul, Nat.reduceSub, ↓reduceIte, reduceCtorEq, decide_true, decide_false]
  first | refine FCall.go (cmp106 _ _) (FZs.v2 _ _) ?_ | refine FCall.go' (cmp106 _ _) (FZs.v2 _ _) ?_ | refine FCall.goQ (cmp106 _ _) (FZs.v2 _ _) ?_
  simp only [Cd.cd67, Tk.t67, base0, base1, base2, base3, Option.isNone_none, Option.isNone_some, Nat.reduceBEq, true_or, or_true, false_or, or_false, Nat.reduceLT, Nat.reduceMod, Nat.reducePow, rmaps, nsucc, List.flatten_cons, List.flatten_nil, Nat.reduceEqDiff, Nat.reduceLeDiff, Nat.reduceAdd, Nat.reduceMul, Nat.reduceSub, ↓reduceIte, reduceCtorEq, decide_true, decide_false]
  first | refine FCall.go (cmp106 _ _) (FZs.v2 _ _) ?_ | refine FCall.go' (cmp106 _ _) (FZs.v2 _ _) ?_ | refine FCall.goQ (cmp106 _ _) (FZs.v2 _ _) ?_
  simp only [Cd.cd67, Tk.t67, base0, base1, base2, base3, Option.isNone_none, Option.isNone_some, Nat.reduceBEq, true_or, or_true, false_or, or_false, Nat.reduceLT, Nat.reduceMod, Nat.reducePow, rmaps, nsucc, List.flatten_cons, List.flatten_nil, Nat.reduceEqDiff, Nat.reduceLeDiff, Nat.reduceAdd, Nat.reduceMul, Nat.reduceSub, ↓reduceIte, reduceCtorEq, decide_true, decide_false]
  have h := or105 [cmpI a.fr b.fr, cmpI a.kd b.kd, cmpI a.lb b.lb, cmpI a.to b.to] (by simp) .full
  have hz : FZ _ := FZ.intL (l := [cmpI a.fr b.fr, cmpI a.kd b.kd, cmpI a.lb b.lb, cmpI a.to b.to]) (tip := .full) rfl
  simp only [List.map_cons, List.map_nil, intR] at h hz
  first | refine FCall.go h (FZs.one hz) ?_ | refine FCall.go' h (FZs.one hz) ?_ | refine FCall.goQ h (FZs.one hz) ?_
  simp only [Cd.cd67, Tk.t67, base0, base1, base2, base3, Option.isNone_none, Option.isNone_some, Nat.reduceBEq, true_or, or_true, false_or, or_false, Nat.reduceLT, Nat.reduceMod, Nat.reducePow, rmaps, nsucc, List.flatten_cons, List.flatten_nil, Nat.reduceEqDiff, Nat.reduceLeDiff, Nat.reduceAdd, Nat.reduceMul, Nat.reduceSub, ↓reduceIte, reduceCtorEq, decide_true, decide_false]
  exact fin_v (by rw [orL4]; rfl)
end Go.Proofs.YtchpcjmgifnmdaaDoor

/- Walks: systems are checked, by the program and by the reference. -/
namespace Go.Proofs.YtchpcjmgifnmdaaDoor
open Go Go.Proofs.YtchpcjmgifnmdaaDoor.Ab
set_option maxRecDepth 100000
set_option linter.unusedSimpArgs false

theorem check_head {x : Re} (h : headErr x = true) : checkR x = (0, 3) := by unfold checkR; rw [if_pos h]
theorem check_large {x : Re} (h : headErr x = false) (h2 : 80 < x.mv.length) : checkR x = (0, 2) := by unfold checkR; rw [if_neg (by simp [h]), if_pos h2]
theorem check_move {x : Re} (h : headErr x = false) (h2 : ¬ 80 < x.mv.length) {i : Nat} (hi : i < x.mv.length) (hz : ∀ j, j < i → mvErr x j = 0) {e : Int} (he : mvErr x i = e) (hn : e ≠ 0) : checkR x = ((i : Int), e) := by
  unfold checkR
  rw [if_neg (by simp [h]), if_neg h2, firstIx_some hi (by simpa [he] using hn) fun j hj => by show (mvErr x j != 0) = false; rw [hz j hj]; rfl]
  simp [he]
theorem check_ok {x : Re} (h : headErr x = false) (h2 : ¬ 80 < x.mv.length) (hz : ∀ j, j < x.mv.length → mvErr x j = 0) : checkR x = (0, 0) := by
  unfold checkR
  rw [if_neg (by simp [h]), if_neg h2, firstIx_none fun j hj => by show (mvErr x j != 0) = false; rw [hz j hj]; rfl]
theorem mvErr_kind {x : Re} {i : Nat} (h : within (x.mv.getD i default).kd 0 2 = false) : mvErr x i = 4 := by
  unfold mvErr
  generalize x.mv.getD i default = m at *
  simp only [h, Bool.not_false, if_true]
theorem mvErr_range {x : Re} {i : Nat} (h : within (x.mv.getD i default).kd 0 2 = true)
    (h2 : within (x.mv.getD i default).fr 0 (IntKind.i64.wrap (x.st - 1)) = false ∨ within (x.mv.getD i default).to 0 (IntKind.i64.wrap (x.st - 1)) = false ∨ within (x.mv.getD i default).lb 0 (IntKind.i64.wrap (labels x (x.mv.getD i default) - 1)) = false) : mvErr x i = 3 := by
  unfold mvErr
  generalize x.mv.getD i default = m at *
  simp only [h, Bool.not_true, Bool.false_eq_true, if_false]
  rw [if_pos]
  rcases h2 with h | h | h <;> simp [h]
theorem mvErr_ord {x : Re} {i : Nat} (h : within (x.mv.getD i default).kd 0 2 = true)
    (h2 : within (x.mv.getD i default).fr 0 (IntKind.i64.wrap (x.st - 1)) = true) (h3 : within (x.mv.getD i default).to 0 (IntKind.i64.wrap (x.st - 1)) = true) (h4 : within (x.mv.getD i default).lb 0 (IntKind.i64.wrap (labels x (x.mv.getD i default) - 1)) = true) :
    mvErr x i = if decide (0 < i) && decide (0 ≤ cmpMv (x.mv.getD (i - 1) default) (x.mv.getD i default)) then 14 else 0 := by
  unfold mvErr
  simp only [h, h2, h3, h4, Bool.not_true, Bool.false_eq_true, if_false, Bool.or_false]
theorem kd_in {k : Int} : within k 0 2 = true ↔ k = 0 ∨ k = 1 ∨ k = 2 := by rw [within_iff]; omega
theorem kd_out {k : Int} (h0 : k ≠ 0) (h1 : k ≠ 1) (h2 : k ≠ 2) : within k 0 2 = false := by
  cases h : within k 0 2 with
  | false => rfl
  | true => rw [kd_in] at h; omega
set_option maxHeartbeats 2000000 in
theorem check23 (x : Re) : FCall Tryd.prog 23 [reV x] (· = .tup [.v (.int .i64 (checkR x).1), .v (.int .i64 (checkR x).2)]) := by
  simp only [reV, reL, mvsV]
  refine ACall.enter [] Cd.fn23 (by simp) ?_
  simp only [Cd.cd23, Tk.t23, base0, base1, base2, base3, Option.isNone_none, Option.isNone_some, Nat.reduceBEq, true_or, or_true, false_or, or_false, Nat.reduceLT, Nat.reduceMod, Nat.reducePow, rmaps, nsucc, List.flatten_cons, List.flatten_nil, Nat.reduceEqDiff, Nat.reduceLeDiff, Nat.reduceAdd, Nat.reduceMul, Nat.reduceSub, ↓reduceIte, reduceCtorEq, decide_true, decide_false]
  first | refine FCall.go (spans66 _ _ _) (FZs.v3 _ _ _) ?_ | refine FCall.go' (spans66 _ _ _) (FZs.v3 _ _ _) ?_ | refine FCall.goQ (spans66 _ _ _) (FZs.v3 _ _ _) ?_
  cases h1 : within x.st 1 10
  · simp only [Cd.cd23, Tk.t23, base0, base1, base2, base3, Option.isNone_none, Option.isNone_some, Nat.reduceBEq, true_or, or_true, false_or, or_false, Nat.reduceLT, Nat.reduceMod, Nat.reducePow, rmaps, nsucc, List.flatten_cons, List.flatten_nil, Nat.reduceEqDiff, Nat.reduceLeDiff, Nat.reduceAdd, Nat.reduceMul, Nat.reduceSub, ↓reduceIte, reduceCtorEq, decide_true, decide_false]
    exact fin_p (check_head (by simp [headErr, h1]))
  simp only [Cd.cd23, Tk.t23, base0, base1, base2, base3, Option.isNone_none, Option.isNone_some, Nat.reduceBEq, true_or, or_true, false_or, or_false, Nat.reduceLT, Nat.reduceMod, Nat.reducePow, rmaps, nsucc, List.flatten_cons, List.flatten_nil, Nat.reduceEqDiff, Nat.reduceLeDiff, Nat.reduceAdd, Nat.reduceMul, Nat.reduceSub, ↓reduceIte, reduceCtorEq, decide_true, decide_false]
  first | refine FCall.go (spans66 _ _ _) (FZs.v3 _ _ _) ?_ | refine FCall.go' (spans66 _ _ _) (FZs.v3 _ _ _) ?_ | refine FCall.goQ (spans66 _ _ _) (FZs.v3 _ _ _) ?_
  cases h2 : within x.s0 0 (IntKind.i64.wrap (x.st - 1))
  · simp only [Cd.cd23, Tk.t23, base0, base1, base2, base3, Option.isNone_none, Option.isNone_some, Nat.reduceBEq, true_or, or_true, false_or, or_false, Nat.reduceLT, Nat.reduceMod, Nat.reducePow, rmaps, nsucc, List.flatten_cons, List.flatten_nil, Nat.reduceEqDiff, Nat.reduceLeDiff, Nat.reduceAdd, Nat.reduceMul, Nat.reduceSub, ↓reduceIte, reduceCtorEq, decide_true, decide_false]
    exact fin_p (check_head (by simp [headErr, h2]))
  simp only [Cd.cd23, Tk.t23, base0, base1, base2, base3, Option.isNone_none, Option.isNone_some, Nat.reduceBEq, true_or, or_true, false_or, or_false, Nat.reduceLT, Nat.reduceMod, Nat.reducePow, rmaps, nsucc, List.flatten_cons, List.flatten_nil, Nat.reduceEqDiff, Nat.reduceLeDiff, Nat.reduceAdd, Nat.reduceMul, Nat.reduceSub, ↓reduceIte, reduceCtorEq, decide_true, decide_false]
  first | refine FCall.go (spans66 _ _ _) (FZs.v3 _ _ _) ?_ | refine FCall.go' (spans66 _ _ _) (FZs.v3 _ _ _) ?_ | refine FCall.goQ (spans66 _ _ _) (FZs.v3 _ _ _) ?_
  cases h3 : within x.inp 0 4
  · simp only [Cd.cd23, Tk.t23, base0, base1, base2, base3, Option.isNone_none, Option.isNone_some, Nat.reduceBEq, true_or, or_true, false_or, or_false, Nat.reduceLT, Nat.reduceMod, Nat.reducePow, rmaps, nsucc, List.flatten_cons, List.flatten_nil, Nat.reduceEqDiff, Nat.reduceLeDiff, Nat.reduceAdd, Nat.reduceMul, Nat.reduceSub, ↓reduceIte, reduceCtorEq, decide_true, decide_false]
    exact fin_p (check_head (by simp [headErr, h3]))
  simp only [Cd.cd23, Tk.t23, base0, base1, base2, base3, Option.isNone_none, Option.isNone_some, Nat.reduceBEq, true_or, or_true, false_or, or_false, Nat.reduceLT, Nat.reduceMod, Nat.reducePow, rmaps, nsucc, List.flatten_cons, List.flatten_nil, Nat.reduceEqDiff, Nat.reduceLeDiff, Nat.reduceAdd, Nat.reduceMul, Nat.reduceSub, ↓reduceIte, reduceCtorEq, decide_true, decide_false]
  first | refine FCall.go (spans66 _ _ _) (FZs.v3 _ _ _) ?_ | refine FCall.go' (spans66 _ _ _) (FZs.v3 _ _ _) ?_ | refine FCall.goQ (spans66 _ _ _) (FZs.v3 _ _ _) ?_
  cases h4 : within x.out 0 4
  · simp only [Cd.cd23, Tk.t23, base0, base1, base2, base3, Option.isNone_none, Option.isNone_some, Nat.reduceBEq, true_or, or_true, false_or, or_false, Nat.reduceLT, Nat.reduceMod, Nat.reducePow, rmaps, nsucc, List.flatten_cons, List.flatten_nil, Nat.reduceEqDiff, Nat.reduceLeDiff, Nat.reduceAdd, Nat.reduceMul, Nat.reduceSub, ↓reduceIte, reduceCtorEq, decide_true, decide_false]
    exact fin_p (check_head (by simp [headErr, h4]))
  have hh : headErr x = false := by simp [headErr, h1, h2, h3, h4]
  by_cases h5 : 80 < x.mv.length
  · simp only [List.length_map, show decide (((x.mv.length : Nat) : Int) > 80) = true from decide_eq_true (by omega), Cd.cd23, Tk.t23, base0, base1, base2, base3, Option.isNone_none, Option.isNone_some, Nat.reduceBEq, true_or, or_true, false_or, or_false, Nat.reduceLT, Nat.reduceMod, Nat.reducePow, rmaps, nsucc, List.flatten_cons, List.flatten_nil, Nat.reduceEqDiff, Nat.reduceLeDiff, Nat.reduceAdd, Nat.reduceMul, Nat.reduceSub, ↓reduceIte, reduceCtorEq, decide_true, decide_false]
    exact fin_p (check_large hh h5)
  simp only [List.length_map, show decide (((x.mv.length : Nat) : Int) > 80) = false from decide_eq_false (by omega), Cd.cd23, Tk.t23, base0, base1, base2, base3, Option.isNone_none, Option.isNone_some, Nat.reduceBEq, true_or, or_true, false_or, or_false, Nat.reduceLT, Nat.reduceMod, Nat.reducePow, rmaps, nsucc, List.flatten_cons, List.flatten_nil, Nat.reduceEqDiff, Nat.reduceLeDiff, Nat.reduceAdd, Nat.reduceMul, Nat.reduceSub, ↓reduceIte, reduceCtorEq, decide_true, decide_false]
  refine LWP.loop [] (fun m f H' => ∃ i, m = x.mv.length - i ∧ (i ≤ x.mv.length) ∧ (∀ j, j < i → mvErr x j = 0) ∧ f.t 1 = .box [.v (.int .i64 x.st), .v (.int .i64 x.s0), .v (.int .i64 x.inp), .v (.int .i64 x.out), .lst 4 (x.mv.map mvR) .unk] ∧ f.t 37 = .lst 4 (x.mv.map mvR) .unk ∧ f.t 38 = .v (.int .i64 (x.mv.length : Nat)) ∧ f.t 39 = .v (.int .i64 (i : Nat)) ∧ f.ds = [] ∧ True) ?_ ?_ (m := x.mv.length - (0))
  · exact ⟨0, rfl, (by omega), (fun j hj => by omega), rfl, rfl, rfl, rfl, rfl, trivial⟩
  · rintro m f H' ⟨i, rfl, hi, hz, f1, f37, f38, f39, hds, hH⟩
    by_cases hlt : i < x.mv.length
    · have hg := getD_map mvR x.mv i hlt
      generalize hm : x.mv.getD i default = mi at hg
      have ek : within mi.kd 0 2 = true → ∀ e, (labels x mi = e) → within mi.fr 0 (IntKind.i64.wrap (x.st - 1)) = false ∨ within mi.to 0 (IntKind.i64.wrap (x.st - 1)) = false ∨ within mi.lb 0 (IntKind.i64.wrap (e - 1)) = false → checkR x = ((i : Int), 3) := fun hk e he h => by
        subst he; subst hm
        exact check_move hh h5 hlt hz (mvErr_range hk h) (by omega)
      have fin : ∀ e, labels x mi = e → within mi.kd 0 2 = true → within mi.fr 0 (IntKind.i64.wrap (x.st - 1)) = true → within mi.to 0 (IntKind.i64.wrap (x.st - 1)) = true → within mi.lb 0 (IntKind.i64.wrap (e - 1)) = true →
          mvErr x i = if decide (0 < i) && decide (0 ≤ cmpMv (x.mv.getD (i - 1) default) mi) then 14 else 0 := fun e he a b c d => by
        subst he; subst hm; exact mvErr_ord a b c d
      by_cases k0 : mi.kd = 0
      · simp only [ltT hlt, List.length_map, inR hlt, Int.toNat_natCast, hg, mvR, show (mi.kd == 0) = true from beq_iff_eq.mpr k0, f1, f37, f38, f39, hds, Cd.cd23, Tk.t23, base0, base1, base2, base3, Option.isNone_none, Option.isNone_some, Nat.reduceBEq, true_or, or_true, false_or, or_false, Nat.reduceLT, Nat.reduceMod, Nat.reducePow, rmaps, nsucc, List.flatten_cons, List.flatten_nil, Nat.reduceEqDiff, Nat.reduceLeDiff, Nat.reduceAdd, Nat.reduceMul, Nat.reduceSub, ↓reduceIte, reduceCtorEq, decide_true, decide_false]
        first | refine FCall.go (spans66 _ _ _) (FZs.v3 _ _ _) ?_ | refine FCall.go' (spans66 _ _ _) (FZs.v3 _ _ _) ?_ | refine FCall.goQ (spans66 _ _ _) (FZs.v3 _ _ _) ?_
        cases r1 : within mi.fr 0 (IntKind.i64.wrap (x.st - 1))
        · simp only [f1, f37, f38, f39, hds, Cd.cd23, Tk.t23, base0, base1, base2, base3, Option.isNone_none, Option.isNone_some, Nat.reduceBEq, true_or, or_true, false_or, or_false, Nat.reduceLT, Nat.reduceMod, Nat.reducePow, rmaps, nsucc, List.flatten_cons, List.flatten_nil, Nat.reduceEqDiff, Nat.reduceLeDiff, Nat.reduceAdd, Nat.reduceMul, Nat.reduceSub, ↓reduceIte, reduceCtorEq, decide_true, decide_false]
          exact fin_p (ek (kd_in.mpr (.inl k0)) x.inp (by unfold labels; rw [if_pos k0]) (.inl r1))
        simp only [f1, f37, f38, f39, hds, Cd.cd23, Tk.t23, base0, base1, base2, base3, Option.isNone_none, Option.isNone_some, Nat.reduceBEq, true_or, or_true, false_or, or_false, Nat.reduceLT, Nat.reduceMod, Nat.reducePow, rmaps, nsucc, List.flatten_cons, List.flatten_nil, Nat.reduceEqDiff, Nat.reduceLeDiff, Nat.reduceAdd, Nat.reduceMul, Nat.reduceSub, ↓reduceIte, reduceCtorEq, decide_true, decide_false]
        first | refine FCall.go (spans66 _ _ _) (FZs.v3 _ _ _) ?_ | refine FCall.go' (spans66 _ _ _) (FZs.v3 _ _ _) ?_ | refine FCall.goQ (spans66 _ _ _) (FZs.v3 _ _ _) ?_
        cases r2 : within mi.to 0 (IntKind.i64.wrap (x.st - 1))
        · simp only [f1, f37, f38, f39, hds, Cd.cd23, Tk.t23, base0, base1, base2, base3, Option.isNone_none, Option.isNone_some, Nat.reduceBEq, true_or, or_true, false_or, or_false, Nat.reduceLT, Nat.reduceMod, Nat.reducePow, rmaps, nsucc, List.flatten_cons, List.flatten_nil, Nat.reduceEqDiff, Nat.reduceLeDiff, Nat.reduceAdd, Nat.reduceMul, Nat.reduceSub, ↓reduceIte, reduceCtorEq, decide_true, decide_false]
          exact fin_p (ek (kd_in.mpr (.inl k0)) x.inp (by unfold labels; rw [if_pos k0]) (.inr (.inl r2)))
        simp only [f1, f37, f38, f39, hds, Cd.cd23, Tk.t23, base0, base1, base2, base3, Option.isNone_none, Option.isNone_some, Nat.reduceBEq, true_or, or_true, false_or, or_false, Nat.reduceLT, Nat.reduceMod, Nat.reducePow, rmaps, nsucc, List.flatten_cons, List.flatten_nil, Nat.reduceEqDiff, Nat.reduceLeDiff, Nat.reduceAdd, Nat.reduceMul, Nat.reduceSub, ↓reduceIte, reduceCtorEq, decide_true, decide_false]
        first | refine FCall.go (spans66 _ _ _) (FZs.v3 _ _ _) ?_ | refine FCall.go' (spans66 _ _ _) (FZs.v3 _ _ _) ?_ | refine FCall.goQ (spans66 _ _ _) (FZs.v3 _ _ _) ?_
        cases r3 : within mi.lb 0 (IntKind.i64.wrap (x.inp - 1))
        · simp only [f1, f37, f38, f39, hds, Cd.cd23, Tk.t23, base0, base1, base2, base3, Option.isNone_none, Option.isNone_some, Nat.reduceBEq, true_or, or_true, false_or, or_false, Nat.reduceLT, Nat.reduceMod, Nat.reducePow, rmaps, nsucc, List.flatten_cons, List.flatten_nil, Nat.reduceEqDiff, Nat.reduceLeDiff, Nat.reduceAdd, Nat.reduceMul, Nat.reduceSub, ↓reduceIte, reduceCtorEq, decide_true, decide_false]
          exact fin_p (ek (kd_in.mpr (.inl k0)) x.inp (by unfold labels; rw [if_pos k0]) (.inr (.inr r3)))
        have hf := fin x.inp (by unfold labels; rw [if_pos k0]) (kd_in.mpr (.inl k0)) r1 r2 r3
        by_cases hi0 : 0 < i
        · have hl1 : i - 1 < x.mv.length := by omega
          have hw : IntKind.i64.wrap ((i : Int) - 1) = ((i - 1 : Nat) : Int) := by rw [wrapI (by omega) (by omega)]; omega
          have hg1 := getD_map mvR x.mv (i - 1) hl1
          simp only [List.length_map, show decide (((i : Nat) : Int) > 0) = true from decide_eq_true (by omega), hw, inR hl1, Int.toNat_natCast, hg1, mvR, f1, f37, f38, f39, hds, Cd.cd23, Tk.t23, base0, base1, base2, base3, Option.isNone_none, Option.isNone_some, Nat.reduceBEq, true_or, or_true, false_or, or_false, Nat.reduceLT, Nat.reduceMod, Nat.reducePow, rmaps, nsucc, List.flatten_cons, List.flatten_nil, Nat.reduceEqDiff, Nat.reduceLeDiff, Nat.reduceAdd, Nat.reduceMul, Nat.reduceSub, ↓reduceIte, reduceCtorEq, decide_true, decide_false]
          refine (cmpMv67 (x.mv.getD (i - 1) default) mi).go' (FZs.two (FZ.mvV _) (FZ.mvV _)) ?_
          by_cases hc : 0 ≤ cmpMv (x.mv.getD (i - 1) default) mi
          · simp only [show decide (cmpMv (x.mv.getD (i - 1) default) mi ≥ 0) = true from decide_eq_true hc, f1, f37, f38, f39, hds, Cd.cd23, Tk.t23, base0, base1, base2, base3, Option.isNone_none, Option.isNone_some, Nat.reduceBEq, true_or, or_true, false_or, or_false, Nat.reduceLT, Nat.reduceMod, Nat.reducePow, rmaps, nsucc, List.flatten_cons, List.flatten_nil, Nat.reduceEqDiff, Nat.reduceLeDiff, Nat.reduceAdd, Nat.reduceMul, Nat.reduceSub, ↓reduceIte, reduceCtorEq, decide_true, decide_false]
            exact fin_p (check_move hh h5 hlt hz (by rw [hf, decide_eq_true hi0, decide_eq_true hc]; rfl) (by omega))
          · simp only [show decide (cmpMv (x.mv.getD (i - 1) default) mi ≥ 0) = false from decide_eq_false hc, f1, f37, f38, f39, hds, Cd.cd23, Tk.t23, base0, base1, base2, base3, Option.isNone_none, Option.isNone_some, Nat.reduceBEq, true_or, or_true, false_or, or_false, Nat.reduceLT, Nat.reduceMod, Nat.reducePow, rmaps, nsucc, List.flatten_cons, List.flatten_nil, Nat.reduceEqDiff, Nat.reduceLeDiff, Nat.reduceAdd, Nat.reduceMul, Nat.reduceSub, ↓reduceIte, reduceCtorEq, decide_true, decide_false]
            refine ⟨_, by omega, i + 1, rfl, by omega, ?_⟩
            (repeat' apply And.intro) <;> first | rfl | (rw [wrapS (by omega)]) | omega | assumption | (exact allS hz (by rw [hf, decide_eq_false hc]; simp))
        · simp only [show decide (((i : Nat) : Int) > 0) = false from decide_eq_false (by omega), f1, f37, f38, f39, hds, Cd.cd23, Tk.t23, base0, base1, base2, base3, Option.isNone_none, Option.isNone_some, Nat.reduceBEq, true_or, or_true, false_or, or_false, Nat.reduceLT, Nat.reduceMod, Nat.reducePow, rmaps, nsucc, List.flatten_cons, List.flatten_nil, Nat.reduceEqDiff, Nat.reduceLeDiff, Nat.reduceAdd, Nat.reduceMul, Nat.reduceSub, ↓reduceIte, reduceCtorEq, decide_true, decide_false]
          refine ⟨_, by omega, i + 1, rfl, by omega, ?_⟩
          (repeat' apply And.intro) <;> first | rfl | (rw [wrapS (by omega)]) | omega | assumption | (exact allS hz (by rw [hf, decide_eq_false hi0]; simp))
      by_cases k1 : mi.kd = 1
      · simp only [ltT hlt, List.length_map, inR hlt, Int.toNat_natCast, hg, mvR, show (mi.kd == 0) = false from beq_eq_false_iff_ne.mpr k0, show (mi.kd == 1) = true from beq_iff_eq.mpr k1, f1, f37, f38, f39, hds, Cd.cd23, Tk.t23, base0, base1, base2, base3, Option.isNone_none, Option.isNone_some, Nat.reduceBEq, true_or, or_true, false_or, or_false, Nat.reduceLT, Nat.reduceMod, Nat.reducePow, rmaps, nsucc, List.flatten_cons, List.flatten_nil, Nat.reduceEqDiff, Nat.reduceLeDiff, Nat.reduceAdd, Nat.reduceMul, Nat.reduceSub, ↓reduceIte, reduceCtorEq, decide_true, decide_false]
        first | refine FCall.go (spans66 _ _ _) (FZs.v3 _ _ _) ?_ | refine FCall.go' (spans66 _ _ _) (FZs.v3 _ _ _) ?_ | refine FCall.goQ (spans66 _ _ _) (FZs.v3 _ _ _) ?_
        cases r1 : within mi.fr 0 (IntKind.i64.wrap (x.st - 1))
        · simp only [f1, f37, f38, f39, hds, Cd.cd23, Tk.t23, base0, base1, base2, base3, Option.isNone_none, Option.isNone_some, Nat.reduceBEq, true_or, or_true, false_or, or_false, Nat.reduceLT, Nat.reduceMod, Nat.reducePow, rmaps, nsucc, List.flatten_cons, List.flatten_nil, Nat.reduceEqDiff, Nat.reduceLeDiff, Nat.reduceAdd, Nat.reduceMul, Nat.reduceSub, ↓reduceIte, reduceCtorEq, decide_true, decide_false]
          exact fin_p (ek (kd_in.mpr (.inr (.inl k1))) x.out (by unfold labels; rw [if_neg k0, if_pos k1]) (.inl r1))
        simp only [f1, f37, f38, f39, hds, Cd.cd23, Tk.t23, base0, base1, base2, base3, Option.isNone_none, Option.isNone_some, Nat.reduceBEq, true_or, or_true, false_or, or_false, Nat.reduceLT, Nat.reduceMod, Nat.reducePow, rmaps, nsucc, List.flatten_cons, List.flatten_nil, Nat.reduceEqDiff, Nat.reduceLeDiff, Nat.reduceAdd, Nat.reduceMul, Nat.reduceSub, ↓reduceIte, reduceCtorEq, decide_true, decide_false]
        first | refine FCall.go (spans66 _ _ _) (FZs.v3 _ _ _) ?_ | refine FCall.go' (spans66 _ _ _) (FZs.v3 _ _ _) ?_ | refine FCall.goQ (spans66 _ _ _) (FZs.v3 _ _ _) ?_
        cases r2 : within mi.to 0 (IntKind.i64.wrap (x.st - 1))
        · simp only [f1, f37, f38, f39, hds, Cd.cd23, Tk.t23, base0, base1, base2, base3, Option.isNone_none, Option.isNone_some, Nat.reduceBEq, true_or, or_true, false_or, or_false, Nat.reduceLT, Nat.reduceMod, Nat.reducePow, rmaps, nsucc, List.flatten_cons, List.flatten_nil, Nat.reduceEqDiff, Nat.reduceLeDiff, Nat.reduceAdd, Nat.reduceMul, Nat.reduceSub, ↓reduceIte, reduceCtorEq, decide_true, decide_false]
          exact fin_p (ek (kd_in.mpr (.inr (.inl k1))) x.out (by unfold labels; rw [if_neg k0, if_pos k1]) (.inr (.inl r2)))
        simp only [f1, f37, f38, f39, hds, Cd.cd23, Tk.t23, base0, base1, base2, base3, Option.isNone_none, Option.isNone_some, Nat.reduceBEq, true_or, or_true, false_or, or_false, Nat.reduceLT, Nat.reduceMod, Nat.reducePow, rmaps, nsucc, List.flatten_cons, List.flatten_nil, Nat.reduceEqDiff, Nat.reduceLeDiff, Nat.reduceAdd, Nat.reduceMul, Nat.reduceSub, ↓reduceIte, reduceCtorEq, decide_true, decide_false]
        first | refine FCall.go (spans66 _ _ _) (FZs.v3 _ _ _) ?_ | refine FCall.go' (spans66 _ _ _) (FZs.v3 _ _ _) ?_ | refine FCall.goQ (spans66 _ _ _) (FZs.v3 _ _ _) ?_
        cases r3 : within mi.lb 0 (IntKind.i64.wrap (x.out - 1))
        · simp only [f1, f37, f38, f39, hds, Cd.cd23, Tk.t23, base0, base1, base2, base3, Option.isNone_none, Option.isNone_some, Nat.reduceBEq, true_or, or_true, false_or, or_false, Nat.reduceLT, Nat.reduceMod, Nat.reducePow, rmaps, nsucc, List.flatten_cons, List.flatten_nil, Nat.reduceEqDiff, Nat.reduceLeDiff, Nat.reduceAdd, Nat.reduceMul, Nat.reduceSub, ↓reduceIte, reduceCtorEq, decide_true, decide_false]
          exact fin_p (ek (kd_in.mpr (.inr (.inl k1))) x.out (by unfold labels; rw [if_neg k0, if_pos k1]) (.inr (.inr r3)))
        have hf := fin x.out (by unfold labels; rw [if_neg k0, if_pos k1]) (kd_in.mpr (.inr (.inl k1))) r1 r2 r3
        by_cases hi0 : 0 < i
        · have hl1 : i - 1 < x.mv.length := by omega
          have hw : IntKind.i64.wrap ((i : Int) - 1) = ((i - 1 : Nat) : Int) := by rw [wrapI (by omega) (by omega)]; omega
          have hg1 := getD_map mvR x.mv (i - 1) hl1
          simp only [List.length_map, show decide (((i : Nat) : Int) > 0) = true from decide_eq_true (by omega), hw, inR hl1, Int.toNat_natCast, hg1, mvR, f1, f37, f38, f39, hds, Cd.cd23, Tk.t23, base0, base1, base2, base3, Option.isNone_none, Option.isNone_some, Nat.reduceBEq, true_or, or_true, false_or, or_false, Nat.reduceLT, Nat.reduceMod, Nat.reducePow, rmaps, nsucc, List.flatten_cons, List.flatten_nil, Nat.reduceEqDiff, Nat.reduceLeDiff, Nat.reduceAdd, Nat.reduceMul, Nat.reduceSub, ↓reduceIte, reduceCtorEq, decide_true, decide_false]
          refine (cmpMv67 (x.mv.getD (i - 1) default) mi).go' (FZs.two (FZ.mvV _) (FZ.mvV _)) ?_
          by_cases hc : 0 ≤ cmpMv (x.mv.getD (i - 1) default) mi
          · simp only [show decide (cmpMv (x.mv.getD (i - 1) default) mi ≥ 0) = true from decide_eq_true hc, f1, f37, f38, f39, hds, Cd.cd23, Tk.t23, base0, base1, base2, base3, Option.isNone_none, Option.isNone_some, Nat.reduceBEq, true_or, or_true, false_or, or_false, Nat.reduceLT, Nat.reduceMod, Nat.reducePow, rmaps, nsucc, List.flatten_cons, List.flatten_nil, Nat.reduceEqDiff, Nat.reduceLeDiff, Nat.reduceAdd, Nat.reduceMul, Nat.reduceSub, ↓reduceIte, reduceCtorEq, decide_true, decide_false]
            exact fin_p (check_move hh h5 hlt hz (by rw [hf, decide_eq_true hi0, decide_eq_true hc]; rfl) (by omega))
          · simp only [show decide (cmpMv (x.mv.getD (i - 1) default) mi ≥ 0) = false from decide_eq_false hc, f1, f37, f38, f39, hds, Cd.cd23, Tk.t23, base0, base1, base2, base3, Option.isNone_none, Option.isNone_some, Nat.reduceBEq, true_or, or_true, false_or, or_false, Nat.reduceLT, Nat.reduceMod, Nat.reducePow, rmaps, nsucc, List.flatten_cons, List.flatten_nil, Nat.reduceEqDiff, Nat.reduceLeDiff, Nat.reduceAdd, Nat.reduceMul, Nat.reduceSub, ↓reduceIte, reduceCtorEq, decide_true, decide_false]
            refine ⟨_, by omega, i + 1, rfl, by omega, ?_⟩
            (repeat' apply And.intro) <;> first | rfl | (rw [wrapS (by omega)]) | omega | assumption | (exact allS hz (by rw [hf, decide_eq_false hc]; simp))
        · simp only [show decide (((i : Nat) : Int) > 0) = false from decide_eq_false (by omega), f1, f37, f38, f39, hds, Cd.cd23, Tk.t23, base0, base1, base2, base3, Option.isNone_none, Option.isNone_some, Nat.reduceBEq, true_or, or_true, false_or, or_false, Nat.reduceLT, Nat.reduceMod, Nat.reducePow, rmaps, nsucc, List.flatten_cons, List.flatten_nil, Nat.reduceEqDiff, Nat.reduceLeDiff, Nat.reduceAdd, Nat.reduceMul, Nat.reduceSub, ↓reduceIte, reduceCtorEq, decide_true, decide_false]
          refine ⟨_, by omega, i + 1, rfl, by omega, ?_⟩
          (repeat' apply And.intro) <;> first | rfl | (rw [wrapS (by omega)]) | omega | assumption | (exact allS hz (by rw [hf, decide_eq_false hi0]; simp))
      by_cases k2 : mi.kd = 2
      · simp only [ltT hlt, List.length_map, inR hlt, Int.toNat_natCast, hg, mvR, show (mi.kd == 0) = false from beq_eq_false_iff_ne.mpr k0, show (mi.kd == 1) = false from beq_eq_false_iff_ne.mpr k1, show (mi.kd == 2) = true from beq_iff_eq.mpr k2, f1, f37, f38, f39, hds, Cd.cd23, Tk.t23, base0, base1, base2, base3, Option.isNone_none, Option.isNone_some, Nat.reduceBEq, true_or, or_true, false_or, or_false, Nat.reduceLT, Nat.reduceMod, Nat.reducePow, rmaps, nsucc, List.flatten_cons, List.flatten_nil, Nat.reduceEqDiff, Nat.reduceLeDiff, Nat.reduceAdd, Nat.reduceMul, Nat.reduceSub, ↓reduceIte, reduceCtorEq, decide_true, decide_false]
        first | refine FCall.go (spans66 _ _ _) (FZs.v3 _ _ _) ?_ | refine FCall.go' (spans66 _ _ _) (FZs.v3 _ _ _) ?_ | refine FCall.goQ (spans66 _ _ _) (FZs.v3 _ _ _) ?_
        cases r1 : within mi.fr 0 (IntKind.i64.wrap (x.st - 1))
        · simp only [f1, f37, f38, f39, hds, Cd.cd23, Tk.t23, base0, base1, base2, base3, Option.isNone_none, Option.isNone_some, Nat.reduceBEq, true_or, or_true, false_or, or_false, Nat.reduceLT, Nat.reduceMod, Nat.reducePow, rmaps, nsucc, List.flatten_cons, List.flatten_nil, Nat.reduceEqDiff, Nat.reduceLeDiff, Nat.reduceAdd, Nat.reduceMul, Nat.reduceSub, ↓reduceIte, reduceCtorEq, decide_true, decide_false]
          exact fin_p (ek (kd_in.mpr (.inr (.inr k2))) 1 (by unfold labels; rw [if_neg k0, if_neg k1]) (.inl r1))
        simp only [f1, f37, f38, f39, hds, Cd.cd23, Tk.t23, base0, base1, base2, base3, Option.isNone_none, Option.isNone_some, Nat.reduceBEq, true_or, or_true, false_or, or_false, Nat.reduceLT, Nat.reduceMod, Nat.reducePow, rmaps, nsucc, List.flatten_cons, List.flatten_nil, Nat.reduceEqDiff, Nat.reduceLeDiff, Nat.reduceAdd, Nat.reduceMul, Nat.reduceSub, ↓reduceIte, reduceCtorEq, decide_true, decide_false]
        first | refine FCall.go (spans66 _ _ _) (FZs.v3 _ _ _) ?_ | refine FCall.go' (spans66 _ _ _) (FZs.v3 _ _ _) ?_ | refine FCall.goQ (spans66 _ _ _) (FZs.v3 _ _ _) ?_
        cases r2 : within mi.to 0 (IntKind.i64.wrap (x.st - 1))
        · simp only [f1, f37, f38, f39, hds, Cd.cd23, Tk.t23, base0, base1, base2, base3, Option.isNone_none, Option.isNone_some, Nat.reduceBEq, true_or, or_true, false_or, or_false, Nat.reduceLT, Nat.reduceMod, Nat.reducePow, rmaps, nsucc, List.flatten_cons, List.flatten_nil, Nat.reduceEqDiff, Nat.reduceLeDiff, Nat.reduceAdd, Nat.reduceMul, Nat.reduceSub, ↓reduceIte, reduceCtorEq, decide_true, decide_false]
          exact fin_p (ek (kd_in.mpr (.inr (.inr k2))) 1 (by unfold labels; rw [if_neg k0, if_neg k1]) (.inr (.inl r2)))
        simp only [f1, f37, f38, f39, hds, Cd.cd23, Tk.t23, base0, base1, base2, base3, Option.isNone_none, Option.isNone_some, Nat.reduceBEq, true_or, or_true, false_or, or_false, Nat.reduceLT, Nat.reduceMod, Nat.reducePow, rmaps, nsucc, List.flatten_cons, List.flatten_nil, Nat.reduceEqDiff, Nat.reduceLeDiff, Nat.reduceAdd, Nat.reduceMul, Nat.reduceSub, ↓reduceIte, reduceCtorEq, decide_true, decide_false]
        first | refine FCall.go (spans66 _ _ _) (FZs.v3 _ _ _) ?_ | refine FCall.go' (spans66 _ _ _) (FZs.v3 _ _ _) ?_ | refine FCall.goQ (spans66 _ _ _) (FZs.v3 _ _ _) ?_
        cases r3 : within mi.lb 0 (IntKind.i64.wrap (1 - 1))
        · simp only [f1, f37, f38, f39, hds, Cd.cd23, Tk.t23, base0, base1, base2, base3, Option.isNone_none, Option.isNone_some, Nat.reduceBEq, true_or, or_true, false_or, or_false, Nat.reduceLT, Nat.reduceMod, Nat.reducePow, rmaps, nsucc, List.flatten_cons, List.flatten_nil, Nat.reduceEqDiff, Nat.reduceLeDiff, Nat.reduceAdd, Nat.reduceMul, Nat.reduceSub, ↓reduceIte, reduceCtorEq, decide_true, decide_false]
          exact fin_p (ek (kd_in.mpr (.inr (.inr k2))) 1 (by unfold labels; rw [if_neg k0, if_neg k1]) (.inr (.inr r3)))
        have hf := fin 1 (by unfold labels; rw [if_neg k0, if_neg k1]) (kd_in.mpr (.inr (.inr k2))) r1 r2 r3
        by_cases hi0 : 0 < i
        · have hl1 : i - 1 < x.mv.length := by omega
          have hw : IntKind.i64.wrap ((i : Int) - 1) = ((i - 1 : Nat) : Int) := by rw [wrapI (by omega) (by omega)]; omega
          have hg1 := getD_map mvR x.mv (i - 1) hl1
          simp only [List.length_map, show decide (((i : Nat) : Int) > 0) = true from decide_eq_true (by omega), hw, inR hl1, Int.toNat_natCast, hg1, mvR, f1, f37, f38, f39, hds, Cd.cd23, Tk.t23, base0, base1, base2, base3, Option.isNone_none, Option.isNone_some, Nat.reduceBEq, true_or, or_true, false_or, or_false, Nat.reduceLT, Nat.reduceMod, Nat.reducePow, rmaps, nsucc, List.flatten_cons, List.flatten_nil, Nat.reduceEqDiff, Nat.reduceLeDiff, Nat.reduceAdd, Nat.reduceMul, Nat.reduceSub, ↓reduceIte, reduceCtorEq, decide_true, decide_false]
          refine (cmpMv67 (x.mv.getD (i - 1) default) mi).go' (FZs.two (FZ.mvV _) (FZ.mvV _)) ?_
          by_cases hc : 0 ≤ cmpMv (x.mv.getD (i - 1) default) mi
          · simp only [show decide (cmpMv (x.mv.getD (i - 1) default) mi ≥ 0) = true from decide_eq_true hc, f1, f37, f38, f39, hds, Cd.cd23, Tk.t23, base0, base1, base2, base3, Option.isNone_none, Option.isNone_some, Nat.reduceBEq, true_or, or_true, false_or, or_false, Nat.reduceLT, Nat.reduceMod, Nat.reducePow, rmaps, nsucc, List.flatten_cons, List.flatten_nil, Nat.reduceEqDiff, Nat.reduceLeDiff, Nat.reduceAdd, Nat.reduceMul, Nat.reduceSub, ↓reduceIte, reduceCtorEq, decide_true, decide_false]
            exact fin_p (check_move hh h5 hlt hz (by rw [hf, decide_eq_true hi0, decide_eq_true hc]; rfl) (by omega))
          · simp only [show decide (cmpMv (x.mv.getD (i - 1) default) mi ≥ 0) = false from decide_eq_false hc, f1, f37, f38, f39, hds, Cd.cd23, Tk.t23, base0, base1, base2, base3, Option.isNone_none, Option.isNone_some, Nat.reduceBEq, true_or, or_true, false_or, or_false, Nat.reduceLT, Nat.reduceMod, Nat.reducePow, rmaps, nsucc, List.flatten_cons, List.flatten_nil, Nat.reduceEqDiff, Nat.reduceLeDiff, Nat.reduceAdd, Nat.reduceMul, Nat.reduceSub, ↓reduceIte, reduceCtorEq, decide_true, decide_false]
            refine ⟨_, by omega, i + 1, rfl, by omega, ?_⟩
            (repeat' apply And.intro) <;> first | rfl | (rw [wrapS (by omega)]) | omega | assumption | (exact allS hz (by rw [hf, decide_eq_false hc]; simp))
        · simp only [show decide (((i : Nat) : Int) > 0) = false from decide_eq_false (by omega), f1, f37, f38, f39, hds, Cd.cd23, Tk.t23, base0, base1, base2, base3, Option.isNone_none, Option.isNone_some, Nat.reduceBEq, true_or, or_true, false_or, or_false, Nat.reduceLT, Nat.reduceMod, Nat.reducePow, rmaps, nsucc, List.flatten_cons, List.flatten_nil, Nat.reduceEqDiff, Nat.reduceLeDiff, Nat.reduceAdd, Nat.reduceMul, Nat.reduceSub, ↓reduceIte, reduceCtorEq, decide_true, decide_false]
          refine ⟨_, by omega, i + 1, rfl, by omega, ?_⟩
          (repeat' apply And.intro) <;> first | rfl | (rw [wrapS (by omega)]) | omega | assumption | (exact allS hz (by rw [hf, decide_eq_false hi0]; simp))
      · simp only [ltT hlt, List.length_map, inR hlt, Int.toNat_natCast, hg, mvR, show (mi.kd == 0) = false from beq_eq_false_iff_ne.mpr k0, show (mi.kd == 1) = false from beq_eq_false_iff_ne.mpr k1, show (mi.kd == 2) = false from beq_eq_false_iff_ne.mpr k2, f1, f37, f38, f39, hds, Cd.cd23, Tk.t23, base0, base1, base2, base3, Option.isNone_none, Option.isNone_some, Nat.reduceBEq, true_or, or_true, false_or, or_false, Nat.reduceLT, Nat.reduceMod, Nat.reducePow, rmaps, nsucc, List.flatten_cons, List.flatten_nil, Nat.reduceEqDiff, Nat.reduceLeDiff, Nat.reduceAdd, Nat.reduceMul, Nat.reduceSub, ↓reduceIte, reduceCtorEq, decide_true, decide_false]
        exact fin_p (check_move hh h5 hlt hz (mvErr_kind (by rw [hm]; exact kd_out k0 k1 k2)) (by omega))
    · have hi' : i = x.mv.length := by omega
      simp only [ltF hlt, f1, f37, f38, f39, hds, Cd.cd23, Tk.t23, base0, base1, base2, base3, Option.isNone_none, Option.isNone_some, Nat.reduceBEq, true_or, or_true, false_or, or_false, Nat.reduceLT, Nat.reduceMod, Nat.reducePow, rmaps, nsucc, List.flatten_cons, List.flatten_nil, Nat.reduceEqDiff, Nat.reduceLeDiff, Nat.reduceAdd, Nat.reduceMul, Nat.reduceSub, ↓reduceIte, reduceCtorEq, decide_true, decide_false]
      exact fin_p (check_ok hh h5 (by rw [← hi']; exact hz))
end Go.Proofs.YtchpcjmgifnmdaaDoor

/- Walks: the reference checks systems. -/
namespace Go.Proofs.YtchpcjmgifnmdaaDoor
open Go Go.Proofs.YtchpcjmgifnmdaaDoor.Ab
set_option maxRecDepth 100000
set_option linter.unusedSimpArgs false

theorem sysErr70 (x : Re) : FCall Tryd.prog 70 [reV x] (· = .v (.int .i64 (errR x))) := by
  simp only [reV, reL, mvsV]
  refine ACall.enter [] Cd.fn70 (by simp) ?_
  simp only [Cd.cd70, Tk.t70, base0, base1, base2, base3, Option.isNone_none, Option.isNone_some, Nat.reduceBEq, true_or, or_true, false_or, or_false, Nat.reduceLT, Nat.reduceMod, Nat.reducePow, rmaps, nsucc, List.flatten_cons, List.flatten_nil, Nat.reduceEqDiff, Nat.reduceLeDiff, Nat.reduceAdd, Nat.reduceMul, Nat.reduceSub, ↓reduceIte, reduceCtorEq, decide_true, decide_false]
  refine (check23 x).go (FZs.one (FZ.reV x)) ?_
  simp only [Cd.cd70, Tk.t70, base0, base1, base2, base3, Option.isNone_none, Option.isNone_some, Nat.reduceBEq, true_or, or_true, false_or, or_false, Nat.reduceLT, Nat.reduceMod, Nat.reducePow, rmaps, nsucc, List.flatten_cons, List.flatten_nil, Nat.reduceEqDiff, Nat.reduceLeDiff, Nat.reduceAdd, Nat.reduceMul, Nat.reduceSub, ↓reduceIte, reduceCtorEq, decide_true, decide_false]
  exact fin_v rfl
def bothR (x y : Re) : Int := orI (errR x) (orI (errR y) (if decide (x.inp = y.inp) && decide (x.out = y.out) then 0 else 6))
theorem orL3 (a b c : Int) : orL [a, b, c] = orI a (orI b c) := by
  simp only [orL, orI]
  by_cases h1 : a = 0 <;> by_cases h2 : b = 0 <;> by_cases h3 : c = 0 <;> simp [h1, h2, h3]
theorem both58 (x y : Re) : FCall Tryd.prog 58 [reV x, reV y] (· = .v (.int .i64 (bothR x y))) := by
  simp only [reV, reL, mvsV]
  refine ACall.enter [] Cd.fn58 (by simp) ?_
  simp only [Cd.cd58, Tk.t58, base0, base1, base2, base3, Option.isNone_none, Option.isNone_some, Nat.reduceBEq, true_or, or_true, false_or, or_false, Nat.reduceLT, Nat.reduceMod, Nat.reducePow, rmaps, nsucc, List.flatten_cons, List.flatten_nil, Nat.reduceEqDiff, Nat.reduceLeDiff, Nat.reduceAdd, Nat.reduceMul, Nat.reduceSub, ↓reduceIte, reduceCtorEq, decide_true, decide_false]
  refine (sysErr70 x).go' (FZs.one (FZ.reV x)) ?_
  simp only [Cd.cd58, Tk.t58, base0, base1, base2, base3, Option.isNone_none, Option.isNone_some, Nat.reduceBEq, true_or, or_true, false_or, or_false, Nat.reduceLT, Nat.reduceMod, Nat.reducePow, rmaps, nsucc, List.flatten_cons, List.flatten_nil, Nat.reduceEqDiff, Nat.reduceLeDiff, Nat.reduceAdd, Nat.reduceMul, Nat.reduceSub, ↓reduceIte, reduceCtorEq, decide_true, decide_false]
  refine (sysErr70 y).go' (FZs.one (FZ.reV y)) ?_
  have fin : ∀ b, (decide (x.inp = y.inp) && decide (x.out = y.out)) = b → orL [errR x, errR y, if b = true then 0 else 6] = bothR x y := fun b hb => by subst hb; rw [orL3]; rfl
  by_cases h1 : x.inp = y.inp
  · by_cases h2 : x.out = y.out
    · have hb : (decide (x.inp = y.inp) && decide (x.out = y.out)) = true := by simp [h1, h2]
      have hf := fin _ hb
      have h := or82 [errR x, errR y, if true = true then 0 else 6] (by simp) .full
      have hz : FZ _ := FZ.intL (l := [errR x, errR y, if true = true then 0 else 6]) (tip := .full) rfl
      simp only [List.map_cons, List.map_nil, intR] at h hz
      simp only [show (x.inp == y.inp) = true from beq_iff_eq.mpr h1, show (x.out == y.out) = true from beq_iff_eq.mpr h2, Cd.cd58, Tk.t58, base0, base1, base2, base3, Option.isNone_none, Option.isNone_some, Nat.reduceBEq, true_or, or_true, false_or, or_false, Nat.reduceLT, Nat.reduceMod, Nat.reducePow, rmaps, nsucc, List.flatten_cons, List.flatten_nil, Nat.reduceEqDiff, Nat.reduceLeDiff, Nat.reduceAdd, Nat.reduceMul, Nat.reduceSub, ↓reduceIte, reduceCtorEq, decide_true, decide_false]
      first | refine FCall.go (unless61 _ _) (FZs.v2 _ _) ?_ | refine FCall.go' (unless61 _ _) (FZs.v2 _ _) ?_ | refine FCall.goQ (unless61 _ _) (FZs.v2 _ _) ?_
      simp only [Cd.cd58, Tk.t58, base0, base1, base2, base3, Option.isNone_none, Option.isNone_some, Nat.reduceBEq, true_or, or_true, false_or, or_false, Nat.reduceLT, Nat.reduceMod, Nat.reducePow, rmaps, nsucc, List.flatten_cons, List.flatten_nil, Nat.reduceEqDiff, Nat.reduceLeDiff, Nat.reduceAdd, Nat.reduceMul, Nat.reduceSub, ↓reduceIte, reduceCtorEq, decide_true, decide_false]
      first | refine FCall.go h (FZs.one hz) ?_ | refine FCall.go' h (FZs.one hz) ?_ | refine FCall.goQ h (FZs.one hz) ?_
      simp only [Cd.cd58, Tk.t58, base0, base1, base2, base3, Option.isNone_none, Option.isNone_some, Nat.reduceBEq, true_or, or_true, false_or, or_false, Nat.reduceLT, Nat.reduceMod, Nat.reducePow, rmaps, nsucc, List.flatten_cons, List.flatten_nil, Nat.reduceEqDiff, Nat.reduceLeDiff, Nat.reduceAdd, Nat.reduceMul, Nat.reduceSub, ↓reduceIte, reduceCtorEq, decide_true, decide_false]
      exact fin_v (by rw [← hf]; rfl)
    · have hb : (decide (x.inp = y.inp) && decide (x.out = y.out)) = false := by simp [h2]
      have hf := fin _ hb
      have h := or82 [errR x, errR y, if false = true then 0 else 6] (by simp) .full
      have hz : FZ _ := FZ.intL (l := [errR x, errR y, if false = true then 0 else 6]) (tip := .full) rfl
      simp only [List.map_cons, List.map_nil, intR] at h hz
      simp only [show (x.inp == y.inp) = true from beq_iff_eq.mpr h1, show (x.out == y.out) = false from beq_eq_false_iff_ne.mpr h2, Cd.cd58, Tk.t58, base0, base1, base2, base3, Option.isNone_none, Option.isNone_some, Nat.reduceBEq, true_or, or_true, false_or, or_false, Nat.reduceLT, Nat.reduceMod, Nat.reducePow, rmaps, nsucc, List.flatten_cons, List.flatten_nil, Nat.reduceEqDiff, Nat.reduceLeDiff, Nat.reduceAdd, Nat.reduceMul, Nat.reduceSub, ↓reduceIte, reduceCtorEq, decide_true, decide_false]
      first | refine FCall.go (unless61 _ _) (FZs.v2 _ _) ?_ | refine FCall.go' (unless61 _ _) (FZs.v2 _ _) ?_ | refine FCall.goQ (unless61 _ _) (FZs.v2 _ _) ?_
      simp only [Cd.cd58, Tk.t58, base0, base1, base2, base3, Option.isNone_none, Option.isNone_some, Nat.reduceBEq, true_or, or_true, false_or, or_false, Nat.reduceLT, Nat.reduceMod, Nat.reducePow, rmaps, nsucc, List.flatten_cons, List.flatten_nil, Nat.reduceEqDiff, Nat.reduceLeDiff, Nat.reduceAdd, Nat.reduceMul, Nat.reduceSub, ↓reduceIte, reduceCtorEq, decide_true, decide_false]
      first | refine FCall.go h (FZs.one hz) ?_ | refine FCall.go' h (FZs.one hz) ?_ | refine FCall.goQ h (FZs.one hz) ?_
      simp only [Cd.cd58, Tk.t58, base0, base1, base2, base3, Option.isNone_none, Option.isNone_some, Nat.reduceBEq, true_or, or_true, false_or, or_false, Nat.reduceLT, Nat.reduceMod, Nat.reducePow, rmaps, nsucc, List.flatten_cons, List.flatten_nil, Nat.reduceEqDiff, Nat.reduceLeDiff, Nat.reduceAdd, Nat.reduceMul, Nat.reduceSub, ↓reduceIte, reduceCtorEq, decide_true, decide_false]
      exact fin_v (by rw [← hf]; rfl)
  · have hb : (decide (x.inp = y.inp) && decide (x.out = y.out)) = false := by simp [h1]
    have hf := fin _ hb
    have h := or82 [errR x, errR y, if false = true then 0 else 6] (by simp) .full
    have hz : FZ _ := FZ.intL (l := [errR x, errR y, if false = true then 0 else 6]) (tip := .full) rfl
    simp only [List.map_cons, List.map_nil, intR] at h hz
    simp only [show (x.inp == y.inp) = false from beq_eq_false_iff_ne.mpr h1, Cd.cd58, Tk.t58, base0, base1, base2, base3, Option.isNone_none, Option.isNone_some, Nat.reduceBEq, true_or, or_true, false_or, or_false, Nat.reduceLT, Nat.reduceMod, Nat.reducePow, rmaps, nsucc, List.flatten_cons, List.flatten_nil, Nat.reduceEqDiff, Nat.reduceLeDiff, Nat.reduceAdd, Nat.reduceMul, Nat.reduceSub, ↓reduceIte, reduceCtorEq, decide_true, decide_false]
    first | refine FCall.go (unless61 _ _) (FZs.v2 _ _) ?_ | refine FCall.go' (unless61 _ _) (FZs.v2 _ _) ?_ | refine FCall.goQ (unless61 _ _) (FZs.v2 _ _) ?_
    simp only [Cd.cd58, Tk.t58, base0, base1, base2, base3, Option.isNone_none, Option.isNone_some, Nat.reduceBEq, true_or, or_true, false_or, or_false, Nat.reduceLT, Nat.reduceMod, Nat.reducePow, rmaps, nsucc, List.flatten_cons, List.flatten_nil, Nat.reduceEqDiff, Nat.reduceLeDiff, Nat.reduceAdd, Nat.reduceMul, Nat.reduceSub, ↓reduceIte, reduceCtorEq, decide_true, decide_false]
    first | refine FCall.go h (FZs.one hz) ?_ | refine FCall.go' h (FZs.one hz) ?_ | refine FCall.goQ h (FZs.one hz) ?_
    simp only [Cd.cd58, Tk.t58, base0, base1, base2, base3, Option.isNone_none, Option.isNone_some, Nat.reduceBEq, true_or, or_true, false_or, or_false, Nat.reduceLT, Nat.reduceMod, Nat.reducePow, rmaps, nsucc, List.flatten_cons, List.flatten_nil, Nat.reduceEqDiff, Nat.reduceLeDiff, Nat.reduceAdd, Nat.reduceMul, Nat.reduceSub, ↓reduceIte, reduceCtorEq, decide_true, decide_false]
    exact fin_v (by rw [← hf]; rfl)
theorem list69 (m : Mv) : FCall Tryd.prog 69 [mvV m] (· = ints [m.fr, m.kd, m.lb, m.to]) := by
  simp only [mvV, mvR]
  refine ACall.enter [] Cd.fn69 (by simp) ?_
  simp only [Cd.cd69, Tk.t69, base0, base1, base2, base3, Option.isNone_none, Option.isNone_some, Nat.reduceBEq, true_or, or_true, false_or, or_false, Nat.reduceLT, Nat.reduceMod, Nat.reducePow, rmaps, nsucc, List.flatten_cons, List.flatten_nil, Nat.reduceEqDiff, Nat.reduceLeDiff, Nat.reduceAdd, Nat.reduceMul, Nat.reduceSub, ↓reduceIte, reduceCtorEq, decide_true, decide_false]
  exact ⟨_, _, rfl, View.tip (fun r hr => by
    simp only [List.mem_cons, List.not_mem_nil, or_false] at hr
    rcases hr with rfl | rfl | rfl | rfl <;> exact FZs.v1 _), FZ.ints [m.fr, m.kd, m.lb, m.to], rfl⟩
def cmpL (a b : List Int) : Int := match firstIx a.length (fun i => a.getD i 0 != b.getD i 0) with
  | some i => if b.getD i 0 < a.getD i 0 then 1 else -1
  | none => 0
theorem cmpL4 (a b : Mv) : cmpL [a.fr, a.kd, a.lb, a.to] [b.fr, b.kd, b.lb, b.to] = cmpMv a b := by
  obtain ⟨a1, a2, a3, a4⟩ := a
  obtain ⟨b1, b2, b3, b4⟩ := b
  have hr : List.range 4 = [0, 1, 2, 3] := rfl
  unfold cmpL firstIx cmpMv
  simp only [List.length_cons, List.length_nil, Nat.zero_add, Nat.reduceAdd, hr, List.find?_cons, List.find?_nil, List.getD_cons_zero, List.getD_cons_succ]
  have key : ∀ p q : Int, p ≠ q → (if q < p then (1 : Int) else -1) = cmpI p q ∧ cmpI p q ≠ 0 := fun p q h => by
    unfold cmpI; constructor
    · split <;> split <;> omega
    · split
      · omega
      · split <;> omega
  have key0 : ∀ p q : Int, p = q → cmpI p q = 0 := fun p q h => by subst h; simp [cmpI]
  by_cases h1 : a1 = b1
  · rw [key0 _ _ h1, show orI 0 (orI (cmpI a2 b2) (orI (cmpI a3 b3) (cmpI a4 b4))) = orI (cmpI a2 b2) (orI (cmpI a3 b3) (cmpI a4 b4)) from rfl, show (a1 != b1) = false from by simp [h1]]
    by_cases h2 : a2 = b2
    · rw [key0 _ _ h2, show orI 0 (orI (cmpI a3 b3) (cmpI a4 b4)) = orI (cmpI a3 b3) (cmpI a4 b4) from rfl, show (a2 != b2) = false from by simp [h2]]
      by_cases h3 : a3 = b3
      · rw [key0 _ _ h3, show orI 0 (cmpI a4 b4) = cmpI a4 b4 from rfl, show (a3 != b3) = false from by simp [h3]]
        by_cases h4 : a4 = b4
        · rw [key0 _ _ h4, show (a4 != b4) = false from by simp [h4]]
        · rw [show (a4 != b4) = true from by simp [h4]]
          exact (key _ _ h4).1
      · rw [show (a3 != b3) = true from by simp [h3]]
        simp only [List.getD_cons_zero, List.getD_cons_succ]
        rw [(key _ _ h3).1, orI, if_pos (key _ _ h3).2]
    · rw [show (a2 != b2) = true from by simp [h2]]
      simp only [List.getD_cons_zero, List.getD_cons_succ]
      rw [(key _ _ h2).1, orI, if_pos (key _ _ h2).2]
  · rw [show (a1 != b1) = true from by simp [h1]]
    simp only [List.getD_cons_zero, List.getD_cons_succ]
    rw [(key _ _ h1).1, orI, if_pos (key _ _ h1).2]
theorem cmp68 (a b : List Int) (hl : a.length ≤ 100) (hab : b.length = a.length) : FCall Tryd.prog 68 [ints a, ints b] (· = .v (.int .i64 (cmpL a b))) := by
  simp only [ints]
  refine ACall.enter [] Cd.fn68 (by simp) ?_
  simp only [Cd.cd68, Tk.t68, base0, base1, base2, base3, Option.isNone_none, Option.isNone_some, Nat.reduceBEq, true_or, or_true, false_or, or_false, Nat.reduceLT, Nat.reduceMod, Nat.reducePow, rmaps, nsucc, List.flatten_cons, List.flatten_nil, Nat.reduceEqDiff, Nat.reduceLeDiff, Nat.reduceAdd, Nat.reduceMul, Nat.reduceSub, ↓reduceIte, reduceCtorEq, decide_true, decide_false]
  refine LWP.loop [] (fun m f H' => ∃ i, m = a.length - i ∧ (i ≤ a.length) ∧ (∀ j, j < i → (a.getD j 0 != b.getD j 0) = false) ∧ f.t 0 = .lst 1 (a.map fun x => [.v (.int .i64 x)]) .unk ∧ f.t 1 = .lst 1 (b.map fun x => [.v (.int .i64 x)]) .unk ∧ f.t 5 = .v (.int .i64 (i : Nat)) ∧ f.ds = [] ∧ H' = AH.none) ?_ ?_ (m := a.length - (0))
  · exact ⟨0, rfl, (by omega), (fun j hj => by omega), rfl, rfl, rfl, rfl, rfl⟩
  · rintro m f H' ⟨i, rfl, hi, hz, f0, f1, f5, hds, rfl⟩
    by_cases hlt : i < a.length
    · by_cases hn : a.getD i 0 = b.getD i 0
      · simp only [List.length_map, ltT hlt, inR hlt, hab, Int.toNat_natCast, getD_ints a i hlt, getD_ints b i (by omega), show (a.getD i 0 != b.getD i 0) = false from by rw [hn]; simp, f0, f1, f5, hds, Cd.cd68, Tk.t68, base0, base1, base2, base3, Option.isNone_none, Option.isNone_some, Nat.reduceBEq, true_or, or_true, false_or, or_false, Nat.reduceLT, Nat.reduceMod, Nat.reducePow, rmaps, nsucc, List.flatten_cons, List.flatten_nil, Nat.reduceEqDiff, Nat.reduceLeDiff, Nat.reduceAdd, Nat.reduceMul, Nat.reduceSub, ↓reduceIte, reduceCtorEq, decide_true, decide_false]
        refine ⟨_, by omega, i + 1, rfl, by omega, ?_⟩
        (repeat' apply And.intro) <;> first | rfl | (rw [wrapS (by omega)]) | omega | assumption | (exact allS hz (by rw [hn]; simp))
      · have hb : (a.getD i 0 != b.getD i 0) = true := by simpa using hn
        by_cases hg : b.getD i 0 < a.getD i 0
        · simp only [List.length_map, ltT hlt, inR hlt, hab, Int.toNat_natCast, getD_ints a i hlt, getD_ints b i (by omega), hb, show decide (a.getD i 0 > b.getD i 0) = true from decide_eq_true hg, f0, f1, f5, hds, Cd.cd68, Tk.t68, base0, base1, base2, base3, Option.isNone_none, Option.isNone_some, Nat.reduceBEq, true_or, or_true, false_or, or_false, Nat.reduceLT, Nat.reduceMod, Nat.reducePow, rmaps, nsucc, List.flatten_cons, List.flatten_nil, Nat.reduceEqDiff, Nat.reduceLeDiff, Nat.reduceAdd, Nat.reduceMul, Nat.reduceSub, ↓reduceIte, reduceCtorEq, decide_true, decide_false]
          first | refine FCall.go (count107 _) (FZs.v1 _) ?_ | refine FCall.go' (count107 _) (FZs.v1 _) ?_ | refine FCall.goQ (count107 _) (FZs.v1 _) ?_
          simp only [f0, f1, f5, hds, Cd.cd68, Tk.t68, base0, base1, base2, base3, Option.isNone_none, Option.isNone_some, Nat.reduceBEq, true_or, or_true, false_or, or_false, Nat.reduceLT, Nat.reduceMod, Nat.reducePow, rmaps, nsucc, List.flatten_cons, List.flatten_nil, Nat.reduceEqDiff, Nat.reduceLeDiff, Nat.reduceAdd, Nat.reduceMul, Nat.reduceSub, ↓reduceIte, reduceCtorEq, decide_true, decide_false]
          exact fin_v (by rw [cmpL, firstIx_some hlt hb hz]; simp only [if_pos hg]; rfl)
        · simp only [List.length_map, ltT hlt, inR hlt, hab, Int.toNat_natCast, getD_ints a i hlt, getD_ints b i (by omega), hb, show decide (a.getD i 0 > b.getD i 0) = false from decide_eq_false hg, f0, f1, f5, hds, Cd.cd68, Tk.t68, base0, base1, base2, base3, Option.isNone_none, Option.isNone_some, Nat.reduceBEq, true_or, or_true, false_or, or_false, Nat.reduceLT, Nat.reduceMod, Nat.reducePow, rmaps, nsucc, List.flatten_cons, List.flatten_nil, Nat.reduceEqDiff, Nat.reduceLeDiff, Nat.reduceAdd, Nat.reduceMul, Nat.reduceSub, ↓reduceIte, reduceCtorEq, decide_true, decide_false]
          first | refine FCall.go (count107 _) (FZs.v1 _) ?_ | refine FCall.go' (count107 _) (FZs.v1 _) ?_ | refine FCall.goQ (count107 _) (FZs.v1 _) ?_
          simp only [f0, f1, f5, hds, Cd.cd68, Tk.t68, base0, base1, base2, base3, Option.isNone_none, Option.isNone_some, Nat.reduceBEq, true_or, or_true, false_or, or_false, Nat.reduceLT, Nat.reduceMod, Nat.reducePow, rmaps, nsucc, List.flatten_cons, List.flatten_nil, Nat.reduceEqDiff, Nat.reduceLeDiff, Nat.reduceAdd, Nat.reduceMul, Nat.reduceSub, ↓reduceIte, reduceCtorEq, decide_true, decide_false]
          exact fin_v (by rw [cmpL, firstIx_some hlt hb hz]; simp only [if_neg hg]; rfl)
    · have hi' : i = a.length := by omega
      subst hi'
      simp only [List.length_map, ltF hlt, hab, show decide (((a.length : Nat) : Int) > ((a.length : Nat) : Int)) = false from decide_eq_false (by omega), show decide (((a.length : Nat) : Int) < ((a.length : Nat) : Int)) = false from decide_eq_false (by omega), f0, f1, f5, hds, Cd.cd68, Tk.t68, base0, base1, base2, base3, Option.isNone_none, Option.isNone_some, Nat.reduceBEq, true_or, or_true, false_or, or_false, Nat.reduceLT, Nat.reduceMod, Nat.reducePow, rmaps, nsucc, List.flatten_cons, List.flatten_nil, Nat.reduceEqDiff, Nat.reduceLeDiff, Nat.reduceAdd, Nat.reduceMul, Nat.reduceSub, ↓reduceIte, reduceCtorEq, decide_true, decide_false]
      first | refine FCall.go (count107 _) (FZs.v1 _) ?_ | refine FCall.go' (count107 _) (FZs.v1 _) ?_ | refine FCall.goQ (count107 _) (FZs.v1 _) ?_
      simp only [List.length_map, hab, show decide (((a.length : Nat) : Int) < ((a.length : Nat) : Int)) = false from decide_eq_false (by omega), f0, f1, f5, hds, Cd.cd68, Tk.t68, base0, base1, base2, base3, Option.isNone_none, Option.isNone_some, Nat.reduceBEq, true_or, or_true, false_or, or_false, Nat.reduceLT, Nat.reduceMod, Nat.reducePow, rmaps, nsucc, List.flatten_cons, List.flatten_nil, Nat.reduceEqDiff, Nat.reduceLeDiff, Nat.reduceAdd, Nat.reduceMul, Nat.reduceSub, ↓reduceIte, reduceCtorEq, decide_true, decide_false]
      first | refine FCall.go (count107 _) (FZs.v1 _) ?_ | refine FCall.go' (count107 _) (FZs.v1 _) ?_ | refine FCall.goQ (count107 _) (FZs.v1 _) ?_
      simp only [f0, f1, f5, hds, Cd.cd68, Tk.t68, base0, base1, base2, base3, Option.isNone_none, Option.isNone_some, Nat.reduceBEq, true_or, or_true, false_or, or_false, Nat.reduceLT, Nat.reduceMod, Nat.reducePow, rmaps, nsucc, List.flatten_cons, List.flatten_nil, Nat.reduceEqDiff, Nat.reduceLeDiff, Nat.reduceAdd, Nat.reduceMul, Nat.reduceSub, ↓reduceIte, reduceCtorEq, decide_true, decide_false]
      exact fin_v (by rw [cmpL, firstIx_none hz]; rfl)
theorem cmp68m (a b : Mv) : FCall Tryd.prog 68 [ints [a.fr, a.kd, a.lb, a.to], ints [b.fr, b.kd, b.lb, b.to]] (· = .v (.int .i64 (cmpMv a b))) := by
  rw [← cmpL4]; exact cmp68 _ _ (by simp) rfl
theorem silence41 (x : Re) : FCall Tryd.prog 41 [reV x] (· = .v (.int .i64 (IntKind.i64.wrap (x.inp + x.out)))) := by
  simp only [reV, reL, mvsV]
  refine ACall.enter [] Cd.fn41 (by simp) ?_
  simp only [Cd.cd41, Tk.t41, base0, base1, base2, base3, Option.isNone_none, Option.isNone_some, Nat.reduceBEq, true_or, or_true, false_or, or_false, Nat.reduceLT, Nat.reduceMod, Nat.reducePow, rmaps, nsucc, List.flatten_cons, List.flatten_nil, Nat.reduceEqDiff, Nat.reduceLeDiff, Nat.reduceAdd, Nat.reduceMul, Nat.reduceSub, ↓reduceIte, reduceCtorEq, decide_true, decide_false]
  exact fin_v rfl
def quietR (x : Re) (a : Int) : Bool := x.mv.all fun m => decide (m.fr ≠ a) || decide (m.kd = 0)
theorem quiet104 (x : Re) (a : Int) (hl : x.mv.length ≤ 1000) : FCall Tryd.prog 104 [reV x, .v (.int .i64 a)] (· = .v (.bool (quietR x a))) := by
  simp only [reV, reL, mvsV]
  refine ACall.enter [] Cd.fn104 (by simp) ?_
  simp only [Cd.cd104, Tk.t104, base0, base1, base2, base3, Option.isNone_none, Option.isNone_some, Nat.reduceBEq, true_or, or_true, false_or, or_false, Nat.reduceLT, Nat.reduceMod, Nat.reducePow, rmaps, nsucc, List.flatten_cons, List.flatten_nil, Nat.reduceEqDiff, Nat.reduceLeDiff, Nat.reduceAdd, Nat.reduceMul, Nat.reduceSub, ↓reduceIte, reduceCtorEq, decide_true, decide_false]
  refine LWP.loop [] (fun m f H' => ∃ i, m = x.mv.length - i ∧ (i ≤ x.mv.length) ∧ (∀ j, j < i → (decide ((x.mv.getD j default).fr ≠ a) || decide ((x.mv.getD j default).kd = 0)) = true) ∧ f.t 1 = .v (.int .i64 a) ∧ f.t 2 = .box [.v (.int .i64 x.st), .v (.int .i64 x.s0), .v (.int .i64 x.inp), .v (.int .i64 x.out), .lst 4 (x.mv.map mvR) .unk] ∧ f.t 5 = .v (.int .i64 (i : Nat)) ∧ f.ds = [] ∧ H' = AH.none) ?_ ?_ (m := x.mv.length - (0))
  · exact ⟨0, rfl, (by omega), (fun j hj => by omega), rfl, rfl, rfl, rfl, rfl⟩
  · rintro m f H' ⟨i, rfl, hi, hz, f1, f2, f5, hds, rfl⟩
    by_cases hlt : i < x.mv.length
    · have hg := getD_map mvR x.mv i hlt
      generalize hm : x.mv.getD i default = mi at hg
      by_cases h1 : mi.fr = a
      · by_cases h2 : mi.kd = 0
        · simp only [List.length_map, ltT hlt, inR hlt, Int.toNat_natCast, hg, mvR, show (mi.fr == a) = true from beq_iff_eq.mpr h1, show (mi.kd != 0) = false from by rw [h2]; rfl, f1, f2, f5, hds, Cd.cd104, Tk.t104, base0, base1, base2, base3, Option.isNone_none, Option.isNone_some, Nat.reduceBEq, true_or, or_true, false_or, or_false, Nat.reduceLT, Nat.reduceMod, Nat.reducePow, rmaps, nsucc, List.flatten_cons, List.flatten_nil, Nat.reduceEqDiff, Nat.reduceLeDiff, Nat.reduceAdd, Nat.reduceMul, Nat.reduceSub, ↓reduceIte, reduceCtorEq, decide_true, decide_false]
          refine ⟨_, by omega, i + 1, rfl, by omega, ?_⟩
          (repeat' apply And.intro) <;> first | rfl | (rw [wrapS (by omega)]) | omega | assumption | (exact allS hz (by rw [hm, decide_eq_true h2]; simp))
        · simp only [List.length_map, ltT hlt, inR hlt, Int.toNat_natCast, hg, mvR, show (mi.fr == a) = true from beq_iff_eq.mpr h1, show (mi.kd != 0) = true from bneT h2, f1, f2, f5, hds, Cd.cd104, Tk.t104, base0, base1, base2, base3, Option.isNone_none, Option.isNone_some, Nat.reduceBEq, true_or, or_true, false_or, or_false, Nat.reduceLT, Nat.reduceMod, Nat.reducePow, rmaps, nsucc, List.flatten_cons, List.flatten_nil, Nat.reduceEqDiff, Nat.reduceLeDiff, Nat.reduceAdd, Nat.reduceMul, Nat.reduceSub, ↓reduceIte, reduceCtorEq, decide_true, decide_false]
          exact fin_v (by rw [quietR, List.all_eq_false.mpr ⟨_, getD_mem hlt, by rw [hm]; simp [h1, h2]⟩])
      · simp only [List.length_map, ltT hlt, inR hlt, Int.toNat_natCast, hg, mvR, show (mi.fr == a) = false from beq_eq_false_iff_ne.mpr h1, f1, f2, f5, hds, Cd.cd104, Tk.t104, base0, base1, base2, base3, Option.isNone_none, Option.isNone_some, Nat.reduceBEq, true_or, or_true, false_or, or_false, Nat.reduceLT, Nat.reduceMod, Nat.reducePow, rmaps, nsucc, List.flatten_cons, List.flatten_nil, Nat.reduceEqDiff, Nat.reduceLeDiff, Nat.reduceAdd, Nat.reduceMul, Nat.reduceSub, ↓reduceIte, reduceCtorEq, decide_true, decide_false]
        refine ⟨_, by omega, i + 1, rfl, by omega, ?_⟩
        (repeat' apply And.intro) <;> first | rfl | (rw [wrapS (by omega)]) | omega | assumption | (exact allS hz (by rw [hm, decide_eq_true h1]; simp))
    · have hi' : i = x.mv.length := by omega
      simp only [List.length_map, ltF hlt, f1, f2, f5, hds, Cd.cd104, Tk.t104, base0, base1, base2, base3, Option.isNone_none, Option.isNone_some, Nat.reduceBEq, true_or, or_true, false_or, or_false, Nat.reduceLT, Nat.reduceMod, Nat.reducePow, rmaps, nsucc, List.flatten_cons, List.flatten_nil, Nat.reduceEqDiff, Nat.reduceLeDiff, Nat.reduceAdd, Nat.reduceMul, Nat.reduceSub, ↓reduceIte, reduceCtorEq, decide_true, decide_false]
      exact fin_v (by
        rw [quietR, List.all_eq_true.mpr]
        intro m hm
        obtain ⟨j, hj, rfl⟩ := mem_getD hm
        exact hz j (by omega))
end Go.Proofs.YtchpcjmgifnmdaaDoor

/- Walks: the reference checks systems, each move. -/
namespace Go.Proofs.YtchpcjmgifnmdaaDoor
open Go Go.Proofs.YtchpcjmgifnmdaaDoor.Ab
set_option maxRecDepth 100000
set_option linter.unusedSimpArgs false

set_option maxHeartbeats 2000000 in
theorem react24 (x : Re) : FCall Tryd.prog 24 [reV x] (· = .tup [.v (.int .i64 (checkR x).1), .v (.int .i64 (checkR x).2)]) := by
  simp only [reV, reL, mvsV]
  refine ACall.enter [] Cd.fn24 (by simp) ?_
  simp only [Cd.cd24, Tk.t24, base0, base1, base2, base3, Option.isNone_none, Option.isNone_some, Nat.reduceBEq, true_or, or_true, false_or, or_false, Nat.reduceLT, Nat.reduceMod, Nat.reducePow, rmaps, nsucc, List.flatten_cons, List.flatten_nil, Nat.reduceEqDiff, Nat.reduceLeDiff, Nat.reduceAdd, Nat.reduceMul, Nat.reduceSub, ↓reduceIte, reduceCtorEq, decide_true, decide_false]
  first | refine FCall.go (within36 _ _ _) (FZs.v3 _ _ _) ?_ | refine FCall.go' (within36 _ _ _) (FZs.v3 _ _ _) ?_ | refine FCall.goQ (within36 _ _ _) (FZs.v3 _ _ _) ?_
  cases h1 : within x.st 1 10
  · simp only [Cd.cd24, Tk.t24, base0, base1, base2, base3, Option.isNone_none, Option.isNone_some, Nat.reduceBEq, true_or, or_true, false_or, or_false, Nat.reduceLT, Nat.reduceMod, Nat.reducePow, rmaps, nsucc, List.flatten_cons, List.flatten_nil, Nat.reduceEqDiff, Nat.reduceLeDiff, Nat.reduceAdd, Nat.reduceMul, Nat.reduceSub, ↓reduceIte, reduceCtorEq, decide_true, decide_false]
    exact fin_p (check_head (by simp [headErr, h1]))
  simp only [Cd.cd24, Tk.t24, base0, base1, base2, base3, Option.isNone_none, Option.isNone_some, Nat.reduceBEq, true_or, or_true, false_or, or_false, Nat.reduceLT, Nat.reduceMod, Nat.reducePow, rmaps, nsucc, List.flatten_cons, List.flatten_nil, Nat.reduceEqDiff, Nat.reduceLeDiff, Nat.reduceAdd, Nat.reduceMul, Nat.reduceSub, ↓reduceIte, reduceCtorEq, decide_true, decide_false]
  first | refine FCall.go (within36 _ _ _) (FZs.v3 _ _ _) ?_ | refine FCall.go' (within36 _ _ _) (FZs.v3 _ _ _) ?_ | refine FCall.goQ (within36 _ _ _) (FZs.v3 _ _ _) ?_
  cases h2 : within x.s0 0 (IntKind.i64.wrap (x.st - 1))
  · simp only [Cd.cd24, Tk.t24, base0, base1, base2, base3, Option.isNone_none, Option.isNone_some, Nat.reduceBEq, true_or, or_true, false_or, or_false, Nat.reduceLT, Nat.reduceMod, Nat.reducePow, rmaps, nsucc, List.flatten_cons, List.flatten_nil, Nat.reduceEqDiff, Nat.reduceLeDiff, Nat.reduceAdd, Nat.reduceMul, Nat.reduceSub, ↓reduceIte, reduceCtorEq, decide_true, decide_false]
    exact fin_p (check_head (by simp [headErr, h2]))
  simp only [Cd.cd24, Tk.t24, base0, base1, base2, base3, Option.isNone_none, Option.isNone_some, Nat.reduceBEq, true_or, or_true, false_or, or_false, Nat.reduceLT, Nat.reduceMod, Nat.reducePow, rmaps, nsucc, List.flatten_cons, List.flatten_nil, Nat.reduceEqDiff, Nat.reduceLeDiff, Nat.reduceAdd, Nat.reduceMul, Nat.reduceSub, ↓reduceIte, reduceCtorEq, decide_true, decide_false]
  first | refine FCall.go (within36 _ _ _) (FZs.v3 _ _ _) ?_ | refine FCall.go' (within36 _ _ _) (FZs.v3 _ _ _) ?_ | refine FCall.goQ (within36 _ _ _) (FZs.v3 _ _ _) ?_
  cases h3 : within x.inp 0 4
  · simp only [Cd.cd24, Tk.t24, base0, base1, base2, base3, Option.isNone_none, Option.isNone_some, Nat.reduceBEq, true_or, or_true, false_or, or_false, Nat.reduceLT, Nat.reduceMod, Nat.reducePow, rmaps, nsucc, List.flatten_cons, List.flatten_nil, Nat.reduceEqDiff, Nat.reduceLeDiff, Nat.reduceAdd, Nat.reduceMul, Nat.reduceSub, ↓reduceIte, reduceCtorEq, decide_true, decide_false]
    exact fin_p (check_head (by simp [headErr, h3]))
  simp only [Cd.cd24, Tk.t24, base0, base1, base2, base3, Option.isNone_none, Option.isNone_some, Nat.reduceBEq, true_or, or_true, false_or, or_false, Nat.reduceLT, Nat.reduceMod, Nat.reducePow, rmaps, nsucc, List.flatten_cons, List.flatten_nil, Nat.reduceEqDiff, Nat.reduceLeDiff, Nat.reduceAdd, Nat.reduceMul, Nat.reduceSub, ↓reduceIte, reduceCtorEq, decide_true, decide_false]
  first | refine FCall.go (within36 _ _ _) (FZs.v3 _ _ _) ?_ | refine FCall.go' (within36 _ _ _) (FZs.v3 _ _ _) ?_ | refine FCall.goQ (within36 _ _ _) (FZs.v3 _ _ _) ?_
  cases h4 : within x.out 0 4
  · simp only [Cd.cd24, Tk.t24, base0, base1, base2, base3, Option.isNone_none, Option.isNone_some, Nat.reduceBEq, true_or, or_true, false_or, or_false, Nat.reduceLT, Nat.reduceMod, Nat.reducePow, rmaps, nsucc, List.flatten_cons, List.flatten_nil, Nat.reduceEqDiff, Nat.reduceLeDiff, Nat.reduceAdd, Nat.reduceMul, Nat.reduceSub, ↓reduceIte, reduceCtorEq, decide_true, decide_false]
    exact fin_p (check_head (by simp [headErr, h4]))
  have hh : headErr x = false := by simp [headErr, h1, h2, h3, h4]
  by_cases h5 : 80 < x.mv.length
  · simp only [List.length_map, show decide (((x.mv.length : Nat) : Int) > 80) = true from decide_eq_true (by omega), Cd.cd24, Tk.t24, base0, base1, base2, base3, Option.isNone_none, Option.isNone_some, Nat.reduceBEq, true_or, or_true, false_or, or_false, Nat.reduceLT, Nat.reduceMod, Nat.reducePow, rmaps, nsucc, List.flatten_cons, List.flatten_nil, Nat.reduceEqDiff, Nat.reduceLeDiff, Nat.reduceAdd, Nat.reduceMul, Nat.reduceSub, ↓reduceIte, reduceCtorEq, decide_true, decide_false]
    exact fin_p (check_large hh h5)
  simp only [List.length_map, show decide (((x.mv.length : Nat) : Int) > 80) = false from decide_eq_false (by omega), Cd.cd24, Tk.t24, base0, base1, base2, base3, Option.isNone_none, Option.isNone_some, Nat.reduceBEq, true_or, or_true, false_or, or_false, Nat.reduceLT, Nat.reduceMod, Nat.reducePow, rmaps, nsucc, List.flatten_cons, List.flatten_nil, Nat.reduceEqDiff, Nat.reduceLeDiff, Nat.reduceAdd, Nat.reduceMul, Nat.reduceSub, ↓reduceIte, reduceCtorEq, decide_true, decide_false]
  refine LWP.loop [] (fun m f H' => ∃ i, m = x.mv.length - i ∧ (i ≤ x.mv.length) ∧ (∀ j, j < i → mvErr x j = 0) ∧ f.t 1 = .box [.v (.int .i64 x.st), .v (.int .i64 x.s0), .v (.int .i64 x.inp), .v (.int .i64 x.out), .lst 4 (x.mv.map mvR) .unk] ∧ f.t 4 = .v (.int .i64 (i : Nat)) ∧ f.ds = [] ∧ True) ?_ ?_ (m := x.mv.length - (0))
  · exact ⟨0, rfl, (by omega), (fun j hj => by omega), rfl, rfl, rfl, trivial⟩
  · rintro m f H' ⟨i, rfl, hi, hz, f1, f4, hds, hH⟩
    by_cases hlt : i < x.mv.length
    · have hg := getD_map mvR x.mv i hlt
      generalize hm : x.mv.getD i default = mi at hg
      have ek : within mi.kd 0 2 = true → ∀ e, (labels x mi = e) → within mi.fr 0 (IntKind.i64.wrap (x.st - 1)) = false ∨ within mi.to 0 (IntKind.i64.wrap (x.st - 1)) = false ∨ within mi.lb 0 (IntKind.i64.wrap (e - 1)) = false → checkR x = ((i : Int), 3) := fun hk e he h => by
        subst he; subst hm
        exact check_move hh h5 hlt hz (mvErr_range hk h) (by omega)
      have fin : ∀ e, labels x mi = e → within mi.kd 0 2 = true → within mi.fr 0 (IntKind.i64.wrap (x.st - 1)) = true → within mi.to 0 (IntKind.i64.wrap (x.st - 1)) = true → within mi.lb 0 (IntKind.i64.wrap (e - 1)) = true →
          mvErr x i = if decide (0 < i) && decide (0 ≤ cmpMv (x.mv.getD (i - 1) default) mi) then 14 else 0 := fun e he a b c d => by
        subst he; subst hm; exact mvErr_ord a b c d
      by_cases k0 : mi.kd = 0
      · simp only [ltT hlt, List.length_map, inR hlt, Int.toNat_natCast, hg, mvR, f1, f4, hds, Cd.cd24, Tk.t24, base0, base1, base2, base3, Option.isNone_none, Option.isNone_some, Nat.reduceBEq, true_or, or_true, false_or, or_false, Nat.reduceLT, Nat.reduceMod, Nat.reducePow, rmaps, nsucc, List.flatten_cons, List.flatten_nil, Nat.reduceEqDiff, Nat.reduceLeDiff, Nat.reduceAdd, Nat.reduceMul, Nat.reduceSub, ↓reduceIte, reduceCtorEq, decide_true, decide_false]
        first | refine FCall.go (within36 _ _ _) (FZs.v3 _ _ _) ?_ | refine FCall.go' (within36 _ _ _) (FZs.v3 _ _ _) ?_ | refine FCall.goQ (within36 _ _ _) (FZs.v3 _ _ _) ?_
        rw [(kd_in.mpr (.inl k0))]
        simp only [show (mi.kd == 0) = true from beq_iff_eq.mpr k0, show (mi.kd == 1) = false from beq_eq_false_iff_ne.mpr (by omega), f1, f4, hds, Cd.cd24, Tk.t24, base0, base1, base2, base3, Option.isNone_none, Option.isNone_some, Nat.reduceBEq, true_or, or_true, false_or, or_false, Nat.reduceLT, Nat.reduceMod, Nat.reducePow, rmaps, nsucc, List.flatten_cons, List.flatten_nil, Nat.reduceEqDiff, Nat.reduceLeDiff, Nat.reduceAdd, Nat.reduceMul, Nat.reduceSub, ↓reduceIte, reduceCtorEq, decide_true, decide_false]
        first | refine FCall.go (within36 _ _ _) (FZs.v3 _ _ _) ?_ | refine FCall.go' (within36 _ _ _) (FZs.v3 _ _ _) ?_ | refine FCall.goQ (within36 _ _ _) (FZs.v3 _ _ _) ?_
        cases r1 : within mi.fr 0 (IntKind.i64.wrap (x.st - 1))
        · simp only [f1, f4, hds, Cd.cd24, Tk.t24, base0, base1, base2, base3, Option.isNone_none, Option.isNone_some, Nat.reduceBEq, true_or, or_true, false_or, or_false, Nat.reduceLT, Nat.reduceMod, Nat.reducePow, rmaps, nsucc, List.flatten_cons, List.flatten_nil, Nat.reduceEqDiff, Nat.reduceLeDiff, Nat.reduceAdd, Nat.reduceMul, Nat.reduceSub, ↓reduceIte, reduceCtorEq, decide_true, decide_false]
          exact fin_p (ek (kd_in.mpr (.inl k0)) x.inp (by unfold labels; rw [if_pos k0]) (.inl r1))
        simp only [f1, f4, hds, Cd.cd24, Tk.t24, base0, base1, base2, base3, Option.isNone_none, Option.isNone_some, Nat.reduceBEq, true_or, or_true, false_or, or_false, Nat.reduceLT, Nat.reduceMod, Nat.reducePow, rmaps, nsucc, List.flatten_cons, List.flatten_nil, Nat.reduceEqDiff, Nat.reduceLeDiff, Nat.reduceAdd, Nat.reduceMul, Nat.reduceSub, ↓reduceIte, reduceCtorEq, decide_true, decide_false]
        first | refine FCall.go (within36 _ _ _) (FZs.v3 _ _ _) ?_ | refine FCall.go' (within36 _ _ _) (FZs.v3 _ _ _) ?_ | refine FCall.goQ (within36 _ _ _) (FZs.v3 _ _ _) ?_
        cases r2 : within mi.to 0 (IntKind.i64.wrap (x.st - 1))
        · simp only [f1, f4, hds, Cd.cd24, Tk.t24, base0, base1, base2, base3, Option.isNone_none, Option.isNone_some, Nat.reduceBEq, true_or, or_true, false_or, or_false, Nat.reduceLT, Nat.reduceMod, Nat.reducePow, rmaps, nsucc, List.flatten_cons, List.flatten_nil, Nat.reduceEqDiff, Nat.reduceLeDiff, Nat.reduceAdd, Nat.reduceMul, Nat.reduceSub, ↓reduceIte, reduceCtorEq, decide_true, decide_false]
          exact fin_p (ek (kd_in.mpr (.inl k0)) x.inp (by unfold labels; rw [if_pos k0]) (.inr (.inl r2)))
        simp only [f1, f4, hds, Cd.cd24, Tk.t24, base0, base1, base2, base3, Option.isNone_none, Option.isNone_some, Nat.reduceBEq, true_or, or_true, false_or, or_false, Nat.reduceLT, Nat.reduceMod, Nat.reducePow, rmaps, nsucc, List.flatten_cons, List.flatten_nil, Nat.reduceEqDiff, Nat.reduceLeDiff, Nat.reduceAdd, Nat.reduceMul, Nat.reduceSub, ↓reduceIte, reduceCtorEq, decide_true, decide_false]
        first | refine FCall.go (within36 _ _ _) (FZs.v3 _ _ _) ?_ | refine FCall.go' (within36 _ _ _) (FZs.v3 _ _ _) ?_ | refine FCall.goQ (within36 _ _ _) (FZs.v3 _ _ _) ?_
        cases r3 : within mi.lb 0 (IntKind.i64.wrap (x.inp - 1))
        · simp only [f1, f4, hds, Cd.cd24, Tk.t24, base0, base1, base2, base3, Option.isNone_none, Option.isNone_some, Nat.reduceBEq, true_or, or_true, false_or, or_false, Nat.reduceLT, Nat.reduceMod, Nat.reducePow, rmaps, nsucc, List.flatten_cons, List.flatten_nil, Nat.reduceEqDiff, Nat.reduceLeDiff, Nat.reduceAdd, Nat.reduceMul, Nat.reduceSub, ↓reduceIte, reduceCtorEq, decide_true, decide_false]
          exact fin_p (ek (kd_in.mpr (.inl k0)) x.inp (by unfold labels; rw [if_pos k0]) (.inr (.inr r3)))
        have hf := fin x.inp (by unfold labels; rw [if_pos k0]) (kd_in.mpr (.inl k0)) r1 r2 r3
        by_cases hi0 : 0 < i
        · have hl1 : i - 1 < x.mv.length := by omega
          have hw : IntKind.i64.wrap ((i : Int) - 1) = ((i - 1 : Nat) : Int) := by rw [wrapI (by omega) (by omega)]; omega
          have hg1 := getD_map mvR x.mv (i - 1) hl1
          simp only [List.length_map, show decide (((i : Nat) : Int) > 0) = true from decide_eq_true (by omega), hw, inR hl1, Int.toNat_natCast, hg1, mvR, f1, f4, hds, Cd.cd24, Tk.t24, base0, base1, base2, base3, Option.isNone_none, Option.isNone_some, Nat.reduceBEq, true_or, or_true, false_or, or_false, Nat.reduceLT, Nat.reduceMod, Nat.reducePow, rmaps, nsucc, List.flatten_cons, List.flatten_nil, Nat.reduceEqDiff, Nat.reduceLeDiff, Nat.reduceAdd, Nat.reduceMul, Nat.reduceSub, ↓reduceIte, reduceCtorEq, decide_true, decide_false]
          first | refine FCall.go (list69 (x.mv.getD (i - 1) default)) (FZs.one (FZ.mvV _)) ?_ | refine FCall.go' (list69 (x.mv.getD (i - 1) default)) (FZs.one (FZ.mvV _)) ?_ | refine FCall.goQ (list69 (x.mv.getD (i - 1) default)) (FZs.one (FZ.mvV _)) ?_
          simp only [f1, f4, hds, Cd.cd24, Tk.t24, base0, base1, base2, base3, Option.isNone_none, Option.isNone_some, Nat.reduceBEq, true_or, or_true, false_or, or_false, Nat.reduceLT, Nat.reduceMod, Nat.reducePow, rmaps, nsucc, List.flatten_cons, List.flatten_nil, Nat.reduceEqDiff, Nat.reduceLeDiff, Nat.reduceAdd, Nat.reduceMul, Nat.reduceSub, ↓reduceIte, reduceCtorEq, decide_true, decide_false]
          first | refine FCall.go (list69 mi) (FZs.one (FZ.mvV _)) ?_ | refine FCall.go' (list69 mi) (FZs.one (FZ.mvV _)) ?_ | refine FCall.goQ (list69 mi) (FZs.one (FZ.mvV _)) ?_
          simp only [f1, f4, hds, Cd.cd24, Tk.t24, base0, base1, base2, base3, Option.isNone_none, Option.isNone_some, Nat.reduceBEq, true_or, or_true, false_or, or_false, Nat.reduceLT, Nat.reduceMod, Nat.reducePow, rmaps, nsucc, List.flatten_cons, List.flatten_nil, Nat.reduceEqDiff, Nat.reduceLeDiff, Nat.reduceAdd, Nat.reduceMul, Nat.reduceSub, ↓reduceIte, reduceCtorEq, decide_true, decide_false]
          first | refine FCall.go (cmp68m (x.mv.getD (i - 1) default) mi) (FZs.two (FZ.ints _) (FZ.ints _)) ?_ | refine FCall.go' (cmp68m (x.mv.getD (i - 1) default) mi) (FZs.two (FZ.ints _) (FZ.ints _)) ?_ | refine FCall.goQ (cmp68m (x.mv.getD (i - 1) default) mi) (FZs.two (FZ.ints _) (FZ.ints _)) ?_
          by_cases hc : 0 ≤ cmpMv (x.mv.getD (i - 1) default) mi
          · simp only [show decide (cmpMv (x.mv.getD (i - 1) default) mi ≥ 0) = true from decide_eq_true hc, f1, f4, hds, Cd.cd24, Tk.t24, base0, base1, base2, base3, Option.isNone_none, Option.isNone_some, Nat.reduceBEq, true_or, or_true, false_or, or_false, Nat.reduceLT, Nat.reduceMod, Nat.reducePow, rmaps, nsucc, List.flatten_cons, List.flatten_nil, Nat.reduceEqDiff, Nat.reduceLeDiff, Nat.reduceAdd, Nat.reduceMul, Nat.reduceSub, ↓reduceIte, reduceCtorEq, decide_true, decide_false]
            exact fin_p (check_move hh h5 hlt hz (by rw [hf, decide_eq_true hi0, decide_eq_true hc]; rfl) (by omega))
          · simp only [show decide (cmpMv (x.mv.getD (i - 1) default) mi ≥ 0) = false from decide_eq_false hc, f1, f4, hds, Cd.cd24, Tk.t24, base0, base1, base2, base3, Option.isNone_none, Option.isNone_some, Nat.reduceBEq, true_or, or_true, false_or, or_false, Nat.reduceLT, Nat.reduceMod, Nat.reducePow, rmaps, nsucc, List.flatten_cons, List.flatten_nil, Nat.reduceEqDiff, Nat.reduceLeDiff, Nat.reduceAdd, Nat.reduceMul, Nat.reduceSub, ↓reduceIte, reduceCtorEq, decide_true, decide_false]
            refine ⟨_, by omega, i + 1, rfl, by omega, ?_⟩
            (repeat' apply And.intro) <;> first | rfl | (rw [wrapS (by omega)]) | omega | assumption | (exact allS hz (by rw [hf, decide_eq_false hc]; simp))
        · simp only [show decide (((i : Nat) : Int) > 0) = false from decide_eq_false (by omega), f1, f4, hds, Cd.cd24, Tk.t24, base0, base1, base2, base3, Option.isNone_none, Option.isNone_some, Nat.reduceBEq, true_or, or_true, false_or, or_false, Nat.reduceLT, Nat.reduceMod, Nat.reducePow, rmaps, nsucc, List.flatten_cons, List.flatten_nil, Nat.reduceEqDiff, Nat.reduceLeDiff, Nat.reduceAdd, Nat.reduceMul, Nat.reduceSub, ↓reduceIte, reduceCtorEq, decide_true, decide_false]
          refine ⟨_, by omega, i + 1, rfl, by omega, ?_⟩
          (repeat' apply And.intro) <;> first | rfl | (rw [wrapS (by omega)]) | omega | assumption | (exact allS hz (by rw [hf, decide_eq_false hi0]; simp))
      by_cases k1 : mi.kd = 1
      · simp only [ltT hlt, List.length_map, inR hlt, Int.toNat_natCast, hg, mvR, f1, f4, hds, Cd.cd24, Tk.t24, base0, base1, base2, base3, Option.isNone_none, Option.isNone_some, Nat.reduceBEq, true_or, or_true, false_or, or_false, Nat.reduceLT, Nat.reduceMod, Nat.reducePow, rmaps, nsucc, List.flatten_cons, List.flatten_nil, Nat.reduceEqDiff, Nat.reduceLeDiff, Nat.reduceAdd, Nat.reduceMul, Nat.reduceSub, ↓reduceIte, reduceCtorEq, decide_true, decide_false]
        first | refine FCall.go (within36 _ _ _) (FZs.v3 _ _ _) ?_ | refine FCall.go' (within36 _ _ _) (FZs.v3 _ _ _) ?_ | refine FCall.goQ (within36 _ _ _) (FZs.v3 _ _ _) ?_
        rw [(kd_in.mpr (.inr (.inl k1)))]
        simp only [show (mi.kd == 0) = false from beq_eq_false_iff_ne.mpr k0, show (mi.kd == 1) = true from beq_iff_eq.mpr k1, f1, f4, hds, Cd.cd24, Tk.t24, base0, base1, base2, base3, Option.isNone_none, Option.isNone_some, Nat.reduceBEq, true_or, or_true, false_or, or_false, Nat.reduceLT, Nat.reduceMod, Nat.reducePow, rmaps, nsucc, List.flatten_cons, List.flatten_nil, Nat.reduceEqDiff, Nat.reduceLeDiff, Nat.reduceAdd, Nat.reduceMul, Nat.reduceSub, ↓reduceIte, reduceCtorEq, decide_true, decide_false]
        first | refine FCall.go (within36 _ _ _) (FZs.v3 _ _ _) ?_ | refine FCall.go' (within36 _ _ _) (FZs.v3 _ _ _) ?_ | refine FCall.goQ (within36 _ _ _) (FZs.v3 _ _ _) ?_
        cases r1 : within mi.fr 0 (IntKind.i64.wrap (x.st - 1))
        · simp only [f1, f4, hds, Cd.cd24, Tk.t24, base0, base1, base2, base3, Option.isNone_none, Option.isNone_some, Nat.reduceBEq, true_or, or_true, false_or, or_false, Nat.reduceLT, Nat.reduceMod, Nat.reducePow, rmaps, nsucc, List.flatten_cons, List.flatten_nil, Nat.reduceEqDiff, Nat.reduceLeDiff, Nat.reduceAdd, Nat.reduceMul, Nat.reduceSub, ↓reduceIte, reduceCtorEq, decide_true, decide_false]
          exact fin_p (ek (kd_in.mpr (.inr (.inl k1))) x.out (by unfold labels; rw [if_neg k0, if_pos k1]) (.inl r1))
        simp only [f1, f4, hds, Cd.cd24, Tk.t24, base0, base1, base2, base3, Option.isNone_none, Option.isNone_some, Nat.reduceBEq, true_or, or_true, false_or, or_false, Nat.reduceLT, Nat.reduceMod, Nat.reducePow, rmaps, nsucc, List.flatten_cons, List.flatten_nil, Nat.reduceEqDiff, Nat.reduceLeDiff, Nat.reduceAdd, Nat.reduceMul, Nat.reduceSub, ↓reduceIte, reduceCtorEq, decide_true, decide_false]
        first | refine FCall.go (within36 _ _ _) (FZs.v3 _ _ _) ?_ | refine FCall.go' (within36 _ _ _) (FZs.v3 _ _ _) ?_ | refine FCall.goQ (within36 _ _ _) (FZs.v3 _ _ _) ?_
        cases r2 : within mi.to 0 (IntKind.i64.wrap (x.st - 1))
        · simp only [f1, f4, hds, Cd.cd24, Tk.t24, base0, base1, base2, base3, Option.isNone_none, Option.isNone_some, Nat.reduceBEq, true_or, or_true, false_or, or_false, Nat.reduceLT, Nat.reduceMod, Nat.reducePow, rmaps, nsucc, List.flatten_cons, List.flatten_nil, Nat.reduceEqDiff, Nat.reduceLeDiff, Nat.reduceAdd, Nat.reduceMul, Nat.reduceSub, ↓reduceIte, reduceCtorEq, decide_true, decide_false]
          exact fin_p (ek (kd_in.mpr (.inr (.inl k1))) x.out (by unfold labels; rw [if_neg k0, if_pos k1]) (.inr (.inl r2)))
        simp only [f1, f4, hds, Cd.cd24, Tk.t24, base0, base1, base2, base3, Option.isNone_none, Option.isNone_some, Nat.reduceBEq, true_or, or_true, false_or, or_false, Nat.reduceLT, Nat.reduceMod, Nat.reducePow, rmaps, nsucc, List.flatten_cons, List.flatten_nil, Nat.reduceEqDiff, Nat.reduceLeDiff, Nat.reduceAdd, Nat.reduceMul, Nat.reduceSub, ↓reduceIte, reduceCtorEq, decide_true, decide_false]
        first | refine FCall.go (within36 _ _ _) (FZs.v3 _ _ _) ?_ | refine FCall.go' (within36 _ _ _) (FZs.v3 _ _ _) ?_ | refine FCall.goQ (within36 _ _ _) (FZs.v3 _ _ _) ?_
        cases r3 : within mi.lb 0 (IntKind.i64.wrap (x.out - 1))
        · simp only [f1, f4, hds, Cd.cd24, Tk.t24, base0, base1, base2, base3, Option.isNone_none, Option.isNone_some, Nat.reduceBEq, true_or, or_true, false_or, or_false, Nat.reduceLT, Nat.reduceMod, Nat.reducePow, rmaps, nsucc, List.flatten_cons, List.flatten_nil, Nat.reduceEqDiff, Nat.reduceLeDiff, Nat.reduceAdd, Nat.reduceMul, Nat.reduceSub, ↓reduceIte, reduceCtorEq, decide_true, decide_false]
          exact fin_p (ek (kd_in.mpr (.inr (.inl k1))) x.out (by unfold labels; rw [if_neg k0, if_pos k1]) (.inr (.inr r3)))
        have hf := fin x.out (by unfold labels; rw [if_neg k0, if_pos k1]) (kd_in.mpr (.inr (.inl k1))) r1 r2 r3
        by_cases hi0 : 0 < i
        · have hl1 : i - 1 < x.mv.length := by omega
          have hw : IntKind.i64.wrap ((i : Int) - 1) = ((i - 1 : Nat) : Int) := by rw [wrapI (by omega) (by omega)]; omega
          have hg1 := getD_map mvR x.mv (i - 1) hl1
          simp only [List.length_map, show decide (((i : Nat) : Int) > 0) = true from decide_eq_true (by omega), hw, inR hl1, Int.toNat_natCast, hg1, mvR, f1, f4, hds, Cd.cd24, Tk.t24, base0, base1, base2, base3, Option.isNone_none, Option.isNone_some, Nat.reduceBEq, true_or, or_true, false_or, or_false, Nat.reduceLT, Nat.reduceMod, Nat.reducePow, rmaps, nsucc, List.flatten_cons, List.flatten_nil, Nat.reduceEqDiff, Nat.reduceLeDiff, Nat.reduceAdd, Nat.reduceMul, Nat.reduceSub, ↓reduceIte, reduceCtorEq, decide_true, decide_false]
          first | refine FCall.go (list69 (x.mv.getD (i - 1) default)) (FZs.one (FZ.mvV _)) ?_ | refine FCall.go' (list69 (x.mv.getD (i - 1) default)) (FZs.one (FZ.mvV _)) ?_ | refine FCall.goQ (list69 (x.mv.getD (i - 1) default)) (FZs.one (FZ.mvV _)) ?_
          simp only [f1, f4, hds, Cd.cd24, Tk.t24, base0, base1, base2, base3, Option.isNone_none, Option.isNone_some, Nat.reduceBEq, true_or, or_true, false_or, or_false, Nat.reduceLT, Nat.reduceMod, Nat.reducePow, rmaps, nsucc, List.flatten_cons, List.flatten_nil, Nat.reduceEqDiff, Nat.reduceLeDiff, Nat.reduceAdd, Nat.reduceMul, Nat.reduceSub, ↓reduceIte, reduceCtorEq, decide_true, decide_false]
          first | refine FCall.go (list69 mi) (FZs.one (FZ.mvV _)) ?_ | refine FCall.go' (list69 mi) (FZs.one (FZ.mvV _)) ?_ | refine FCall.goQ (list69 mi) (FZs.one (FZ.mvV _)) ?_
          simp only [f1, f4, hds, Cd.cd24, Tk.t24, base0, base1, base2, base3, Option.isNone_none, Option.isNone_some, Nat.reduceBEq, true_or, or_true, false_or, or_false, Nat.reduceLT, Nat.reduceMod, Nat.reducePow, rmaps, nsucc, List.flatten_cons, List.flatten_nil, Nat.reduceEqDiff, Nat.reduceLeDiff, Nat.reduceAdd, Nat.reduceMul, Nat.reduceSub, ↓reduceIte, reduceCtorEq, decide_true, decide_false]
          first | refine FCall.go (cmp68m (x.mv.getD (i - 1) default) mi) (FZs.two (FZ.ints _) (FZ.ints _)) ?_ | refine FCall.go' (cmp68m (x.mv.getD (i - 1) default) mi) (FZs.two (FZ.ints _) (FZ.ints _)) ?_ | refine FCall.goQ (cmp68m (x.mv.getD (i - 1) default) mi) (FZs.two (FZ.ints _) (FZ.ints _)) ?_
          by_cases hc : 0 ≤ cmpMv (x.mv.getD (i - 1) default) mi
          · simp only [show decide (cmpMv (x.mv.getD (i - 1) default) mi ≥ 0) = true from decide_eq_true hc, f1, f4, hds, Cd.cd24, Tk.t24, base0, base1, base2, base3, Option.isNone_none, Option.isNone_some, Nat.reduceBEq, true_or, or_true, false_or, or_false, Nat.reduceLT, Nat.reduceMod, Nat.reducePow, rmaps, nsucc, List.flatten_cons, List.flatten_nil, Nat.reduceEqDiff, Nat.reduceLeDiff, Nat.reduceAdd, Nat.reduceMul, Nat.reduceSub, ↓reduceIte, reduceCtorEq, decide_true, decide_false]
            exact fin_p (check_move hh h5 hlt hz (by rw [hf, decide_eq_true hi0, decide_eq_true hc]; rfl) (by omega))
          · simp only [show decide (cmpMv (x.mv.getD (i - 1) default) mi ≥ 0) = false from decide_eq_false hc, f1, f4, hds, Cd.cd24, Tk.t24, base0, base1, base2, base3, Option.isNone_none, Option.isNone_some, Nat.reduceBEq, true_or, or_true, false_or, or_false, Nat.reduceLT, Nat.reduceMod, Nat.reducePow, rmaps, nsucc, List.flatten_cons, List.flatten_nil, Nat.reduceEqDiff, Nat.reduceLeDiff, Nat.reduceAdd, Nat.reduceMul, Nat.reduceSub, ↓reduceIte, reduceCtorEq, decide_true, decide_false]
            refine ⟨_, by omega, i + 1, rfl, by omega, ?_⟩
            (repeat' apply And.intro) <;> first | rfl | (rw [wrapS (by omega)]) | omega | assumption | (exact allS hz (by rw [hf, decide_eq_false hc]; simp))
        · simp only [show decide (((i : Nat) : Int) > 0) = false from decide_eq_false (by omega), f1, f4, hds, Cd.cd24, Tk.t24, base0, base1, base2, base3, Option.isNone_none, Option.isNone_some, Nat.reduceBEq, true_or, or_true, false_or, or_false, Nat.reduceLT, Nat.reduceMod, Nat.reducePow, rmaps, nsucc, List.flatten_cons, List.flatten_nil, Nat.reduceEqDiff, Nat.reduceLeDiff, Nat.reduceAdd, Nat.reduceMul, Nat.reduceSub, ↓reduceIte, reduceCtorEq, decide_true, decide_false]
          refine ⟨_, by omega, i + 1, rfl, by omega, ?_⟩
          (repeat' apply And.intro) <;> first | rfl | (rw [wrapS (by omega)]) | omega | assumption | (exact allS hz (by rw [hf, decide_eq_false hi0]; simp))
      by_cases k2 : mi.kd = 2
      · simp only [ltT hlt, List.length_map, inR hlt, Int.toNat_natCast, hg, mvR, f1, f4, hds, Cd.cd24, Tk.t24, base0, base1, base2, base3, Option.isNone_none, Option.isNone_some, Nat.reduceBEq, true_or, or_true, false_or, or_false, Nat.reduceLT, Nat.reduceMod, Nat.reducePow, rmaps, nsucc, List.flatten_cons, List.flatten_nil, Nat.reduceEqDiff, Nat.reduceLeDiff, Nat.reduceAdd, Nat.reduceMul, Nat.reduceSub, ↓reduceIte, reduceCtorEq, decide_true, decide_false]
        first | refine FCall.go (within36 _ _ _) (FZs.v3 _ _ _) ?_ | refine FCall.go' (within36 _ _ _) (FZs.v3 _ _ _) ?_ | refine FCall.goQ (within36 _ _ _) (FZs.v3 _ _ _) ?_
        rw [(kd_in.mpr (.inr (.inr k2)))]
        simp only [show (mi.kd == 0) = false from beq_eq_false_iff_ne.mpr k0, show (mi.kd == 1) = false from beq_eq_false_iff_ne.mpr k1, f1, f4, hds, Cd.cd24, Tk.t24, base0, base1, base2, base3, Option.isNone_none, Option.isNone_some, Nat.reduceBEq, true_or, or_true, false_or, or_false, Nat.reduceLT, Nat.reduceMod, Nat.reducePow, rmaps, nsucc, List.flatten_cons, List.flatten_nil, Nat.reduceEqDiff, Nat.reduceLeDiff, Nat.reduceAdd, Nat.reduceMul, Nat.reduceSub, ↓reduceIte, reduceCtorEq, decide_true, decide_false]
        first | refine FCall.go (within36 _ _ _) (FZs.v3 _ _ _) ?_ | refine FCall.go' (within36 _ _ _) (FZs.v3 _ _ _) ?_ | refine FCall.goQ (within36 _ _ _) (FZs.v3 _ _ _) ?_
        cases r1 : within mi.fr 0 (IntKind.i64.wrap (x.st - 1))
        · simp only [f1, f4, hds, Cd.cd24, Tk.t24, base0, base1, base2, base3, Option.isNone_none, Option.isNone_some, Nat.reduceBEq, true_or, or_true, false_or, or_false, Nat.reduceLT, Nat.reduceMod, Nat.reducePow, rmaps, nsucc, List.flatten_cons, List.flatten_nil, Nat.reduceEqDiff, Nat.reduceLeDiff, Nat.reduceAdd, Nat.reduceMul, Nat.reduceSub, ↓reduceIte, reduceCtorEq, decide_true, decide_false]
          exact fin_p (ek (kd_in.mpr (.inr (.inr k2))) 1 (by unfold labels; rw [if_neg k0, if_neg k1]) (.inl r1))
        simp only [f1, f4, hds, Cd.cd24, Tk.t24, base0, base1, base2, base3, Option.isNone_none, Option.isNone_some, Nat.reduceBEq, true_or, or_true, false_or, or_false, Nat.reduceLT, Nat.reduceMod, Nat.reducePow, rmaps, nsucc, List.flatten_cons, List.flatten_nil, Nat.reduceEqDiff, Nat.reduceLeDiff, Nat.reduceAdd, Nat.reduceMul, Nat.reduceSub, ↓reduceIte, reduceCtorEq, decide_true, decide_false]
        first | refine FCall.go (within36 _ _ _) (FZs.v3 _ _ _) ?_ | refine FCall.go' (within36 _ _ _) (FZs.v3 _ _ _) ?_ | refine FCall.goQ (within36 _ _ _) (FZs.v3 _ _ _) ?_
        cases r2 : within mi.to 0 (IntKind.i64.wrap (x.st - 1))
        · simp only [f1, f4, hds, Cd.cd24, Tk.t24, base0, base1, base2, base3, Option.isNone_none, Option.isNone_some, Nat.reduceBEq, true_or, or_true, false_or, or_false, Nat.reduceLT, Nat.reduceMod, Nat.reducePow, rmaps, nsucc, List.flatten_cons, List.flatten_nil, Nat.reduceEqDiff, Nat.reduceLeDiff, Nat.reduceAdd, Nat.reduceMul, Nat.reduceSub, ↓reduceIte, reduceCtorEq, decide_true, decide_false]
          exact fin_p (ek (kd_in.mpr (.inr (.inr k2))) 1 (by unfold labels; rw [if_neg k0, if_neg k1]) (.inr (.inl r2)))
        simp only [f1, f4, hds, Cd.cd24, Tk.t24, base0, base1, base2, base3, Option.isNone_none, Option.isNone_some, Nat.reduceBEq, true_or, or_true, false_or, or_false, Nat.reduceLT, Nat.reduceMod, Nat.reducePow, rmaps, nsucc, List.flatten_cons, List.flatten_nil, Nat.reduceEqDiff, Nat.reduceLeDiff, Nat.reduceAdd, Nat.reduceMul, Nat.reduceSub, ↓reduceIte, reduceCtorEq, decide_true, decide_false]
        first | refine FCall.go (within36 _ _ _) (FZs.v3 _ _ _) ?_ | refine FCall.go' (within36 _ _ _) (FZs.v3 _ _ _) ?_ | refine FCall.goQ (within36 _ _ _) (FZs.v3 _ _ _) ?_
        cases r3 : within mi.lb 0 0
        · simp only [f1, f4, hds, Cd.cd24, Tk.t24, base0, base1, base2, base3, Option.isNone_none, Option.isNone_some, Nat.reduceBEq, true_or, or_true, false_or, or_false, Nat.reduceLT, Nat.reduceMod, Nat.reducePow, rmaps, nsucc, List.flatten_cons, List.flatten_nil, Nat.reduceEqDiff, Nat.reduceLeDiff, Nat.reduceAdd, Nat.reduceMul, Nat.reduceSub, ↓reduceIte, reduceCtorEq, decide_true, decide_false]
          exact fin_p (ek (kd_in.mpr (.inr (.inr k2))) 1 (by unfold labels; rw [if_neg k0, if_neg k1]) (.inr (.inr (show within mi.lb 0 (IntKind.i64.wrap (1 - 1)) = false from r3))))
        have hf := fin 1 (by unfold labels; rw [if_neg k0, if_neg k1]) (kd_in.mpr (.inr (.inr k2))) r1 r2 (show within mi.lb 0 (IntKind.i64.wrap (1 - 1)) = true from r3)
        by_cases hi0 : 0 < i
        · have hl1 : i - 1 < x.mv.length := by omega
          have hw : IntKind.i64.wrap ((i : Int) - 1) = ((i - 1 : Nat) : Int) := by rw [wrapI (by omega) (by omega)]; omega
          have hg1 := getD_map mvR x.mv (i - 1) hl1
          simp only [List.length_map, show decide (((i : Nat) : Int) > 0) = true from decide_eq_true (by omega), hw, inR hl1, Int.toNat_natCast, hg1, mvR, f1, f4, hds, Cd.cd24, Tk.t24, base0, base1, base2, base3, Option.isNone_none, Option.isNone_some, Nat.reduceBEq, true_or, or_true, false_or, or_false, Nat.reduceLT, Nat.reduceMod, Nat.reducePow, rmaps, nsucc, List.flatten_cons, List.flatten_nil, Nat.reduceEqDiff, Nat.reduceLeDiff, Nat.reduceAdd, Nat.reduceMul, Nat.reduceSub, ↓reduceIte, reduceCtorEq, decide_true, decide_false]
          first | refine FCall.go (list69 (x.mv.getD (i - 1) default)) (FZs.one (FZ.mvV _)) ?_ | refine FCall.go' (list69 (x.mv.getD (i - 1) default)) (FZs.one (FZ.mvV _)) ?_ | refine FCall.goQ (list69 (x.mv.getD (i - 1) default)) (FZs.one (FZ.mvV _)) ?_
          simp only [f1, f4, hds, Cd.cd24, Tk.t24, base0, base1, base2, base3, Option.isNone_none, Option.isNone_some, Nat.reduceBEq, true_or, or_true, false_or, or_false, Nat.reduceLT, Nat.reduceMod, Nat.reducePow, rmaps, nsucc, List.flatten_cons, List.flatten_nil, Nat.reduceEqDiff, Nat.reduceLeDiff, Nat.reduceAdd, Nat.reduceMul, Nat.reduceSub, ↓reduceIte, reduceCtorEq, decide_true, decide_false]
          first | refine FCall.go (list69 mi) (FZs.one (FZ.mvV _)) ?_ | refine FCall.go' (list69 mi) (FZs.one (FZ.mvV _)) ?_ | refine FCall.goQ (list69 mi) (FZs.one (FZ.mvV _)) ?_
          simp only [f1, f4, hds, Cd.cd24, Tk.t24, base0, base1, base2, base3, Option.isNone_none, Option.isNone_some, Nat.reduceBEq, true_or, or_true, false_or, or_false, Nat.reduceLT, Nat.reduceMod, Nat.reducePow, rmaps, nsucc, List.flatten_cons, List.flatten_nil, Nat.reduceEqDiff, Nat.reduceLeDiff, Nat.reduceAdd, Nat.reduceMul, Nat.reduceSub, ↓reduceIte, reduceCtorEq, decide_true, decide_false]
          first | refine FCall.go (cmp68m (x.mv.getD (i - 1) default) mi) (FZs.two (FZ.ints _) (FZ.ints _)) ?_ | refine FCall.go' (cmp68m (x.mv.getD (i - 1) default) mi) (FZs.two (FZ.ints _) (FZ.ints _)) ?_ | refine FCall.goQ (cmp68m (x.mv.getD (i - 1) default) mi) (FZs.two (FZ.ints _) (FZ.ints _)) ?_
          by_cases hc : 0 ≤ cmpMv (x.mv.getD (i - 1) default) mi
          · simp only [show decide (cmpMv (x.mv.getD (i - 1) default) mi ≥ 0) = true from decide_eq_true hc, f1, f4, hds, Cd.cd24, Tk.t24, base0, base1, base2, base3, Option.isNone_none, Option.isNone_some, Nat.reduceBEq, true_or, or_true, false_or, or_false, Nat.reduceLT, Nat.reduceMod, Nat.reducePow, rmaps, nsucc, List.flatten_cons, List.flatten_nil, Nat.reduceEqDiff, Nat.reduceLeDiff, Nat.reduceAdd, Nat.reduceMul, Nat.reduceSub, ↓reduceIte, reduceCtorEq, decide_true, decide_false]
            exact fin_p (check_move hh h5 hlt hz (by rw [hf, decide_eq_true hi0, decide_eq_true hc]; rfl) (by omega))
          · simp only [show decide (cmpMv (x.mv.getD (i - 1) default) mi ≥ 0) = false from decide_eq_false hc, f1, f4, hds, Cd.cd24, Tk.t24, base0, base1, base2, base3, Option.isNone_none, Option.isNone_some, Nat.reduceBEq, true_or, or_true, false_or, or_false, Nat.reduceLT, Nat.reduceMod, Nat.reducePow, rmaps, nsucc, List.flatten_cons, List.flatten_nil, Nat.reduceEqDiff, Nat.reduceLeDiff, Nat.reduceAdd, Nat.reduceMul, Nat.reduceSub, ↓reduceIte, reduceCtorEq, decide_true, decide_false]
            refine ⟨_, by omega, i + 1, rfl, by omega, ?_⟩
            (repeat' apply And.intro) <;> first | rfl | (rw [wrapS (by omega)]) | omega | assumption | (exact allS hz (by rw [hf, decide_eq_false hc]; simp))
        · simp only [show decide (((i : Nat) : Int) > 0) = false from decide_eq_false (by omega), f1, f4, hds, Cd.cd24, Tk.t24, base0, base1, base2, base3, Option.isNone_none, Option.isNone_some, Nat.reduceBEq, true_or, or_true, false_or, or_false, Nat.reduceLT, Nat.reduceMod, Nat.reducePow, rmaps, nsucc, List.flatten_cons, List.flatten_nil, Nat.reduceEqDiff, Nat.reduceLeDiff, Nat.reduceAdd, Nat.reduceMul, Nat.reduceSub, ↓reduceIte, reduceCtorEq, decide_true, decide_false]
          refine ⟨_, by omega, i + 1, rfl, by omega, ?_⟩
          (repeat' apply And.intro) <;> first | rfl | (rw [wrapS (by omega)]) | omega | assumption | (exact allS hz (by rw [hf, decide_eq_false hi0]; simp))
      · simp only [ltT hlt, List.length_map, inR hlt, Int.toNat_natCast, hg, mvR, f1, f4, hds, Cd.cd24, Tk.t24, base0, base1, base2, base3, Option.isNone_none, Option.isNone_some, Nat.reduceBEq, true_or, or_true, false_or, or_false, Nat.reduceLT, Nat.reduceMod, Nat.reducePow, rmaps, nsucc, List.flatten_cons, List.flatten_nil, Nat.reduceEqDiff, Nat.reduceLeDiff, Nat.reduceAdd, Nat.reduceMul, Nat.reduceSub, ↓reduceIte, reduceCtorEq, decide_true, decide_false]
        first | refine FCall.go (within36 _ _ _) (FZs.v3 _ _ _) ?_ | refine FCall.go' (within36 _ _ _) (FZs.v3 _ _ _) ?_ | refine FCall.goQ (within36 _ _ _) (FZs.v3 _ _ _) ?_
        rw [kd_out k0 k1 k2]
        simp only [f1, f4, hds, Cd.cd24, Tk.t24, base0, base1, base2, base3, Option.isNone_none, Option.isNone_some, Nat.reduceBEq, true_or, or_true, false_or, or_false, Nat.reduceLT, Nat.reduceMod, Nat.reducePow, rmaps, nsucc, List.flatten_cons, List.flatten_nil, Nat.reduceEqDiff, Nat.reduceLeDiff, Nat.reduceAdd, Nat.reduceMul, Nat.reduceSub, ↓reduceIte, reduceCtorEq, decide_true, decide_false]
        exact fin_p (check_move hh h5 hlt hz (mvErr_kind (by rw [hm]; exact kd_out k0 k1 k2)) (by omega))
    · have hi' : i = x.mv.length := by omega
      simp only [List.length_map, ltF hlt, f1, f4, hds, Cd.cd24, Tk.t24, base0, base1, base2, base3, Option.isNone_none, Option.isNone_some, Nat.reduceBEq, true_or, or_true, false_or, or_false, Nat.reduceLT, Nat.reduceMod, Nat.reducePow, rmaps, nsucc, List.flatten_cons, List.flatten_nil, Nat.reduceEqDiff, Nat.reduceLeDiff, Nat.reduceAdd, Nat.reduceMul, Nat.reduceSub, ↓reduceIte, reduceCtorEq, decide_true, decide_false]
      exact fin_p (check_ok hh h5 (by rw [← hi']; exact hz))
theorem err27 (x : Re) : FCall Tryd.prog 27 [reV x] (· = .v (.int .i64 (errR x))) := by
  simp only [reV, reL, mvsV]
  refine ACall.enter [] Cd.fn27 (by simp) ?_
  simp only [Cd.cd27, Tk.t27, base0, base1, base2, base3, Option.isNone_none, Option.isNone_some, Nat.reduceBEq, true_or, or_true, false_or, or_false, Nat.reduceLT, Nat.reduceMod, Nat.reducePow, rmaps, nsucc, List.flatten_cons, List.flatten_nil, Nat.reduceEqDiff, Nat.reduceLeDiff, Nat.reduceAdd, Nat.reduceMul, Nat.reduceSub, ↓reduceIte, reduceCtorEq, decide_true, decide_false]
  refine (react24 x).go (FZs.one (FZ.reV x)) ?_
  simp only [Cd.cd27, Tk.t27, base0, base1, base2, base3, Option.isNone_none, Option.isNone_some, Nat.reduceBEq, true_or, or_true, false_or, or_false, Nat.reduceLT, Nat.reduceMod, Nat.reducePow, rmaps, nsucc, List.flatten_cons, List.flatten_nil, Nat.reduceEqDiff, Nat.reduceLeDiff, Nat.reduceAdd, Nat.reduceMul, Nat.reduceSub, ↓reduceIte, reduceCtorEq, decide_true, decide_false]
  exact fin_v rfl
end Go.Proofs.YtchpcjmgifnmdaaDoor

/- Walks: what a system does with sets of states. -/
namespace Go.Proofs.YtchpcjmgifnmdaaDoor
open Go Go.Proofs.YtchpcjmgifnmdaaDoor.Ab
set_option maxRecDepth 100000
set_option linter.unusedSimpArgs false

/-- a system by states, as the program keeps it -/
def rowU (k : Nat) (f : Nat → Nat) : AV := .lst 1 ((List.range k).map fun e => [uv (f e)]) .unk
def byV (x : Re) : AV := .lst 1 ((List.range (nst x)).map fun a => [rowU (silc x) (byM x a)]) .unk
def silV (x : Re) : AV := rowU (nst x) (silM x)
def sysL (x : Re) : List AV := reL x ++ [byV x, silV x]
def sysV (x : Re) : AV := .box (sysL x)
theorem FZ.rowU (k : Nat) (f : Nat → Nat) : FZ (rowU k f) := FZ.lst rfl fun r hr => by
  obtain ⟨x, _, rfl⟩ := List.mem_map.mp hr
  exact FZs.v1 _
theorem FZ.byV (x : Re) : FZ (byV x) := FZ.lst rfl fun r hr => by
  obtain ⟨a, _, rfl⟩ := List.mem_map.mp hr
  exact FZs.one (FZ.rowU _ _)
theorem FZs.append {a b : List AV} (h : FZs a) (h' : FZs b) : FZs (a ++ b) := fun c hc => by
  rcases List.mem_append.mp hc with hc | hc
  · exact h c hc
  · exact h' c hc
theorem FZ.sysV (x : Re) : FZ (sysV x) := FZ.box (FZs.append (FZs.reL x) (FZs.two (FZ.byV x) (FZ.rowU _ _)))
theorem getD_range {β : Type} (f : Nat → List β) (k : Nat) (i : Nat) (h : i < k) : ((List.range k).map f).getD i [] = f i := by
  rw [List.getD_eq_getElem?_getD, List.getElem?_map, List.getElem?_range h]; rfl
theorem sys_eq (x : Re) : sysL x = [.v (.int .i64 x.st), .v (.int .i64 x.s0), .v (.int .i64 x.inp), .v (.int .i64 x.out), .lst 4 (x.mv.map mvR) .unk, .lst 1 ((List.range (nst x)).map fun a => [rowU (silc x) (byM x a)]) .unk, .lst 1 ((List.range (nst x)).map fun e => [uv (silM x e)]) .unk] := rfl
theorem silc_eq {x : Re} (hx : Ok x) : IntKind.i64.wrap (x.inp + x.out) = ((silc x : Nat) : Int) := by
  have := hx.inp; have := hx.out
  rw [wrapI (by omega) (by omega)]; unfold silc; omega
theorem silence73 (x : Re) (hx : Ok x) : FCall Tryd.prog 73 [sysV x] (· = .v (.int .i64 (silc x : Nat))) := by
  simp only [sysV, sys_eq]
  refine ACall.enter [] Cd.fn73 (by simp) ?_
  simp only [silc_eq hx, Cd.cd73, Tk.t73, base0, base1, base2, base3, Option.isNone_none, Option.isNone_some, Nat.reduceBEq, true_or, or_true, false_or, or_false, Nat.reduceLT, Nat.reduceMod, Nat.reducePow, rmaps, nsucc, List.flatten_cons, List.flatten_nil, Nat.reduceEqDiff, Nat.reduceLeDiff, Nat.reduceAdd, Nat.reduceMul, Nat.reduceSub, ↓reduceIte, reduceCtorEq, decide_true, decide_false]
  exact fin_v rfl
theorem foldl_succ {α β : Type} [Inhabited α] (f : β → α → β) (z : β) {l : List α} {i : Nat} (h : i < l.length) : (l.take (i + 1)).foldl f z = f ((l.take i).foldl f z) (l.getD i default) := by
  have : l.take (i + 1) = l.take i ++ [l.getD i default] := by
    rw [List.take_add_one, List.getElem?_eq_getElem h, List.getD_eq_getElem?_getD, List.getElem?_eq_getElem h]; rfl
  rw [this, List.foldl_append]; rfl
def stepP (x : Re) (l i : Nat) : Nat := ((bitsN l).take i).foldl (fun acc a => if true then acc ||| silM x a else acc) l
theorem stepP_lt {x : Re} (hx : Ok x) {l : Nat} (h : l < 2 ^ nst x) (i : Nat) : stepP x l i < 2 ^ nst x := foldor_lt (fun _ => true) _ _ _ h fun a _ _ => silM_lt hx a
theorem stepP_succ (x : Re) (l : Nat) {i : Nat} (h : i < (bitsN l).length) : stepP x l (i + 1) = stepP x l i ||| silM x ((bitsN l).getD i 0) := by
  unfold stepP; rw [foldl_succ _ _ h]; rfl
theorem getD_bits {l i : Nat} (h : i < (bitsN l).length) : ((bitsI l).map fun x => [AV.v (.int .i64 x)]).getD i [] = [.v (.int .i64 (((bitsN l).getD i 0 : Nat) : Int))] := by
  rw [getD_ints _ _ (by unfold bitsI; simpa using h)]
  unfold bitsI
  simp [List.getD_eq_getElem?_getD, List.getElem?_map, List.getElem?_eq_getElem h]
theorem bits_at {l i : Nat} (h : i < (bitsN l).length) : (bitsN l).getD i 0 ∈ bitsN l := by
  rw [List.getD_eq_getElem?_getD, List.getElem?_eq_getElem h]; exact List.getElem_mem h
theorem bitsI_len (l : Nat) : (bitsI l).length = (bitsN l).length := by unfold bitsI; simp
theorem bitsN_len (l : Nat) : (bitsN l).length ≤ 10 := by rw [← bitsI_len]; exact setL_len l
theorem eqU {a b : Nat} : ((a : Int) == (b : Int)) = decide (a = b) := by
  by_cases h : a = b
  · subst h; simp
  · simp [h]; omega
set_option maxHeartbeats 1000000 in
theorem closed75 (x : Re) (hx : Ok x) (l : Nat) (hl : l < 2 ^ nst x) : FCall Tryd.prog 75 [sysV x, uv l] (· = uv (cl x l)) := by
  simp only [sysV, sys_eq, uv]
  refine ACall.enter [1] Cd.fn75 (by simp) ?_
  simp only [Cd.cd75, Tk.t75, base0, base1, base2, base3, Option.isNone_none, Option.isNone_some, Nat.reduceBEq, true_or, or_true, false_or, or_false, Nat.reduceLT, Nat.reduceMod, Nat.reducePow, rmaps, nsucc, List.flatten_cons, List.flatten_nil, Nat.reduceEqDiff, Nat.reduceLeDiff, Nat.reduceAdd, Nat.reduceMul, Nat.reduceSub, ↓reduceIte, reduceCtorEq, decide_true, decide_false]
  refine LWP.loop [] (fun m f H' => ∃ c k, m = 1024 - c + 0 ∧ (c < 2 ^ nst x) ∧ (clF x k c = cl x l) ∧ (1024 - c ≤ k) ∧ f.t 0 = .box [.v (.int .i64 x.st), .v (.int .i64 x.s0), .v (.int .i64 x.inp), .v (.int .i64 x.out), .lst 4 (x.mv.map mvR) .unk, .lst 1 ((List.range (nst x)).map fun a => [rowU (silc x) (byM x a)]) .unk, .lst 1 ((List.range (nst x)).map fun e => [.v (.int .u64 (silM x e : Nat))]) .unk] ∧ f.t 1 = .v (.int .u64 (c : Nat)) ∧ f.ds = [] ∧ True) ?_ ?_ (m := 1024 - (l) + 0)
  · exact ⟨l, 1024, rfl, (hl), (rfl), (by omega), rfl, rfl, rfl, trivial⟩
  · rintro m f H' ⟨c, k, rfl, hc, hk, hk2, f0, f1, hds, hH⟩
    have hc' := hx.pw hc
    simp only [f0, f1, hds, Cd.cd75, Tk.t75, base0, base1, base2, base3, Option.isNone_none, Option.isNone_some, Nat.reduceBEq, true_or, or_true, false_or, or_false, Nat.reduceLT, Nat.reduceMod, Nat.reducePow, rmaps, nsucc, List.flatten_cons, List.flatten_nil, Nat.reduceEqDiff, Nat.reduceLeDiff, Nat.reduceAdd, Nat.reduceMul, Nat.reduceSub, ↓reduceIte, reduceCtorEq, decide_true, decide_false]
    refine (states62 c hc').go (FZs.v1 _) ?_
    simp only [setV, ints, List.length_map, bitsI_len, f0, f1, hds, Cd.cd75, Tk.t75, base0, base1, base2, base3, Option.isNone_none, Option.isNone_some, Nat.reduceBEq, true_or, or_true, false_or, or_false, Nat.reduceLT, Nat.reduceMod, Nat.reducePow, rmaps, nsucc, List.flatten_cons, List.flatten_nil, Nat.reduceEqDiff, Nat.reduceLeDiff, Nat.reduceAdd, Nat.reduceMul, Nat.reduceSub, ↓reduceIte, reduceCtorEq, decide_true, decide_false]
    refine LWP.loop [] (fun m f H' => ∃ i, m = (bitsN c).length - i ∧ (i ≤ (bitsN c).length) ∧ f.t 0 = .box [.v (.int .i64 x.st), .v (.int .i64 x.s0), .v (.int .i64 x.inp), .v (.int .i64 x.out), .lst 4 (x.mv.map mvR) .unk, .lst 1 ((List.range (nst x)).map fun a => [rowU (silc x) (byM x a)]) .unk, .lst 1 ((List.range (nst x)).map fun e => [.v (.int .u64 (silM x e : Nat))]) .unk] ∧ f.t 1 = .v (.int .u64 (c : Nat)) ∧ f.t 5 = .v (.int .u64 (stepP x c i : Nat)) ∧ f.t 10 = .lst 1 ((bitsI c).map fun x => [.v (.int .i64 x)]) .unk ∧ f.t 11 = .v (.int .i64 ((bitsN c).length : Nat)) ∧ f.t 12 = .v (.int .i64 (i : Nat)) ∧ f.ds = [] ∧ True) ?_ ?_ (m := (bitsN c).length - (0))
    · exact ⟨0, rfl, (by omega), f0, f1, by rfl, (by first | rfl | exact f10), (by first | rfl | exact f11), (by first | rfl | exact f12), rfl, trivial⟩
    · rintro m f H' ⟨i, rfl, hi, f0, f1, f5, f10, f11, f12, hds, hH2⟩
      have hbl := bitsN_len c
      by_cases hlt : i < (bitsN c).length
      · have ha := bits_n hx hc (bitsN_bit (bits_at hlt))
        have hs1 := hx.pw (stepP_lt hx hc i)
        have hs2 := hx.pw (silM_lt hx ((bitsN c).getD i 0))
        simp only [ltT hlt, List.length_map, bitsI_len, inR hlt, Int.toNat_natCast, getD_bits hlt, List.length_range, inR ha, getD_range _ _ _ ha, orU hs1 hs2, f0, f1, f5, f10, f11, f12, hds, Cd.cd75, Tk.t75, base0, base1, base2, base3, Option.isNone_none, Option.isNone_some, Nat.reduceBEq, true_or, or_true, false_or, or_false, Nat.reduceLT, Nat.reduceMod, Nat.reducePow, rmaps, nsucc, List.flatten_cons, List.flatten_nil, Nat.reduceEqDiff, Nat.reduceLeDiff, Nat.reduceAdd, Nat.reduceMul, Nat.reduceSub, ↓reduceIte, reduceCtorEq, decide_true, decide_false]
        refine ⟨_, by omega, i + 1, rfl, by omega, ?_⟩
        (repeat' apply And.intro) <;> first | rfl | (rw [wrapS (by omega)]) | omega | assumption | (rw [stepP_succ x c hlt])
      · have hi' : i = (bitsN c).length := by omega
        have hst : stepP x c i = stepM x c := by subst hi'; unfold stepP stepM; rw [List.take_length]
        by_cases he : stepM x c = c
        · simp only [ltF hlt, hst, eqU, decide_eq_true he, f0, f1, f5, f10, f11, f12, hds, Cd.cd75, Tk.t75, base0, base1, base2, base3, Option.isNone_none, Option.isNone_some, Nat.reduceBEq, true_or, or_true, false_or, or_false, Nat.reduceLT, Nat.reduceMod, Nat.reducePow, rmaps, nsucc, List.flatten_cons, List.flatten_nil, Nat.reduceEqDiff, Nat.reduceLeDiff, Nat.reduceAdd, Nat.reduceMul, Nat.reduceSub, ↓reduceIte, reduceCtorEq, decide_true, decide_false]
          have e : cl x l = c := by rw [← hk]; exact clF_of_fix he
          exact fin_v (by rw [e])
        · simp only [ltF hlt, hst, eqU, decide_eq_false he, f0, f1, f5, f10, f11, f12, hds, Cd.cd75, Tk.t75, base0, base1, base2, base3, Option.isNone_none, Option.isNone_some, Nat.reduceBEq, true_or, or_true, false_or, or_false, Nat.reduceLT, Nat.reduceMod, Nat.reducePow, rmaps, nsucc, List.flatten_cons, List.flatten_nil, Nat.reduceEqDiff, Nat.reduceLeDiff, Nat.reduceAdd, Nat.reduceMul, Nat.reduceSub, ↓reduceIte, reduceCtorEq, decide_true, decide_false]
          have h1 := stepM_ge (x := x) c
          have h2 := hx.pw (stepM_lt hx hc)
          cases k with
          | zero => omega
          | succ k =>
            have hk3 : clF x k (stepM x c) = cl x l := by rw [← hk, clF, if_neg he]
            exact ⟨_, by omega, stepM x c, k, rfl, stepM_lt hx hc, hk3, by omega, rfl⟩
end Go.Proofs.YtchpcjmgifnmdaaDoor

/- Walks: what a system does after events. -/
namespace Go.Proofs.YtchpcjmgifnmdaaDoor
open Go Go.Proofs.YtchpcjmgifnmdaaDoor.Ab
set_option maxRecDepth 100000
set_option linter.unusedSimpArgs false

def boxV (x : Re) : AV := .box [.v (.int .i64 x.st), .v (.int .i64 x.s0), .v (.int .i64 x.inp), .v (.int .i64 x.out), .lst 4 (x.mv.map mvR) .unk, .lst 1 ((List.range (nst x)).map fun a => [.lst 1 ((List.range (silc x)).map fun e => [.v (.int .u64 (byM x a e : Nat))]) .unk]) .unk, .lst 1 ((List.range (nst x)).map fun e => [.v (.int .u64 (silM x e : Nat))]) .unk]
theorem box_eq (x : Re) : sysV x = boxV x := rfl
theorem neU {a b : Nat} : ((a : Int) != (b : Int)) = decide (a ≠ b) := by
  by_cases h : a = b
  · subst h; simp
  · simp [h]; omega
theorem neU0 {a : Nat} : ((a : Int) != 0) = decide (a ≠ 0) := neU (b := 0)
theorem eqU0 {a : Nat} : ((a : Int) == 0) = decide (a = 0) := eqU (b := 0)
theorem quiet108 (x : Re) (hx : Ok x) (a : Nat) (ha : a < nst x) : FCall Tryd.prog 108 [sysV x, .v (.int .i64 (a : Nat))] (· = .v (.bool (quietM x a))) := by
  have hinp := hx.inp
  have hout := hx.out
  simp only [box_eq, boxV]
  refine ACall.enter [] Cd.fn108 (by simp) ?_
  simp only [Cd.cd108, Tk.t108, base0, base1, base2, base3, Option.isNone_none, Option.isNone_some, Nat.reduceBEq, true_or, or_true, false_or, or_false, Nat.reduceLT, Nat.reduceMod, Nat.reducePow, rmaps, nsucc, List.flatten_cons, List.flatten_nil, Nat.reduceEqDiff, Nat.reduceLeDiff, Nat.reduceAdd, Nat.reduceMul, Nat.reduceSub, ↓reduceIte, reduceCtorEq, decide_true, decide_false]
  refine LWP.loop [] (fun m f H' => ∃ i, m = x.out.toNat - i ∧ (i ≤ x.out.toNat) ∧ (∀ j, j < i → (byM x a (x.inp.toNat + j) == 0) = true) ∧ f.t 0 = boxV x ∧ f.t 1 = .v (.int .i64 (a : Nat)) ∧ f.t 10 = .v (.int .i64 x.out) ∧ f.t 11 = .v (.int .i64 (i : Nat)) ∧ f.ds = [] ∧ H' = AH.none) ?_ ?_ (m := x.out.toNat - (0))
  · exact ⟨0, rfl, (by omega), (fun j hj => by omega), rfl, rfl, rfl, rfl, rfl, rfl⟩
  · rintro m f H' ⟨i, rfl, hi, hz, f0, f1, f10, f11, hds, rfl⟩
    by_cases hlt : i < x.out.toNat
    · have hw : IntKind.i64.wrap (x.inp + (i : Int)) = ((x.inp.toNat + i : Nat) : Int) := by rw [wrapI (by omega) (by omega)]; omega
      have hs : x.inp.toNat + i < silc x := by unfold silc; omega
      by_cases hz0 : byM x a (x.inp.toNat + i) = 0
      · simp only [boxV, show decide ((i : Int) < x.out) = true from decide_eq_true (by omega), hw, List.length_map, List.length_range, inR ha, inR hs, Int.toNat_natCast, getD_range _ _ _ ha, getD_range _ _ _ hs, neU0, show decide (byM x a (x.inp.toNat + i) ≠ 0) = false from decide_eq_false (by simpa using hz0), f0, f1, f10, f11, hds, Cd.cd108, Tk.t108, base0, base1, base2, base3, Option.isNone_none, Option.isNone_some, Nat.reduceBEq, true_or, or_true, false_or, or_false, Nat.reduceLT, Nat.reduceMod, Nat.reducePow, rmaps, nsucc, List.flatten_cons, List.flatten_nil, Nat.reduceEqDiff, Nat.reduceLeDiff, Nat.reduceAdd, Nat.reduceMul, Nat.reduceSub, ↓reduceIte, reduceCtorEq, decide_true, decide_false]
        refine ⟨_, by omega, i + 1, rfl, by omega, ?_⟩
        (repeat' apply And.intro) <;> first | rfl | (rw [wrapS (by omega)]) | omega | assumption | (exact allS hz (by simpa using hz0))
      · simp only [boxV, show decide ((i : Int) < x.out) = true from decide_eq_true (by omega), hw, List.length_map, List.length_range, inR ha, inR hs, Int.toNat_natCast, getD_range _ _ _ ha, getD_range _ _ _ hs, neU0, show decide (byM x a (x.inp.toNat + i) ≠ 0) = true from decide_eq_true hz0, f0, f1, f10, f11, hds, Cd.cd108, Tk.t108, base0, base1, base2, base3, Option.isNone_none, Option.isNone_some, Nat.reduceBEq, true_or, or_true, false_or, or_false, Nat.reduceLT, Nat.reduceMod, Nat.reducePow, rmaps, nsucc, List.flatten_cons, List.flatten_nil, Nat.reduceEqDiff, Nat.reduceLeDiff, Nat.reduceAdd, Nat.reduceMul, Nat.reduceSub, ↓reduceIte, reduceCtorEq, decide_true, decide_false]
        exact fin_v (by rw [quietM, List.all_eq_false.mpr ⟨i, List.mem_range.mpr hlt, by simpa using hz0⟩]; rfl)
    · have hi' : i = x.out.toNat := by omega
      simp only [boxV, show decide ((i : Int) < x.out) = false from decide_eq_false (by omega), List.length_map, List.length_range, inR ha, Int.toNat_natCast, getD_range _ _ _ ha, eqU0, f0, f1, f10, f11, hds, Cd.cd108, Tk.t108, base0, base1, base2, base3, Option.isNone_none, Option.isNone_some, Nat.reduceBEq, true_or, or_true, false_or, or_false, Nat.reduceLT, Nat.reduceMod, Nat.reducePow, rmaps, nsucc, List.flatten_cons, List.flatten_nil, Nat.reduceEqDiff, Nat.reduceLeDiff, Nat.reduceAdd, Nat.reduceMul, Nat.reduceSub, ↓reduceIte, reduceCtorEq, decide_true, decide_false]
      refine fin_v ?_
      rw [quietM, List.all_eq_true.mpr fun j hj => hz j (by have := List.mem_range.mp hj; omega)]
      by_cases h : silM x a = 0 <;> simp [h]
def rawP (x : Re) (l e i : Nat) : Nat := ((bitsN l).take i).foldl (fun acc a => if decide (e < silc x) || quietM x a then acc ||| (if e < silc x then byM x a e else 2 ^ a) else acc) 0
theorem rawP_lt {x : Re} (hx : Ok x) {l : Nat} (hl : l < 2 ^ nst x) (e i : Nat) : rawP x l e i < 2 ^ nst x := by
  unfold rawP
  refine foldor_lt _ _ _ _ (Nat.pow_pos (by omega)) fun a ha _ => ?_
  split
  · exact byM_lt hx a e
  · exact Nat.pow_lt_pow_right (by omega) (bits_n hx hl (bitsN_bit (List.mem_of_mem_take ha)))
theorem rawP_succ (x : Re) (l e : Nat) {i : Nat} (h : i < (bitsN l).length) : rawP x l e (i + 1) = if decide (e < silc x) || quietM x ((bitsN l).getD i 0) then rawP x l e i ||| (if e < silc x then byM x ((bitsN l).getD i 0) e else 2 ^ ((bitsN l).getD i 0)) else rawP x l e i := by
  unfold rawP; rw [foldl_succ _ _ h]; rfl
theorem ltD {a b : Nat} : decide ((a : Int) < (b : Int)) = decide (a < b) := by simp
set_option maxHeartbeats 1000000 in
theorem after74 (x : Re) (hx : Ok x) (l e : Nat) (hl : l < 2 ^ nst x) : FCall Tryd.prog 74 [sysV x, uv l, .v (.int .i64 (e : Nat))] (· = uv (aft x l e)) := by
  have hl' := hx.pw hl
  simp only [uv]
  refine ACall.enter [] Cd.fn74 (by simp) ?_
  simp only [Cd.cd74, Tk.t74, base0, base1, base2, base3, Option.isNone_none, Option.isNone_some, Nat.reduceBEq, true_or, or_true, false_or, or_false, Nat.reduceLT, Nat.reduceMod, Nat.reducePow, rmaps, nsucc, List.flatten_cons, List.flatten_nil, Nat.reduceEqDiff, Nat.reduceLeDiff, Nat.reduceAdd, Nat.reduceMul, Nat.reduceSub, ↓reduceIte, reduceCtorEq, decide_true, decide_false]
  refine (states62 l hl').go (FZs.v1 _) ?_
  simp only [setV, ints, List.length_map, bitsI_len, Cd.cd74, Tk.t74, base0, base1, base2, base3, Option.isNone_none, Option.isNone_some, Nat.reduceBEq, true_or, or_true, false_or, or_false, Nat.reduceLT, Nat.reduceMod, Nat.reducePow, rmaps, nsucc, List.flatten_cons, List.flatten_nil, Nat.reduceEqDiff, Nat.reduceLeDiff, Nat.reduceAdd, Nat.reduceMul, Nat.reduceSub, ↓reduceIte, reduceCtorEq, decide_true, decide_false]
  refine LWP.loop [] (fun m f H' => ∃ i, m = (bitsN l).length - i ∧ (i ≤ (bitsN l).length) ∧ f.t 0 = sysV x ∧ f.t 2 = .v (.int .i64 (e : Nat)) ∧ f.t 7 = .v (.int .u64 (rawP x l e i : Nat)) ∧ f.t 11 = .lst 1 ((bitsI l).map fun x => [.v (.int .i64 x)]) .unk ∧ f.t 12 = .v (.int .i64 ((bitsN l).length : Nat)) ∧ f.t 13 = .v (.int .i64 (i : Nat)) ∧ f.ds = [] ∧ H' = AH.none) ?_ ?_ (m := (bitsN l).length - (0))
  · exact ⟨0, rfl, (by omega), rfl, rfl, by rfl, rfl, rfl, rfl, rfl, rfl⟩
  · rintro m f H' ⟨i, rfl, hi, f0, f2, f7, f11, f12, f13, hds, rfl⟩
    have hbl := bitsN_len l
    by_cases hlt : i < (bitsN l).length
    · have ha := bits_n hx hl (bitsN_bit (bits_at hlt))
      have ha10 := bitsN_lt (bits_at hlt)
      have hs1 := hx.pw (rawP_lt hx hl e i)
      have hs2 := hx.pw (byM_lt hx ((bitsN l).getD i 0) e)
      have hsu := rawP_succ x l e hlt
      simp only [ltT hlt, List.length_map, bitsI_len, inR hlt, Int.toNat_natCast, getD_bits hlt, f0, f2, f7, f11, f12, f13, hds, Cd.cd74, Tk.t74, base0, base1, base2, base3, Option.isNone_none, Option.isNone_some, Nat.reduceBEq, true_or, or_true, false_or, or_false, Nat.reduceLT, Nat.reduceMod, Nat.reducePow, rmaps, nsucc, List.flatten_cons, List.flatten_nil, Nat.reduceEqDiff, Nat.reduceLeDiff, Nat.reduceAdd, Nat.reduceMul, Nat.reduceSub, ↓reduceIte, reduceCtorEq, decide_true, decide_false]
      refine (silence73 x hx).go (FZs.one (FZ.sysV x)) ?_
      by_cases he : e < silc x
      · rw [decide_eq_true he, if_pos he] at hsu
        simp only [ltD, decide_eq_true he, box_eq, boxV, List.length_map, List.length_range, inR ha, inR he, Int.toNat_natCast, getD_range _ _ _ ha, getD_range _ _ _ he, orU hs1 hs2, f0, f2, f7, f11, f12, f13, hds, Cd.cd74, Tk.t74, base0, base1, base2, base3, Option.isNone_none, Option.isNone_some, Nat.reduceBEq, true_or, or_true, false_or, or_false, Nat.reduceLT, Nat.reduceMod, Nat.reducePow, rmaps, nsucc, List.flatten_cons, List.flatten_nil, Nat.reduceEqDiff, Nat.reduceLeDiff, Nat.reduceAdd, Nat.reduceMul, Nat.reduceSub, ↓reduceIte, reduceCtorEq, decide_true, decide_false]
        refine ⟨_, by omega, i + 1, rfl, by omega, ?_⟩
        (repeat' apply And.intro) <;> first | rfl | (rw [wrapS (by omega)]) | omega | assumption | ((rw [hsu]; rfl))
      · rw [decide_eq_false he, if_neg he] at hsu
        simp only [ltD, decide_eq_false he, f0, f2, f7, f11, f12, f13, hds, Cd.cd74, Tk.t74, base0, base1, base2, base3, Option.isNone_none, Option.isNone_some, Nat.reduceBEq, true_or, or_true, false_or, or_false, Nat.reduceLT, Nat.reduceMod, Nat.reducePow, rmaps, nsucc, List.flatten_cons, List.flatten_nil, Nat.reduceEqDiff, Nat.reduceLeDiff, Nat.reduceAdd, Nat.reduceMul, Nat.reduceSub, ↓reduceIte, reduceCtorEq, decide_true, decide_false]
        refine (quiet108 x hx _ ha).go (FZs.two (FZ.sysV x) (FZ.v _)) ?_
        cases hq : quietM x ((bitsN l).getD i 0)
        · rw [hq] at hsu
          simp only [f0, f2, f7, f11, f12, f13, hds, Cd.cd74, Tk.t74, base0, base1, base2, base3, Option.isNone_none, Option.isNone_some, Nat.reduceBEq, true_or, or_true, false_or, or_false, Nat.reduceLT, Nat.reduceMod, Nat.reducePow, rmaps, nsucc, List.flatten_cons, List.flatten_nil, Nat.reduceEqDiff, Nat.reduceLeDiff, Nat.reduceAdd, Nat.reduceMul, Nat.reduceSub, ↓reduceIte, reduceCtorEq, decide_true, decide_false]
          refine ⟨_, by omega, i + 1, rfl, by omega, ?_⟩
          (repeat' apply And.intro) <;> first | rfl | (rw [wrapS (by omega)]) | omega | assumption | ((rw [hsu]; rfl))
        · rw [hq] at hsu
          have h2 : 2 ^ ((bitsN l).getD i 0) < 1024 := (Nat.pow_lt_pow_right (by omega : 1 < 2) ha10 : 2 ^ _ < 2 ^ 10)
          simp only [show ((((bitsN l).getD i 0 : Nat) : Int) < 0) = False from by simp, shlU ha10, orU hs1 h2, f0, f2, f7, f11, f12, f13, hds, Cd.cd74, Tk.t74, base0, base1, base2, base3, Option.isNone_none, Option.isNone_some, Nat.reduceBEq, true_or, or_true, false_or, or_false, Nat.reduceLT, Nat.reduceMod, Nat.reducePow, rmaps, nsucc, List.flatten_cons, List.flatten_nil, Nat.reduceEqDiff, Nat.reduceLeDiff, Nat.reduceAdd, Nat.reduceMul, Nat.reduceSub, ↓reduceIte, reduceCtorEq, decide_true, decide_false]
          refine ⟨_, by omega, i + 1, rfl, by omega, ?_⟩
          (repeat' apply And.intro) <;> first | rfl | (rw [wrapS (by omega)]) | omega | assumption | ((rw [hsu]; rfl))
    · have hi' : i = (bitsN l).length := by omega
      have hst : rawP x l e i = rawA x l e := by subst hi'; unfold rawP rawA; rw [List.take_length]
      simp only [ltF hlt, hst, f0, f2, f7, f11, f12, f13, hds, Cd.cd74, Tk.t74, base0, base1, base2, base3, Option.isNone_none, Option.isNone_some, Nat.reduceBEq, true_or, or_true, false_or, or_false, Nat.reduceLT, Nat.reduceMod, Nat.reducePow, rmaps, nsucc, List.flatten_cons, List.flatten_nil, Nat.reduceEqDiff, Nat.reduceLeDiff, Nat.reduceAdd, Nat.reduceMul, Nat.reduceSub, ↓reduceIte, reduceCtorEq, decide_true, decide_false]
      refine (closed75 x hx _ (rawA_lt hx hl e)).go (FZs.two (FZ.sysV x) (FZ.v _)) ?_
      simp only [f0, f2, f7, f11, f12, f13, hds, Cd.cd74, Tk.t74, base0, base1, base2, base3, Option.isNone_none, Option.isNone_some, Nat.reduceBEq, true_or, or_true, false_or, or_false, Nat.reduceLT, Nat.reduceMod, Nat.reducePow, rmaps, nsucc, List.flatten_cons, List.flatten_nil, Nat.reduceEqDiff, Nat.reduceLeDiff, Nat.reduceAdd, Nat.reduceMul, Nat.reduceSub, ↓reduceIte, reduceCtorEq, decide_true, decide_false]
      exact fin_v rfl
theorem first72 (x : Re) (hx : Ok x) : FCall Tryd.prog 72 [sysV x] (· = uv (fstM x)) := by
  have h0 := hx.s0
  have h1 := hx.st
  have e : (x.s0 : Int) = ((x.s0.toNat : Nat) : Int) := by omega
  have hp : 2 ^ x.s0.toNat < 2 ^ nst x := Nat.pow_lt_pow_right (by omega) (by unfold nst; omega)
  have hs : IntKind.u64.wrap (1 * 2 ^ (min x.s0.toNat IntKind.u64.bits)) = ((2 ^ x.s0.toNat : Nat) : Int) := by
    have := shlU (n := x.s0.toNat) (by omega)
    rwa [Int.toNat_natCast] at this
  refine ACall.enter [] Cd.fn72 (by simp) ?_
  simp only [box_eq, boxV, show (x.s0 < 0) = False from by simp; omega, hs, Cd.cd72, Tk.t72, base0, base1, base2, base3, Option.isNone_none, Option.isNone_some, Nat.reduceBEq, true_or, or_true, false_or, or_false, Nat.reduceLT, Nat.reduceMod, Nat.reducePow, rmaps, nsucc, List.flatten_cons, List.flatten_nil, Nat.reduceEqDiff, Nat.reduceLeDiff, Nat.reduceAdd, Nat.reduceMul, Nat.reduceSub, ↓reduceIte, reduceCtorEq, decide_true, decide_false]
  refine (closed75 x hx _ hp).go (FZs.two (FZ.sysV x) (FZ.v _)) ?_
  simp only [Cd.cd72, Tk.t72, base0, base1, base2, base3, Option.isNone_none, Option.isNone_some, Nat.reduceBEq, true_or, or_true, false_or, or_false, Nat.reduceLT, Nat.reduceMod, Nat.reducePow, rmaps, nsucc, List.flatten_cons, List.flatten_nil, Nat.reduceEqDiff, Nat.reduceLeDiff, Nat.reduceAdd, Nat.reduceMul, Nat.reduceSub, ↓reduceIte, reduceCtorEq, decide_true, decide_false]
  exact fin_v rfl
theorem shows80 (x : Re) (hx : Ok x) (l e : Nat) (hl : l < 2 ^ nst x) : FCall Tryd.prog 80 [sysV x, uv l, .v (.int .i64 (e : Nat))] (· = .v (.bool (shw x l e))) := by
  have hinp := hx.inp
  simp only [uv]
  refine ACall.enter [] Cd.fn80 (by simp) ?_
  by_cases h : x.inp.toNat ≤ e
  · simp only [box_eq, boxV, show decide (((e : Nat) : Int) ≥ x.inp) = true from decide_eq_true (by omega), Cd.cd80, Tk.t80, base0, base1, base2, base3, Option.isNone_none, Option.isNone_some, Nat.reduceBEq, true_or, or_true, false_or, or_false, Nat.reduceLT, Nat.reduceMod, Nat.reducePow, rmaps, nsucc, List.flatten_cons, List.flatten_nil, Nat.reduceEqDiff, Nat.reduceLeDiff, Nat.reduceAdd, Nat.reduceMul, Nat.reduceSub, ↓reduceIte, reduceCtorEq, decide_true, decide_false]
    refine (after74 x hx l e hl).go (FZs.three (FZ.sysV x) (FZ.v _) (FZ.v _)) ?_
    simp only [uv, neU0, Cd.cd80, Tk.t80, base0, base1, base2, base3, Option.isNone_none, Option.isNone_some, Nat.reduceBEq, true_or, or_true, false_or, or_false, Nat.reduceLT, Nat.reduceMod, Nat.reducePow, rmaps, nsucc, List.flatten_cons, List.flatten_nil, Nat.reduceEqDiff, Nat.reduceLeDiff, Nat.reduceAdd, Nat.reduceMul, Nat.reduceSub, ↓reduceIte, reduceCtorEq, decide_true, decide_false]
    refine fin_v ?_
    rw [shw, decide_eq_true h]
    by_cases h2 : aft x l e = 0 <;> simp [h2]
  · simp only [box_eq, boxV, show decide (((e : Nat) : Int) ≥ x.inp) = false from decide_eq_false (by omega), Cd.cd80, Tk.t80, base0, base1, base2, base3, Option.isNone_none, Option.isNone_some, Nat.reduceBEq, true_or, or_true, false_or, or_false, Nat.reduceLT, Nat.reduceMod, Nat.reducePow, rmaps, nsucc, List.flatten_cons, List.flatten_nil, Nat.reduceEqDiff, Nat.reduceLeDiff, Nat.reduceAdd, Nat.reduceMul, Nat.reduceSub, ↓reduceIte, reduceCtorEq, decide_true, decide_false]
    refine fin_v ?_
    rw [shw, decide_eq_false h]; rfl
def alongP (x : Re) (tr : List Int) (i : Nat) : Nat := (tr.take i).foldl (fun l e => aft x l e.toNat) (fstM x)
theorem alongP_lt {x : Re} (hx : Ok x) : ∀ (tr : List Int) (l : Nat), l < 2 ^ nst x → tr.foldl (fun l e => aft x l e.toNat) l < 2 ^ nst x
  | [], _, h => h
  | e :: tr, l, h => alongP_lt hx tr _ (aft_lt hx h _)
theorem along_lt {x : Re} (hx : Ok x) (tr : List Int) : alongM x tr < 2 ^ nst x := alongP_lt hx tr _ (fst_lt hx)
theorem along78 (x : Re) (hx : Ok x) (tr : List Int) (hl : tr.length ≤ 1000000) (ht : ∀ e ∈ tr, 0 ≤ e) : FCall Tryd.prog 78 [sysV x, ints tr] (· = uv (alongM x tr)) := by
  refine ACall.enter [] Cd.fn78 (by simp) ?_
  simp only [Cd.cd78, Tk.t78, base0, base1, base2, base3, Option.isNone_none, Option.isNone_some, Nat.reduceBEq, true_or, or_true, false_or, or_false, Nat.reduceLT, Nat.reduceMod, Nat.reducePow, rmaps, nsucc, List.flatten_cons, List.flatten_nil, Nat.reduceEqDiff, Nat.reduceLeDiff, Nat.reduceAdd, Nat.reduceMul, Nat.reduceSub, ↓reduceIte, reduceCtorEq, decide_true, decide_false]
  refine (first72 x hx).go (FZs.one (FZ.sysV x)) ?_
  simp only [ints, List.length_map, Cd.cd78, Tk.t78, base0, base1, base2, base3, Option.isNone_none, Option.isNone_some, Nat.reduceBEq, true_or, or_true, false_or, or_false, Nat.reduceLT, Nat.reduceMod, Nat.reducePow, rmaps, nsucc, List.flatten_cons, List.flatten_nil, Nat.reduceEqDiff, Nat.reduceLeDiff, Nat.reduceAdd, Nat.reduceMul, Nat.reduceSub, ↓reduceIte, reduceCtorEq, decide_true, decide_false]
  refine LWP.loop [] (fun m f H' => ∃ i, m = tr.length - i ∧ (i ≤ tr.length) ∧ f.t 0 = sysV x ∧ f.t 5 = uv (alongP x tr i) ∧ f.t 10 = .lst 1 (tr.map fun x => [.v (.int .i64 x)]) .unk ∧ f.t 11 = .v (.int .i64 (tr.length : Nat)) ∧ f.t 12 = .v (.int .i64 (i : Nat)) ∧ f.ds = [] ∧ H' = AH.none) ?_ ?_ (m := tr.length - (0))
  · exact ⟨0, rfl, (by omega), rfl, rfl, rfl, rfl, rfl, rfl, rfl⟩
  · rintro m f H' ⟨i, rfl, hi, f0, f5, f10, f11, f12, hds, rfl⟩
    by_cases hlt : i < tr.length
    · have hm := ht _ (getD_mem hlt)
      have he : tr.getD i 0 = ((tr.getD i default).toNat : Int) := by show tr.getD i default = _; omega
      simp only [ltT hlt, List.length_map, inR hlt, Int.toNat_natCast, getD_ints _ _ hlt, he, f0, f5, f10, f11, f12, hds, Cd.cd78, Tk.t78, base0, base1, base2, base3, Option.isNone_none, Option.isNone_some, Nat.reduceBEq, true_or, or_true, false_or, or_false, Nat.reduceLT, Nat.reduceMod, Nat.reducePow, rmaps, nsucc, List.flatten_cons, List.flatten_nil, Nat.reduceEqDiff, Nat.reduceLeDiff, Nat.reduceAdd, Nat.reduceMul, Nat.reduceSub, ↓reduceIte, reduceCtorEq, decide_true, decide_false]
      refine (after74 x hx _ _ (alongP_lt hx (tr.take i) _ (fst_lt hx))).go (FZs.three (FZ.sysV x) (FZ.v _) (FZ.v _)) ?_
      simp only [f0, f5, f10, f11, f12, hds, Cd.cd78, Tk.t78, base0, base1, base2, base3, Option.isNone_none, Option.isNone_some, Nat.reduceBEq, true_or, or_true, false_or, or_false, Nat.reduceLT, Nat.reduceMod, Nat.reducePow, rmaps, nsucc, List.flatten_cons, List.flatten_nil, Nat.reduceEqDiff, Nat.reduceLeDiff, Nat.reduceAdd, Nat.reduceMul, Nat.reduceSub, ↓reduceIte, reduceCtorEq, decide_true, decide_false]
      refine ⟨_, by omega, i + 1, rfl, by omega, ?_⟩
      (repeat' apply And.intro) <;> first | rfl | (rw [wrapS (by omega)]) | omega | assumption | ((unfold alongP; rw [foldl_succ _ _ hlt]))
    · have hi' : i = tr.length := by omega
      simp only [ltF hlt, f0, f5, f10, f11, f12, hds, Cd.cd78, Tk.t78, base0, base1, base2, base3, Option.isNone_none, Option.isNone_some, Nat.reduceBEq, true_or, or_true, false_or, or_false, Nat.reduceLT, Nat.reduceMod, Nat.reducePow, rmaps, nsucc, List.flatten_cons, List.flatten_nil, Nat.reduceEqDiff, Nat.reduceLeDiff, Nat.reduceAdd, Nat.reduceMul, Nat.reduceSub, ↓reduceIte, reduceCtorEq, decide_true, decide_false]
      exact fin_v (by rw [hi', alongP, List.take_length]; rfl)
end Go.Proofs.YtchpcjmgifnmdaaDoor

/- Walks: the reference's small functions on lists. -/
namespace Go.Proofs.YtchpcjmgifnmdaaDoor
open Go Go.Proofs.YtchpcjmgifnmdaaDoor.Ab
set_option maxRecDepth 100000
set_option linter.unusedSimpArgs false

theorem has76 (l : List Int) (a : Int) (hl : l.length < 2 ^ 40) : FCall Tryd.prog 76 [ints l, .v (.int .i64 a)] (· = .v (.bool (decide (a ∈ l)))) := by
  simp only [ints]
  refine ACall.enter [] Cd.fn76 (by simp) ?_
  simp only [Cd.cd76, Tk.t76, base0, base1, base2, base3, Option.isNone_none, Option.isNone_some, Nat.reduceBEq, true_or, or_true, false_or, or_false, Nat.reduceLT, Nat.reduceMod, Nat.reducePow, rmaps, nsucc, List.flatten_cons, List.flatten_nil, Nat.reduceEqDiff, Nat.reduceLeDiff, Nat.reduceAdd, Nat.reduceMul, Nat.reduceSub, ↓reduceIte, reduceCtorEq, decide_true, decide_false]
  refine LWP.loop [] (fun m f H' => ∃ i, m = l.length - i ∧ (i ≤ l.length) ∧ (∀ j, j < i → l.getD j 0 ≠ a) ∧ f.t 0 = .lst 1 (l.map fun x => [.v (.int .i64 x)]) .unk ∧ f.t 1 = .v (.int .i64 a) ∧ f.t 5 = .v (.int .i64 (i : Nat)) ∧ f.ds = [] ∧ H' = AH.none) ?_ ?_ (m := l.length - (0))
  · exact ⟨0, rfl, (by omega), (fun j hj => by omega), rfl, rfl, rfl, rfl, rfl⟩
  · rintro m f H' ⟨i, rfl, hi, hz, f0, f1, f5, hds, rfl⟩
    by_cases hlt : i < l.length
    · by_cases he : l.getD i 0 = a
      · simp only [List.length_map, ltT hlt, inR hlt, Int.toNat_natCast, getD_ints l i hlt, show (l.getD i 0 == a) = true from beq_iff_eq.mpr he, f0, f1, f5, hds, Cd.cd76, Tk.t76, base0, base1, base2, base3, Option.isNone_none, Option.isNone_some, Nat.reduceBEq, true_or, or_true, false_or, or_false, Nat.reduceLT, Nat.reduceMod, Nat.reducePow, rmaps, nsucc, List.flatten_cons, List.flatten_nil, Nat.reduceEqDiff, Nat.reduceLeDiff, Nat.reduceAdd, Nat.reduceMul, Nat.reduceSub, ↓reduceIte, reduceCtorEq, decide_true, decide_false]
        exact fin_v (by rw [decide_eq_true (he ▸ getD_mem hlt)])
      · simp only [List.length_map, ltT hlt, inR hlt, Int.toNat_natCast, getD_ints l i hlt, show (l.getD i 0 == a) = false from beq_eq_false_iff_ne.mpr he, f0, f1, f5, hds, Cd.cd76, Tk.t76, base0, base1, base2, base3, Option.isNone_none, Option.isNone_some, Nat.reduceBEq, true_or, or_true, false_or, or_false, Nat.reduceLT, Nat.reduceMod, Nat.reducePow, rmaps, nsucc, List.flatten_cons, List.flatten_nil, Nat.reduceEqDiff, Nat.reduceLeDiff, Nat.reduceAdd, Nat.reduceMul, Nat.reduceSub, ↓reduceIte, reduceCtorEq, decide_true, decide_false]
        refine ⟨_, by omega, i + 1, rfl, by omega, ?_⟩
        (repeat' apply And.intro) <;> first | rfl | (rw [wrapS (by omega)]) | omega | assumption | (exact allS hz he)
    · simp only [List.length_map, ltF hlt, f0, f1, f5, hds, Cd.cd76, Tk.t76, base0, base1, base2, base3, Option.isNone_none, Option.isNone_some, Nat.reduceBEq, true_or, or_true, false_or, or_false, Nat.reduceLT, Nat.reduceMod, Nat.reducePow, rmaps, nsucc, List.flatten_cons, List.flatten_nil, Nat.reduceEqDiff, Nat.reduceLeDiff, Nat.reduceAdd, Nat.reduceMul, Nat.reduceSub, ↓reduceIte, reduceCtorEq, decide_true, decide_false]
      refine fin_v (by rw [decide_eq_false]; intro hm; obtain ⟨j, hj, rfl⟩ := mem_getD hm; exact hz j (by omega) rfl)
theorem same22 (a b : List Int) (hl : a.length < 2 ^ 40) : FCall Tryd.prog 22 [ints a, ints b] (· = .v (.bool (decide (a = b)))) := by
  simp only [ints]
  refine ACall.enter [] Cd.fn22 (by simp) ?_
  by_cases hab : a.length = b.length
  · simp only [List.length_map, hab, show (((b.length : Nat) : Int) != ((b.length : Nat) : Int)) = false from by simp, Cd.cd22, Tk.t22, base0, base1, base2, base3, Option.isNone_none, Option.isNone_some, Nat.reduceBEq, true_or, or_true, false_or, or_false, Nat.reduceLT, Nat.reduceMod, Nat.reducePow, rmaps, nsucc, List.flatten_cons, List.flatten_nil, Nat.reduceEqDiff, Nat.reduceLeDiff, Nat.reduceAdd, Nat.reduceMul, Nat.reduceSub, ↓reduceIte, reduceCtorEq, decide_true, decide_false]
    refine LWP.loop [] (fun m f H' => ∃ i, m = a.length - i ∧ (i ≤ a.length) ∧ (∀ j, j < i → a.getD j 0 = b.getD j 0) ∧ f.t 0 = .lst 1 (a.map fun x => [.v (.int .i64 x)]) .unk ∧ f.t 1 = .lst 1 (b.map fun x => [.v (.int .i64 x)]) .unk ∧ f.t 5 = .v (.int .i64 (i : Nat)) ∧ f.ds = [] ∧ H' = AH.none) ?_ ?_ (m := a.length - (0))
    · exact ⟨0, rfl, (by omega), (fun j hj => by omega), rfl, rfl, rfl, rfl, rfl⟩
    · rintro m f H' ⟨i, rfl, hi, hz, f0, f1, f5, hds, rfl⟩
      by_cases hlt : i < a.length
      · have hlb : i < b.length := by omega
        by_cases hn : a.getD i 0 = b.getD i 0
        · simp only [List.length_map, ltT hlt, inR hlt, inR hlb, Int.toNat_natCast, getD_ints a i hlt, getD_ints b i hlb, show (a.getD i 0 != b.getD i 0) = false from by rw [hn]; simp, f0, f1, f5, hds, Cd.cd22, Tk.t22, base0, base1, base2, base3, Option.isNone_none, Option.isNone_some, Nat.reduceBEq, true_or, or_true, false_or, or_false, Nat.reduceLT, Nat.reduceMod, Nat.reducePow, rmaps, nsucc, List.flatten_cons, List.flatten_nil, Nat.reduceEqDiff, Nat.reduceLeDiff, Nat.reduceAdd, Nat.reduceMul, Nat.reduceSub, ↓reduceIte, reduceCtorEq, decide_true, decide_false]
          refine ⟨_, by omega, i + 1, rfl, by omega, ?_⟩
          (repeat' apply And.intro) <;> first | rfl | (rw [wrapS (by omega)]) | omega | assumption | (exact allS hz hn)
        · simp only [List.length_map, ltT hlt, inR hlt, inR hlb, Int.toNat_natCast, getD_ints a i hlt, getD_ints b i hlb, show (a.getD i 0 != b.getD i 0) = true from by simpa using hn, f0, f1, f5, hds, Cd.cd22, Tk.t22, base0, base1, base2, base3, Option.isNone_none, Option.isNone_some, Nat.reduceBEq, true_or, or_true, false_or, or_false, Nat.reduceLT, Nat.reduceMod, Nat.reducePow, rmaps, nsucc, List.flatten_cons, List.flatten_nil, Nat.reduceEqDiff, Nat.reduceLeDiff, Nat.reduceAdd, Nat.reduceMul, Nat.reduceSub, ↓reduceIte, reduceCtorEq, decide_true, decide_false]
          exact fin_v (by rw [decide_eq_false]; intro h; subst h; exact hn rfl)
      · simp only [List.length_map, ltF hlt, f0, f1, f5, hds, Cd.cd22, Tk.t22, base0, base1, base2, base3, Option.isNone_none, Option.isNone_some, Nat.reduceBEq, true_or, or_true, false_or, or_false, Nat.reduceLT, Nat.reduceMod, Nat.reducePow, rmaps, nsucc, List.flatten_cons, List.flatten_nil, Nat.reduceEqDiff, Nat.reduceLeDiff, Nat.reduceAdd, Nat.reduceMul, Nat.reduceSub, ↓reduceIte, reduceCtorEq, decide_true, decide_false]
        refine fin_v ?_
        rw [decide_eq_true]
        apply List.ext_getElem hab
        intro j h1 h2
        have := hz j (by omega)
        rwa [List.getD_eq_getElem?_getD, List.getD_eq_getElem?_getD, List.getElem?_eq_getElem h1, List.getElem?_eq_getElem h2] at this
  · simp only [List.length_map, show (((a.length : Nat) : Int) != ((b.length : Nat) : Int)) = true from by simp; omega, Cd.cd22, Tk.t22, base0, base1, base2, base3, Option.isNone_none, Option.isNone_some, Nat.reduceBEq, true_or, or_true, false_or, or_false, Nat.reduceLT, Nat.reduceMod, Nat.reducePow, rmaps, nsucc, List.flatten_cons, List.flatten_nil, Nat.reduceEqDiff, Nat.reduceLeDiff, Nat.reduceAdd, Nat.reduceMul, Nat.reduceSub, ↓reduceIte, reduceCtorEq, decide_true, decide_false]
    exact fin_v (by rw [decide_eq_false]; intro h; subst h; exact hab rfl)
/-- what was there is as it was -/
structure Kp (H H' : AH) : Prop where
  nx : H.next ≤ H'.next
  ow : ∀ n, n < H.next → H'.own n = H.own n
  tp : ∀ n, n < H.next → H'.tip n = H.tip n
theorem Kp.refl (H : AH) : Kp H H := ⟨Nat.le_refl _, fun _ _ => rfl, fun _ _ => rfl⟩
theorem Kp.trans {H H1 H2 : AH} (h : Kp H H1) (h' : Kp H1 H2) : Kp H H2 := ⟨Nat.le_trans h.nx h'.nx, fun n hn => (h'.ow n (Nat.lt_of_lt_of_le hn h.nx)).trans (h.ow n hn), fun n hn => (h'.tp n (Nat.lt_of_lt_of_le hn h.nx)).trans (h.tp n hn)⟩
theorem Kp.below {H H' : AH} (h : Kp H H') : Kp H (H'.below H.next) := ⟨h.nx, fun n hn => by simp [AH.below, hn, h.ow n hn], fun n hn => by simp [AH.below, hn, h.tp n hn]⟩
/-- a growing list with a name from N on -/
def GrowN {α : Type} (enc : α → List AV) (k : Nat) (N : Nat) (H : AH) (a : AV) (l : List α) : Prop :=
  (l = [] ∧ (a = nilS ∨ a = .lst k [] .full)) ∨ ∃ t, N ≤ t ∧ t < H.next ∧ a = .lst k (l.map enc) (.live t) ∧ H.tip t = some l.length
theorem GrowN.view {α : Type} {enc : α → List AV} {k N : Nat} {H H' : AH} {a : AV} {l : List α} (h : GrowN enc k N H a l) (hz : ∀ x, FZs (enc x)) : View H' a (.lst k (l.map enc) .unk) := by
  rcases h with ⟨rfl, rfl | rfl⟩ | ⟨t, _, _, rfl, _⟩
  · exact View.nil k
  · exact View.tip fun r hr => by simp at hr
  · exact View.tip fun r hr => by
      obtain ⟨x, _, rfl⟩ := List.mem_map.mp hr
      exact hz x
theorem GrowN.mono {α : Type} {enc : α → List AV} {k N : Nat} {H H' : AH} {a : AV} {l : List α} (h : GrowN enc k N H a l) (hk : Kp H H') : GrowN enc k N H' a l := by
  rcases h with h | ⟨t, h1, h2, h3, h4⟩
  · exact .inl h
  · exact .inr ⟨t, h1, Nat.lt_of_lt_of_le h2 hk.nx, h3, (hk.tp t h2).trans h4⟩
/-- appending one to a growing list -/
theorem ownInts30 (l : List Int) (H : AH) (hb : l.length * 8 ≤ 140737488355328) : ACall Tryd.prog 30 [ints l] H (fun out H' => ∃ v, out = .ret v ∧ GrowN intR 1 H.next H' v l ∧ Kp H H') := by
  simp only [ints]
  by_cases h0 : l = []
  · subst h0
    refine ACall.enter [] Cd.fn30 (by simp) ?_
    simp only [Cd.cd30, Tk.t30, base0, base1, base2, base3, Option.isNone_none, Option.isNone_some, Nat.reduceBEq, true_or, or_true, false_or, or_false, Nat.reduceLT, Nat.reduceMod, Nat.reducePow, rmaps, nsucc, List.flatten_cons, List.flatten_nil, Nat.reduceEqDiff, Nat.reduceLeDiff, Nat.reduceAdd, Nat.reduceMul, Nat.reduceSub, ↓reduceIte, reduceCtorEq, decide_true, decide_false]
    exact ⟨_, rfl, .inl ⟨rfl, .inr rfl⟩, Kp.refl _⟩
  · have hl : 0 < l.length := List.length_pos_iff.mpr h0
    have hl' : (l.length = 0) = False := by simp; exact h0
    have hr : roomA 8 l.length = true := room_of (by omega) (by omega)
    refine ACall.enter [] Cd.fn30 (by simp) ?_
    simp only [List.length_map, hl, hl', hr, Cd.cd30, Tk.t30, base0, base1, base2, base3, Option.isNone_none, Option.isNone_some, Nat.reduceBEq, true_or, or_true, false_or, or_false, Nat.reduceLT, Nat.reduceMod, Nat.reducePow, rmaps, nsucc, List.flatten_cons, List.flatten_nil, Nat.reduceEqDiff, Nat.reduceLeDiff, Nat.reduceAdd, Nat.reduceMul, Nat.reduceSub, ↓reduceIte, reduceCtorEq, decide_true, decide_false]
    exact ⟨_, rfl, .inr ⟨H.next, Nat.le_refl _, by simp, rfl, by simp⟩, by simp, fun _ _ => rfl, fun n hn => by simp [show n ≠ H.next by omega]⟩
def asc (fl : List Bool) : List Int := ((List.range fl.length).filter fun i => fl.getD i false).map fun a : Nat => (a : Int)
def ascP (fl : List Bool) (i : Nat) : List Int := ((List.range i).filter fun i => fl.getD i false).map fun a : Nat => (a : Int)
theorem ascP_succ (fl : List Bool) (i : Nat) : ascP fl (i + 1) = if fl.getD i false then ascP fl i ++ [(i : Int)] else ascP fl i := by
  unfold ascP
  rw [List.range_succ, List.filter_append]
  rw [List.filter_cons]
  cases h : fl.getD i false <;> simp
theorem ascP_len (fl : List Bool) (i : Nat) : (ascP fl i).length ≤ i := by
  unfold ascP; rw [List.length_map]; exact Nat.le_trans (List.length_filter_le _ _) (by simp)
def flC (fl : List Bool) : List AV := fl.map fun b => .v (.bool b)
theorem flC_get (fl : List Bool) (i : Nat) (h : i < fl.length) : (flC fl)[i]? = some (.v (.bool (fl.getD i false))) := by
  unfold flC
  rw [List.getElem?_map, List.getElem?_eq_getElem h, List.getD_eq_getElem?_getD, List.getElem?_eq_getElem h]; rfl
theorem flC_drop (fl : List Bool) (i : Nat) (h : i < fl.length) : (List.drop i (flC fl))[0]? = some (.v (.bool (fl.getD i false))) := by
  rw [List.getElem?_drop, Nat.add_zero, flC_get fl i h]
theorem flC_len (fl : List Bool) : (flC fl).length = fl.length := by simp [flC]
theorem asc81 (H : AH) (n : Nat) (fl : List Bool) (hb : fl.length ≤ 100) (ho : H.own n = some (.cells (flC fl))) (hn : n < H.next) : ACall Tryd.prog 81 [.sl 1 n 0 fl.length] H (fun out H' => out = .ret (ints (asc fl)) ∧ Kp H H') := by
  refine ACall.freeze H.next ?_
  refine ACall.enter [] Cd.fn81 (by simp) ?_
  simp only [Cd.cd81, Tk.t81, base0, base1, base2, base3, Option.isNone_none, Option.isNone_some, Nat.reduceBEq, true_or, or_true, false_or, or_false, Nat.reduceLT, Nat.reduceMod, Nat.reducePow, rmaps, nsucc, List.flatten_cons, List.flatten_nil, Nat.reduceEqDiff, Nat.reduceLeDiff, Nat.reduceAdd, Nat.reduceMul, Nat.reduceSub, ↓reduceIte, reduceCtorEq, decide_true, decide_false]
  refine LWP.loop [] (fun m f H' => ∃ i a, m = fl.length - i ∧ (i ≤ fl.length) ∧ (GrowN intR 1 H.next H' a (ascP fl i)) ∧ f.t 0 = .sl 1 n 0 fl.length ∧ f.t 3 = a ∧ f.t 4 = .v (.int .i64 (i : Nat)) ∧ f.ds = [] ∧ Kp H H') ?_ ?_ (m := fl.length - (0))
  · exact ⟨0, nilS, rfl, (by omega), (.inl ⟨rfl, .inl rfl⟩), rfl, rfl, rfl, rfl, Kp.refl _⟩
  · rintro m f H' ⟨i, a, rfl, hi, hg, f0, f3, f4, hds, hk⟩
    have ho' : H'.own n = some (.cells (flC fl)) := (hk.ow n hn).trans ho
    by_cases hlt : i < fl.length
    · have hs := ascP_succ fl i
      have hl2 := ascP_len fl i
      cases hb : fl.getD i false
      · rw [hb] at hs
        simp only [ltT hlt, inR hlt, Int.toNat_natCast, ho', Nat.mul_one, flC_drop fl i hlt, hb, f0, f3, f4, hds, Cd.cd81, Tk.t81, base0, base1, base2, base3, Option.isNone_none, Option.isNone_some, Nat.reduceBEq, true_or, or_true, false_or, or_false, Nat.reduceLT, Nat.reduceMod, Nat.reducePow, rmaps, nsucc, List.flatten_cons, List.flatten_nil, Nat.reduceEqDiff, Nat.reduceLeDiff, Nat.reduceAdd, Nat.reduceMul, Nat.reduceSub, ↓reduceIte, reduceCtorEq, decide_true, decide_false]
        exact ⟨_, by omega, i + 1, a, rfl, by omega, by rw [hs]; exact hg, rfl, by rw [wrapS (by omega)], hk⟩
      · rw [hb] at hs
        have hr : roomA 8 ((ascP fl i).length + 1) = true := room_of (by omega) (by omega)
        rcases hg with ⟨h0, rfl | rfl⟩ | ⟨t, t1, t2, rfl, t4⟩
        · simp only [nilS, ltT hlt, inR hlt, Int.toNat_natCast, ho', Nat.mul_one, flC_drop fl i hlt, hb, show roomA 8 1 = true from rfl, f0, f3, f4, hds, Cd.cd81, Tk.t81, base0, base1, base2, base3, Option.isNone_none, Option.isNone_some, Nat.reduceBEq, true_or, or_true, false_or, or_false, Nat.reduceLT, Nat.reduceMod, Nat.reducePow, rmaps, nsucc, List.flatten_cons, List.flatten_nil, Nat.reduceEqDiff, Nat.reduceLeDiff, Nat.reduceAdd, Nat.reduceMul, Nat.reduceSub, ↓reduceIte, reduceCtorEq, decide_true, decide_false]
          refine ⟨_, by omega, i + 1, _, rfl, by omega, .inr ⟨H'.next, hk.nx, by simp, by rw [hs, h0]; rfl, by rw [hs, h0]; simp⟩, rfl, by rw [wrapS (by omega)], by simp; have := hk.nx; omega, hk.ow, fun m hm => ?_⟩
          have := hk.nx
          simp only [show m ≠ H'.next by omega, if_false]
          exact hk.tp m hm
        · simp only [ltT hlt, inR hlt, Int.toNat_natCast, ho', Nat.mul_one, flC_drop fl i hlt, hb, show roomA 8 1 = true from rfl, f0, f3, f4, hds, Cd.cd81, Tk.t81, base0, base1, base2, base3, Option.isNone_none, Option.isNone_some, Nat.reduceBEq, true_or, or_true, false_or, or_false, Nat.reduceLT, Nat.reduceMod, Nat.reducePow, rmaps, nsucc, List.flatten_cons, List.flatten_nil, Nat.reduceEqDiff, Nat.reduceLeDiff, Nat.reduceAdd, Nat.reduceMul, Nat.reduceSub, ↓reduceIte, reduceCtorEq, decide_true, decide_false]
          refine ⟨_, by omega, i + 1, _, rfl, by omega, .inr ⟨H'.next, hk.nx, by simp, by rw [hs, h0]; rfl, by rw [hs, h0]; simp⟩, rfl, by rw [wrapS (by omega)], by simp; have := hk.nx; omega, hk.ow, fun m hm => ?_⟩
          have := hk.nx
          simp only [show m ≠ H'.next by omega, if_false]
          exact hk.tp m hm
        · simp only [ltT hlt, inR hlt, Int.toNat_natCast, ho', Nat.mul_one, flC_drop fl i hlt, hb, t4, hr, List.length_map, f0, f3, f4, hds, Cd.cd81, Tk.t81, base0, base1, base2, base3, Option.isNone_none, Option.isNone_some, Nat.reduceBEq, true_or, or_true, false_or, or_false, Nat.reduceLT, Nat.reduceMod, Nat.reducePow, rmaps, nsucc, List.flatten_cons, List.flatten_nil, Nat.reduceEqDiff, Nat.reduceLeDiff, Nat.reduceAdd, Nat.reduceMul, Nat.reduceSub, ↓reduceIte, reduceCtorEq, decide_true, decide_false]
          refine ⟨_, by omega, i + 1, _, rfl, by omega, .inr ⟨t, t1, t2, by rw [hs]; simp [intR], by rw [hs]; simp⟩, rfl, by rw [wrapS (by omega)], hk.nx, hk.ow, fun m hm => ?_⟩
          simp only [show m ≠ t by omega, if_false]
          exact hk.tp m hm
    · have hi' : i = fl.length := by omega
      subst hi'
      simp only [ltF hlt, f0, f3, f4, hds, Cd.cd81, Tk.t81, base0, base1, base2, base3, Option.isNone_none, Option.isNone_some, Nat.reduceBEq, true_or, or_true, false_or, or_false, Nat.reduceLT, Nat.reduceMod, Nat.reducePow, rmaps, nsucc, List.flatten_cons, List.flatten_nil, Nat.reduceEqDiff, Nat.reduceLeDiff, Nat.reduceAdd, Nat.reduceMul, Nat.reduceSub, ↓reduceIte, reduceCtorEq, decide_true, decide_false]
      exact Frz.ret (hg.view FZs.intR) (FZ.ints (ascP fl fl.length)) ⟨rfl, hk.below⟩
end Go.Proofs.YtchpcjmgifnmdaaDoor

/- Walks: the reference's closed sets. -/
namespace Go.Proofs.YtchpcjmgifnmdaaDoor
open Go Go.Proofs.YtchpcjmgifnmdaaDoor.Ab
set_option maxRecDepth 100000
set_option linter.unusedSimpArgs false

structure WL (x : Re) (set r : List Int) : Prop where
  nd : r.Nodup
  lt : ∀ b ∈ r, 0 ≤ b ∧ b < x.st
  cc : ∀ b ∈ set ++ r, (Go.Proofs.YtchpcjmgifnmdaaDoor.cl x (maskL set)).testBit b.toNat = true
theorem nodup_i : ∀ (n : Nat) (l : List Int), l.Nodup → (∀ x ∈ l, 0 ≤ x ∧ x < (n : Int)) → l.length ≤ n
  | 0, l, _, h => by
    cases l with
    | nil => exact Nat.le_refl _
    | cons x l => have := h x (by simp); omega
  | n + 1, l, hn, h => by
    by_cases hm : (n : Int) ∈ l
    · have h1 := List.length_erase_of_mem hm
      have h2 := nodup_i n (l.erase n) (hn.erase _) fun x hx => by
        have h3 := (hn.mem_erase_iff).mp hx
        have := h x h3.2
        have := h3.1
        omega
      have : 0 < l.length := List.length_pos_of_mem hm
      omega
    · have := nodup_i n l hn fun x hx => by
        have h1 := h x hx
        have : x ≠ n := fun e => hm (e ▸ hx)
        omega
      omega
theorem WL.len {x : Re} (hx : Ok x) {set r : List Int} (h : WL x set r) : r.length ≤ 10 := by
  have := hx.st
  exact nodup_i 10 r h.nd fun b hb => by have := h.lt b hb; omega
theorem set_lt {x : Re} (hx : Ok x) {set : List Int} (hs : ∀ a ∈ set, 0 ≤ a ∧ a < x.st) : maskL set < 2 ^ nst x := maskL_lt fun a ha => by
  have := hs a ha
  have := hx.st
  unfold nst; omega
theorem WL.start {x : Re} (hx : Ok x) {set : List Int} (hs : ∀ a ∈ set, 0 ≤ a ∧ a < x.st) : WL x set [] :=
  ⟨List.nodup_nil, fun _ h => by simp at h, fun b hb => by
    rw [List.append_nil] at hb
    refine (cl_bit hx (set_lt hx hs)).mpr ⟨b.toNat, ?_, .refl⟩
    rw [maskL_bit fun a ha => (hs a ha).1, Int.toNat_of_nonneg (hs b hb).1]; exact hb⟩
theorem WL.add {x : Re} (hx : Ok x) {set r : List Int} (hs : ∀ a ∈ set, 0 ≤ a ∧ a < x.st) (h : WL x set r) {m : Mv} (hm : m ∈ x.mv) (hk : m.kd = 2) (hf : m.fr ∈ set ++ r) (hn : m.to ∉ set ++ r) : WL x set (r ++ [m.to]) := by
  have hmo := hx.mv m hm
  refine ⟨?_, fun b hb => ?_, fun b hb => ?_⟩
  · rw [List.nodup_append]
    refine ⟨h.nd, by simp, fun a ha b hb => ?_⟩
    simp only [List.mem_singleton] at hb
    subst hb
    intro e; subst e; exact hn (List.mem_append.mpr (.inr ha))
  · rcases List.mem_append.mp hb with hb | hb
    · exact h.lt b hb
    · simp only [List.mem_singleton] at hb; subst hb; exact hmo.to
  · rw [← List.append_assoc] at hb
    rcases List.mem_append.mp hb with hb | hb
    · exact h.cc b hb
    · simp only [List.mem_singleton] at hb; subst hb
      obtain ⟨a, ha, hr⟩ := (cl_bit hx (set_lt hx hs)).mp (h.cc _ hf)
      refine (cl_bit hx (set_lt hx hs)).mpr ⟨a, ha, .step hr (silM_bit.mpr ⟨m, hm, hk, ?_, rfl⟩)⟩
      exact (Int.toNat_of_nonneg hmo.fr.1).symm
theorem WL.all {x : Re} (hx : Ok x) {set r : List Int} (hs : ∀ a ∈ set, 0 ≤ a ∧ a < x.st) (h : WL x set r) (hc : ∀ a ∈ set ++ r, ∀ m ∈ x.mv, m.kd = 2 → m.fr = a → m.to ∈ set ++ r) (s : Nat) : (cl x (maskL set)).testBit s = decide ((s : Int) ∈ set ++ r) := by
  rw [Bool.eq_iff_iff, decide_eq_true_eq]
  constructor
  · intro hb
    obtain ⟨a, ha, hr⟩ := (cl_bit hx (set_lt hx hs)).mp hb
    rw [maskL_bit fun a ha => (hs a ha).1] at ha
    induction hr with
    | refl => exact List.mem_append.mpr (.inl ha)
    | @step b c hr hsb ih =>
      obtain ⟨m, hm, h1, h2, h3⟩ := silM_bit.mp hsb
      have := hc b (ih ((cl_bit hx (set_lt hx hs)).mpr ⟨a, (maskL_bit fun a ha => (hs a ha).1).mpr ha, hr⟩)) m hm h1 h2
      rw [← h3, Int.toNat_of_nonneg (hx.mv m hm).to.1]; exact this
  · intro hm
    have := h.cc _ hm
    rwa [Int.toNat_natCast] at this
theorem GrowN.go {P : Program} {m : FuncId} {args : List AV} {H : AH} {α : Type} {enc : α → List AV} {k : Nat} {l : List α} {mu : List Nat} {Kt : Kont} {dst : Option Nat} {os : List COp} {f : AF}
    (h : ACall P m args H (fun out H' => ∃ v, out = .ret v ∧ GrowN enc k H.next H' v l ∧ Kp H H')) (h' : ∀ v H', GrowN enc k H.next H' v l → Kp H H' → cops P mu Kt os (f.put dst v) H') : ACall P m args H (callK P mu Kt dst os f) :=
  h.mono fun out H' hx => by
    obtain ⟨v, rfl, h1, h2⟩ := hx
    exact h' v H' h1 h2
theorem Kp.go {P : Program} {m : FuncId} {args : List AV} {H : AH} {v : AV} {mu : List Nat} {Kt : Kont} {dst : Option Nat} {os : List COp} {f : AF} (h : ACall P m args H (fun out H' => out = .ret v ∧ Kp H H')) (h' : ∀ H', Kp H H' → cops P mu Kt os (f.put dst v) H') : ACall P m args H (callK P mu Kt dst os f) :=
  h.mono fun out H' hx => by
    obtain ⟨rfl, h1⟩ := hx
    exact h' H' h1
theorem mkF (n : Nat) : List.map (fun i => [AV.v (.bool false)].getD (i % 1) .any) (List.range (n * 1)) = flC (List.replicate n false) := by
  unfold flC
  rw [List.map_replicate, Nat.mul_one]
  apply List.ext_getElem
  · simp
  · intro i h1 h2
    simp [Nat.mod_one]
theorem setF {fl : List Bool} {s : Nat} (hs : s < fl.length) : List.take s (flC fl) ++ AV.v (.bool true) :: List.drop (s + 1) (flC fl) = flC (fl.set s true) := by
  unfold flC
  rw [List.map_set, List.set_eq_take_append_cons_drop, if_pos (by simpa using hs)]
theorem getD_set (fl : List Bool) (s t : Nat) (hs : s < fl.length) : (fl.set s true).getD t false = (decide (t = s) || fl.getD t false) := by
  rw [List.getD_eq_getElem?_getD, List.getD_eq_getElem?_getD, List.getElem?_set]
  by_cases h : s = t
  · subst h; simp [hs]
  · simp [h, show ¬ t = s from fun e => h e.symm]
theorem asc_bits {x : Re} (hx : Ok x) {l : Nat} (hl : l < 2 ^ nst x) {fl : List Bool} (hf : fl.length = nst x) (h : ∀ s, s < nst x → fl.getD s false = l.testBit s) : asc fl = bitsI l := by
  unfold asc bitsI
  rw [bitsN_of_lt (nst x) hx.n.1 l hl, hf]
  congr 1
  apply List.filter_congr
  intro s hs
  exact h s (List.mem_range.mp hs)
set_option maxHeartbeats 2000000 in
theorem closed35 (x : Re) (hx : Ok x) (set : List Int) (hs : ∀ a ∈ set, 0 ≤ a ∧ a < x.st) (hl : set.length ≤ 1000) : FCall Tryd.prog 35 [reV x, ints set] (· = setV (cl x (maskL set))) := by
  have hst := hx.st
  have hlen := hx.len
  have en : x.st.toNat = nst x := rfl
  simp only [reV, reL, mvsV]
  refine ACall.enter [] Cd.fn35 (by simp) ?_
  simp only [show (0 ≤ x.st ∧ x.st ≤ 140737488355328 ∧ ((1 : Nat) : Int) * x.st ≤ 2 ^ 47) = True from by simp; omega, en, mkF, Cd.cd35, Tk.t35, base0, base1, base2, base3, Option.isNone_none, Option.isNone_some, Nat.reduceBEq, true_or, or_true, false_or, or_false, Nat.reduceLT, Nat.reduceMod, Nat.reducePow, rmaps, nsucc, List.flatten_cons, List.flatten_nil, Nat.reduceEqDiff, Nat.reduceLeDiff, Nat.reduceAdd, Nat.reduceMul, Nat.reduceSub, ↓reduceIte, reduceCtorEq, decide_true, decide_false]
  refine GrowN.go (ownInts30 set _ (by omega)) fun v H1 hg hk => ?_
  have ho := hk.ow 0 (by show 0 < 0 + 1; omega)
  have hnx := hk.nx
  have hn1 : 0 < H1.next := Nat.lt_of_lt_of_le (by show 0 < 0 + 1; omega) hnx
  have hgN : GrowN intR 1 1 H1 v set := hg
  simp only [AH.none, if_true] at ho
  clear hg hk hnx
  simp only [Cd.cd35, Tk.t35, base0, base1, base2, base3, Option.isNone_none, Option.isNone_some, Nat.reduceBEq, true_or, or_true, false_or, or_false, Nat.reduceLT, Nat.reduceMod, Nat.reducePow, rmaps, nsucc, List.flatten_cons, List.flatten_nil, Nat.reduceEqDiff, Nat.reduceLeDiff, Nat.reduceAdd, Nat.reduceMul, Nat.reduceSub, ↓reduceIte, reduceCtorEq, decide_true, decide_false]
  refine LWP.loop [] (fun m f H' => ∃ i a r fl, m = set.length + 10 - i ∧ (i ≤ set.length + r.length) ∧ (WL x set r) ∧ (fl.length = nst x) ∧ (∀ s, s < nst x → fl.getD s false = decide ((s : Int) ∈ (set ++ r).take i)) ∧ (∀ j, j < i → ∀ m ∈ x.mv, m.kd = 2 → m.fr = (set ++ r).getD j default → m.to ∈ set ++ r) ∧ (GrowN intR 1 1 H' a (set ++ r)) ∧ f.t 2 = .box [.v (.int .i64 x.st), .v (.int .i64 x.s0), .v (.int .i64 x.inp), .v (.int .i64 x.out), .lst 4 (x.mv.map mvR) .unk] ∧ f.t 5 = .sl 1 0 0 (nst x) ∧ f.t 6 = a ∧ f.t 7 = .v (.int .i64 (i : Nat)) ∧ f.ds = [] ∧ (H'.own 0 = some (.cells (flC fl)) ∧ 0 < H'.next)) ?_ ?_ (m := set.length + 10 - (0))
  · exact ⟨0, v, [], List.replicate (nst x) false, rfl, (by omega), (WL.start hx hs), (by simp), (fun s hs => by simp [List.getD_eq_getElem?_getD, List.getElem?_replicate, hs]), (fun j hj => by omega), (by rw [List.append_nil]; exact hgN), rfl, rfl, rfl, rfl, rfl, ⟨ho, hn1⟩⟩
  · rintro m f H' ⟨i, a, r, fl, rfl, hi, hw, hfl, hfv, hcl, hg, f2, f5, f6, f7, hds, hH⟩
    have hrl := hw.len hx
    obtain ⟨hH, hH2⟩ := hH
    by_cases hlt : i < (set ++ r).length
    · have hmem : (set ++ r).getD i default ∈ set ++ r := getD_mem hlt
      have hbr : 0 ≤ (set ++ r).getD i default ∧ (set ++ r).getD i default < x.st := by
        rcases List.mem_append.mp hmem with h | h
        · exact hs _ h
        · exact hw.lt _ h
      obtain ⟨bn, hbn⟩ : ∃ bn : Nat, (set ++ r).getD i default = (bn : Int) := ⟨_, (Int.toNat_of_nonneg hbr.1).symm⟩
      have hbl : bn < nst x := by unfold nst; omega
      rw [hbn] at hmem
      rcases hg with ⟨h0, _⟩ | ⟨t, t1, t2, rfl, t4⟩
      · rw [h0] at hlt; simp at hlt
      simp only [List.length_map, ltT hlt, inR hlt, Int.toNat_natCast, getD_map intR (set ++ r) i hlt, intR, hbn, inR hbl, hH, flC_len, hfl, Nat.mul_one, show (bn + 1 ≤ nst x) = True from by simp; omega, setF (show bn < fl.length by omega), f2, f5, f6, f7, hds, Cd.cd35, Tk.t35, base0, base1, base2, base3, Option.isNone_none, Option.isNone_some, Nat.reduceBEq, true_or, or_true, false_or, or_false, Nat.reduceLT, Nat.reduceMod, Nat.reducePow, rmaps, nsucc, List.flatten_cons, List.flatten_nil, Nat.reduceEqDiff, Nat.reduceLeDiff, Nat.reduceAdd, Nat.reduceMul, Nat.reduceSub, ↓reduceIte, reduceCtorEq, decide_true, decide_false]
      refine LWP.loop [] (fun m f H' => ∃ k a' r', m = x.mv.length - k ∧ (k ≤ x.mv.length) ∧ (WL x set r') ∧ (∃ q, r' = r ++ q) ∧ (∀ j, j < k → (x.mv.getD j default).kd = 2 → (x.mv.getD j default).fr = (bn : Int) → (x.mv.getD j default).to ∈ set ++ r') ∧ (GrowN intR 1 1 H' a' (set ++ r')) ∧ f.t 2 = .box [.v (.int .i64 x.st), .v (.int .i64 x.s0), .v (.int .i64 x.inp), .v (.int .i64 x.out), .lst 4 (x.mv.map mvR) .unk] ∧ f.t 5 = .sl 1 0 0 (nst x) ∧ f.t 6 = a' ∧ f.t 7 = .v (.int .i64 (i : Nat)) ∧ f.t 8 = .v (.int .i64 (k : Nat)) ∧ f.ds = [] ∧ (H'.own 0 = some (.cells (flC (fl.set bn true))) ∧ 0 < H'.next)) ?_ ?_ (m := x.mv.length - (0))
      · exact ⟨0, .lst 1 ((set ++ r).map intR) (.live t), r, rfl, (by omega), (hw), (⟨[], by simp⟩), (fun j hj => by omega), (.inr ⟨t, t1, t2, rfl, t4⟩), (by first | rfl | exact f2), (by first | rfl | exact f5), (by first | rfl | exact f6), (by first | rfl | exact f7), (by first | rfl | exact f8), rfl, ⟨by simp, hH2⟩⟩
      · rintro m f H' ⟨k, a', r', rfl, hki, hw', hpre, hck, hg, f2, f5, f6, f7, f8, hds, hH⟩
        have hrl' := hw'.len hx
        obtain ⟨hH, hH2⟩ := hH
        obtain ⟨q, hq⟩ := hpre
        have hlt' : i < (set ++ r').length := by rw [hq]; simp at hlt ⊢; omega
        have hLi : (set ++ r').getD i default = (bn : Int) := by
          rw [hq, ← List.append_assoc, getD_append_left _ _ _ hlt, hbn]
        have hcalls : ∀ l : List Int, l.length ≤ 1010 → l.length < 2 ^ 40 := fun l h => by omega
        rcases hg with ⟨h0, _⟩ | ⟨t, t1, t2, rfl, t4⟩
        · rw [h0] at hlt'; simp at hlt'
        by_cases hklt : k < x.mv.length
        · have hgm := getD_map mvR x.mv k hklt
          have hmm := getD_mem (l := x.mv) hklt
          generalize hm : x.mv.getD k default = mk at hgm hmm
          have hmo := hx.mv mk hmm
          by_cases e1 : mk.fr = (bn : Int)
          · by_cases e2 : mk.kd = 2
            · simp only [List.length_map, ltT hklt, inR hklt, inR hlt', Int.toNat_natCast, hgm, mvR, getD_map intR (set ++ r') i hlt', intR, hLi, show (mk.fr == (bn : Int)) = true from beq_iff_eq.mpr e1, show (mk.kd == 2) = true from beq_iff_eq.mpr e2, f2, f5, f6, f7, f8, hds, Cd.cd35, Tk.t35, base0, base1, base2, base3, Option.isNone_none, Option.isNone_some, Nat.reduceBEq, true_or, or_true, false_or, or_false, Nat.reduceLT, Nat.reduceMod, Nat.reducePow, rmaps, nsucc, List.flatten_cons, List.flatten_nil, Nat.reduceEqDiff, Nat.reduceLeDiff, Nat.reduceAdd, Nat.reduceMul, Nat.reduceSub, ↓reduceIte, reduceCtorEq, decide_true, decide_false]
              refine (has76 (set ++ r') mk.to (hcalls _ (by simp; omega))).bgo' (Views.cons (View.tip fun rr hr => by
                obtain ⟨y, _, rfl⟩ := List.mem_map.mp hr
                exact FZs.v1 _) (Views.cons (FZ.v _).view Views.nil)) (Ground.v _) ?_
              by_cases hin : mk.to ∈ set ++ r'
              · simp only [decide_eq_true hin, f2, f5, f6, f7, f8, hds, Cd.cd35, Tk.t35, base0, base1, base2, base3, Option.isNone_none, Option.isNone_some, Nat.reduceBEq, true_or, or_true, false_or, or_false, Nat.reduceLT, Nat.reduceMod, Nat.reducePow, rmaps, nsucc, List.flatten_cons, List.flatten_nil, Nat.reduceEqDiff, Nat.reduceLeDiff, Nat.reduceAdd, Nat.reduceMul, Nat.reduceSub, ↓reduceIte, reduceCtorEq, decide_true, decide_false]
                exact ⟨_, by omega, k + 1, _, r', rfl, by omega, hw', ⟨q, hq⟩, allS hck (fun _ _ => by rw [hm]; exact hin), .inr ⟨t, t1, t2, rfl, t4⟩, rfl, by rw [wrapS (by omega)], hH, hH2⟩
              · have hr : roomA 8 ((set ++ r').length + 1) = true := room_of (by simp; omega) (by simp; omega)
                simp only [decide_eq_false hin, List.length_map, inR hklt, Int.toNat_natCast, hgm, mvR, t4, hr, f2, f5, f6, f7, f8, hds, Cd.cd35, Tk.t35, base0, base1, base2, base3, Option.isNone_none, Option.isNone_some, Nat.reduceBEq, true_or, or_true, false_or, or_false, Nat.reduceLT, Nat.reduceMod, Nat.reducePow, rmaps, nsucc, List.flatten_cons, List.flatten_nil, Nat.reduceEqDiff, Nat.reduceLeDiff, Nat.reduceAdd, Nat.reduceMul, Nat.reduceSub, ↓reduceIte, reduceCtorEq, decide_true, decide_false]
                refine ⟨_, by omega, k + 1, _, r' ++ [mk.to], rfl, by omega, hw'.add hx hs hmm e2 (by rw [e1, ← hLi]; exact getD_mem hlt') hin, ⟨q ++ [mk.to], by rw [hq, List.append_assoc]⟩, allS (fun j hj h1 h2 => ?_) (fun _ _ => by rw [hm]; simp), .inr ⟨t, t1, t2, by rw [← List.append_assoc]; simp [intR], by rw [← List.append_assoc]; simp; omega⟩, rfl, by rw [wrapS (by omega)], hH, hH2⟩
                rw [← List.append_assoc]
                exact List.mem_append.mpr (.inl (hck j hj h1 h2))
            · simp only [List.length_map, ltT hklt, inR hklt, inR hlt', Int.toNat_natCast, hgm, mvR, getD_map intR (set ++ r') i hlt', intR, hLi, show (mk.fr == (bn : Int)) = true from beq_iff_eq.mpr e1, show (mk.kd == 2) = false from beq_eq_false_iff_ne.mpr e2, f2, f5, f6, f7, f8, hds, Cd.cd35, Tk.t35, base0, base1, base2, base3, Option.isNone_none, Option.isNone_some, Nat.reduceBEq, true_or, or_true, false_or, or_false, Nat.reduceLT, Nat.reduceMod, Nat.reducePow, rmaps, nsucc, List.flatten_cons, List.flatten_nil, Nat.reduceEqDiff, Nat.reduceLeDiff, Nat.reduceAdd, Nat.reduceMul, Nat.reduceSub, ↓reduceIte, reduceCtorEq, decide_true, decide_false]
              exact ⟨_, by omega, k + 1, _, r', rfl, by omega, hw', ⟨q, hq⟩, allS hck (fun h _ => by rw [hm] at h; exact absurd h e2), .inr ⟨t, t1, t2, rfl, t4⟩, rfl, by rw [wrapS (by omega)], hH, hH2⟩
          · simp only [List.length_map, ltT hklt, inR hklt, inR hlt', Int.toNat_natCast, hgm, mvR, getD_map intR (set ++ r') i hlt', intR, hLi, show (mk.fr == (bn : Int)) = false from beq_eq_false_iff_ne.mpr e1, f2, f5, f6, f7, f8, hds, Cd.cd35, Tk.t35, base0, base1, base2, base3, Option.isNone_none, Option.isNone_some, Nat.reduceBEq, true_or, or_true, false_or, or_false, Nat.reduceLT, Nat.reduceMod, Nat.reducePow, rmaps, nsucc, List.flatten_cons, List.flatten_nil, Nat.reduceEqDiff, Nat.reduceLeDiff, Nat.reduceAdd, Nat.reduceMul, Nat.reduceSub, ↓reduceIte, reduceCtorEq, decide_true, decide_false]
            exact ⟨_, by omega, k + 1, _, r', rfl, by omega, hw', ⟨q, hq⟩, allS hck (fun _ h => by rw [hm] at h; exact absurd h e1), .inr ⟨t, t1, t2, rfl, t4⟩, rfl, by rw [wrapS (by omega)], hH, hH2⟩
        · have hk' : k = x.mv.length := by omega
          simp only [List.length_map, ltF hklt, f2, f5, f6, f7, f8, hds, Cd.cd35, Tk.t35, base0, base1, base2, base3, Option.isNone_none, Option.isNone_some, Nat.reduceBEq, true_or, or_true, false_or, or_false, Nat.reduceLT, Nat.reduceMod, Nat.reducePow, rmaps, nsucc, List.flatten_cons, List.flatten_nil, Nat.reduceEqDiff, Nat.reduceLeDiff, Nat.reduceAdd, Nat.reduceMul, Nat.reduceSub, ↓reduceIte, reduceCtorEq, decide_true, decide_false]
          have hrs : set ++ r' = (set ++ r) ++ q := by rw [hq, List.append_assoc]
          refine ⟨_, by simp at hlt'; omega, i + 1, _, r', fl.set bn true, rfl, by simp at hlt'; omega, hw', by simp [hfl], fun s hs => ?_, fun j hj m hm h1 h2 => ?_, .inr ⟨t, t1, t2, rfl, t4⟩, rfl, by rw [wrapS (by simp at hlt'; omega)], hH, hH2⟩
          · have hge : (set ++ r)[i] = (bn : Int) := by rw [← hbn, List.getD_eq_getElem?_getD, List.getElem?_eq_getElem hlt]; rfl
            have etk : ((set ++ r) ++ q).take (i + 1) = (set ++ r).take i ++ [(bn : Int)] := by
              rw [List.take_append_of_le_length (by omega), List.take_add_one, List.getElem?_eq_getElem hlt, hge]; rfl
            rw [getD_set _ _ _ (by omega), hfv s hs, hrs, etk, Bool.eq_iff_iff]
            simp only [Bool.or_eq_true, decide_eq_true_eq, List.mem_append (s := (set ++ r).take i), List.mem_singleton]
            constructor
            · rintro (rfl | h)
              · exact .inr rfl
              · exact .inl h
            · rintro (h | h)
              · exact .inr h
              · exact .inl (by omega)
          · by_cases hji : j < i
            · rw [hrs, getD_append_left _ _ _ (by omega)] at h2
              have := hcl j hji m hm h1 h2
              rw [hrs]; exact List.mem_append.mpr (.inl this)
            · have : j = i := by omega
              subst this
              rw [hLi] at h2
              obtain ⟨jj, hjj, rfl⟩ := mem_getD hm
              exact hck jj (by omega) h1 h2
    · have hi' : i = (set ++ r).length := by simp at hlt ⊢; omega
      have hC := hw.all hx hs fun a ha m hm h1 h2 => by
        obtain ⟨j, hj, rfl⟩ := mem_getD ha
        exact hcl j (by omega) m hm h1 h2
      have hasc : asc fl = bitsI (cl x (maskL set)) := asc_bits hx (cl_lt hx (set_lt hx hs)) hfl fun s hs' => by
        rw [hC s, hfv s hs', hi', List.take_length]
      have hn10 := hx.n
      have fin : ACall Tryd.prog 81 [.sl 1 0 0 (nst x)] H' (fun out H2 => out = .ret (setV (cl x (maskL set))) ∧ Kp H' H2) := by
        have := asc81 H' 0 fl (by omega) hH hH2
        rw [hfl, hasc] at this; exact this
      rcases hg with ⟨h0, rfl | rfl⟩ | ⟨t, t1, t2, rfl, t4⟩
      · have : i = 0 := by rw [hi', h0]; rfl
        subst this
        simp only [nilS, show decide (((0 : Nat) : Int) < 0) = false from rfl, f2, f5, f6, f7, hds, Cd.cd35, Tk.t35, base0, base1, base2, base3, Option.isNone_none, Option.isNone_some, Nat.reduceBEq, true_or, or_true, false_or, or_false, Nat.reduceLT, Nat.reduceMod, Nat.reducePow, rmaps, nsucc, List.flatten_cons, List.flatten_nil, Nat.reduceEqDiff, Nat.reduceLeDiff, Nat.reduceAdd, Nat.reduceMul, Nat.reduceSub, ↓reduceIte, reduceCtorEq, decide_true, decide_false]
        refine Kp.go fin fun H2 _ => ?_
        simp only [f2, f5, f6, f7, hds, Cd.cd35, Tk.t35, base0, base1, base2, base3, Option.isNone_none, Option.isNone_some, Nat.reduceBEq, true_or, or_true, false_or, or_false, Nat.reduceLT, Nat.reduceMod, Nat.reducePow, rmaps, nsucc, List.flatten_cons, List.flatten_nil, Nat.reduceEqDiff, Nat.reduceLeDiff, Nat.reduceAdd, Nat.reduceMul, Nat.reduceSub, ↓reduceIte, reduceCtorEq, decide_true, decide_false]
        exact ⟨_, _, rfl, (FZ.setV _).view, FZ.setV _, rfl⟩
      · have : i = 0 := by rw [hi', h0]; rfl
        subst this
        simp only [show decide (((0 : Nat) : Int) < ((0 : Nat) : Int)) = false from rfl, f2, f5, f6, f7, hds, Cd.cd35, Tk.t35, base0, base1, base2, base3, Option.isNone_none, Option.isNone_some, Nat.reduceBEq, true_or, or_true, false_or, or_false, Nat.reduceLT, Nat.reduceMod, Nat.reducePow, rmaps, nsucc, List.flatten_cons, List.flatten_nil, Nat.reduceEqDiff, Nat.reduceLeDiff, Nat.reduceAdd, Nat.reduceMul, Nat.reduceSub, ↓reduceIte, reduceCtorEq, decide_true, decide_false]
        refine Kp.go fin fun H2 _ => ?_
        simp only [f2, f5, f6, f7, hds, Cd.cd35, Tk.t35, base0, base1, base2, base3, Option.isNone_none, Option.isNone_some, Nat.reduceBEq, true_or, or_true, false_or, or_false, Nat.reduceLT, Nat.reduceMod, Nat.reducePow, rmaps, nsucc, List.flatten_cons, List.flatten_nil, Nat.reduceEqDiff, Nat.reduceLeDiff, Nat.reduceAdd, Nat.reduceMul, Nat.reduceSub, ↓reduceIte, reduceCtorEq, decide_true, decide_false]
        exact ⟨_, _, rfl, (FZ.setV _).view, FZ.setV _, rfl⟩
      · simp only [List.length_map, ltF hlt, f2, f5, f6, f7, hds, Cd.cd35, Tk.t35, base0, base1, base2, base3, Option.isNone_none, Option.isNone_some, Nat.reduceBEq, true_or, or_true, false_or, or_false, Nat.reduceLT, Nat.reduceMod, Nat.reducePow, rmaps, nsucc, List.flatten_cons, List.flatten_nil, Nat.reduceEqDiff, Nat.reduceLeDiff, Nat.reduceAdd, Nat.reduceMul, Nat.reduceSub, ↓reduceIte, reduceCtorEq, decide_true, decide_false]
        refine Kp.go fin fun H2 _ => ?_
        simp only [f2, f5, f6, f7, hds, Cd.cd35, Tk.t35, base0, base1, base2, base3, Option.isNone_none, Option.isNone_some, Nat.reduceBEq, true_or, or_true, false_or, or_false, Nat.reduceLT, Nat.reduceMod, Nat.reducePow, rmaps, nsucc, List.flatten_cons, List.flatten_nil, Nat.reduceEqDiff, Nat.reduceLeDiff, Nat.reduceAdd, Nat.reduceMul, Nat.reduceSub, ↓reduceIte, reduceCtorEq, decide_true, decide_false]
        exact ⟨_, _, rfl, (FZ.setV _).view, FZ.setV _, rfl⟩
end Go.Proofs.YtchpcjmgifnmdaaDoor

/- Walks: the reference's sets after events. -/
namespace Go.Proofs.YtchpcjmgifnmdaaDoor
open Go Go.Proofs.YtchpcjmgifnmdaaDoor.Ab
set_option maxRecDepth 100000
set_option linter.unusedSimpArgs false

def okMv (x : Re) (l e : Nat) (m : Mv) : Bool := decide (m.kd ≠ 2) && l.testBit m.fr.toNat && decide (evM x m = (e : Int))
def flA (x : Re) (l e s : Nat) : Bool := decide (e = silc x) && quietM x s && l.testBit s
def flM (x : Re) (l e k s : Nat) : Bool := flA x l e s || (x.mv.take k).any fun m => okMv x l e m && decide (m.to.toNat = s)
theorem flM_succ (x : Re) (l e s : Nat) {k : Nat} (h : k < x.mv.length) : flM x l e (k + 1) s = (flM x l e k s || (okMv x l e (x.mv.getD k default) && decide ((x.mv.getD k default).to.toNat = s))) := by
  unfold flM
  have : x.mv.take (k + 1) = x.mv.take k ++ [x.mv.getD k default] := by
    rw [List.take_add_one, List.getElem?_eq_getElem h, List.getD_eq_getElem?_getD, List.getElem?_eq_getElem h]; rfl
  rw [this, List.any_append, List.any_cons, List.any_nil, Bool.or_false, Bool.or_assoc]
theorem flM_all {x : Re} (hx : Ok x) {l e : Nat} (hl : l < 2 ^ nst x) (he : e ≤ silc x) (s : Nat) : flM x l e x.mv.length s = (rawA x l e).testBit s := by
  rw [Bool.eq_iff_iff, rawA_bit hx hl he]
  unfold flM flA okMv
  rw [List.take_length]
  simp only [Bool.or_eq_true, Bool.and_eq_true, decide_eq_true_eq, List.any_eq_true]
  constructor
  · rintro (⟨⟨h1, h2⟩, h3⟩ | ⟨m, hm, ⟨⟨h1, h2⟩, h3⟩, h4⟩)
    · exact .inl ⟨h1, h2, h3⟩
    · exact .inr ⟨m, hm, h1, h2, h3, h4⟩
  · rintro (⟨h1, h2, h3⟩ | ⟨m, hm, h1, h2, h3, h4⟩)
    · exact .inl ⟨⟨h1, h2⟩, h3⟩
    · exact .inr ⟨m, hm, ⟨⟨h1, h2⟩, h3⟩, h4⟩
theorem mem_bitsI {l : Nat} (h : l < 1024) {a : Int} (ha : 0 ≤ a) : decide (a ∈ bitsI l) = l.testBit a.toNat := by
  rw [Bool.eq_iff_iff, decide_eq_true_eq, ← bitsN_mem h]
  unfold bitsI
  rw [List.mem_map]
  constructor
  · rintro ⟨b, hb, rfl⟩; simpa using hb
  · intro hb; exact ⟨_, hb, Int.toNat_of_nonneg ha⟩
theorem quietR_eq {x : Re} (hx : Ok x) (a : Nat) : quietR x (a : Int) = quietM x a := (quietM_iff hx).symm
def flI (x : Re) (l e i s : Nat) : Bool := decide (e = silc x) && quietM x s && decide (s ∈ (bitsN l).take i)
theorem Kp.go' {P : Program} {m : FuncId} {args : List AV} {H : AH} {v : AV} {mu : List Nat} {Kt : Kont} {fm : AF} {dst : Option Nat} {ds : List DOp} {f : AF} {pd : List (Nat × Nat × ABlk)} {rd : List Nat} (h : ACall P m args H (fun out H' => out = .ret v ∧ Kp H H')) (h' : ∀ H', Kp H H' → dops P mu Kt fm ds (f.put dst v) H' pd rd) : ACall P m args H (dcallK P mu Kt fm dst ds f pd rd) :=
  h.mono fun out H' hx => by
    obtain ⟨rfl, h1⟩ := hx
    exact h' H' h1
set_option maxHeartbeats 2000000 in
theorem after64 (x : Re) (hx : Ok x) (l e : Nat) (hl : l < 2 ^ nst x) (he : e ≤ silc x) : FCall Tryd.prog 64 [reV x, setV l, .v (.int .i64 (e : Nat))] (· = setV (aft x l e)) := by
  have hst := hx.st
  have hlen := hx.len
  have hl' := hx.pw hl
  have hbl := bitsN_len l
  have en : x.st.toNat = nst x := rfl
  have hinp := hx.inp
  have hout := hx.out
  simp only [reV, reL, mvsV, setV, ints]
  refine ACall.enter [] Cd.fn64 (by simp) ?_
  simp only [show (0 ≤ x.st ∧ x.st ≤ 140737488355328 ∧ ((1 : Nat) : Int) * x.st ≤ 2 ^ 47) = True from by simp; omega, en, mkF, Cd.cd64, Tk.t64, base0, base1, base2, base3, Option.isNone_none, Option.isNone_some, Nat.reduceBEq, true_or, or_true, false_or, or_false, Nat.reduceLT, Nat.reduceMod, Nat.reducePow, rmaps, nsucc, List.flatten_cons, List.flatten_nil, Nat.reduceEqDiff, Nat.reduceLeDiff, Nat.reduceAdd, Nat.reduceMul, Nat.reduceSub, ↓reduceIte, reduceCtorEq, decide_true, decide_false]
  refine LWP.loop [] (fun m f H' => ∃ i fl, m = (bitsN l).length - i ∧ (i ≤ (bitsN l).length) ∧ (fl.length = nst x) ∧ (∀ s, s < nst x → fl.getD s false = flI x l e i s) ∧ f.t 1 = .lst 1 ((bitsI l).map fun x => [.v (.int .i64 x)]) .unk ∧ f.t 2 = .v (.int .i64 (e : Nat)) ∧ f.t 3 = .box [.v (.int .i64 x.st), .v (.int .i64 x.s0), .v (.int .i64 x.inp), .v (.int .i64 x.out), .lst 4 (x.mv.map mvR) .unk] ∧ f.t 7 = .sl 1 0 0 (nst x) ∧ f.t 8 = .v (.int .i64 (i : Nat)) ∧ f.ds = [] ∧ (H'.own 0 = some (.cells (flC fl)) ∧ 0 < H'.next)) ?_ ?_ (m := (bitsN l).length - (0))
  · exact ⟨0, List.replicate (nst x) false, rfl, (by omega), (by simp), (fun s hs => by simp [flI, List.getD_eq_getElem?_getD, List.getElem?_replicate, hs]), rfl, rfl, rfl, rfl, rfl, rfl, ⟨by simp [AH.none], by simp [AH.none]⟩⟩
  · rintro m f H' ⟨i, fl, rfl, hi, hfl, hfv, f1, f2, f3, f7, f8, hds, hH⟩
    obtain ⟨hH, hH2⟩ := hH
    by_cases hlt : i < (bitsN l).length
    · have hbl1 := bits_n hx hl (bitsN_bit (bits_at hlt))
      have htk : (bitsN l).take (i + 1) = (bitsN l).take i ++ [(bitsN l).getD i 0] := by
        rw [List.take_add_one, List.getElem?_eq_getElem hlt, List.getD_eq_getElem?_getD, List.getElem?_eq_getElem hlt]; rfl
      simp only [List.length_map, bitsI_len, ltT hlt, f1, f2, f3, f7, f8, hds, Cd.cd64, Tk.t64, base0, base1, base2, base3, Option.isNone_none, Option.isNone_some, Nat.reduceBEq, true_or, or_true, false_or, or_false, Nat.reduceLT, Nat.reduceMod, Nat.reducePow, rmaps, nsucc, List.flatten_cons, List.flatten_nil, Nat.reduceEqDiff, Nat.reduceLeDiff, Nat.reduceAdd, Nat.reduceMul, Nat.reduceSub, ↓reduceIte, reduceCtorEq, decide_true, decide_false]
      first | refine FCall.go (silence41 x) (FZs.one (FZ.reV x)) ?_ | refine FCall.go' (silence41 x) (FZs.one (FZ.reV x)) ?_ | refine FCall.goQ (silence41 x) (FZs.one (FZ.reV x)) ?_
      by_cases hes : e = silc x
      · have hq := quiet104 x (((bitsN l).getD i 0 : Nat) : Int) (by omega)
        rw [quietR_eq hx] at hq
        simp only [silc_eq hx, eqU, decide_eq_true hes, List.length_map, bitsI_len, inR hlt, Int.toNat_natCast, getD_bits hlt, f1, f2, f3, f7, f8, hds, Cd.cd64, Tk.t64, base0, base1, base2, base3, Option.isNone_none, Option.isNone_some, Nat.reduceBEq, true_or, or_true, false_or, or_false, Nat.reduceLT, Nat.reduceMod, Nat.reducePow, rmaps, nsucc, List.flatten_cons, List.flatten_nil, Nat.reduceEqDiff, Nat.reduceLeDiff, Nat.reduceAdd, Nat.reduceMul, Nat.reduceSub, ↓reduceIte, reduceCtorEq, decide_true, decide_false]
        first | refine FCall.go hq (FZs.two (FZ.reV x) (FZ.v _)) ?_ | refine FCall.go' hq (FZs.two (FZ.reV x) (FZ.v _)) ?_ | refine FCall.goQ hq (FZs.two (FZ.reV x) (FZ.v _)) ?_
        cases hqv : quietM x ((bitsN l).getD i 0)
        · simp only [f1, f2, f3, f7, f8, hds, Cd.cd64, Tk.t64, base0, base1, base2, base3, Option.isNone_none, Option.isNone_some, Nat.reduceBEq, true_or, or_true, false_or, or_false, Nat.reduceLT, Nat.reduceMod, Nat.reducePow, rmaps, nsucc, List.flatten_cons, List.flatten_nil, Nat.reduceEqDiff, Nat.reduceLeDiff, Nat.reduceAdd, Nat.reduceMul, Nat.reduceSub, ↓reduceIte, reduceCtorEq, decide_true, decide_false]
          refine ⟨_, by omega, i + 1, fl, rfl, by omega, hfl, fun s hs => ?_, by rw [wrapS (by omega)], hH, hH2⟩
          rw [hfv s hs, flI, flI, htk]
          by_cases hse : s = (bitsN l).getD i 0
          · rw [hse, hqv]; simp
          · simp only [List.mem_append, List.mem_singleton, hse, or_false]
        · simp only [List.length_map, bitsI_len, inR hlt, Int.toNat_natCast, getD_bits hlt, inR hbl1, hH, flC_len, hfl, Nat.mul_one, show ((bitsN l).getD i 0 + 1 ≤ nst x) = True from by simp only [eq_iff_iff, iff_true]; omega, setF (show (bitsN l).getD i 0 < fl.length by omega), f1, f2, f3, f7, f8, hds, Cd.cd64, Tk.t64, base0, base1, base2, base3, Option.isNone_none, Option.isNone_some, Nat.reduceBEq, true_or, or_true, false_or, or_false, Nat.reduceLT, Nat.reduceMod, Nat.reducePow, rmaps, nsucc, List.flatten_cons, List.flatten_nil, Nat.reduceEqDiff, Nat.reduceLeDiff, Nat.reduceAdd, Nat.reduceMul, Nat.reduceSub, ↓reduceIte, reduceCtorEq, decide_true, decide_false]
          refine ⟨_, by omega, i + 1, fl.set ((bitsN l).getD i 0) true, rfl, by omega, by simp [hfl], fun s hs => ?_, by rw [wrapS (by omega)], by simp, hH2⟩
          rw [getD_set _ _ _ (by omega), hfv s hs, flI, flI, htk, decide_eq_true hes]
          by_cases hse : s = (bitsN l).getD i 0
          · rw [hse, hqv]; simp
          · simp only [List.mem_append, List.mem_singleton, hse, or_false, decide_false, Bool.false_or]
      · simp only [silc_eq hx, eqU, decide_eq_false hes, f1, f2, f3, f7, f8, hds, Cd.cd64, Tk.t64, base0, base1, base2, base3, Option.isNone_none, Option.isNone_some, Nat.reduceBEq, true_or, or_true, false_or, or_false, Nat.reduceLT, Nat.reduceMod, Nat.reducePow, rmaps, nsucc, List.flatten_cons, List.flatten_nil, Nat.reduceEqDiff, Nat.reduceLeDiff, Nat.reduceAdd, Nat.reduceMul, Nat.reduceSub, ↓reduceIte, reduceCtorEq, decide_true, decide_false]
        refine ⟨_, by omega, i + 1, fl, rfl, by omega, hfl, fun s hs => ?_, by rw [wrapS (by omega)], hH, hH2⟩
        rw [hfv s hs, flI, flI, decide_eq_false hes]; rfl
    · have hi' : i = (bitsN l).length := by omega
      have hf0 : ∀ s, s < nst x → fl.getD s false = flM x l e 0 s := fun s hs => by
        rw [hfv s hs, flI, hi', List.take_length]
        unfold flM flA
        have : decide (s ∈ bitsN l) = l.testBit s := by rw [Bool.eq_iff_iff, decide_eq_true_eq, bitsN_mem hl']
        rw [this]; simp
      simp only [List.length_map, bitsI_len, ltF hlt, f1, f2, f3, f7, f8, hds, Cd.cd64, Tk.t64, base0, base1, base2, base3, Option.isNone_none, Option.isNone_some, Nat.reduceBEq, true_or, or_true, false_or, or_false, Nat.reduceLT, Nat.reduceMod, Nat.reducePow, rmaps, nsucc, List.flatten_cons, List.flatten_nil, Nat.reduceEqDiff, Nat.reduceLeDiff, Nat.reduceAdd, Nat.reduceMul, Nat.reduceSub, ↓reduceIte, reduceCtorEq, decide_true, decide_false]
      refine LWP.loop [] (fun m f H' => ∃ k fl, m = x.mv.length - k ∧ (k ≤ x.mv.length) ∧ (fl.length = nst x) ∧ (∀ s, s < nst x → fl.getD s false = flM x l e k s) ∧ f.t 1 = .lst 1 ((bitsI l).map fun x => [.v (.int .i64 x)]) .unk ∧ f.t 2 = .v (.int .i64 (e : Nat)) ∧ f.t 3 = .box [.v (.int .i64 x.st), .v (.int .i64 x.s0), .v (.int .i64 x.inp), .v (.int .i64 x.out), .lst 4 (x.mv.map mvR) .unk] ∧ f.t 7 = .sl 1 0 0 (nst x) ∧ f.t 9 = .v (.int .i64 (k : Nat)) ∧ f.ds = [] ∧ (H'.own 0 = some (.cells (flC fl)) ∧ 0 < H'.next)) ?_ ?_ (m := x.mv.length - (0))
      · exact ⟨0, fl, rfl, (by omega), (hfl), (hf0), f1, f2, f3, f7, (by first | rfl | exact f9), rfl, ⟨hH, hH2⟩⟩
      · rintro m f H' ⟨k, fl, rfl, hki, hfl, hfv, f1, f2, f3, f7, f9, hds, hH⟩
        obtain ⟨hH, hH2⟩ := hH
        by_cases hklt : k < x.mv.length
        · have hgm := getD_map mvR x.mv k hklt
          have hmm := getD_mem (l := x.mv) hklt
          have hsu := fun s => flM_succ x l e s hklt
          generalize hm : x.mv.getD k default = mk at hgm hmm hsu
          have hmo := hx.mv mk hmm
          have hto : mk.to.toNat < nst x := by have := hmo.to; unfold nst; omega
          obtain ⟨tn, htn⟩ : ∃ tn : Nat, mk.to = (tn : Int) := ⟨_, (Int.toNat_of_nonneg hmo.to.1).symm⟩
          have htl : tn < nst x := by rw [htn] at hto; simpa using hto
          have hne : (0 = H'.next) = False := by simp; omega
          have hno : okMv x l e mk = false → ∀ s, s < nst x → fl.getD s false = flM x l e (k + 1) s := fun h s hs => by rw [hsu s, h, hfv s hs]; simp
          have hyes : okMv x l e mk = true → ∀ s, s < nst x → (fl.set tn true).getD s false = flM x l e (k + 1) s := fun h s hs => by
            rw [hsu s, h, getD_set _ _ _ (by omega), hfv s hs, htn, Int.toNat_natCast, Bool.true_and, Bool.or_comm]
            congr 1
            rw [Bool.eq_iff_iff]; simp; exact eq_comm
          have hhas := mem_bitsI hl' hmo.fr.1
          simp only [List.length_map, ltT hklt, inR hklt, Int.toNat_natCast, hgm, mvR, f1, f2, f3, f7, f9, hds, Cd.cd64, Tk.t64, base0, base1, base2, base3, Option.isNone_none, Option.isNone_some, Nat.reduceBEq, true_or, or_true, false_or, or_false, Nat.reduceLT, Nat.reduceMod, Nat.reducePow, rmaps, nsucc, List.flatten_cons, List.flatten_nil, Nat.reduceEqDiff, Nat.reduceLeDiff, Nat.reduceAdd, Nat.reduceMul, Nat.reduceSub, ↓reduceIte, reduceCtorEq, decide_true, decide_false]
          first | refine FCall.go (has76 (bitsI l) mk.fr (by rw [bitsI_len]; omega)) (FZs.two (FZ.ints _) (FZ.v _)) ?_ | refine FCall.go' (has76 (bitsI l) mk.fr (by rw [bitsI_len]; omega)) (FZs.two (FZ.ints _) (FZ.v _)) ?_ | refine FCall.goQ (has76 (bitsI l) mk.fr (by rw [bitsI_len]; omega)) (FZs.two (FZ.ints _) (FZ.v _)) ?_
          rw [hhas]
          cases hb : l.testBit mk.fr.toNat
          · simp only [f1, f2, f3, f7, f9, hds, Cd.cd64, Tk.t64, base0, base1, base2, base3, Option.isNone_none, Option.isNone_some, Nat.reduceBEq, true_or, or_true, false_or, or_false, Nat.reduceLT, Nat.reduceMod, Nat.reducePow, rmaps, nsucc, List.flatten_cons, List.flatten_nil, Nat.reduceEqDiff, Nat.reduceLeDiff, Nat.reduceAdd, Nat.reduceMul, Nat.reduceSub, ↓reduceIte, reduceCtorEq, decide_true, decide_false]
            exact ⟨_, by omega, k + 1, fl, rfl, by omega, hfl, hno (by simp [okMv, hb]), by rw [wrapS (by omega)], by simp only [hne, if_false]; exact hH, by simp⟩
          · by_cases k0 : mk.kd = 0
            · have hev : evM x mk = mk.lb := by unfold evM; rw [if_pos k0]
              by_cases el : mk.lb = (e : Int)
              · simp only [show (mk.kd == 0) = true from beq_iff_eq.mpr k0, show (mk.lb == (e : Int)) = true from beq_iff_eq.mpr el, htn, inR htl, Int.toNat_natCast, hne, hH, flC_len, hfl, Nat.mul_one, show (tn + 1 ≤ nst x) = True from by simp only [eq_iff_iff, iff_true]; omega, setF (show tn < fl.length by omega), f1, f2, f3, f7, f9, hds, Cd.cd64, Tk.t64, base0, base1, base2, base3, Option.isNone_none, Option.isNone_some, Nat.reduceBEq, true_or, or_true, false_or, or_false, Nat.reduceLT, Nat.reduceMod, Nat.reducePow, rmaps, nsucc, List.flatten_cons, List.flatten_nil, Nat.reduceEqDiff, Nat.reduceLeDiff, Nat.reduceAdd, Nat.reduceMul, Nat.reduceSub, ↓reduceIte, reduceCtorEq, decide_true, decide_false]
                exact ⟨_, by omega, k + 1, fl.set tn true, rfl, by omega, by simp [hfl], hyes (by simp [okMv, hb, k0, hev, el]), by rw [wrapS (by omega)], by simp [hne], by simp⟩
              · simp only [show (mk.kd == 0) = true from beq_iff_eq.mpr k0, show (mk.lb == (e : Int)) = false from beq_eq_false_iff_ne.mpr el, show (mk.kd == 1) = false from beq_eq_false_iff_ne.mpr (by omega), f1, f2, f3, f7, f9, hds, Cd.cd64, Tk.t64, base0, base1, base2, base3, Option.isNone_none, Option.isNone_some, Nat.reduceBEq, true_or, or_true, false_or, or_false, Nat.reduceLT, Nat.reduceMod, Nat.reducePow, rmaps, nsucc, List.flatten_cons, List.flatten_nil, Nat.reduceEqDiff, Nat.reduceLeDiff, Nat.reduceAdd, Nat.reduceMul, Nat.reduceSub, ↓reduceIte, reduceCtorEq, decide_true, decide_false]
                exact ⟨_, by omega, k + 1, fl, rfl, by omega, hfl, hno (by simp [okMv, hev, el]), by rw [wrapS (by omega)], by simp only [hne, if_false]; exact hH, by simp⟩
            · by_cases k1 : mk.kd = 1
              · have hlb := hmo.lb
                unfold labels at hlb
                rw [if_neg k0, if_pos k1] at hlb
                have hev : evM x mk = x.inp + mk.lb := by unfold evM; rw [if_neg k0]
                have hw : IntKind.i64.wrap (x.inp + mk.lb) = x.inp + mk.lb := wrapI (by omega) (by omega)
                by_cases el : x.inp + mk.lb = (e : Int)
                · simp only [show (mk.kd == 0) = false from beq_eq_false_iff_ne.mpr k0, show (mk.kd == 1) = true from beq_iff_eq.mpr k1, hw, show (x.inp + mk.lb == (e : Int)) = true from beq_iff_eq.mpr el, htn, inR htl, Int.toNat_natCast, hne, hH, flC_len, hfl, Nat.mul_one, show (tn + 1 ≤ nst x) = True from by simp only [eq_iff_iff, iff_true]; omega, setF (show tn < fl.length by omega), f1, f2, f3, f7, f9, hds, Cd.cd64, Tk.t64, base0, base1, base2, base3, Option.isNone_none, Option.isNone_some, Nat.reduceBEq, true_or, or_true, false_or, or_false, Nat.reduceLT, Nat.reduceMod, Nat.reducePow, rmaps, nsucc, List.flatten_cons, List.flatten_nil, Nat.reduceEqDiff, Nat.reduceLeDiff, Nat.reduceAdd, Nat.reduceMul, Nat.reduceSub, ↓reduceIte, reduceCtorEq, decide_true, decide_false]
                  exact ⟨_, by omega, k + 1, fl.set tn true, rfl, by omega, by simp [hfl], hyes (by simp [okMv, hb, k1, hev, el]), by rw [wrapS (by omega)], by simp [hne], by simp⟩
                · simp only [show (mk.kd == 0) = false from beq_eq_false_iff_ne.mpr k0, show (mk.kd == 1) = true from beq_iff_eq.mpr k1, hw, show (x.inp + mk.lb == (e : Int)) = false from beq_eq_false_iff_ne.mpr el, f1, f2, f3, f7, f9, hds, Cd.cd64, Tk.t64, base0, base1, base2, base3, Option.isNone_none, Option.isNone_some, Nat.reduceBEq, true_or, or_true, false_or, or_false, Nat.reduceLT, Nat.reduceMod, Nat.reducePow, rmaps, nsucc, List.flatten_cons, List.flatten_nil, Nat.reduceEqDiff, Nat.reduceLeDiff, Nat.reduceAdd, Nat.reduceMul, Nat.reduceSub, ↓reduceIte, reduceCtorEq, decide_true, decide_false]
                  exact ⟨_, by omega, k + 1, fl, rfl, by omega, hfl, hno (by simp [okMv, hev, el]), by rw [wrapS (by omega)], by simp only [hne, if_false]; exact hH, by simp⟩
              · have k2 : mk.kd = 2 := by rcases hmo.kd with h | h | h <;> omega
                simp only [show (mk.kd == 0) = false from beq_eq_false_iff_ne.mpr k0, show (mk.kd == 1) = false from beq_eq_false_iff_ne.mpr k1, f1, f2, f3, f7, f9, hds, Cd.cd64, Tk.t64, base0, base1, base2, base3, Option.isNone_none, Option.isNone_some, Nat.reduceBEq, true_or, or_true, false_or, or_false, Nat.reduceLT, Nat.reduceMod, Nat.reducePow, rmaps, nsucc, List.flatten_cons, List.flatten_nil, Nat.reduceEqDiff, Nat.reduceLeDiff, Nat.reduceAdd, Nat.reduceMul, Nat.reduceSub, ↓reduceIte, reduceCtorEq, decide_true, decide_false]
                exact ⟨_, by omega, k + 1, fl, rfl, by omega, hfl, hno (by simp [okMv, k2]), by rw [wrapS (by omega)], by simp only [hne, if_false]; exact hH, by simp⟩
        · have hk' : k = x.mv.length := by omega
          have hraw := rawA_lt hx hl e
          have hasc : asc fl = bitsI (rawA x l e) := asc_bits hx hraw hfl fun s hs => by rw [hfv s hs, hk', flM_all hx hl he]
          have hn10 := hx.n
          have fin : ACall Tryd.prog 81 [.sl 1 0 0 (nst x)] H' (fun out H2 => out = .ret (ints (bitsI (rawA x l e))) ∧ Kp H' H2) := by
            have := asc81 H' 0 fl (by omega) hH hH2
            rw [hfl, hasc] at this; exact this
          have hcl := closed35 x hx (bitsI (rawA x l e)) (fun a ha => by
            have h1 := bitsI_mem ha
            have := bits_n hx hraw h1.2.2
            unfold nst at this; omega) (by rw [bitsI_len]; have := bitsN_len (rawA x l e); omega)
          rw [maskL_bits (hx.pw hraw)] at hcl
          simp only [List.length_map, ltF hklt, f1, f2, f3, f7, f9, hds, Cd.cd64, Tk.t64, base0, base1, base2, base3, Option.isNone_none, Option.isNone_some, Nat.reduceBEq, true_or, or_true, false_or, or_false, Nat.reduceLT, Nat.reduceMod, Nat.reducePow, rmaps, nsucc, List.flatten_cons, List.flatten_nil, Nat.reduceEqDiff, Nat.reduceLeDiff, Nat.reduceAdd, Nat.reduceMul, Nat.reduceSub, ↓reduceIte, reduceCtorEq, decide_true, decide_false]
          refine Kp.go' fin fun H2 _ => ?_
          simp only [f1, f2, f3, f7, f9, hds, Cd.cd64, Tk.t64, base0, base1, base2, base3, Option.isNone_none, Option.isNone_some, Nat.reduceBEq, true_or, or_true, false_or, or_false, Nat.reduceLT, Nat.reduceMod, Nat.reducePow, rmaps, nsucc, List.flatten_cons, List.flatten_nil, Nat.reduceEqDiff, Nat.reduceLeDiff, Nat.reduceAdd, Nat.reduceMul, Nat.reduceSub, ↓reduceIte, reduceCtorEq, decide_true, decide_false]
          refine hcl.go' (FZs.two (FZ.reV x) (FZ.ints _)) ?_
          simp only [f1, f2, f3, f7, f9, hds, Cd.cd64, Tk.t64, base0, base1, base2, base3, Option.isNone_none, Option.isNone_some, Nat.reduceBEq, true_or, or_true, false_or, or_false, Nat.reduceLT, Nat.reduceMod, Nat.reducePow, rmaps, nsucc, List.flatten_cons, List.flatten_nil, Nat.reduceEqDiff, Nat.reduceLeDiff, Nat.reduceAdd, Nat.reduceMul, Nat.reduceSub, ↓reduceIte, reduceCtorEq, decide_true, decide_false]
          exact ⟨_, _, rfl, (FZ.setV _).view, FZ.setV _, rfl⟩
end Go.Proofs.YtchpcjmgifnmdaaDoor

/- Walks: the reference's traces; copies. -/
namespace Go.Proofs.YtchpcjmgifnmdaaDoor
open Go Go.Proofs.YtchpcjmgifnmdaaDoor.Ab
set_option maxRecDepth 100000
set_option linter.unusedSimpArgs false

theorem ACall.args {P : Program} {m : FuncId} {H : AH} {R : AOut → AH → Prop} {a a' : List AV} (h : ACall P m a H R) (hv : ∀ g xs, VRs g a' xs → VRs g a xs) : ACall P m a' H R := ⟨h.1, fun g xs w hw hx => h.2 g xs w hw (hv g xs hx)⟩
theorem vr_unk {g : G} {k : Nat} {rows : List (List AV)} {tip : Tip} {x : Value} (h : VR g (.lst k rows tip) x) : VR g (.lst k rows .unk) x := by
  cases h with
  | lst q1 q2 q3 q4 q5 q6 q7 q8 => exact .lst q1 q2 q3 q4 q5 q6 q7 trivial
/-- a list whose room is known, where nothing is asked of it -/
theorem vrs_unk2 {a : AV} {k : Nat} {rows : List (List AV)} {tip : Tip} : ∀ g xs, VRs g [a, .lst k rows tip] xs → VRs g [a, .lst k rows .unk] xs := fun g xs h => ⟨h.1, fun j hj => by
  match j, hj with
  | 0, _ => exact h.2 0 (by simp)
  | 1, _ => exact vr_unk (h.2 1 (by simp))⟩
theorem init63 (x : Re) (hx : Ok x) : FCall Tryd.prog 63 [reV x] (· = setV (fstM x)) := by
  have h0 := hx.s0
  have hcl := closed35 x hx [x.s0] (fun a ha => by simp at ha; omega) (by simp)
  have hm : maskL [x.s0] = 2 ^ x.s0.toNat := by simp [maskL]
  rw [hm] at hcl
  have hc : FCall Tryd.prog 35 [reV x, .lst 1 [[.v (.int .i64 x.s0)]] .full] (· = setV (fstM x)) := ACall.args hcl vrs_unk2
  have hz : FZ (.lst 1 [[.v (.int .i64 x.s0)]] .full) := FZ.intL (l := [x.s0]) (tip := .full) rfl
  simp only [reV, reL, mvsV]
  refine ACall.enter [] Cd.fn63 (by simp) ?_
  simp only [Cd.cd63, Tk.t63, base0, base1, base2, base3, Option.isNone_none, Option.isNone_some, Nat.reduceBEq, true_or, or_true, false_or, or_false, Nat.reduceLT, Nat.reduceMod, Nat.reducePow, rmaps, nsucc, List.flatten_cons, List.flatten_nil, Nat.reduceEqDiff, Nat.reduceLeDiff, Nat.reduceAdd, Nat.reduceMul, Nat.reduceSub, ↓reduceIte, reduceCtorEq, decide_true, decide_false]
  first | refine FCall.go hc (FZs.two (FZ.reV x) hz) ?_ | refine FCall.go' hc (FZs.two (FZ.reV x) hz) ?_ | refine FCall.goQ hc (FZs.two (FZ.reV x) hz) ?_
  simp only [Cd.cd63, Tk.t63, base0, base1, base2, base3, Option.isNone_none, Option.isNone_some, Nat.reduceBEq, true_or, or_true, false_or, or_false, Nat.reduceLT, Nat.reduceMod, Nat.reducePow, rmaps, nsucc, List.flatten_cons, List.flatten_nil, Nat.reduceEqDiff, Nat.reduceLeDiff, Nat.reduceAdd, Nat.reduceMul, Nat.reduceSub, ↓reduceIte, reduceCtorEq, decide_true, decide_false]
  exact ⟨_, _, rfl, (FZ.setV _).view, FZ.setV _, rfl⟩
theorem follow31 (x : Re) (hx : Ok x) (tr : List Int) (hl : tr.length ≤ 1000000) (ht : ∀ e ∈ tr, 0 ≤ e ∧ e ≤ (silc x : Int)) : FCall Tryd.prog 31 [reV x, ints tr] (· = setV (alongM x tr)) := by
  simp only [reV, reL, mvsV]
  refine ACall.enter [] Cd.fn31 (by simp) ?_
  simp only [Cd.cd31, Tk.t31, base0, base1, base2, base3, Option.isNone_none, Option.isNone_some, Nat.reduceBEq, true_or, or_true, false_or, or_false, Nat.reduceLT, Nat.reduceMod, Nat.reducePow, rmaps, nsucc, List.flatten_cons, List.flatten_nil, Nat.reduceEqDiff, Nat.reduceLeDiff, Nat.reduceAdd, Nat.reduceMul, Nat.reduceSub, ↓reduceIte, reduceCtorEq, decide_true, decide_false]
  first | refine FCall.go (init63 x hx) (FZs.one (FZ.reV x)) ?_ | refine FCall.go' (init63 x hx) (FZs.one (FZ.reV x)) ?_ | refine FCall.goQ (init63 x hx) (FZs.one (FZ.reV x)) ?_
  simp only [ints, Cd.cd31, Tk.t31, base0, base1, base2, base3, Option.isNone_none, Option.isNone_some, Nat.reduceBEq, true_or, or_true, false_or, or_false, Nat.reduceLT, Nat.reduceMod, Nat.reducePow, rmaps, nsucc, List.flatten_cons, List.flatten_nil, Nat.reduceEqDiff, Nat.reduceLeDiff, Nat.reduceAdd, Nat.reduceMul, Nat.reduceSub, ↓reduceIte, reduceCtorEq, decide_true, decide_false]
  refine LWP.loop [] (fun m f H' => ∃ i, m = tr.length - i ∧ (i ≤ tr.length) ∧ f.t 1 = .lst 1 (tr.map fun x => [.v (.int .i64 x)]) .unk ∧ f.t 2 = .box [.v (.int .i64 x.st), .v (.int .i64 x.s0), .v (.int .i64 x.inp), .v (.int .i64 x.out), .lst 4 (x.mv.map mvR) .unk] ∧ f.t 5 = setV (alongP x tr i) ∧ f.t 6 = .v (.int .i64 (i : Nat)) ∧ f.ds = [] ∧ H' = AH.none) ?_ ?_ (m := tr.length - (0))
  · exact ⟨0, rfl, (by omega), rfl, rfl, rfl, rfl, rfl, rfl⟩
  · rintro m f H' ⟨i, rfl, hi, f1, f2, f5, f6, hds, rfl⟩
    by_cases hlt : i < tr.length
    · have hm := ht _ (getD_mem hlt)
      have he : tr.getD i 0 = ((tr.getD i default).toNat : Int) := by show tr.getD i default = _; omega
      simp only [ltT hlt, List.length_map, inR hlt, Int.toNat_natCast, getD_ints _ _ hlt, he, f1, f2, f5, f6, hds, Cd.cd31, Tk.t31, base0, base1, base2, base3, Option.isNone_none, Option.isNone_some, Nat.reduceBEq, true_or, or_true, false_or, or_false, Nat.reduceLT, Nat.reduceMod, Nat.reducePow, rmaps, nsucc, List.flatten_cons, List.flatten_nil, Nat.reduceEqDiff, Nat.reduceLeDiff, Nat.reduceAdd, Nat.reduceMul, Nat.reduceSub, ↓reduceIte, reduceCtorEq, decide_true, decide_false]
      first | refine FCall.go (after64 x hx _ _ (alongP_lt hx (tr.take i) _ (fst_lt hx)) (show (tr.getD i default).toNat ≤ silc x by omega)) (FZs.three (FZ.reV x) (FZ.setV _) (FZ.v _)) ?_ | refine FCall.go' (after64 x hx _ _ (alongP_lt hx (tr.take i) _ (fst_lt hx)) (show (tr.getD i default).toNat ≤ silc x by omega)) (FZs.three (FZ.reV x) (FZ.setV _) (FZ.v _)) ?_ | refine FCall.goQ (after64 x hx _ _ (alongP_lt hx (tr.take i) _ (fst_lt hx)) (show (tr.getD i default).toNat ≤ silc x by omega)) (FZs.three (FZ.reV x) (FZ.setV _) (FZ.v _)) ?_
      simp only [f1, f2, f5, f6, hds, Cd.cd31, Tk.t31, base0, base1, base2, base3, Option.isNone_none, Option.isNone_some, Nat.reduceBEq, true_or, or_true, false_or, or_false, Nat.reduceLT, Nat.reduceMod, Nat.reducePow, rmaps, nsucc, List.flatten_cons, List.flatten_nil, Nat.reduceEqDiff, Nat.reduceLeDiff, Nat.reduceAdd, Nat.reduceMul, Nat.reduceSub, ↓reduceIte, reduceCtorEq, decide_true, decide_false]
      refine ⟨_, by omega, i + 1, rfl, by omega, ?_⟩
      (repeat' apply And.intro) <;> first | rfl | (rw [wrapS (by omega)]) | omega | assumption | ((unfold alongP; rw [foldl_succ _ _ hlt]))
    · have hi' : i = tr.length := by omega
      simp only [List.length_map, ltF hlt, f1, f2, f5, f6, hds, Cd.cd31, Tk.t31, base0, base1, base2, base3, Option.isNone_none, Option.isNone_some, Nat.reduceBEq, true_or, or_true, false_or, or_false, Nat.reduceLT, Nat.reduceMod, Nat.reducePow, rmaps, nsucc, List.flatten_cons, List.flatten_nil, Nat.reduceEqDiff, Nat.reduceLeDiff, Nat.reduceAdd, Nat.reduceMul, Nat.reduceSub, ↓reduceIte, reduceCtorEq, decide_true, decide_false]
      refine ⟨_, _, rfl, (FZ.setV _).view, FZ.setV _, ?_⟩
      rw [hi', alongP, List.take_length]; rfl
def shownP (x : Re) (l k : Nat) : List Int := ((List.range k).filter fun e => shw x l e).map fun e : Nat => (e : Int)
def shownL (x : Re) (l : Nat) : List Int := shownP x l (silc x + 1)
theorem silc_le {x : Re} (hx : Ok x) : silc x ≤ 8 ∧ x.inp.toNat ≤ silc x := by
  have := hx.inp; have := hx.out; unfold silc; omega
theorem setV_pos {x : Re} (hx : Ok x) {l : Nat} (hl : l < 2 ^ nst x) : decide (((bitsN l).length : Int) > 0) = decide (l ≠ 0) := by
  have h := bitsN_nil (hx.pw hl)
  by_cases h0 : l = 0
  · rw [h.mpr h0]; simp [h0]
  · have : 0 < (bitsN l).length := List.length_pos_iff.mpr fun e => h0 (h.mp e)
    simp [h0]; omega
theorem own18 (x : Re) (hl : x.mv.length * 32 ≤ 140737488355328) : FCall Tryd.prog 18 [reV x] (· = reV x) := by
  simp only [reV, reL, mvsV]
  by_cases h0 : x.mv = []
  · refine ACall.enter [1] Cd.fn18 (by simp) ?_
    simp only [h0, Cd.cd18, Tk.t18, base0, base1, base2, base3, Option.isNone_none, Option.isNone_some, Nat.reduceBEq, true_or, or_true, false_or, or_false, Nat.reduceLT, Nat.reduceMod, Nat.reducePow, rmaps, nsucc, List.flatten_cons, List.flatten_nil, Nat.reduceEqDiff, Nat.reduceLeDiff, Nat.reduceAdd, Nat.reduceMul, Nat.reduceSub, ↓reduceIte, reduceCtorEq, decide_true, decide_false]
    have hz : FZ (reV x) := FZ.reV x
    simp only [reV, reL, mvsV, h0, List.map_nil] at hz
    exact ⟨_, _, rfl, Views.agg (Views.cons (FZ.v _).view (Views.cons (FZ.v _).view (Views.cons (FZ.v _).view (Views.cons (FZ.v _).view (Views.cons (View.tip fun r hr => by simp at hr) Views.nil))))), hz, rfl⟩
  · have hl0 : 0 < x.mv.length := List.length_pos_iff.mpr h0
    have hl' : (x.mv.length = 0) = False := by simp; exact h0
    have hr : roomA 32 x.mv.length = true := room_of (by omega) (by omega)
    refine ACall.enter [1] Cd.fn18 (by simp) ?_
    simp only [List.length_map, hl0, hl', hr, Cd.cd18, Tk.t18, base0, base1, base2, base3, Option.isNone_none, Option.isNone_some, Nat.reduceBEq, true_or, or_true, false_or, or_false, Nat.reduceLT, Nat.reduceMod, Nat.reducePow, rmaps, nsucc, List.flatten_cons, List.flatten_nil, Nat.reduceEqDiff, Nat.reduceLeDiff, Nat.reduceAdd, Nat.reduceMul, Nat.reduceSub, ↓reduceIte, reduceCtorEq, decide_true, decide_false]
    exact ⟨_, _, rfl, Views.agg (Views.cons (FZ.v _).view (Views.cons (FZ.v _).view (Views.cons (FZ.v _).view (Views.cons (FZ.v _).view (Views.cons (View.tip fun r hr => by
      obtain ⟨m, _, rfl⟩ := List.mem_map.mp hr
      exact FZs.mvR m) Views.nil))))), FZ.reV x, rfl⟩
end Go.Proofs.YtchpcjmgifnmdaaDoor

/- Walks: a system by its states. -/
namespace Go.Proofs.YtchpcjmgifnmdaaDoor
open Go Go.Proofs.YtchpcjmgifnmdaaDoor.Ab
set_option maxRecDepth 100000
set_option linter.unusedSimpArgs false

def uvC (k : Nat) (f : Nat → Nat) : List AV := (List.range k).map fun e => .v (.int .u64 (f e : Nat))
theorem uvC_len (k : Nat) (f : Nat → Nat) : (uvC k f).length = k := by simp [uvC]
theorem mkU (n : Nat) : List.map (fun i => [AV.v (.int .u64 0)].getD (i % 1) .any) (List.range (n * 1)) = uvC n fun _ => 0 := by
  unfold uvC
  rw [Nat.mul_one]
  apply List.map_congr_left
  intro i _
  simp [Nat.mod_one]
theorem uvC_drop {k s : Nat} (f : Nat → Nat) (h : s < k) : (List.drop s (uvC k f))[0]? = some (.v (.int .u64 (f s : Nat))) := by
  rw [List.getElem?_drop, Nat.add_zero]
  unfold uvC
  rw [List.getElem?_map, List.getElem?_range h]; rfl
theorem uvC_set {k s : Nat} (f : Nat → Nat) (v : Nat) (h : s < k) : List.take s (uvC k f) ++ AV.v (.int .u64 (v : Nat)) :: List.drop (s + 1) (uvC k f) = uvC k fun e => if e = s then v else f e := by
  apply List.ext_getElem?
  intro i
  have hl : (List.take s (uvC k f)).length = s := by rw [List.length_take, uvC_len]; omega
  by_cases h1 : i < s
  · rw [List.getElem?_append_left (by omega), List.getElem?_take_of_lt h1]
    unfold uvC
    rw [List.getElem?_map, List.getElem?_map, List.getElem?_range (by omega)]
    simp [show ¬ i = s by omega]
  · rw [List.getElem?_append_right (by omega), hl]
    by_cases h2 : i = s
    · subst h2
      rw [Nat.sub_self]
      unfold uvC
      rw [List.getElem?_map, List.getElem?_range h]; simp
    · obtain ⟨d, hd⟩ : ∃ d, i - s = d + 1 := ⟨i - s - 1, by omega⟩
      rw [hd, List.getElem?_cons_succ, List.getElem?_drop, show s + 1 + d = i by omega]
      unfold uvC
      rw [List.getElem?_map, List.getElem?_map]
      by_cases h3 : i < k
      · rw [List.getElem?_range h3]; simp [h2]
      · rw [List.getElem?_eq_none (by simp; omega)]; rfl
def enS (k n : Nat) : List AV := [.sl 1 n 0 k]
def headV (x : Re) : List AV := [.v (.int .i64 x.st), .v (.int .i64 x.s0), .v (.int .i64 x.inp), .v (.int .i64 x.out), .lst 4 (x.mv.map mvR) .unk]
/-- the program's system, as it is built: the sets by state and event are `f`, those of silent moves `s` -/
structure SysO (x : Re) (H : AH) (byA : AV) (nms : List Nat) (f : Nat → Nat → Nat) (s : Nat → Nat) : Prop where
  g : GrowN (enS (silc x)) 1 2 H byA nms
  nm : ∀ j, j < nms.length → 2 ≤ nms.getD j 0 ∧ nms.getD j 0 < H.next ∧ H.own (nms.getD j 0) = some (.cells (uvC (silc x) (f j)))
  nd : nms.Nodup
  o0 : H.own 0 = some (.cells (uvC (nst x) s))
  o1 : H.own 1 = some (.cells [.v (.int .i64 x.st), .v (.int .i64 x.s0), .v (.int .i64 x.inp), .v (.int .i64 x.out), .lst 4 (x.mv.map mvR) .unk, byA, .sl 1 0 0 (nst x)])
  n2 : 2 ≤ H.next
theorem SysO.push {x : Re} {H H2 : AH} {byA a2 : AV} {nms : List Nat} {s : Nat → Nat} (h : SysO x H byA nms (fun _ _ => 0) s) (hg : GrowN (enS (silc x)) 1 2 H2 a2 (nms ++ [H.next]))
    (ho : ∀ m, H2.own m = if m = 1 then some (.cells [.v (.int .i64 x.st), .v (.int .i64 x.s0), .v (.int .i64 x.inp), .v (.int .i64 x.out), .lst 4 (x.mv.map mvR) .unk, a2, .sl 1 0 0 (nst x)]) else if m = H.next then some (.cells (uvC (silc x) fun _ => 0)) else H.own m)
    (hn : H.next < H2.next) : SysO x H2 a2 (nms ++ [H.next]) (fun _ _ => 0) s := by
  have h2 := h.n2
  refine ⟨hg, fun j hj => ?_, ?_, ?_, ?_, by omega⟩
  · by_cases h1 : j < nms.length
    · obtain ⟨a, b, c⟩ := h.nm j h1
      rw [getD_append_left _ _ _ h1]
      exact ⟨a, by omega, by rw [ho, if_neg (by omega), if_neg (by omega)]; exact c⟩
    · have : j = nms.length := by simp at hj; omega
      subst this
      rw [getD_append_len]
      exact ⟨h2, hn, by rw [ho, if_neg (by omega), if_pos rfl]⟩
  · rw [List.nodup_append]
    refine ⟨h.nd, by simp, fun a ha b hb => ?_⟩
    simp only [List.mem_singleton] at hb
    subst hb
    obtain ⟨j, hj, rfl⟩ := mem_getD ha
    have := (h.nm j hj).2.1
    show nms.getD j 0 ≠ _
    omega
  · rw [ho, if_neg (by omega), if_neg (by omega)]; exact h.o0
  · rw [ho, if_pos rfl]
theorem nodup_getD {l : List Nat} (h : l.Nodup) {i j : Nat} (hi : i < l.length) (hj : j < l.length) (he : l.getD i 0 = l.getD j 0) : i = j := by
  rw [List.getD_eq_getElem?_getD, List.getD_eq_getElem?_getD, List.getElem?_eq_getElem hi, List.getElem?_eq_getElem hj] at he
  exact (List.getElem_inj (h₀ := hi) (h₁ := hj) h).mp he
theorem GrowN.tips {α : Type} {enc : α → List AV} {k N : Nat} {H H' : AH} {a : AV} {l : List α} (h : GrowN enc k N H a l) (hn : H.next ≤ H'.next) (ht : H'.tip = H.tip) : GrowN enc k N H' a l := by
  rcases h with h | ⟨t, h1, h2, h3, h4⟩
  · exact .inl h
  · exact .inr ⟨t, h1, Nat.lt_of_lt_of_le h2 hn, h3, by rw [ht]; exact h4⟩
theorem SysO.setBy {x : Re} {H H2 : AH} {byA : AV} {nms : List Nat} {f f' : Nat → Nat → Nat} {s : Nat → Nat} (h : SysO x H byA nms f s) {a : Nat} (ha : a < nms.length) 
    (ho : ∀ m, m < H.next → H2.own m = if m = nms.getD a 0 then some (.cells (uvC (silc x) (f' a))) else H.own m) (hf : ∀ j, j ≠ a → f' j = f j)
    (hn : H.next ≤ H2.next) (ht : H2.tip = H.tip) : SysO x H2 byA nms f' s := by
  have h2 := h.n2
  have hna := h.nm a ha
  refine ⟨h.g.tips hn ht, fun j hj => ?_, h.nd, ?_, ?_, by omega⟩
  · obtain ⟨p, q, r⟩ := h.nm j hj
    refine ⟨p, by omega, ?_⟩
    rw [ho _ q]
    by_cases hja : j = a
    · subst hja; rw [if_pos rfl]
    · rw [if_neg fun e => hja (nodup_getD h.nd hj ha e), hf j hja]; exact r
  · rw [ho 0 (by omega), if_neg (by omega)]; exact h.o0
  · rw [ho 1 (by omega), if_neg (by omega)]; exact h.o1
theorem SysO.setSil {x : Re} {H H2 : AH} {byA : AV} {nms : List Nat} {f : Nat → Nat → Nat} {s s' : Nat → Nat} (h : SysO x H byA nms f s) 
    (ho : ∀ m, m < H.next → H2.own m = if m = 0 then some (.cells (uvC (nst x) s')) else H.own m) (hn : H.next ≤ H2.next) (ht : H2.tip = H.tip) : SysO x H2 byA nms f s' := by
  have h2 := h.n2
  refine ⟨h.g.tips hn ht, fun j hj => ?_, h.nd, ?_, ?_, by omega⟩
  · obtain ⟨p, q, r⟩ := h.nm j hj
    exact ⟨p, by omega, by rw [ho _ q, if_neg (by omega)]; exact r⟩
  · rw [ho 0 (by omega), if_pos rfl]
  · rw [ho 1 (by omega), if_neg (by omega)]; exact h.o1
theorem shlN {n : Nat} (h : n < 10) : IntKind.u64.wrap (1 * 2 ^ (min n IntKind.u64.bits)) = ((2 ^ n : Nat) : Int) := by
  have := shlU h
  rwa [Int.toNat_natCast] at this
theorem silP_succ (x : Re) {k : Nat} (h : k < x.mv.length) (a : Nat) : silP (x.mv.take (k + 1)) a = if decide ((x.mv.getD k default).kd = 2) && decide ((x.mv.getD k default).fr = (a : Int)) then silP (x.mv.take k) a ||| 2 ^ (x.mv.getD k default).to.toNat else silP (x.mv.take k) a := by
  unfold silP; rw [foldl_succ _ _ h]
theorem byP_succ (x : Re) {k : Nat} (h : k < x.mv.length) (a e : Nat) : byP x (x.mv.take (k + 1)) a e = if decide ((x.mv.getD k default).kd ≠ 2) && decide ((x.mv.getD k default).fr = (a : Int)) && decide (evM x (x.mv.getD k default) = (e : Int)) then byP x (x.mv.take k) a e ||| 2 ^ (x.mv.getD k default).to.toNat else byP x (x.mv.take k) a e := by
  unfold byP; rw [foldl_succ _ _ h]
theorem viewU {H : AH} {n k : Nat} {f : Nat → Nat} (h : H.own n = some (.cells (uvC k f))) : View H (.sl 1 n 0 k) (rowU k f) := by
  have hg : ∀ i, i < k → ((List.range k).map fun e => [uv (f e)]).getD i [] = [uv (f i)] := fun i hi => getD_range _ _ _ hi
  refine View.sl h (by rw [uvC_len]; omega) (by simp) (fun i hi => by rw [hg i hi]; rfl) fun i j hi hj => ?_
  have hj0 : j = 0 := by omega
  subst hj0
  rw [hg i hi]
  have : (uvC k f).getD (0 + i * 1 + 0) .any = uv (f i) := by
    unfold uvC
    rw [List.getD_eq_getElem?_getD, List.getElem?_map, List.getElem?_range (by omega)]
    simp [uv]
  rw [this]
  exact (FZ.v _).view
theorem viewSys {x : Re} {H : AH} {nms : List Nat} {t : Nat} (h : SysO x H (.lst 1 (nms.map (enS (silc x))) (.live t)) nms (byM x) (silM x)) (hl : nms.length = nst x) : View H (.ptr 1 0) (sysV x) := by
  have hby : View H (.lst 1 (nms.map (enS (silc x))) (.live t)) (byV x) := by
    have hg : ∀ i, i < nst x → ((List.range (nst x)).map fun a => [rowU (silc x) (byM x a)]).getD i [] = [rowU (silc x) (byM x i)] := fun i hi => getD_range _ _ _ hi
    have hg' : ∀ i, i < nst x → (nms.map (enS (silc x))).getD i [] = [.sl 1 (nms.getD i 0) 0 (silc x)] := fun i hi => getD_map (enS (silc x)) nms i (by omega)
    refine View.lst (by simp [hl]) (fun i hi => ?_) fun i j hi hj => ?_
    · rw [hg i (by simpa [hl] using hi), hg' i (by simpa [hl] using hi)]; rfl
    · have hj0 : j = 0 := by omega
      subst hj0
      have hi' : i < nst x := by simpa [hl] using hi
      rw [hg i hi', hg' i hi']
      exact viewU (h.nm i (by omega)).2.2
  refine View.ptr h.o1 (by simp [sysL, reL]) fun j hj => ?_
  have hj7 : j < 7 := by simpa [sysL, reL] using hj
  match j, hj7 with
  | 0, _ => exact (FZ.v _).view
  | 1, _ => exact (FZ.v _).view
  | 2, _ => exact (FZ.v _).view
  | 3, _ => exact (FZ.v _).view
  | 4, _ => exact (FZ.mvsV x.mv).view
  | 5, _ => exact hby
  | 6, _ => exact viewU h.o0
set_option maxHeartbeats 2000000 in
theorem system71 (x : Re) (hx : Ok x) : FCall Tryd.prog 71 [reV x] (· = sysV x) := by
  have hst := hx.st
  have hlen := hx.len
  have hinp := hx.inp
  have hout := hx.out
  have hsc := silc_le hx
  have hn10 := hx.n
  have en : x.st.toNat = nst x := rfl
  simp only [reV, reL, mvsV]
  refine ACall.enter [12] Cd.fn71 (by simp) ?_
  simp only [show (0 ≤ x.st ∧ x.st ≤ 140737488355328 ∧ ((8 : Nat) : Int) * x.st ≤ 2 ^ 47) = True from by simp; omega, en, mkU, Cd.cd71, Tk.t71, base0, base1, base2, base3, Option.isNone_none, Option.isNone_some, Nat.reduceBEq, true_or, or_true, false_or, or_false, Nat.reduceLT, Nat.reduceMod, Nat.reducePow, rmaps, nsucc, List.flatten_cons, List.flatten_nil, Nat.reduceEqDiff, Nat.reduceLeDiff, Nat.reduceAdd, Nat.reduceMul, Nat.reduceSub, ↓reduceIte, reduceCtorEq, decide_true, decide_false]
  refine LWP.loop [] (fun m f H' => ∃ i byA nms, m = nst x - i ∧ (i ≤ nst x) ∧ (nms.length = i) ∧ (SysO x H' byA nms (fun _ _ => 0) (fun _ => 0)) ∧ f.t 1 = .box [.v (.int .i64 x.st), .v (.int .i64 x.s0), .v (.int .i64 x.inp), .v (.int .i64 x.out), .lst 4 (x.mv.map mvR) .unk] ∧ f.t 3 = .ptr 1 0 ∧ f.t 14 = .v (.int .i64 x.st) ∧ f.t 15 = .v (.int .i64 (i : Nat)) ∧ f.ds = [] ∧ True) ?_ ?_ (m := nst x - (0))
  · exact ⟨0, nilS, [], rfl, (by omega), (rfl), (⟨.inl ⟨rfl, .inl rfl⟩, fun j hj => by simp at hj, List.nodup_nil, by simp [AH.none], by simp [AH.none, nilS], by simp [AH.none]⟩), rfl, rfl, rfl, rfl, rfl, trivial⟩
  · rintro m f H' ⟨i, byA, nms, rfl, hi, hl, hS, f1, f3, f14, f15, hds, hH⟩
    have ho1 := hS.o1
    have hn2 := hS.n2
    by_cases hlt : i < nst x
    · have hr : roomA 24 (nms.length + 1) = true := room_of (by omega) (by omega)
      have hmk : (0 ≤ ((silc x : Nat) : Int) ∧ ((silc x : Nat) : Int) ≤ 140737488355328 ∧ ((8 : Nat) : Int) * ((silc x : Nat) : Int) ≤ 2 ^ 47) = True := by simp; omega
      have hx1 : decide (((i : Nat) : Int) < x.st) = true := decide_eq_true (by unfold nst at hlt; omega)
      rcases hS.g with ⟨h0, rfl | rfl⟩ | ⟨t, t1, t2, rfl, t4⟩
      · have h1n : (1 = H'.next) = False := by simp; omega
        simp only [hx1, nilS, ho1, silc_eq hx, hmk, Int.toNat_natCast, mkU, show roomA 24 1 = true from rfl, h1n, f1, f3, f14, f15, hds, Cd.cd71, Tk.t71, base0, base1, base2, base3, Option.isNone_none, Option.isNone_some, Nat.reduceBEq, true_or, or_true, false_or, or_false, Nat.reduceLT, Nat.reduceMod, Nat.reducePow, rmaps, nsucc, List.flatten_cons, List.flatten_nil, Nat.reduceEqDiff, Nat.reduceLeDiff, Nat.reduceAdd, Nat.reduceMul, Nat.reduceSub, ↓reduceIte, reduceCtorEq, decide_true, decide_false]
        refine ⟨_, by omega, i + 1, _, _, rfl, by omega, by simp [hl], hS.push (.inr ⟨H'.next + 1, by omega, by simp, by rw [h0]; rfl, by rw [h0]; simp⟩) (fun m => rfl) (show H'.next < H'.next + 1 + 1 by omega), by rw [wrapS (by omega)]⟩
      · have h1n : (1 = H'.next) = False := by simp; omega
        simp only [hx1, ho1, silc_eq hx, hmk, Int.toNat_natCast, mkU, show roomA 24 1 = true from rfl, h1n, f1, f3, f14, f15, hds, Cd.cd71, Tk.t71, base0, base1, base2, base3, Option.isNone_none, Option.isNone_some, Nat.reduceBEq, true_or, or_true, false_or, or_false, Nat.reduceLT, Nat.reduceMod, Nat.reducePow, rmaps, nsucc, List.flatten_cons, List.flatten_nil, Nat.reduceEqDiff, Nat.reduceLeDiff, Nat.reduceAdd, Nat.reduceMul, Nat.reduceSub, ↓reduceIte, reduceCtorEq, decide_true, decide_false]
        refine ⟨_, by omega, i + 1, _, _, rfl, by omega, by simp [hl], hS.push (.inr ⟨H'.next + 1, by omega, by simp, by rw [h0]; rfl, by rw [h0]; simp⟩) (fun m => rfl) (show H'.next < H'.next + 1 + 1 by omega), by rw [wrapS (by omega)]⟩
      · have h1n : (1 = H'.next) = False := by simp; omega
        simp only [hx1, ho1, silc_eq hx, hmk, Int.toNat_natCast, mkU, t4, hr, List.length_map, h1n, f1, f3, f14, f15, hds, Cd.cd71, Tk.t71, base0, base1, base2, base3, Option.isNone_none, Option.isNone_some, Nat.reduceBEq, true_or, or_true, false_or, or_false, Nat.reduceLT, Nat.reduceMod, Nat.reducePow, rmaps, nsucc, List.flatten_cons, List.flatten_nil, Nat.reduceEqDiff, Nat.reduceLeDiff, Nat.reduceAdd, Nat.reduceMul, Nat.reduceSub, ↓reduceIte, reduceCtorEq, decide_true, decide_false]
        refine ⟨_, by omega, i + 1, _, _, rfl, by omega, by simp [hl], hS.push (.inr ⟨t, t1, by simp; omega, by simp [enS], by simp⟩) (fun m => rfl) (by simp), by rw [wrapS (by omega)]⟩
    · have hi' : i = nst x := by omega
      have hx1 : decide (((i : Nat) : Int) < x.st) = false := decide_eq_false (by unfold nst at hlt; omega)
      have hlS : nms.length = nst x := by omega
      have hS0 : SysO x H' byA nms (fun a e => byP x (x.mv.take 0) a e) (fun a => silP (x.mv.take 0) a) := hS
      simp only [hx1, List.length_map, f1, f3, f14, f15, hds, Cd.cd71, Tk.t71, base0, base1, base2, base3, Option.isNone_none, Option.isNone_some, Nat.reduceBEq, true_or, or_true, false_or, or_false, Nat.reduceLT, Nat.reduceMod, Nat.reducePow, rmaps, nsucc, List.flatten_cons, List.flatten_nil, Nat.reduceEqDiff, Nat.reduceLeDiff, Nat.reduceAdd, Nat.reduceMul, Nat.reduceSub, ↓reduceIte, reduceCtorEq, decide_true, decide_false]
      refine LWP.loop [] (fun m f H' => ∃ k, m = x.mv.length - k ∧ (k ≤ x.mv.length) ∧ (SysO x H' byA nms (fun a e => byP x (x.mv.take k) a e) (fun a => silP (x.mv.take k) a)) ∧ f.t 1 = .box [.v (.int .i64 x.st), .v (.int .i64 x.s0), .v (.int .i64 x.inp), .v (.int .i64 x.out), .lst 4 (x.mv.map mvR) .unk] ∧ f.t 3 = .ptr 1 0 ∧ f.t 34 = .lst 4 (x.mv.map mvR) .unk ∧ f.t 35 = .v (.int .i64 (x.mv.length : Nat)) ∧ f.t 36 = .v (.int .i64 (k : Nat)) ∧ f.ds = [] ∧ True) ?_ ?_ (m := x.mv.length - (0))
      · exact ⟨0, rfl, (by omega), (hS0), f1, f3, (by first | rfl | exact f34), (by first | rfl | exact f35), (by first | rfl | exact f36), rfl, trivial⟩
      · rintro m f H' ⟨k, rfl, hki, hS, f1, f3, f34, f35, f36, hds, hH⟩
        have ho1 := hS.o1
        have ho0 := hS.o0
        have hn2 := hS.n2
        by_cases hklt : k < x.mv.length
        · have hgm := getD_map mvR x.mv k hklt
          have hmm := getD_mem (l := x.mv) hklt
          have hsS := silP_succ x hklt
          have hsB := byP_succ x hklt
          generalize hm : x.mv.getD k default = mk at hgm hmm hsS hsB
          have hmo := hx.mv mk hmm
          obtain ⟨tn, htn⟩ : ∃ tn : Nat, mk.to = (tn : Int) := ⟨_, (Int.toNat_of_nonneg hmo.to.1).symm⟩
          obtain ⟨an, han⟩ : ∃ an : Nat, mk.fr = (an : Int) := ⟨_, (Int.toNat_of_nonneg hmo.fr.1).symm⟩
          have htl : tn < nst x := by have := hmo.to; unfold nst; omega
          have hal : an < nst x := by have := hmo.fr; unfold nst; omega
          have hsub : ∀ m ∈ x.mv.take k, m ∈ x.mv := fun m h => List.mem_of_mem_take h
          have hp2 : 2 ^ tn < 1024 := (Nat.pow_lt_pow_right (by omega : 1 < 2) (show tn < 10 by omega) : 2 ^ tn < 2 ^ 10)
          have hnx1 : (0 = H'.next) = False := by simp; omega
          have hnx2 : (1 = H'.next) = False := by simp; omega
          rcases hS.g with ⟨h0, _⟩ | ⟨t, t1, t2, rfl, t4⟩
          · rw [h0] at hlS; simp at hlS; omega
          have htl10 : tn < 10 := by omega
          have hnl : an < nms.length := by omega
          have hgn : (nms.map (enS (silc x))).getD an [] = [.sl 1 (nms.getD an 0) 0 (silc x)] := getD_map (enS (silc x)) nms an hnl
          obtain ⟨nm1, nm2, nm3⟩ := hS.nm an hnl
          generalize hnm : nms.getD an 0 = nm at hgn nm1 nm2 nm3
          have nmn : (nm = H'.next) = False := by simp; omega
          by_cases k0 : mk.kd = 0
          · have hlb := hmo.lb
            unfold labels at hlb
            rw [if_pos k0] at hlb
            have hev : evM x mk = mk.lb := by unfold evM; rw [if_pos k0]
            obtain ⟨en, hen⟩ : ∃ en : Nat, evM x mk = (en : Int) := ⟨_, (Int.toNat_of_nonneg (by rw [hev]; omega)).symm⟩
            rw [hev] at hen
            have hel : en < silc x := by unfold silc; omega
            have eb : (fun a e => byP x (x.mv.take (k + 1)) a e) = fun a e => if a = an ∧ e = en then byP x (x.mv.take k) an en ||| 2 ^ tn else byP x (x.mv.take k) a e := by
              funext a e
              rw [hsB, k0, htn, han, hev, hen, Int.toNat_natCast]
              by_cases q : a = an ∧ e = en
              · obtain ⟨rfl, rfl⟩ := q
                simp
              · rw [if_neg q, if_neg]
                simp only [Bool.and_eq_true, decide_eq_true_eq, not_and]
                intro h1 h2; exact q ⟨by omega, by omega⟩
            have es : (fun a => silP (x.mv.take (k + 1)) a) = fun a => silP (x.mv.take k) a := by
              funext a
              rw [hsS, k0]; simp
            simp only [List.length_map, ltT hklt, inR hklt, Int.toNat_natCast, hgm, mvR, show (mk.kd == 0) = true from beq_iff_eq.mpr k0, htn, han, hen, show ((tn : Int) < 0) = False from by simp, hnx1, hnx2, ho1, hgn, inR hnl, inR hel, nm3, nmn, Nat.mul_one, Nat.zero_add, uvC_drop _ hel, shlN htl10, orU (hx.pw (byP_lt hx hsub an en)) hp2, uvC_len, show (en + 1 ≤ silc x) = True from by simp only [eq_iff_iff, iff_true]; omega, uvC_set _ _ hel, f1, f3, f34, f35, f36, hds, Cd.cd71, Tk.t71, base0, base1, base2, base3, Option.isNone_none, Option.isNone_some, Nat.reduceBEq, true_or, or_true, false_or, or_false, Nat.reduceLT, Nat.reduceMod, Nat.reducePow, rmaps, nsucc, List.flatten_cons, List.flatten_nil, Nat.reduceEqDiff, Nat.reduceLeDiff, Nat.reduceAdd, Nat.reduceMul, Nat.reduceSub, ↓reduceIte, reduceCtorEq, decide_true, decide_false]
            refine ⟨_, by omega, k + 1, rfl, by omega, ?_, by rw [wrapS (by omega)]⟩
            rw [es, eb]
            refine hS.setBy (a := an) (by omega) (fun m hm => ?_) (fun j hj => by funext e; simp [hj]) (by show H'.next ≤ H'.next + 1; omega) rfl
            simp only [show ¬ m = H'.next by omega, if_false, true_and]
            rw [hnm]
          · by_cases k1 : mk.kd = 1
            · have hlb := hmo.lb
              unfold labels at hlb
              rw [if_neg k0, if_pos k1] at hlb
              have hev : evM x mk = x.inp + mk.lb := by unfold evM; rw [if_neg k0]
              obtain ⟨en, hen⟩ : ∃ en : Nat, evM x mk = (en : Int) := ⟨_, (Int.toNat_of_nonneg (by rw [hev]; omega)).symm⟩
              rw [hev] at hen
              have hel : en < silc x := by unfold silc; omega
              have eb : (fun a e => byP x (x.mv.take (k + 1)) a e) = fun a e => if a = an ∧ e = en then byP x (x.mv.take k) an en ||| 2 ^ tn else byP x (x.mv.take k) a e := by
                funext a e
                rw [hsB, k1, htn, han, hev, hen, Int.toNat_natCast]
                by_cases q : a = an ∧ e = en
                · obtain ⟨rfl, rfl⟩ := q
                  simp
                · rw [if_neg q, if_neg]
                  simp only [Bool.and_eq_true, decide_eq_true_eq, not_and]
                  intro h1 h2; exact q ⟨by omega, by omega⟩
              have es : (fun a => silP (x.mv.take (k + 1)) a) = fun a => silP (x.mv.take k) a := by
                funext a
                rw [hsS, k1]; simp
              simp only [List.length_map, ltT hklt, inR hklt, Int.toNat_natCast, hgm, mvR, show (mk.kd == 0) = false from beq_eq_false_iff_ne.mpr k0, show (mk.kd == 1) = true from beq_iff_eq.mpr k1, show IntKind.i64.wrap ((en : Nat) : Int) = ((en : Nat) : Int) from wrapI (by omega) (by omega), htn, han, hen, show ((tn : Int) < 0) = False from by simp, hnx1, hnx2, ho1, hgn, inR hnl, inR hel, nm3, nmn, Nat.mul_one, Nat.zero_add, uvC_drop _ hel, shlN htl10, orU (hx.pw (byP_lt hx hsub an en)) hp2, uvC_len, show (en + 1 ≤ silc x) = True from by simp only [eq_iff_iff, iff_true]; omega, uvC_set _ _ hel, f1, f3, f34, f35, f36, hds, Cd.cd71, Tk.t71, base0, base1, base2, base3, Option.isNone_none, Option.isNone_some, Nat.reduceBEq, true_or, or_true, false_or, or_false, Nat.reduceLT, Nat.reduceMod, Nat.reducePow, rmaps, nsucc, List.flatten_cons, List.flatten_nil, Nat.reduceEqDiff, Nat.reduceLeDiff, Nat.reduceAdd, Nat.reduceMul, Nat.reduceSub, ↓reduceIte, reduceCtorEq, decide_true, decide_false]
              refine ⟨_, by omega, k + 1, rfl, by omega, ?_, by rw [wrapS (by omega)]⟩
              rw [es, eb]
              refine hS.setBy (a := an) (by omega) (fun m hm => ?_) (fun j hj => by funext e; simp [hj]) (by show H'.next ≤ H'.next + 1; omega) rfl
              simp only [show ¬ m = H'.next by omega, if_false, true_and]
              rw [hnm]
            · have k2 : mk.kd = 2 := by rcases hmo.kd with h | h | h <;> omega
              have es : (fun a => silP (x.mv.take (k + 1)) a) = fun a => if a = an then silP (x.mv.take k) an ||| 2 ^ tn else silP (x.mv.take k) a := by
                funext a
                rw [hsS, k2, htn, han, Int.toNat_natCast]
                by_cases q : a = an
                · subst q; simp
                · rw [if_neg q, if_neg]
                  simp only [Bool.and_eq_true, decide_eq_true_eq, not_and]
                  intro h1 h2; exact q (by omega)
              have eb : (fun a e => byP x (x.mv.take (k + 1)) a e) = fun a e => byP x (x.mv.take k) a e := by
                funext a e
                rw [hsB, k2]; simp
              simp only [List.length_map, ltT hklt, inR hklt, Int.toNat_natCast, hgm, mvR, show (mk.kd == 0) = false from beq_eq_false_iff_ne.mpr k0, show (mk.kd == 1) = false from beq_eq_false_iff_ne.mpr k1, htn, han, show ((tn : Int) < 0) = False from by simp, hnx1, hnx2, ho1, ho0, inR hal, Nat.mul_one, Nat.zero_add, uvC_drop _ hal, shlN htl10, orU (hx.pw (silP_lt hx hsub an)) hp2, uvC_len, show (an + 1 ≤ nst x) = True from by simp only [eq_iff_iff, iff_true]; omega, uvC_set _ _ hal, f1, f3, f34, f35, f36, hds, Cd.cd71, Tk.t71, base0, base1, base2, base3, Option.isNone_none, Option.isNone_some, Nat.reduceBEq, true_or, or_true, false_or, or_false, Nat.reduceLT, Nat.reduceMod, Nat.reducePow, rmaps, nsucc, List.flatten_cons, List.flatten_nil, Nat.reduceEqDiff, Nat.reduceLeDiff, Nat.reduceAdd, Nat.reduceMul, Nat.reduceSub, ↓reduceIte, reduceCtorEq, decide_true, decide_false]
              refine ⟨_, by omega, k + 1, rfl, by omega, ?_, by rw [wrapS (by omega)]⟩
              rw [es, eb]
              refine hS.setSil (fun m hm => ?_) (by show H'.next ≤ H'.next + 1; omega) rfl
              simp only [show ¬ m = H'.next by omega, if_false]
        · have hk' : k = x.mv.length := by omega
          simp only [List.length_map, ltF hklt, f1, f3, f34, f35, f36, hds, Cd.cd71, Tk.t71, base0, base1, base2, base3, Option.isNone_none, Option.isNone_some, Nat.reduceBEq, true_or, or_true, false_or, or_false, Nat.reduceLT, Nat.reduceMod, Nat.reducePow, rmaps, nsucc, List.flatten_cons, List.flatten_nil, Nat.reduceEqDiff, Nat.reduceLeDiff, Nat.reduceAdd, Nat.reduceMul, Nat.reduceSub, ↓reduceIte, reduceCtorEq, decide_true, decide_false]
          rw [hk', List.take_length] at hS
          rcases hS.g with ⟨h0, _⟩ | ⟨t, t1, t2, rfl, t4⟩
          · rw [h0] at hlS; simp at hlS; omega
          exact ⟨_, _, rfl, viewSys hS (by omega), FZ.sysV x, rfl⟩
end Go.Proofs.YtchpcjmgifnmdaaDoor

/- Walks: traces and sets are checked; the states after a trace, what a set can show. -/
namespace Go.Proofs.YtchpcjmgifnmdaaDoor
open Go Go.Proofs.YtchpcjmgifnmdaaDoor.Ab
set_option maxRecDepth 100000
set_option linter.unusedSimpArgs false

theorem nil_view {H : AH} : View H nilS nilS := (FZ.v _).view
theorem FZ.nilS : FZ nilS := FZ.v _
def oddB (x : Re) (e : Int) : Bool := !within e 0 (IntKind.i64.wrap (x.inp + x.out))
theorem odd109 (x : Re) (e : Int) : FCall Tryd.prog 109 [.v (.int .i64 e), .box (reL x)] (· = .v (.bool (oddB x e))) := by
  simp only [reL, mvsV]
  refine ACall.enter [] Cd.fn109 (by simp) ?_
  simp only [Cd.cd109, Tk.t109, base0, base1, base2, base3, Option.isNone_none, Option.isNone_some, Nat.reduceBEq, true_or, or_true, false_or, or_false, Nat.reduceLT, Nat.reduceMod, Nat.reducePow, rmaps, nsucc, List.flatten_cons, List.flatten_nil, Nat.reduceEqDiff, Nat.reduceLeDiff, Nat.reduceAdd, Nat.reduceMul, Nat.reduceSub, ↓reduceIte, reduceCtorEq, decide_true, decide_false]
  first | refine FCall.go (spans66 _ _ _) (FZs.v3 _ _ _) ?_ | refine FCall.go' (spans66 _ _ _) (FZs.v3 _ _ _) ?_ | refine FCall.goQ (spans66 _ _ _) (FZs.v3 _ _ _) ?_
  simp only [Cd.cd109, Tk.t109, base0, base1, base2, base3, Option.isNone_none, Option.isNone_some, Nat.reduceBEq, true_or, or_true, false_or, or_false, Nat.reduceLT, Nat.reduceMod, Nat.reducePow, rmaps, nsucc, List.flatten_cons, List.flatten_nil, Nat.reduceEqDiff, Nat.reduceLeDiff, Nat.reduceAdd, Nat.reduceMul, Nat.reduceSub, ↓reduceIte, reduceCtorEq, decide_true, decide_false]
  exact fin_v rfl
def ixI (l : List Int) (p : Int → Bool) : Option Nat := firstIx l.length fun i => p (l.getD i 0)
theorem index123 (l : List Int) (fn : FuncId) (cs : List AV) (p : Int → Bool) (hb : l.length < 2 ^ 40) (hz : FZs cs) (hf : ∀ x, FCall Tryd.prog fn (.v (.int .i64 x) :: cs) (· = .v (.bool (p x)))) :
    FCall Tryd.prog 123 [ints l, .fn (.func fn) [] cs] (· = .v (.int .i64 (match ixI l p with | some i => (i : Int) | none => -1))) := by
  simp only [ints]
  refine ACall.enter [] Cd.fn123 (by simp) ?_
  simp only [List.length_map, Cd.cd123, Tk.t123, base0, base1, base2, base3, Option.isNone_none, Option.isNone_some, Nat.reduceBEq, true_or, or_true, false_or, or_false, Nat.reduceLT, Nat.reduceMod, Nat.reducePow, rmaps, nsucc, List.flatten_cons, List.flatten_nil, Nat.reduceEqDiff, Nat.reduceLeDiff, Nat.reduceAdd, Nat.reduceMul, Nat.reduceSub, ↓reduceIte, reduceCtorEq, decide_true, decide_false]
  refine LWP.loop [] (fun m f H' => ∃ i, m = l.length - i ∧ (i ≤ l.length) ∧ (∀ j, j < i → p (l.getD j 0) = false) ∧ f.t 0 = .lst 1 (l.map fun x => [.v (.int .i64 x)]) .unk ∧ f.t 1 = .fn (.func fn) [] cs ∧ f.t 7 = .v (.int .i64 (l.length : Nat)) ∧ f.t 8 = .v (.int .i64 (i : Nat)) ∧ f.ds = [] ∧ H' = AH.none) ?_ ?_ (m := l.length - (0))
  · exact ⟨0, rfl, (by omega), (fun j hj => by omega), rfl, rfl, rfl, rfl, rfl, rfl⟩
  · rintro m f H' ⟨i, rfl, hi, hok, f0, f1, f7, f8, hds, rfl⟩
    by_cases hlt : i < l.length
    · simp only [List.length_map, ltT hlt, inR hlt, Int.toNat_natCast, getD_ints l i hlt, f0, f1, f7, f8, hds, Cd.cd123, Tk.t123, base0, base1, base2, base3, Option.isNone_none, Option.isNone_some, Nat.reduceBEq, true_or, or_true, false_or, or_false, Nat.reduceLT, Nat.reduceMod, Nat.reducePow, rmaps, nsucc, List.flatten_cons, List.flatten_nil, Nat.reduceEqDiff, Nat.reduceLeDiff, Nat.reduceAdd, Nat.reduceMul, Nat.reduceSub, ↓reduceIte, reduceCtorEq, decide_true, decide_false]
      refine (hf (l.getD i 0)).go (FZs.cons (FZ.v _) hz) ?_
      cases hp : p (l.getD i 0)
      · simp only [f0, f1, f7, f8, hds, Cd.cd123, Tk.t123, base0, base1, base2, base3, Option.isNone_none, Option.isNone_some, Nat.reduceBEq, true_or, or_true, false_or, or_false, Nat.reduceLT, Nat.reduceMod, Nat.reducePow, rmaps, nsucc, List.flatten_cons, List.flatten_nil, Nat.reduceEqDiff, Nat.reduceLeDiff, Nat.reduceAdd, Nat.reduceMul, Nat.reduceSub, ↓reduceIte, reduceCtorEq, decide_true, decide_false]
        refine ⟨_, by omega, i + 1, rfl, by omega, ?_⟩
        (repeat' apply And.intro) <;> first | rfl | (rw [wrapS (by omega)]) | omega | assumption | (exact allS hok hp)
      · simp only [f0, f1, f7, f8, hds, Cd.cd123, Tk.t123, base0, base1, base2, base3, Option.isNone_none, Option.isNone_some, Nat.reduceBEq, true_or, or_true, false_or, or_false, Nat.reduceLT, Nat.reduceMod, Nat.reducePow, rmaps, nsucc, List.flatten_cons, List.flatten_nil, Nat.reduceEqDiff, Nat.reduceLeDiff, Nat.reduceAdd, Nat.reduceMul, Nat.reduceSub, ↓reduceIte, reduceCtorEq, decide_true, decide_false]
        refine fin_v ?_
        rw [show ixI l p = some i from firstIx_some hlt hp hok]
    · have hk' : i = l.length := by omega
      simp only [List.length_map, ltF hlt, f0, f1, f7, f8, hds, Cd.cd123, Tk.t123, base0, base1, base2, base3, Option.isNone_none, Option.isNone_some, Nat.reduceBEq, true_or, or_true, false_or, or_false, Nat.reduceLT, Nat.reduceMod, Nat.reducePow, rmaps, nsucc, List.flatten_cons, List.flatten_nil, Nat.reduceEqDiff, Nat.reduceLeDiff, Nat.reduceAdd, Nat.reduceMul, Nat.reduceSub, ↓reduceIte, reduceCtorEq, decide_true, decide_false]
      refine fin_v ?_
      rw [show ixI l p = none from firstIx_none (by rw [← hk']; exact hok)]
theorem ixI_any (l : List Int) (p : Int → Bool) : decide ((match ixI l p with | some i => (i : Int) | none => -1) ≥ 0) = l.any p := by
  unfold ixI
  cases h : firstIx l.length (fun i => p (l.getD i 0)) with
  | none =>
    rw [firstIx_none_iff] at h
    rw [List.any_eq_false.mpr]
    · rfl
    · intro x hx
      obtain ⟨i, hi, rfl⟩ := mem_getD hx
      have := h i hi
      show ¬ p (l.getD i 0) = true
      rw [this]; simp
  | some i =>
    have h1 := List.find?_some h
    have h2 := List.mem_of_find?_eq_some h
    have hi := List.mem_range.mp h2
    rw [List.any_eq_true.mpr ⟨_, getD_mem hi, h1⟩]
    simp
theorem contains110 (l : List Int) (fn : FuncId) (cs : List AV) (p : Int → Bool) (hb : l.length < 2 ^ 40) (hz : FZs cs) (hf : ∀ x, FCall Tryd.prog fn (.v (.int .i64 x) :: cs) (· = .v (.bool (p x)))) :
    FCall Tryd.prog 110 [ints l, .fn (.func fn) [] cs] (· = .v (.bool (l.any p))) := by
  refine ACall.enter [] Cd.fn110 (by simp) ?_
  simp only [Cd.cd110, Tk.t110, base0, base1, base2, base3, Option.isNone_none, Option.isNone_some, Nat.reduceBEq, true_or, or_true, false_or, or_false, Nat.reduceLT, Nat.reduceMod, Nat.reducePow, rmaps, nsucc, List.flatten_cons, List.flatten_nil, Nat.reduceEqDiff, Nat.reduceLeDiff, Nat.reduceAdd, Nat.reduceMul, Nat.reduceSub, ↓reduceIte, reduceCtorEq, decide_true, decide_false]
  refine (index123 l fn cs p hb hz hf).go (FZs.two (FZ.ints _) (FZ.fn FZs.nil hz)) ?_
  simp only [Cd.cd110, Tk.t110, base0, base1, base2, base3, Option.isNone_none, Option.isNone_some, Nat.reduceBEq, true_or, or_true, false_or, or_false, Nat.reduceLT, Nat.reduceMod, Nat.reducePow, rmaps, nsucc, List.flatten_cons, List.flatten_nil, Nat.reduceEqDiff, Nat.reduceLeDiff, Nat.reduceAdd, Nat.reduceMul, Nat.reduceSub, ↓reduceIte, reduceCtorEq, decide_true, decide_false]
  exact fin_v (by rw [← ixI_any])
def trErr (x : Re) (tr : List Int) : Int := if 40 < tr.length then 2 else if tr.any (oddB x) then 3 else 0
theorem traceErr77 (x : Re) (tr : List Int) : FCall Tryd.prog 77 [reV x, ints tr] (· = .v (.int .i64 (trErr x tr))) := by
  have hb : FZ (.box (reL x)) := FZ.box (FZs.reL x)
  have hbe : AV.box (reL x) = .box [.v (.int .i64 x.st), .v (.int .i64 x.s0), .v (.int .i64 x.inp), .v (.int .i64 x.out), .lst 4 (x.mv.map mvR) .unk] := rfl
  simp only [reV, reL, mvsV]
  refine ACall.enter [] Cd.fn77 (by simp) ?_
  by_cases hl : 40 < tr.length
  · simp only [ints, List.length_map, show decide (((tr.length : Nat) : Int) > 40) = true from decide_eq_true (by omega), Cd.cd77, Tk.t77, base0, base1, base2, base3, Option.isNone_none, Option.isNone_some, Nat.reduceBEq, true_or, or_true, false_or, or_false, Nat.reduceLT, Nat.reduceMod, Nat.reducePow, rmaps, nsucc, List.flatten_cons, List.flatten_nil, Nat.reduceEqDiff, Nat.reduceLeDiff, Nat.reduceAdd, Nat.reduceMul, Nat.reduceSub, ↓reduceIte, reduceCtorEq, decide_true, decide_false]
    exact fin_v (by rw [trErr, if_pos hl])
  · simp only [ints, List.length_map, show decide (((tr.length : Nat) : Int) > 40) = false from decide_eq_false (by omega), Cd.cd77, Tk.t77, base0, base1, base2, base3, Option.isNone_none, Option.isNone_some, Nat.reduceBEq, true_or, or_true, false_or, or_false, Nat.reduceLT, Nat.reduceMod, Nat.reducePow, rmaps, nsucc, List.flatten_cons, List.flatten_nil, Nat.reduceEqDiff, Nat.reduceLeDiff, Nat.reduceAdd, Nat.reduceMul, Nat.reduceSub, ↓reduceIte, reduceCtorEq, decide_true, decide_false]
    refine (contains110 tr 109 [.box (reL x)] (oddB x) (by omega) (FZs.one hb) (fun e => odd109 x e)).go (FZs.two (FZ.ints _) (FZ.fn FZs.nil (FZs.one hb))) ?_
    simp only [Cd.cd77, Tk.t77, base0, base1, base2, base3, Option.isNone_none, Option.isNone_some, Nat.reduceBEq, true_or, or_true, false_or, or_false, Nat.reduceLT, Nat.reduceMod, Nat.reducePow, rmaps, nsucc, List.flatten_cons, List.flatten_nil, Nat.reduceEqDiff, Nat.reduceLeDiff, Nat.reduceAdd, Nat.reduceMul, Nat.reduceSub, ↓reduceIte, reduceCtorEq, decide_true, decide_false]
    first | refine FCall.go (unless61 _ _) (FZs.v2 _ _) ?_ | refine FCall.go' (unless61 _ _) (FZs.v2 _ _) ?_ | refine FCall.goQ (unless61 _ _) (FZs.v2 _ _) ?_
    simp only [Cd.cd77, Tk.t77, base0, base1, base2, base3, Option.isNone_none, Option.isNone_some, Nat.reduceBEq, true_or, or_true, false_or, or_false, Nat.reduceLT, Nat.reduceMod, Nat.reducePow, rmaps, nsucc, List.flatten_cons, List.flatten_nil, Nat.reduceEqDiff, Nat.reduceLeDiff, Nat.reduceAdd, Nat.reduceMul, Nat.reduceSub, ↓reduceIte, reduceCtorEq, decide_true, decide_false]
    refine fin_v ?_
    rw [trErr, if_neg hl]
    cases tr.any (oddB x) <;> rfl
theorem trErr_ok {x : Re} (hx : Ok x) {tr : List Int} (h : trErr x tr = 0) : tr.length ≤ 40 ∧ ∀ e ∈ tr, 0 ≤ e ∧ e ≤ (silc x : Int) := by
  unfold trErr at h
  by_cases h1 : 40 < tr.length
  · rw [if_pos h1] at h; simp at h
  rw [if_neg h1] at h
  cases h2 : tr.any (oddB x)
  · refine ⟨by omega, fun e he => ?_⟩
    have := List.any_eq_false.mp h2 e he
    simp only [oddB, Bool.not_eq_true', Bool.not_eq_false, silc_eq hx] at this
    exact within_iff.mp this
  · rw [h2] at h; simp at h
def afterR (x : Re) (tr : List Int) : AV := if errR x ≠ 0 then .tup [nilS, .v (.int .i64 (errR x))] else if trErr x tr ≠ 0 then .tup [nilS, .v (.int .i64 (trErr x tr))] else .tup [setV (alongM x tr), .v (.int .i64 0)]
theorem afterTrace29 (x : Re) (tr : List Int) : FCall Tryd.prog 29 [reV x, ints tr] (· = afterR x tr) := by
  simp only [reV, reL, mvsV]
  refine ACall.enter [] Cd.fn29 (by simp) ?_
  simp only [Cd.cd29, Tk.t29, base0, base1, base2, base3, Option.isNone_none, Option.isNone_some, Nat.reduceBEq, true_or, or_true, false_or, or_false, Nat.reduceLT, Nat.reduceMod, Nat.reducePow, rmaps, nsucc, List.flatten_cons, List.flatten_nil, Nat.reduceEqDiff, Nat.reduceLeDiff, Nat.reduceAdd, Nat.reduceMul, Nat.reduceSub, ↓reduceIte, reduceCtorEq, decide_true, decide_false]
  first | refine FCall.go (sysErr70 x) (FZs.one (FZ.reV x)) ?_ | refine FCall.go' (sysErr70 x) (FZs.one (FZ.reV x)) ?_ | refine FCall.goQ (sysErr70 x) (FZs.one (FZ.reV x)) ?_
  by_cases h1 : errR x = 0
  · have hx := ok_of_check h1
    simp only [show (errR x != 0) = false from by rw [h1]; rfl, Cd.cd29, Tk.t29, base0, base1, base2, base3, Option.isNone_none, Option.isNone_some, Nat.reduceBEq, true_or, or_true, false_or, or_false, Nat.reduceLT, Nat.reduceMod, Nat.reducePow, rmaps, nsucc, List.flatten_cons, List.flatten_nil, Nat.reduceEqDiff, Nat.reduceLeDiff, Nat.reduceAdd, Nat.reduceMul, Nat.reduceSub, ↓reduceIte, reduceCtorEq, decide_true, decide_false]
    first | refine FCall.go (traceErr77 x tr) (FZs.two (FZ.reV x) (FZ.ints _)) ?_ | refine FCall.go' (traceErr77 x tr) (FZs.two (FZ.reV x) (FZ.ints _)) ?_ | refine FCall.goQ (traceErr77 x tr) (FZs.two (FZ.reV x) (FZ.ints _)) ?_
    by_cases h2 : trErr x tr = 0
    · obtain ⟨h3, h4⟩ := trErr_ok hx h2
      simp only [show (trErr x tr != 0) = false from by rw [h2]; rfl, Cd.cd29, Tk.t29, base0, base1, base2, base3, Option.isNone_none, Option.isNone_some, Nat.reduceBEq, true_or, or_true, false_or, or_false, Nat.reduceLT, Nat.reduceMod, Nat.reducePow, rmaps, nsucc, List.flatten_cons, List.flatten_nil, Nat.reduceEqDiff, Nat.reduceLeDiff, Nat.reduceAdd, Nat.reduceMul, Nat.reduceSub, ↓reduceIte, reduceCtorEq, decide_true, decide_false]
      first | refine FCall.go (system71 x hx) (FZs.one (FZ.reV x)) ?_ | refine FCall.go' (system71 x hx) (FZs.one (FZ.reV x)) ?_ | refine FCall.goQ (system71 x hx) (FZs.one (FZ.reV x)) ?_
      simp only [Cd.cd29, Tk.t29, base0, base1, base2, base3, Option.isNone_none, Option.isNone_some, Nat.reduceBEq, true_or, or_true, false_or, or_false, Nat.reduceLT, Nat.reduceMod, Nat.reducePow, rmaps, nsucc, List.flatten_cons, List.flatten_nil, Nat.reduceEqDiff, Nat.reduceLeDiff, Nat.reduceAdd, Nat.reduceMul, Nat.reduceSub, ↓reduceIte, reduceCtorEq, decide_true, decide_false]
      first | refine FCall.go (along78 x hx tr (by omega) (fun e he => (h4 e he).1)) (FZs.two (FZ.sysV x) (FZ.ints _)) ?_ | refine FCall.go' (along78 x hx tr (by omega) (fun e he => (h4 e he).1)) (FZs.two (FZ.sysV x) (FZ.ints _)) ?_ | refine FCall.goQ (along78 x hx tr (by omega) (fun e he => (h4 e he).1)) (FZs.two (FZ.sysV x) (FZ.ints _)) ?_
      simp only [Cd.cd29, Tk.t29, base0, base1, base2, base3, Option.isNone_none, Option.isNone_some, Nat.reduceBEq, true_or, or_true, false_or, or_false, Nat.reduceLT, Nat.reduceMod, Nat.reducePow, rmaps, nsucc, List.flatten_cons, List.flatten_nil, Nat.reduceEqDiff, Nat.reduceLeDiff, Nat.reduceAdd, Nat.reduceMul, Nat.reduceSub, ↓reduceIte, reduceCtorEq, decide_true, decide_false]
      first | refine FCall.go (states62 _ (hx.pw (along_lt hx tr))) (FZs.v1 _) ?_ | refine FCall.go' (states62 _ (hx.pw (along_lt hx tr))) (FZs.v1 _) ?_ | refine FCall.goQ (states62 _ (hx.pw (along_lt hx tr))) (FZs.v1 _) ?_
      simp only [Cd.cd29, Tk.t29, base0, base1, base2, base3, Option.isNone_none, Option.isNone_some, Nat.reduceBEq, true_or, or_true, false_or, or_false, Nat.reduceLT, Nat.reduceMod, Nat.reducePow, rmaps, nsucc, List.flatten_cons, List.flatten_nil, Nat.reduceEqDiff, Nat.reduceLeDiff, Nat.reduceAdd, Nat.reduceMul, Nat.reduceSub, ↓reduceIte, reduceCtorEq, decide_true, decide_false]
      refine ⟨_, _, rfl, Views.tup (Views.cons (FZ.setV _).view (Views.cons (FZ.v _).view Views.nil)), FZ.tup (FZs.two (FZ.setV _) (FZ.v _)), ?_⟩
      rw [afterR, if_neg (by simpa using h1), if_neg (by simpa using h2)]
    · simp only [bneT h2, Cd.cd29, Tk.t29, base0, base1, base2, base3, Option.isNone_none, Option.isNone_some, Nat.reduceBEq, true_or, or_true, false_or, or_false, Nat.reduceLT, Nat.reduceMod, Nat.reducePow, rmaps, nsucc, List.flatten_cons, List.flatten_nil, Nat.reduceEqDiff, Nat.reduceLeDiff, Nat.reduceAdd, Nat.reduceMul, Nat.reduceSub, ↓reduceIte, reduceCtorEq, decide_true, decide_false]
      refine ⟨_, _, rfl, Views.tup (Views.cons nil_view (Views.cons (FZ.v _).view Views.nil)), FZ.tup (FZs.two FZ.nilS (FZ.v _)), ?_⟩
      rw [afterR, if_neg (by simpa using h1), if_pos h2]
  · simp only [bneT h1, Cd.cd29, Tk.t29, base0, base1, base2, base3, Option.isNone_none, Option.isNone_some, Nat.reduceBEq, true_or, or_true, false_or, or_false, Nat.reduceLT, Nat.reduceMod, Nat.reducePow, rmaps, nsucc, List.flatten_cons, List.flatten_nil, Nat.reduceEqDiff, Nat.reduceLeDiff, Nat.reduceAdd, Nat.reduceMul, Nat.reduceSub, ↓reduceIte, reduceCtorEq, decide_true, decide_false]
    refine ⟨_, _, rfl, Views.tup (Views.cons nil_view (Views.cons (FZ.v _).view Views.nil)), FZ.tup (FZs.two FZ.nilS (FZ.v _)), ?_⟩
    rw [afterR, if_pos h1]
end Go.Proofs.YtchpcjmgifnmdaaDoor

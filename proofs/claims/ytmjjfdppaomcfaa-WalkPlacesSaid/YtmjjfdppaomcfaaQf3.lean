/- Part 3 of a proof: walkPlaces holds for every input; no condition. -/
import Derived.Test.YtmjjfdppaomcfaaProg
import Derived.KernelRfl
import Derived.Test.YtmjjfdppaomcfaaRows
import Derived.ProofKit
import Derived.Test.YtmjjfdppaomcfaaAb0
import Derived.Test.YtmjjfdppaomcfaaAb1
import Derived.Test.YtmjjfdppaomcfaaAb2
import Derived.Test.YtmjjfdppaomcfaaAb3
import Derived.Test.YtmjjfdppaomcfaaAb4
import Derived.Test.YtmjjfdppaomcfaaAb5
import Derived.Test.YtmjjfdppaomcfaaAb6
import Derived.Test.YtmjjfdppaomcfaaAb7
import Derived.Test.YtmjjfdppaomcfaaAb8
import Derived.Test.YtmjjfdppaomcfaaAb8a
import Derived.Test.YtmjjfdppaomcfaaAb8b
import Derived.Test.YtmjjfdppaomcfaaAb8c
import Derived.Test.YtmjjfdppaomcfaaAb8d
import Derived.Test.YtmjjfdppaomcfaaAb9
import Derived.Test.YtmjjfdppaomcfaaAb10
import Derived.Test.YtmjjfdppaomcfaaAb11
import Derived.Test.YtmjjfdppaomcfaaAb12
import Derived.Test.YtmjjfdppaomcfaaAb13
import Derived.Test.YtmjjfdppaomcfaaAb14
import Derived.Test.YtmjjfdppaomcfaaAb15
import Derived.Test.YtmjjfdppaomcfaaAb16
import Derived.Test.YtmjjfdppaomcfaaAb17
import Derived.Test.YtmjjfdppaomcfaaAb18
import Derived.Test.YtmjjfdppaomcfaaAb19
import Derived.Test.YtmjjfdppaomcfaaAb20
import Derived.Test.YtmjjfdppaomcfaaAb21
import Derived.Test.YtmjjfdppaomcfaaAb22
import Derived.Test.YtmjjfdppaomcfaaAb23
import Derived.Test.YtmjjfdppaomcfaaAb24
import Derived.Test.YtmjjfdppaomcfaaAb25
import Derived.Test.YtmjjfdppaomcfaaAb26
import Derived.Test.YtmjjfdppaomcfaaBw
import Derived.Test.YtmjjfdppaomcfaaQf2
set_option linter.unusedSimpArgs false
set_option linter.unusedVariables false
set_option linter.defProp false
/- Walks: the node at a path. -/
namespace Go.Proofs.Ytmjjfdppaomcfaa
open Go Go.Proofs.Ytmjjfdppaomcfaa.Ab
set_option maxRecDepth 100000
set_option linter.unusedSimpArgs false

def intR (x : Int) : List AV := [.v (.int .i64 x)]
def intsV (l : List Int) : AV := .lst 1 (l.map intR) .unk
instance : Inhabited Int := ⟨0⟩
/-- the node at a path that is not empty, and what is around it -/
def findT : List Tree → List Int → List Tree → Option (Tree × List Tree)
  | _, [], _ => none
  | l, p :: r, acc => if 0 ≤ p ∧ p < (l.length : Int) then (if r = [] then some (l.getD p.toNat default, acc) else findT (l.getD p.toNat default).kids r (acc ++ [l.getD p.toNat default])) else none
def findOut : Option (Tree × List Tree) → AV
  | some (t, a) => .tup [treeV t, treesV a]
  | none => .tup [.v (.pointer none), treesV []]
theorem treeV_box (t : Tree) : treeV t = .box (hdL t.h (treesV t.kids)) := by cases t; exact treeV_eq _ _
theorem treesR_get (l : List Tree) (i : Nat) (h : i < l.length) : (l.map encT).getD i [] = [treeV (l.getD i default)] := getDmap encT l i h
theorem fin_find {H' : AH} {t : Tree} {v : AV} {a : List Tree} (h : GrowE encT 1 H' v a) {w : AV} (hw : w = .tup [treeV t, treesV a]) : ∃ x x', AOut.ret (.tup [treeV t, v]) = .ret x ∧ View H' x x' ∧ FZ x' ∧ x' = w := by
  subst hw
  exact ⟨_, _, rfl, Views.tup (Views.cons (FZ.treeV t).view (Views.cons (h.view FZs.encT) Views.nil)), FZ.tup (FZs.cons (FZ.treeV t) (FZs.one (FZ.rowsOf a))), rfl⟩
theorem fin_find0 {H' : AH} {w : AV} (hw : w = .tup [.v (.pointer none), treesV []]) : ∃ x x', AOut.ret (.tup [.v (.pointer none), nilS]) = .ret x ∧ View H' x x' ∧ FZ x' ∧ x' = w := by
  subst hw
  exact ⟨_, _, rfl, Views.tup (Views.cons (FZ.v _).view (Views.cons (View.nil 1) Views.nil)), FZ.tup (FZs.cons (FZ.v _) (FZs.one (FZ.rowsOf []))), rfl⟩

set_option maxHeartbeats 1000000 in
theorem find43 (l0 : List Tree) (path : List Int) (hp : path.length ≤ 1000000) : FCall Try.prog 43 [treesV l0, intsV path] (· = findOut (findT l0 path [])) := by
  generalize hR : findT l0 path [] = R
  refine ACall.enter [] Cd.fn43 (by simp) ?_
  simp only [treesV, intsV, List.length_map, Cd.cd43, Tk.t43, base0, base1, base2, base3, Option.isNone_none, Option.isNone_some, Nat.reduceBEq, true_or, or_true, false_or, or_false, Nat.reduceLT, Nat.reduceMod, Nat.reducePow, rmaps, nsucc, List.flatten_cons, List.flatten_nil, Nat.reduceEqDiff, Nat.reduceLeDiff, Nat.reduceAdd, Nat.reduceMul, Nat.reduceSub, ↓reduceIte, reduceCtorEq, decide_true, decide_false]
  refine LWP.loop [] (fun m f H' => ∃ i l acc, m = path.length - i ∧ (i ≤ path.length) ∧ (findT l (path.drop i) acc = R) ∧ (acc.length = i) ∧ f.t 0 = treesV l ∧ f.t 1 = intsV path ∧ f.t 9 = intsV path ∧ f.t 10 = .v (.int .i64 (path.length : Nat)) ∧ f.t 11 = .v (.int .i64 (i : Nat)) ∧ f.ds = [] ∧ GrowE encT 1 H' (f.t 6) acc) ?_ ?_ (m := path.length - (0))
  · exact ⟨0, l0, [], rfl, (by omega), (hR), (rfl), rfl, rfl, rfl, rfl, rfl, rfl, (GrowE.nil)⟩
  · rintro m f H' ⟨i, l, acc, rfl, hi, hT, hacc, f0, f1, f9, f10, f11, hds, hg⟩
    by_cases hlt : i < path.length
    · have hd : path.drop i = path.getD i 0 :: path.drop (i + 1) := by
        rw [List.drop_eq_getElem_cons hlt, List.getD_eq_getElem?_getD, List.getElem?_eq_getElem hlt]; rfl
      have hget : (path.map intR).getD i [] = [.v (.int .i64 (path.getD i 0))] := getDmap intR path i hlt
      generalize path.getD i 0 = p at hd hget
      rw [hd] at hT
      have c1 : decide ((i : Int) < (path.length : Int)) = true := decide_eq_true (by omega)
      have c2 : ((i : Int) < (path.length : Int)) = True := by simp; omega
      by_cases hr1 : p < 0
      · simp only [treesV, intsV, List.length_map, c1, c2, Int.natCast_nonneg, Int.toNat_natCast, hget, decide_eq_true hr1, f0, f1, f9, f10, f11, hds, Cd.cd43, Tk.t43, base0, base1, base2, base3, Option.isNone_none, Option.isNone_some, Nat.reduceBEq, true_or, or_true, false_or, or_false, Nat.reduceLT, Nat.reduceMod, Nat.reducePow, rmaps, nsucc, List.flatten_cons, List.flatten_nil, Nat.reduceEqDiff, Nat.reduceLeDiff, Nat.reduceAdd, Nat.reduceMul, Nat.reduceSub, ↓reduceIte, reduceCtorEq, decide_true, decide_false]
        rw [← hT, findT, if_neg (by omega)]
        exact fin_find0 rfl
      by_cases hr2 : p ≥ (l.length : Int)
      · simp only [treesV, intsV, List.length_map, c1, c2, Int.natCast_nonneg, Int.toNat_natCast, hget, decide_eq_false hr1, decide_eq_true hr2, f0, f1, f9, f10, f11, hds, Cd.cd43, Tk.t43, base0, base1, base2, base3, Option.isNone_none, Option.isNone_some, Nat.reduceBEq, true_or, or_true, false_or, or_false, Nat.reduceLT, Nat.reduceMod, Nat.reducePow, rmaps, nsucc, List.flatten_cons, List.flatten_nil, Nat.reduceEqDiff, Nat.reduceLeDiff, Nat.reduceAdd, Nat.reduceMul, Nat.reduceSub, ↓reduceIte, reduceCtorEq, decide_true, decide_false]
        rw [← hT, findT, if_neg (by omega)]
        exact fin_find0 rfl
      have hpl : p.toNat < l.length := by omega
      have q1 : (0 ≤ p) = True := by simp; omega
      have q2 : (p < (l.length : Int)) = True := by simp; omega
      have hrow := treesR_get l p.toNat hpl
      rw [findT, if_pos (by omega)] at hT
      generalize l.getD p.toNat default = x at hrow hT
      have wl : IntKind.i64.wrap ((path.length : Int) - 1) = (path.length : Int) - 1 := wrapI (by omega) (by omega)
      have hx := treeV_box x
      by_cases hlast : i + 1 = path.length
      · simp only [treesV, intsV, List.length_map, c1, c2, Int.natCast_nonneg, Int.toNat_natCast, hget, decide_eq_false hr1, decide_eq_false hr2, wl, show ((i : Int) == (path.length : Int) - 1) = true from by rw [beq_iff_eq]; omega, q1, q2, hrow, f0, f1, f9, f10, f11, hds, Cd.cd43, Tk.t43, base0, base1, base2, base3, Option.isNone_none, Option.isNone_some, Nat.reduceBEq, true_or, or_true, false_or, or_false, Nat.reduceLT, Nat.reduceMod, Nat.reducePow, rmaps, nsucc, List.flatten_cons, List.flatten_nil, Nat.reduceEqDiff, Nat.reduceLeDiff, Nat.reduceAdd, Nat.reduceMul, Nat.reduceSub, ↓reduceIte, reduceCtorEq, decide_true, decide_false]
        rw [if_pos (List.drop_of_length_le (by omega))] at hT
        rw [← hT]
        exact fin_find hg rfl
      · rw [if_neg (fun h => by have := congrArg List.length h; simp at this; omega)] at hT
        have e0 : ((i : Int) == (path.length : Int) - 1) = false := by rw [beq_eq_false_iff_ne]; omega
        rcases hg with ⟨rfl, h6⟩ | ⟨tp, h6, htp⟩
        · simp only [treesV, intsV, List.length_map, c1, c2, Int.natCast_nonneg, Int.toNat_natCast, hget, decide_eq_false hr1, decide_eq_false hr2, wl, e0, q1, q2, hrow, h6, hx, hdL, nilS, show roomA 8 1 = true from rfl, f0, f1, f9, f10, f11, hds, Cd.cd43, Tk.t43, base0, base1, base2, base3, Option.isNone_none, Option.isNone_some, Nat.reduceBEq, true_or, or_true, false_or, or_false, Nat.reduceLT, Nat.reduceMod, Nat.reducePow, rmaps, nsucc, List.flatten_cons, List.flatten_nil, Nat.reduceEqDiff, Nat.reduceLeDiff, Nat.reduceAdd, Nat.reduceMul, Nat.reduceSub, ↓reduceIte, reduceCtorEq, decide_true, decide_false]
          refine ⟨_, by omega, i + 1, x.kids, [x], rfl, by omega, hT, by simp at hacc ⊢; omega, rfl, by rw [wrapS (by omega)], GrowE.live ?_ ?_⟩
          · simp only [List.map_cons, List.map_nil, encT, hx, hdL, treesV]
          · simp
        · simp only [treesV, intsV, List.length_map, c1, c2, Int.natCast_nonneg, Int.toNat_natCast, hget, decide_eq_false hr1, decide_eq_false hr2, wl, e0, q1, q2, hrow, h6, hx, hdL, htp, room1 (b := 8) (n := acc.length) (by omega) (by omega), f0, f1, f9, f10, f11, hds, Cd.cd43, Tk.t43, base0, base1, base2, base3, Option.isNone_none, Option.isNone_some, Nat.reduceBEq, true_or, or_true, false_or, or_false, Nat.reduceLT, Nat.reduceMod, Nat.reducePow, rmaps, nsucc, List.flatten_cons, List.flatten_nil, Nat.reduceEqDiff, Nat.reduceLeDiff, Nat.reduceAdd, Nat.reduceMul, Nat.reduceSub, ↓reduceIte, reduceCtorEq, decide_true, decide_false]
          refine ⟨_, by omega, i + 1, x.kids, acc ++ [x], rfl, by omega, hT, by simp; omega, rfl, by rw [wrapS (by omega)], GrowE.live ?_ ?_⟩
          · simp only [List.map_append, List.map_cons, List.map_nil, encT, hx, hdL, treesV]
          · simp
    · simp only [show decide ((i : Int) < (path.length : Int)) = false from decide_eq_false (by omega), f0, f1, f9, f10, f11, hds, Cd.cd43, Tk.t43, base0, base1, base2, base3, Option.isNone_none, Option.isNone_some, Nat.reduceBEq, true_or, or_true, false_or, or_false, Nat.reduceLT, Nat.reduceMod, Nat.reducePow, rmaps, nsucc, List.flatten_cons, List.flatten_nil, Nat.reduceEqDiff, Nat.reduceLeDiff, Nat.reduceAdd, Nat.reduceMul, Nat.reduceSub, ↓reduceIte, reduceCtorEq, decide_true, decide_false]
      rw [List.drop_of_length_le (by omega)] at hT
      rw [← hT]
      exact fin_find0 rfl
end Go.Proofs.Ytmjjfdppaomcfaa

/- Walks: bytes in the place of a node, with what is around it. -/
namespace Go.Proofs.Ytmjjfdppaomcfaa
open Go Go.Proofs.Ytmjjfdppaomcfaa.Ab
set_option maxRecDepth 100000
set_option linter.unusedSimpArgs false

theorem backward60 (l : List Tree) : FCall Try.prog 60 [treesV l] (· = .fn (.func 68) [] [.box [treesV l]]) := by
  refine ACall.enter [] Cd.fn60 (by simp) ?_
  simp only [treesV, Cd.cd60, Tk.t60, base0, base1, base2, base3, Option.isNone_none, Option.isNone_some, Nat.reduceBEq, true_or, or_true, false_or, or_false, Nat.reduceLT, Nat.reduceMod, Nat.reducePow, rmaps, nsucc, List.flatten_cons, List.flatten_nil, Nat.reduceEqDiff, Nat.reduceLeDiff, Nat.reduceAdd, Nat.reduceMul, Nat.reduceSub, ↓reduceIte, reduceCtorEq, decide_true, decide_false]
  exact ⟨_, _, rfl, (FZ.fn FZs.nil (FZs.one (FZ.box (FZs.one (FZ.rowsOf l))))).view, FZ.fn FZs.nil (FZs.one (FZ.box (FZs.one (FZ.rowsOf l)))), rfl⟩

/-- a node around with another content -/
def replStep (b : ByteArray) (y : Hd) (p q : Nat) (out : ByteArray) : ByteArray :=
  b.extract y.frm y.len ++ (if y.opn then b.extract y.len y.body else lengthB (b.extract y.body p ++ out ++ b.extract q y.stop).size (y.body - y.len)) ++ (b.extract y.body p ++ out ++ b.extract q y.stop) ++ b.extract y.stop y.fin
def replA (b : ByteArray) : List Hd → Nat → Nat → ByteArray → ByteArray
  | [], p, q, out => b.extract 0 p ++ out ++ b.extract q b.size
  | y :: r, p, q, out => replA b r y.frm y.fin (replStep b y p q out)
def Chain (b : ByteArray) : List Hd → Nat → Nat → Prop
  | [], p, q => p ≤ q ∧ q ≤ b.size
  | y :: r, p, q => y.frm ≤ y.len ∧ y.len < y.body ∧ y.body ≤ p ∧ p ≤ q ∧ q ≤ y.stop ∧ y.stop ≤ y.fin ∧ y.fin ≤ b.size ∧ Chain b r y.frm y.fin
theorem lowB_len : ∀ (k n : Nat), n < 256 ^ k → (lowB n).length ≤ k
  | 0, n, h => by
    have : n = 0 := by simpa using h
    subst this; simp [lowB, lowF]
  | k + 1, n, h => by
    rcases Nat.eq_zero_or_pos n with rfl | hp
    · simp [lowB, lowF]
    · rw [lowB_step hp]
      have := lowB_len k (n / 256) (by rw [Nat.pow_succ] at h; omega)
      simp; omega
theorem lengthB_size (n least : Nat) (h : n ≤ 1000000) : (lengthB n least).size ≤ 4 + least := by
  have := lowB_len 3 n (by omega)
  have e : (lengthB n least).size = (lengthL n least).length := by simp [lengthB, ByteArray.size]
  rw [e]
  unfold lengthL
  split
  · simp; omega
  · simp [padB_len]; omega
theorem replStep_size {b : ByteArray} {y : Hd} {p q : Nat} {r : List Hd} {out : ByteArray} (hb : b.size ≤ 4000) (h : Chain b (y :: r) p q) (ho : out.size ≤ 900000) : (replStep b y p q out).size ≤ out.size + 21000 := by
  simp only [Chain] at h
  have h2 := lengthB_size (b.extract y.body p ++ out ++ b.extract q y.stop).size (y.body - y.len) (by simp only [ByteArray.size_append, ByteArray.size_extract]; omega)
  unfold replStep
  split
  · simp only [ByteArray.size_append, ByteArray.size_extract] at h2 ⊢; omega
  · simp only [ByteArray.size_append, ByteArray.size_extract] at h2 ⊢; omega

set_option maxHeartbeats 2000000 in
theorem replaced44 (b : ByteArray) (hb : b.size ≤ 4000) (ys : List Tree) (x : Tree) (by_ : ByteArray) (hn : ys.length ≤ 20) (hby : by_.size ≤ 4050) (hc : Chain b (ys.map Tree.h).reverse x.h.frm x.h.fin) :
    FCall Try.prog 44 [.v (.string b), treesV ys, treeV x, .v (.string by_)] (· = .v (.string (replA b (ys.map Tree.h).reverse x.h.frm x.h.fin by_))) := by
  generalize hR : replA b (ys.map Tree.h).reverse x.h.frm x.h.fin by_ = R
  have hx := treeV_box x
  refine ACall.enterB [9,10,11] back68 (by kernel_rfl) Cd.fn44 (by simp) ?_
  simp only [hx, hdL, KN_normal, List.not_mem_nil, false_imp_iff, implies_true, Cd.cd440, Cd.cd441, Cd.cd442, Cd.cd44G, Cd.cd44D, Cd.cd44C, Tk.t44, base0, base1, base2, base3, Option.isNone_none, Option.isNone_some, Nat.reduceBEq, true_or, or_true, false_or, or_false, Nat.reduceLT, Nat.reduceMod, Nat.reducePow, rmaps, nsucc, List.flatten_cons, List.flatten_nil, Nat.reduceEqDiff, Nat.reduceLeDiff, Nat.reduceAdd, Nat.reduceMul, Nat.reduceSub, ↓reduceIte, reduceCtorEq, decide_true, decide_false]
  first | refine FCall.go (backward60 ys) (FZs.one (FZ.rowsOf ys)) ?_ | refine FCall.go' (backward60 ys) (FZs.one (FZ.rowsOf ys)) ?_ | refine FCall.goQ (backward60 ys) (FZs.one (FZ.rowsOf ys)) ?_
  simp only [KN_normal, Cd.cd440, Cd.cd441, Cd.cd442, Cd.cd44G, Cd.cd44D, Cd.cd44C, Tk.t44, base0, base1, base2, base3, Option.isNone_none, Option.isNone_some, Nat.reduceBEq, true_or, or_true, false_or, or_false, Nat.reduceLT, Nat.reduceMod, Nat.reducePow, rmaps, nsucc, List.flatten_cons, List.flatten_nil, Nat.reduceEqDiff, Nat.reduceLeDiff, Nat.reduceAdd, Nat.reduceMul, Nat.reduceSub, ↓reduceIte, reduceCtorEq, decide_true, decide_false]
  refine ⟨⟨.unk, ys.map treeV, fun k H => ∃ p q out, H.own AH.none.next = some (.cells [iv p]) ∧ H.own (AH.none.next + 1) = some (.cells [iv q]) ∧ H.own (AH.none.next + 1 + 1) = some (.cells [.v (.string out)]) ∧
      Chain b ((ys.take k).map Tree.h).reverse p q ∧ replA b ((ys.take k).map Tree.h).reverse p q out = R ∧ out.size + k * 21000 ≤ 4050 + ys.length * 21000, ?_, by simp; omega, by simp [upd], ?_, ?_, ?_⟩⟩
  · simp only [treesV, Cd.cd440, Cd.cd441, Cd.cd442, Cd.cd44G, Cd.cd44D, Cd.cd44C, Tk.t44, base0, base1, base2, base3, Option.isNone_none, Option.isNone_some, Nat.reduceBEq, true_or, or_true, false_or, or_false, Nat.reduceLT, Nat.reduceMod, Nat.reducePow, rmaps, nsucc, List.flatten_cons, List.flatten_nil, Nat.reduceEqDiff, Nat.reduceLeDiff, Nat.reduceAdd, Nat.reduceMul, Nat.reduceSub, ↓reduceIte, reduceCtorEq, decide_true, decide_false]
    rw [List.map_map]; rfl
  · refine ⟨x.h.frm, x.h.fin, by_, ?_, ?_, ?_, ?_, ?_, ?_⟩
    · simp [iv, show ¬ AH.none.next = AH.none.next + 1 + 1 by omega]
    · simp [iv]
    · simp
    · rw [List.length_map, List.take_length]; exact hc
    · rw [List.length_map, List.take_length]; exact hR
    · simp; exact hby
  · rintro k H2 hk ⟨p, q, out, h1, h2, h3, hch, hrep, hsz⟩
    rw [List.length_map] at hk
    have hget : (ys.map treeV).getD k .any = treeV (ys.getD k default) := by
      rw [List.getD_eq_getElem?_getD, List.getElem?_map, List.getElem?_eq_getElem hk, List.getD_eq_getElem?_getD, List.getElem?_eq_getElem hk]; rfl
    have htk : ((ys.take (k + 1)).map Tree.h).reverse = (ys.getD k default).h :: ((ys.take k).map Tree.h).reverse := by
      rw [List.take_add_one, List.getElem?_eq_getElem hk, List.getD_eq_getElem?_getD, List.getElem?_eq_getElem hk, List.map_append, List.reverse_append]; rfl
    rw [hget]
    rw [htk] at hch hrep
    generalize ys.getD k default = y at hch hrep
    have hy := treeV_box y
    have hch0 := hch
    simp only [Chain] at hch
    obtain ⟨c1, c2, c3, c4, c5, c6, c7, c8⟩ := hch
    simp only [replA] at hrep
    have hss := replStep_size hb hch0 (show out.size ≤ 900000 by omega)
    have zc : ∀ s e, (b.extract s e).size ≤ 4000 := fun s e => by rw [ByteArray.size_extract]; omega
    have z1 := zc y.h.body p
    have z2 := zc q y.h.stop
    have z3 := zc y.h.frm y.h.len
    have z4 := zc y.h.stop y.h.fin
    have z5 := zc y.h.len y.h.body
    have s1 : astr .add (b.extract y.h.body p) out = _ := sadd (by omega)
    have s2 : astr .add (b.extract y.h.body p ++ out) (b.extract q y.h.stop) = _ := sadd (by rw [ByteArray.size_append]; omega)
    have hcs : (b.extract y.h.body p ++ out ++ b.extract q y.h.stop).size ≤ 910000 := by simp only [ByteArray.size_append]; omega
    unfold replStep at hrep hss
    generalize hcc : b.extract y.h.body p ++ out ++ b.extract q y.h.stop = c at s2 hcs hrep hss
    cases ho : y.h.opn with
    | true =>
      simp only [ho, if_true] at hrep hss
      have s3 : astr .add (b.extract y.h.frm y.h.len) (b.extract y.h.len y.h.body) = _ := sadd (by omega)
      have s4 : astr .add (b.extract y.h.frm y.h.len ++ b.extract y.h.len y.h.body) c = _ := sadd (by rw [ByteArray.size_append]; omega)
      have s5 : astr .add (b.extract y.h.frm y.h.len ++ b.extract y.h.len y.h.body ++ c) (b.extract y.h.stop y.h.fin) = _ := sadd (by simp only [ByteArray.size_append]; omega)
      simp (maxSteps := 2000000) only [KN_normal, hy, hdL, h1, h2, h3, iv, ho, leT (show p ≤ b.size by omega), leT c3, leT (show y.h.stop ≤ b.size by omega), leT c5, leT (show y.h.body ≤ b.size by omega), leT (show y.h.len ≤ y.h.body by omega), leT (show y.h.len ≤ b.size by omega), leT c1, leT c7, leT c6, Int.natCast_nonneg, Int.toNat_natCast, s1, s2, s3, s4, s5, Cd.cd440, Cd.cd441, Cd.cd442, Cd.cd44G, Cd.cd44D, Cd.cd44C, Tk.t44, base0, base1, base2, base3, Option.isNone_none, Option.isNone_some, Nat.reduceBEq, true_or, or_true, false_or, or_false, Nat.reduceLT, Nat.reduceMod, Nat.reducePow, rmaps, nsucc, List.flatten_cons, List.flatten_nil, Nat.reduceEqDiff, Nat.reduceLeDiff, Nat.reduceAdd, Nat.reduceMul, Nat.reduceSub, ↓reduceIte, reduceCtorEq, decide_true, decide_false]
      exact ⟨fun n hn => by simp at hn, y.h.frm, y.h.fin, _, rfl, rfl, rfl, c8, hrep, by omega⟩
    | false =>
      simp only [ho, Bool.false_eq_true, if_false] at hrep hss
      have hlb := lengthB_size c.size (y.h.body - y.h.len) (by omega)
      have hL := length48 c.size (y.h.body - y.h.len) (by omega) (by omega) (by omega)
      generalize lengthB c.size (y.h.body - y.h.len) = w at hrep hss hlb hL
      have s3 : astr .add (b.extract y.h.frm y.h.len) w = _ := sadd (by omega)
      have s4 : astr .add (b.extract y.h.frm y.h.len ++ w) c = _ := sadd (by rw [ByteArray.size_append]; omega)
      have s5 : astr .add (b.extract y.h.frm y.h.len ++ w ++ c) (b.extract y.h.stop y.h.fin) = _ := sadd (by simp only [ByteArray.size_append]; omega)
      have wl : IntKind.i64.wrap ((y.h.body : Int) - (y.h.len : Int)) = ((y.h.body - y.h.len : Nat) : Int) := by rw [wrapI (by omega) (by omega)]; omega
      simp (maxSteps := 2000000) only [KN_normal, hy, hdL, h1, h2, h3, iv, ho, leT (show p ≤ b.size by omega), leT c3, leT (show y.h.stop ≤ b.size by omega), leT c5, leT (show y.h.body ≤ b.size by omega), leT (show y.h.len ≤ y.h.body by omega), leT (show y.h.len ≤ b.size by omega), leT c1, leT c7, leT c6, Int.natCast_nonneg, Int.toNat_natCast, s1, s2, wl, Cd.cd440, Cd.cd441, Cd.cd442, Cd.cd44G, Cd.cd44D, Cd.cd44C, Tk.t44, base0, base1, base2, base3, Option.isNone_none, Option.isNone_some, Nat.reduceBEq, true_or, or_true, false_or, or_false, Nat.reduceLT, Nat.reduceMod, Nat.reducePow, rmaps, nsucc, List.flatten_cons, List.flatten_nil, Nat.reduceEqDiff, Nat.reduceLeDiff, Nat.reduceAdd, Nat.reduceMul, Nat.reduceSub, ↓reduceIte, reduceCtorEq, decide_true, decide_false]
      first | refine FCall.go hL (FZs.cons (FZ.v _) (FZs.one (FZ.v _))) ?_ | refine FCall.go' hL (FZs.cons (FZ.v _) (FZs.one (FZ.v _))) ?_ | refine FCall.goQ hL (FZs.cons (FZ.v _) (FZs.one (FZ.v _))) ?_
      simp (maxSteps := 2000000) only [KN_normal, hy, hdL, h1, h2, h3, iv, ho, leT (show p ≤ b.size by omega), leT c3, leT (show y.h.stop ≤ b.size by omega), leT c5, leT (show y.h.body ≤ b.size by omega), leT (show y.h.len ≤ y.h.body by omega), leT (show y.h.len ≤ b.size by omega), leT c1, leT c7, leT c6, Int.natCast_nonneg, Int.toNat_natCast, s3, s4, s5, Cd.cd440, Cd.cd441, Cd.cd442, Cd.cd44G, Cd.cd44D, Cd.cd44C, Tk.t44, base0, base1, base2, base3, Option.isNone_none, Option.isNone_some, Nat.reduceBEq, true_or, or_true, false_or, or_false, Nat.reduceLT, Nat.reduceMod, Nat.reducePow, rmaps, nsucc, List.flatten_cons, List.flatten_nil, Nat.reduceEqDiff, Nat.reduceLeDiff, Nat.reduceAdd, Nat.reduceMul, Nat.reduceSub, ↓reduceIte, reduceCtorEq, decide_true, decide_false]
      exact ⟨fun n hn => by simp at hn, y.h.frm, y.h.fin, _, rfl, rfl, rfl, c8, hrep, by omega⟩
  · rintro H2 ⟨p, q, out, h1, h2, h3, hch, hrep, hsz⟩
    simp only [List.take_zero, List.map_nil, List.reverse_nil, replA, Chain] at hrep hch
    have z1 : (b.extract 0 p).size ≤ 4000 := by rw [ByteArray.size_extract]; omega
    have z2 : (b.extract q b.size).size ≤ 4000 := by rw [ByteArray.size_extract]; omega
    have s1 : astr .add (b.extract 0 p) out = _ := sadd (by omega)
    have s2 : astr .add (b.extract 0 p ++ out) (b.extract q b.size) = _ := sadd (by rw [ByteArray.size_append]; omega)
    simp only [h1, h2, h3, iv, Int.natCast_nonneg, Int.toNat_natCast, leT (Nat.le_trans hch.1 hch.2), leT hch.2, leT (Nat.le_refl b.size), s1, s2, Cd.cd440, Cd.cd441, Cd.cd442, Cd.cd44G, Cd.cd44D, Cd.cd44C, Tk.t44, base0, base1, base2, base3, Option.isNone_none, Option.isNone_some, Nat.reduceBEq, true_or, or_true, false_or, or_false, Nat.reduceLT, Nat.reduceMod, Nat.reducePow, rmaps, nsucc, List.flatten_cons, List.flatten_nil, Nat.reduceEqDiff, Nat.reduceLeDiff, Nat.reduceAdd, Nat.reduceMul, Nat.reduceSub, ↓reduceIte, reduceCtorEq, decide_true, decide_false]
    exact fin_v (by rw [hrep])
end Go.Proofs.Ytmjjfdppaomcfaa

/- Plain: how the nodes of right bytes lie within one another. -/
namespace Go.Proofs.Ytmjjfdppaomcfaa
open Go Go.Proofs.Ytmjjfdppaomcfaa.Ab

theorem tagL_lim {b : ByteArray} {lim lim' : Nat} (hl : lim ≤ lim') : ∀ {k k' p num m q : Nat}, tagL b lim k p num = .ok (m, q) → k ≤ k' → tagL b lim' k' p num = .ok (m, q)
  | 0, _, p, num, m, q, h, _ => by simp [tagL] at h
  | k + 1, 0, p, num, m, q, h, hk => by omega
  | k + 1, k' + 1, p, num, m, q, h, hk => by
    simp only [tagL] at h ⊢
    split at h
    · rename_i hp
      rw [if_pos (by omega)]
      split at h
      · cases h
      · rename_i h1
        rw [if_neg h1]
        split at h
        · rename_i h2; rw [if_pos h2]; exact h
        · rename_i h2; rw [if_neg h2]; exact tagL_lim hl h (by omega)
    · cases h
theorem ident_lim {b : ByteArray} {lim lim' a : Nat} {x : Nat × Nat × Bool × Nat} (hl : lim ≤ lim') (h : ident b a lim = .ok x) : ident b a lim' = .ok x := by
  unfold ident at h ⊢
  split at h
  · rw [if_pos (by omega)]
    split at h
    · rename_i h1; rw [if_pos h1]; exact h
    · rename_i h1
      rw [if_neg h1]
      split at h
      · rename_i m q hq; rw [tagL_lim hl hq (by omega)]; exact h
      · cases h
  · cases h
theorem lenL_lim {b : ByteArray} {lim lim' : Nat} (hl : lim ≤ lim') : ∀ {k p n m : Nat}, lenL b lim k p n = .ok m → lenL b lim' k p n = .ok m
  | 0, p, n, m, h => h
  | k + 1, p, n, m, h => by
    simp only [lenL] at h ⊢
    split at h
    · rw [if_pos (by omega)]
      split at h
      · cases h
      · rename_i h1; rw [if_neg h1]; exact lenL_lim hl h
    · cases h
theorem lenOf_lim {b : ByteArray} {lim lim' a : Nat} {bl : Bool} {x : Option Nat × Nat} (hl : lim ≤ lim') (h : lenOf b a lim bl = .ok x) : lenOf b a lim' bl = .ok x := by
  unfold lenOf at h ⊢
  split at h
  · rw [if_pos (by omega)]
    split at h
    · rename_i h1; rw [if_pos h1]; exact h
    · rename_i h1
      rw [if_neg h1]
      split at h
      · cases h
      · rename_i h2
        rw [if_neg h2]
        split at h
        · rename_i h3; rw [if_pos h3]; exact h
        · rename_i h3
          rw [if_neg h3]
          split at h
          · rename_i n hn; rw [lenL_lim hl hn]; exact h
          · cases h
  · cases h

theorem Tree.h_mk (h : Hd) (k : List Tree) : (Tree.mk h k).h = h := rfl
theorem Tree.kids_mk (h : Hd) (k : List Tree) : (Tree.mk h k).kids = k := rfl
mutual
/-- a node as bytes have it, so deep -/
def okT (b : ByteArray) (D : Nat) : Tree → Prop
  | .mk h k => (h.deep = D ∧ D ≤ 15) ∧ h.frm < h.len ∧ h.len < h.body ∧ h.body ≤ h.stop ∧ h.fin = h.stop + (if h.opn then 2 else 0) ∧ h.fin ≤ b.size ∧
      ident b h.frm b.size = .ok (h.cls, h.num, h.built, h.len) ∧ lenOf b h.len b.size h.built = .ok (if h.opn then none else some (h.stop - h.body), h.body) ∧
      (h.opn = true → bt b h.stop = 0 ∧ bt b (h.stop + 1) = 0 ∧ h.built = true) ∧ (h.built = false → k = []) ∧ (h.built = true → okTs b (D + 1) h.body h.stop k)
/-- nodes side by side, from a place to a place -/
def okTs (b : ByteArray) (D p q : Nat) : List Tree → Prop
  | [] => p = q
  | t :: l => t.h.frm = p ∧ okT b D t ∧ okTs b D t.h.fin q l
end
theorem okTs_append {b : ByteArray} {D q r : Nat} : ∀ {p : Nat} {l m : List Tree}, okTs b D p q l → okTs b D q r m → okTs b D p r (l ++ m)
  | p, [], m, h, h' => by simp only [okTs] at h; subst h; exact h'
  | p, t :: l, m, h, h' => by
    simp only [okTs, List.cons_append] at h ⊢
    exact ⟨h.1, h.2.1, okTs_append h.2.2 h'⟩
theorem okTs_one {b : ByteArray} {D : Nat} {t : Tree} (h : okT b D t) : okTs b D t.h.frm t.h.fin [t] := by
  simp only [okTs]; exact ⟨trivial, h, trivial⟩
theorem okT_lt {b : ByteArray} {D : Nat} {t : Tree} (h : okT b D t) : t.h.frm < t.h.fin ∧ t.h.fin ≤ b.size := by
  obtain ⟨h', k⟩ := t
  simp only [okT] at h
  simp only [Tree.h]
  have := h.2.2.2.2.1
  omega
theorem okTs_le {b : ByteArray} {D q : Nat} : ∀ {p : Nat} {l : List Tree}, okTs b D p q l → p ≤ q
  | p, [], h => by simp only [okTs] at h; omega
  | p, t :: l, h => by
    simp only [okTs] at h
    have := okTs_le h.2.2
    have := okT_lt h.2.1
    omega

def NodeWf (b : ByteArray) (D : Nat) (node : Nat → Nat → Except Flt (Tree × Nat)) : Prop := ∀ a c t c', node a c = .ok (t, c') → okT b D t ∧ t.h.frm = a
theorem kidsC_wf {b : ByteArray} {D stop : Nat} {node : Nat → Nat → Except Flt (Tree × Nat)} (hn : NodeWf b D node) (hs : NodeOk stop node) : ∀ {n p c : Nat} {acc l : List Tree} {c' p0 : Nat}, kidsC node stop n p c acc = .ok (l, c') → stop - p ≤ n → p ≤ stop → okTs b D p0 p acc → okTs b D p0 stop l
  | 0, p, c, acc, l, c', p0, h, hk, hp, ha => by
    simp only [kidsC] at h; cases h
    have : p = stop := by omega
    subst this; exact ha
  | n + 1, p, c, acc, l, c', p0, h, hk, hp, ha => by
    simp only [kidsC] at h
    split at h
    · split at h
      · cases h
      · rename_i t c1 h1
        have q := hn _ _ _ _ h1
        have q2 := hs _ _ _ _ h1
        refine kidsC_wf hn hs h (by omega) (by omega) (okTs_append ha ?_)
        rw [← q.2]; exact okTs_one q.1
    · cases h
      have : p = stop := by omega
      subst this; exact ha
theorem openC_wf {b : ByteArray} {D lim : Nat} {node : Nat → Nat → Except Flt (Tree × Nat)} (hn : NodeWf b D node) : ∀ {n p c : Nat} {acc l : List Tree} {s c' p0 : Nat}, openC node b lim n p c acc = .ok (l, s, c') → okTs b D p0 p acc → okTs b D p0 s l ∧ s + 1 < lim ∧ bt b s = 0 ∧ bt b (s + 1) = 0
  | 0, p, c, acc, l, s, c', p0, h, ha => by simp only [openC] at h; cases h
  | n + 1, p, c, acc, l, s, c', p0, h, ha => by
    simp only [openC] at h
    split at h
    · rename_i hz; cases h; exact ⟨ha, hz⟩
    · split at h
      · cases h
      · split at h
        · cases h
        · rename_i t c1 h1
          have q := hn _ _ _ _ h1
          refine openC_wf hn h (okTs_append ha ?_)
          rw [← q.2]; exact okTs_one q.1
theorem lenOf_opn {b : ByteArray} {a lim p : Nat} {bl : Bool} (h : lenOf b a lim bl = .ok (none, p)) : bl = true := by
  unfold lenOf at h
  split at h
  · split at h
    · cases h
    · split at h
      · cases h
      · rename_i h2
        split at h
        · rename_i h3
          cases bl
          · exact absurd (.inr ⟨h3, rfl⟩) h2
          · rfl
        · split at h
          · cases h
          · cases h
  · cases h
theorem rd_wf (b : ByteArray) : ∀ (d lim : Nat), lim ≤ b.size → d ≤ 16 → NodeWf b (16 - d) (fun a c => rd b d a lim c)
  | d, lim, hlim, hd, a, c, t, c', h => by
    simp only at h
    cases hid : ident b a lim with
    | error e => rw [rd_e1 hid] at h; cases h
    | ok x =>
      obtain ⟨cls, num, bl, p1⟩ := x
      have q1 := ident_ok hid
      cases hlen : lenOf b p1 lim bl with
      | error e => rw [rd_e2 hid hlen] at h; cases h
      | ok x =>
        obtain ⟨on, p2⟩ := x
        have q2 := lenOf_ok hlen
        cases hany : on.any (fun n => decide (lim - p2 < n)) with
        | true => rw [rd_e3 hid hlen hany] at h; cases h
        | false =>
          by_cases hcnt : 300 < c + 1
          · rw [rd_e4 hid hlen hany hcnt] at h; cases h
          · cases d with
            | zero => rw [rd_e5 hid hlen hany hcnt] at h; cases h
            | succ d =>
              have hd1 : 16 - (d + 1) = 15 - d := by omega
              have hd2 : 16 - d = 15 - d + 1 := by omega
              cases on with
              | none =>
                rw [rd_open hid hlen hcnt] at h
                cases ho : openC (fun a c => rd b d a lim c) b lim (lim - p2 + 1) p2 (c + 1) [] with
                | error e => rw [ho] at h; cases h
                | ok x =>
                  obtain ⟨l, s, c1⟩ := x
                  rw [ho] at h; cases h
                  have w := openC_wf (p0 := p2) (rd_wf b d lim hlim (by omega)) ho (by simp only [okTs])
                  have hb := lenOf_opn hlen
                  have k := openC_ok (rd_ok b d lim) ho (by omega)
                  subst hb
                  rw [hd2] at w
                  refine ⟨?_, rfl⟩
                  rw [hd1]
                  simp only [okT, if_true]
                  exact ⟨⟨trivial, by omega⟩, q1.1, q2.1, by omega, trivial, by omega, ident_lim hlim hid, lenOf_lim hlim hlen, fun _ => ⟨w.2.2.1, w.2.2.2, trivial⟩, fun e => (by cases e), fun _ => w.1⟩
              | some n =>
                have hn : ¬ lim - p2 < n := by simpa using hany
                cases bl with
                | false =>
                  rw [rd_leaf hid hlen hn hcnt] at h; cases h
                  refine ⟨?_, rfl⟩
                  rw [hd1]
                  simp only [okT]
                  exact ⟨⟨trivial, by omega⟩, q1.1, q2.1, by omega, by simp, by omega, ident_lim hlim hid, by rw [lenOf_lim hlim hlen]; simp, fun e => (by cases e), fun _ => trivial, fun e => (by cases e)⟩
                | true =>
                  rw [rd_kids hid hlen hn hcnt] at h
                  cases ho : kidsC (fun a c => rd b d a (p2 + n) c) (p2 + n) n p2 (c + 1) [] with
                  | error e => rw [ho] at h; cases h
                  | ok x =>
                    obtain ⟨l, c1⟩ := x
                    rw [ho] at h; cases h
                    have w := kidsC_wf (p0 := p2) (rd_wf b d (p2 + n) (by omega) (by omega)) (rd_ok b d (p2 + n)) ho (by omega) (by omega) (by simp only [okTs])
                    rw [hd2] at w
                    refine ⟨?_, rfl⟩
                    rw [hd1]
                    simp only [okT]
                    exact ⟨⟨trivial, by omega⟩, q1.1, q2.1, by omega, by simp, by omega, ident_lim hlim hid, by rw [lenOf_lim hlim hlen]; simp, fun e => (by cases e), fun e => (by cases e), fun _ => w⟩
theorem readB_wf {b : ByteArray} {l : List Tree} (h : readB b = .ok l) : okTs b 0 0 b.size l := by
  unfold readB at h
  split at h
  · cases h
  · split at h
    · cases h
    · split at h
      · cases h
      · rename_i l' c hk
        cases h
        exact kidsC_wf (rd_wf b 16 b.size (Nat.le_refl _) (Nat.le_refl _)) (rd_ok b 16 b.size) hk (by omega) (by omega) (by simp only [okTs])

/-! places in the list of all nodes -/
mutual
def subT : Tree → List Tree
  | .mk h k => .mk h k :: subTs k
def subTs : List Tree → List Tree
  | [] => []
  | t :: l => subT t ++ subTs l
end
mutual
theorem subT_map : ∀ t : Tree, (subT t).map Tree.h = flatT t
  | .mk h k => by simp only [subT, List.map_cons, flatT, subTs_map k, Tree.h]
theorem subTs_map : ∀ l : List Tree, (subTs l).map Tree.h = flatTs l
  | [] => rfl
  | t :: l => by simp only [subTs, List.map_append, flatTs, subT_map t, subTs_map l]
end
theorem subT_cons (t : Tree) : subT t = t :: subTs t.kids := by cases t; rfl
def headFrm (q : Nat) (l : List Tree) : Prop := ∀ x, l.head? = some x → q ≤ x.h.frm
/-- a node that stands at a place of the list -/
def AtT (b : ByteArray) (S : List Tree) (i D : Nat) (t : Tree) : Prop := ∃ rest, S.drop i = subT t ++ rest ∧ okT b D t ∧ headFrm t.h.fin rest
def AtL (b : ByteArray) (S : List Tree) (i D p q : Nat) (l : List Tree) : Prop := ∃ rest, S.drop i = subTs l ++ rest ∧ okTs b D p q l ∧ headFrm q rest
def sizeT (t : Tree) : Nat := (subT t).length
/-- the places of nodes side by side -/
def kidIx : Nat → List Tree → List Nat
  | _, [] => []
  | s, t :: l => s :: kidIx (s + sizeT t) l
theorem kidIx_length : ∀ (s : Nat) (l : List Tree), (kidIx s l).length = l.length
  | _, [] => rfl
  | s, t :: l => by simp [kidIx, kidIx_length _ l]
theorem AtL.head {b : ByteArray} {S : List Tree} {i D p q : Nat} {t : Tree} {l : List Tree} (h : AtL b S i D p q (t :: l)) : AtT b S i D t ∧ AtL b S (i + sizeT t) D t.h.fin q l := by
  obtain ⟨rest, h1, h2, h3⟩ := h
  simp only [okTs] at h2
  simp only [subTs, List.append_assoc] at h1
  refine ⟨⟨_, h1, h2.2.1, fun x hx => ?_⟩, ⟨rest, ?_, h2.2.2, h3⟩⟩
  · cases l with
    | nil =>
      simp only [subTs, List.nil_append] at hx
      have := h3 x hx
      simp only [okTs] at h2; omega
    | cons t' l =>
      have h4 := h2.2.2
      simp only [okTs] at h4
      simp only [subTs, subT_cons t', List.cons_append, List.head?_cons, Option.some.injEq] at hx
      subst hx; omega
  · rw [← List.drop_drop, h1, sizeT, List.drop_left]
theorem AtT.kids {b : ByteArray} {S : List Tree} {i D : Nat} {t : Tree} (h : AtT b S i D t) (hb : t.h.built = true) : AtL b S (i + 1) (D + 1) t.h.body t.h.stop t.kids := by
  obtain ⟨rest, h1, h2, h3⟩ := h
  obtain ⟨h, k⟩ := t
  simp only [okT] at h2
  simp only [Tree.h_mk] at hb h3
  refine ⟨rest, ?_, h2.2.2.2.2.2.2.2.2.2.2 hb, fun x hx => ?_⟩
  · rw [← List.drop_drop, h1, subT_cons]; rfl
  · have := h3 x hx
    have := h2.2.2.2.2.1
    simp only [Tree.h_mk]; omega
theorem AtL.all {b : ByteArray} {l : List Tree} (h : okTs b 0 0 b.size l) : AtL b (subTs l) 0 0 0 b.size l := ⟨[], by simp, h, fun x hx => by simp at hx⟩
theorem AtL.get {b : ByteArray} {S : List Tree} {q D : Nat} : ∀ {l : List Tree} {i p : Nat}, AtL b S i D p q l → ∀ j, j < l.length → AtT b S ((kidIx i l).getD j 0) D (l.getD j default)
  | [], i, p, h, j, hj => by simp at hj
  | t :: l, i, p, h, 0, hj => by simpa [kidIx] using h.head.1
  | t :: l, i, p, h, j + 1, hj => by
    have := AtL.get h.head.2 j (by simpa using hj)
    simpa [kidIx] using this
theorem AtT.get {b : ByteArray} {S : List Tree} {i D : Nat} {t : Tree} (h : AtT b S i D t) : i < S.length ∧ S.getD i default = t := by
  obtain ⟨rest, h1, _, _⟩ := h
  rw [subT_cons, List.cons_append] at h1
  have hl : i < S.length := by
    apply Classical.byContradiction
    intro hn
    rw [List.drop_of_length_le (by omega)] at h1; cases h1
  refine ⟨hl, ?_⟩
  rw [List.drop_eq_getElem_cons hl] at h1
  rw [List.getD_eq_getElem?_getD, List.getElem?_eq_getElem hl]
  exact (List.cons.inj h1).1
theorem AtT.ok {b : ByteArray} {S : List Tree} {i D : Nat} {t : Tree} (h : AtT b S i D t) : okT b D t := by obtain ⟨_, _, h, _⟩ := h; exact h

/-! looking for the nodes directly within one -/
def kidScan (D frm to : Nat) : Nat → List Hd → List Nat
  | _, [] => []
  | i, x :: l => if to ≤ x.frm then [] else if x.deep = D ∧ frm ≤ x.frm then i :: kidScan D frm to (i + 1) l else kidScan D frm to (i + 1) l
theorem kidScan_end {D frm to i : Nat} {rest : List Tree} (h : headFrm to rest) : kidScan D frm to i (rest.map Tree.h) = [] := by
  cases rest with
  | nil => rfl
  | cons x l =>
    have := h x rfl
    simp only [List.map_cons, kidScan]
    rw [if_pos this]
mutual
theorem kidScan_T {b : ByteArray} {D E frm to : Nat} (hD : D < E) : ∀ (t : Tree) (i : Nat) (rest : List Hd), okT b E t → t.h.fin ≤ to → kidScan D frm to i (flatT t ++ rest) = kidScan D frm to (i + sizeT t) rest
  | .mk h k, i, rest, ho, hf => by
    simp only [okT] at ho
    simp only [Tree.h_mk] at hf
    have h5 := ho.2.2.2.2.1
    simp only [flatT, List.cons_append, kidScan]
    rw [if_neg (by omega), if_neg (by omega)]
    have hs : sizeT (.mk h k) = 1 + (subTs k).length := by simp [sizeT, subT]; omega
    cases hb : h.built with
    | false =>
      have := ho.2.2.2.2.2.2.2.2.2.1 hb
      subst this
      simp [hs, flatTs, subTs]
    | true =>
      have hk := ho.2.2.2.2.2.2.2.2.2.2 hb
      have := kidScan_L (frm := frm) (to := to) (show D < E + 1 by omega) k (i + 1) rest hk (show h.stop ≤ to by omega)
      rw [this, hs, ← Nat.add_assoc]
theorem kidScan_L {b : ByteArray} {D E frm to : Nat} (hD : D < E) : ∀ (l : List Tree) (i : Nat) (rest : List Hd) {p q : Nat}, okTs b E p q l → q ≤ to → kidScan D frm to i (flatTs l ++ rest) = kidScan D frm to (i + (subTs l).length) rest
  | [], i, rest, p, q, _, _ => by simp [flatTs, subTs]
  | t :: l, i, rest, p, q, ho, hq => by
    simp only [okTs] at ho
    have := okTs_le ho.2.2
    simp only [flatTs, List.append_assoc, subTs, List.length_append]
    rw [kidScan_T hD t i _ ho.2.1 (by omega), kidScan_L hD l _ rest ho.2.2 hq, sizeT, Nat.add_assoc]
end
theorem kidScan_kids {b : ByteArray} {D frm to : Nat} {rest : List Tree} (hr : headFrm to rest) : ∀ (l : List Tree) (i : Nat) {p : Nat}, okTs b D p to l → frm ≤ p → kidScan D frm to i (flatTs l ++ rest.map Tree.h) = kidIx i l
  | [], i, p, _, _ => by simpa [flatTs, kidIx] using kidScan_end hr
  | .mk h k :: l, i, p, ho, hp => by
    simp only [okTs] at ho
    obtain ⟨o1, o2, o3⟩ := ho
    have o4 := okT_lt o2
    have o5 := okTs_le o3
    simp only [Tree.h_mk] at o1 o3 o4 o5
    have o2' := o2
    simp only [okT] at o2
    have h5 := o2.2.2.2.2.1
    simp only [flatTs, flatT, List.cons_append, kidScan, List.append_assoc]
    rw [if_neg (by omega), if_pos ⟨o2.1.1, by omega⟩]
    have hs : sizeT (.mk h k) = 1 + (subTs k).length := by simp [sizeT, subT]; omega
    have ih := kidScan_kids hr l (i + sizeT (.mk h k)) o3 (show frm ≤ h.fin by omega)
    rw [kidIx]
    congr 1
    rw [← ih, hs]
    cases hb : h.built with
    | false =>
      have := o2.2.2.2.2.2.2.2.2.2.1 hb
      subst this
      simp [flatTs, subTs]
    | true =>
      have hk := o2.2.2.2.2.2.2.2.2.2.2 hb
      rw [kidScan_L (frm := frm) (to := to) (show D < D + 1 by omega) k (i + 1) _ hk (show h.stop ≤ to by omega), Nat.add_assoc]
/-- the nodes within a node -/
theorem AtT.scan {b : ByteArray} {S : List Tree} {i D : Nat} {t : Tree} (h : AtT b S i D t) : kidScan (t.h.deep + 1) t.h.body t.h.stop (i + 1) ((S.drop (i + 1)).map Tree.h) = kidIx (i + 1) t.kids := by
  have h0 := h
  obtain ⟨rest, h1, h2, h3⟩ := h
  have hd : S.drop (i + 1) = subTs t.kids ++ rest := by rw [← List.drop_drop, h1, subT_cons]; rfl
  have hd2 : (S.drop (i + 1)).map Tree.h = flatTs t.kids ++ rest.map Tree.h := by rw [hd, List.map_append, subTs_map]
  have hr : headFrm t.h.stop rest := fun x hx => by
    have := h3 x hx
    obtain ⟨h, k⟩ := t
    simp only [okT] at h2
    simp only [Tree.h_mk] at this ⊢
    have := h2.2.2.2.2.1
    omega
  rw [hd2]
  cases hb : t.h.built with
  | true =>
    obtain ⟨rest', _, h5, _⟩ := h0.kids hb
    have hD : t.h.deep = D := by obtain ⟨h, k⟩ := t; simp only [okT] at h2; exact h2.1.1
    rw [hD]
    exact kidScan_kids hr t.kids (i + 1) h5 (Nat.le_refl _)
  | false =>
    obtain ⟨h, k⟩ := t
    simp only [okT] at h2
    simp only [Tree.h_mk] at hb
    have := h2.2.2.2.2.2.2.2.2.2.1 hb
    subst this
    simp only [Tree.kids_mk, flatTs, List.nil_append, kidIx]
    exact kidScan_end hr
theorem scan_top {b : ByteArray} {l : List Tree} (h : okTs b 0 0 b.size l) : kidScan 0 0 b.size 0 (flatTs l) = kidIx 0 l := by
  have := kidScan_kids (rest := []) (fun x hx => by simp at hx) l 0 h (Nat.le_refl _)
  simpa using this
end Go.Proofs.Ytmjjfdppaomcfaa

/- Plain: the node at a path, and bytes in its place. -/
namespace Go.Proofs.Ytmjjfdppaomcfaa
open Go Go.Proofs.Ytmjjfdppaomcfaa.Ab

def findP : List Tree → List Int → Option (Tree × List Tree)
  | _, [] => none
  | l, p :: r => if 0 ≤ p ∧ p < (l.length : Int) then (if r = [] then some (l.getD p.toNat default, []) else
      match findP (l.getD p.toNat default).kids r with
      | some (x, ys) => some (x, l.getD p.toNat default :: ys)
      | none => none) else none
theorem findT_eq : ∀ (path : List Int) (l acc : List Tree), findT l path acc = match findP l path with | some (x, ys) => some (x, acc ++ ys) | none => none
  | [], l, acc => rfl
  | p :: r, l, acc => by
    simp only [findT, findP]
    split
    · split
      · simp
      · rw [findT_eq r]
        cases findP (l.getD p.toNat default).kids r with
        | none => rfl
        | some x => obtain ⟨x, ys⟩ := x; simp
    · rfl
theorem findP_len : ∀ {path : List Int} {l : List Tree} {x : Tree} {ys : List Tree}, findP l path = some (x, ys) → ys.length + 1 = path.length
  | [], l, x, ys, h => by cases h
  | p :: r, l, x, ys, h => by
    simp only [findP] at h
    split at h
    · split at h
      · rename_i hr; subst hr; cases h; rfl
      · split at h
        · rename_i x' ys' he
          cases h
          have := findP_len he
          simp; omega
        · cases h
    · cases h

/-- nodes one within the other, the innermost first -/
def ChainI (n lo hi : Nat) : List Hd → Nat → Nat → Prop
  | [], p, q => lo ≤ p ∧ p ≤ q ∧ q ≤ hi
  | y :: r, p, q => y.frm ≤ y.len ∧ y.len < y.body ∧ y.body ≤ p ∧ p ≤ q ∧ q ≤ y.stop ∧ y.stop ≤ y.fin ∧ y.fin ≤ n ∧ ChainI n lo hi r y.frm y.fin
theorem ChainI.snoc {n lo hi : Nat} {y : Hd} (hy : y.frm ≤ y.len ∧ y.len < y.body ∧ y.body ≤ y.stop ∧ y.stop ≤ y.fin ∧ y.fin ≤ n) (hl : lo ≤ y.frm) (hh : y.fin ≤ hi) : ∀ {m : List Hd} {p q : Nat}, ChainI n y.body y.stop m p q → ChainI n lo hi (m ++ [y]) p q
  | [], p, q, h => by
    simp only [ChainI, List.nil_append] at h ⊢
    omega
  | z :: m, p, q, h => by
    simp only [ChainI, List.cons_append] at h ⊢
    exact ⟨h.1, h.2.1, h.2.2.1, h.2.2.2.1, h.2.2.2.2.1, h.2.2.2.2.2.1, h.2.2.2.2.2.2.1, ChainI.snoc hy hl hh h.2.2.2.2.2.2.2⟩
theorem ChainI.chain {b : ByteArray} : ∀ {m : List Hd} {p q : Nat}, ChainI b.size 0 b.size m p q → Chain b m p q
  | [], p, q, h => by simp only [ChainI, Chain] at h ⊢; omega
  | z :: m, p, q, h => by
    simp only [ChainI, Chain] at h ⊢
    exact ⟨h.1, h.2.1, h.2.2.1, h.2.2.2.1, h.2.2.2.2.1, h.2.2.2.2.2.1, h.2.2.2.2.2.2.1, h.2.2.2.2.2.2.2.chain⟩
theorem okT_in {b : ByteArray} {D : Nat} {t : Tree} (h : okT b D t) : t.h.frm ≤ t.h.len ∧ t.h.len < t.h.body ∧ t.h.body ≤ t.h.stop ∧ t.h.stop ≤ t.h.fin ∧ t.h.fin ≤ b.size := by
  obtain ⟨h', k⟩ := t
  simp only [okT] at h
  simp only [Tree.h_mk]
  have := h.2.2.2.2.1
  omega
theorem okTs_get {b : ByteArray} {D q : Nat} : ∀ {l : List Tree} {p : Nat}, okTs b D p q l → ∀ j, j < l.length → okT b D (l.getD j default) ∧ p ≤ (l.getD j default).h.frm ∧ (l.getD j default).h.fin ≤ q
  | [], p, h, j, hj => by simp at hj
  | t :: l, p, h, 0, hj => by
    simp only [okTs] at h
    have := okTs_le h.2.2
    simp only [List.getD_cons_zero]
    exact ⟨h.2.1, by omega, this⟩
  | t :: l, p, h, j + 1, hj => by
    simp only [okTs] at h
    have h1 := okT_lt h.2.1
    have := okTs_get h.2.2 j (by simpa using hj)
    simp only [List.getD_cons_succ]
    exact ⟨this.1, by omega, this.2.2⟩
theorem okT_kids {b : ByteArray} {D : Nat} {t : Tree} (h : okT b D t) (hk : t.kids ≠ []) : okTs b (D + 1) t.h.body t.h.stop t.kids := by
  obtain ⟨h', k⟩ := t
  simp only [okT] at h
  simp only [Tree.h_mk, Tree.kids_mk] at hk ⊢
  cases hb : h'.built with
  | true => exact h.2.2.2.2.2.2.2.2.2.2 hb
  | false => exact absurd (h.2.2.2.2.2.2.2.2.2.1 hb) hk
theorem findP_kids {l : List Tree} {path : List Int} {x : Tree} {ys : List Tree} (h : findP l path = some (x, ys)) : l ≠ [] := by
  rintro rfl
  cases path with
  | nil => cases h
  | cons p r => simp only [findP] at h; rw [if_neg (by simp <;> omega)] at h; cases h
theorem findP_chain {b : ByteArray} : ∀ {path : List Int} {l : List Tree} {D lo hi : Nat} {x : Tree} {ys : List Tree}, okTs b D lo hi l → findP l path = some (x, ys) → ChainI b.size lo hi (ys.map Tree.h).reverse x.h.frm x.h.fin ∧ ∃ E, okT b E x
  | [], l, D, lo, hi, x, ys, ho, h => by cases h
  | p :: r, l, D, lo, hi, x, ys, ho, h => by
    simp only [findP] at h
    split at h
    · rename_i hp
      have hg := okTs_get ho p.toNat (by omega)
      split at h
      · cases h
        have := okT_in hg.1
        refine ⟨?_, _, hg.1⟩
        simp only [List.map_nil, List.reverse_nil, ChainI]; omega
      · split at h
        · rename_i x' ys' he
          cases h
          have hk := okT_kids hg.1 (findP_kids he)
          have ih := findP_chain hk he
          refine ⟨?_, ih.2⟩
          rw [List.map_cons, List.reverse_cons]
          exact ChainI.snoc (okT_in hg.1) hg.2.1 hg.2.2 ih.1
        · cases h
    · cases h

def errOf : Except Flt (List Tree) → Int
  | .ok _ => 0
  | .error e => e.2
def okL : Except Flt (List Tree) → List Tree
  | .ok l => l
  | .error _ => []
def atOf (b : ByteArray) : Except Flt (List Tree) → Nat
  | .ok _ => b.size
  | .error e => e.1
theorem readOut_eq (b : ByteArray) (r : Except Flt (List Tree)) : readOut b r = .tup [treesV (okL r), .v (.int .i64 (atOf b r : Int)), .v (.int .i64 (errOf r))] := by cases r <;> rfl
theorem errOf_zero {b : ByteArray} (h : errOf (readB b) = 0) : ∃ l, readB b = .ok l := by
  cases hr : readB b with
  | ok l => exact ⟨l, rfl⟩
  | error e => rw [hr] at h; exact absurd h (readB_err hr)
theorem errOf_size {b : ByteArray} (h : errOf (readB b) = 0) : b.size ≤ 4000 := by
  obtain ⟨l, hl⟩ := errOf_zero h
  exact (readB_len hl).2

/-- bytes in which a node is other bytes, and the error -/
def replacedP (b : ByteArray) (path : List Int) (by_ : ByteArray) : ByteArray × Int :=
  if errOf (readB b) ≠ 0 then (⟨#[]⟩, errOf (readB b)) else
  if path ≠ [] ∧ findP (okL (readB b)) path = none then (⟨#[]⟩, 11) else
  if (by_.size ≠ 0 ∨ path.length = 0 ∨ (path.length = 1 ∧ (okL (readB b)).length = 1)) ∧ errOf (readB by_) ≠ 0 then (⟨#[]⟩, errOf (readB by_)) else
  let out := match findP (okL (readB b)) path with
    | none => by_
    | some (x, ys) => replA b (ys.map Tree.h).reverse x.h.frm x.h.fin by_
  if 4000 < out.size then (⟨#[]⟩, 2) else if errOf (readB out) ≠ 0 then (⟨#[]⟩, errOf (readB out)) else (out, 0)
end Go.Proofs.Ytmjjfdppaomcfaa

/- Walks: bytes in which a node is other bytes; the chapter's example. -/
namespace Go.Proofs.Ytmjjfdppaomcfaa
open Go Go.Proofs.Ytmjjfdppaomcfaa.Ab
set_option maxRecDepth 100000
set_option linter.unusedSimpArgs false

theorem astr_nnil (b : ByteArray) : astr .neq b ⟨#[]⟩ = some (.bool (decide (b.size ≠ 0))) := by
  have h := astr_nil b
  simp only [astr, Option.some.injEq, Value.bool.injEq] at h ⊢
  rw [h]; simp
theorem FZ.strInt (s : ByteArray) (e : Int) : FZ (.tup [.v (.string s), .v (.int .i64 e)]) := FZ.tup (FZs.cons (FZ.v _) (FZs.one (FZ.v _)))
theorem fin_si {H' : AH} {s : ByteArray} {e : Int} {w : AV} (hw : w = .tup [.v (.string s), .v (.int .i64 e)]) : ∃ v v', AOut.ret (.tup [.v (.string s), .v (.int .i64 e)]) = .ret v ∧ View H' v v' ∧ FZ v' ∧ v' = w := by
  subst hw; exact ⟨_, _, rfl, (FZ.strInt s e).view, FZ.strInt s e, rfl⟩
def siV (x : ByteArray × Int) : AV := .tup [.v (.string x.1), .v (.int .i64 x.2)]
theorem bneF {x y : Int} (h : x = y) : (x != y) = false := by subst h; simp
theorem bneT {x y : Int} (h : x ≠ y) : (x != y) = true := by simp [h]
theorem beqT {x y : Int} (h : x = y) : (x == y) = true := by subst h; simp
theorem beqF {x y : Int} (h : x ≠ y) : (x == y) = false := by simp [h]
theorem FZ.intsV (l : List Int) : FZ (intsV l) := FZ.lst rfl fun r hr => by
  obtain ⟨x, _, rfl⟩ := List.mem_map.mp hr; exact FZs.one (FZ.v _)

def ResSI (R : ByteArray × Int) : AOut → AH → Prop := fun out H' => ∃ v v', out = .ret v ∧ View H' v v' ∧ FZ v' ∧ v' = siV R
def endP (out : ByteArray) : ByteArray × Int := if 4000 < out.size then (⟨#[]⟩, 2) else if errOf (readB out) ≠ 0 then (⟨#[]⟩, errOf (readB out)) else (out, 0)
def outP (b by_ : ByteArray) : Option (Tree × List Tree) → ByteArray
  | none => by_
  | some (x, ys) => replA b (ys.map Tree.h).reverse x.h.frm x.h.fin by_
def xV : Option (Tree × List Tree) → AV
  | some (t, _) => treeV t
  | none => .v (.pointer none)
def arV : Option (Tree × List Tree) → AV
  | some (_, a) => treesV a
  | none => treesV []
def rest16c : CC := dropS 9 Cd.cd16
set_option maxHeartbeats 2000000 in
theorem tail16c (out : ByteArray) (f : AF) (H : AH) (f17 : f.t 17 = .v (.string out)) (hds : f.ds = []) :
    cwp Try.prog [] 91 rest16c (Kont.fin Try.prog [ResultVar.tmp 6, ResultVar.tmp 7] (ResSI (endP out))) f H := by
  unfold endP
  by_cases h1 : 4000 < out.size
  · rw [if_pos h1]
    simp only [rest16c, dropS, f17, hds, show decide ((out.size : Int) > 4000) = true from decide_eq_true (by omega), Cd.cd16, Tk.t16, base0, base1, base2, base3, Option.isNone_none, Option.isNone_some, Nat.reduceBEq, true_or, or_true, false_or, or_false, Nat.reduceLT, Nat.reduceMod, Nat.reducePow, rmaps, nsucc, List.flatten_cons, List.flatten_nil, Nat.reduceEqDiff, Nat.reduceLeDiff, Nat.reduceAdd, Nat.reduceMul, Nat.reduceSub, ↓reduceIte, reduceCtorEq, decide_true, decide_false]
    exact fin_si rfl
  · rw [if_neg h1]
    simp only [rest16c, dropS, f17, hds, show decide ((out.size : Int) > 4000) = false from decide_eq_false (by omega), Cd.cd16, Tk.t16, base0, base1, base2, base3, Option.isNone_none, Option.isNone_some, Nat.reduceBEq, true_or, or_true, false_or, or_false, Nat.reduceLT, Nat.reduceMod, Nat.reducePow, rmaps, nsucc, List.flatten_cons, List.flatten_nil, Nat.reduceEqDiff, Nat.reduceLeDiff, Nat.reduceAdd, Nat.reduceMul, Nat.reduceSub, ↓reduceIte, reduceCtorEq, decide_true, decide_false]
    first | refine FCall.go (read37 out) (FZs.one (FZ.v _)) ?_ | refine FCall.go' (read37 out) (FZs.one (FZ.v _)) ?_ | refine FCall.goQ (read37 out) (FZs.one (FZ.v _)) ?_
    by_cases h2 : errOf (readB out) = 0
    · rw [if_neg (fun h => h h2)]
      simp only [f17, hds, readOut_eq, bneF h2, Cd.cd16, Tk.t16, base0, base1, base2, base3, Option.isNone_none, Option.isNone_some, Nat.reduceBEq, true_or, or_true, false_or, or_false, Nat.reduceLT, Nat.reduceMod, Nat.reducePow, rmaps, nsucc, List.flatten_cons, List.flatten_nil, Nat.reduceEqDiff, Nat.reduceLeDiff, Nat.reduceAdd, Nat.reduceMul, Nat.reduceSub, ↓reduceIte, reduceCtorEq, decide_true, decide_false]
      exact fin_si rfl
    · rw [if_pos h2]
      simp only [f17, hds, readOut_eq, bneT h2, Cd.cd16, Tk.t16, base0, base1, base2, base3, Option.isNone_none, Option.isNone_some, Nat.reduceBEq, true_or, or_true, false_or, or_false, Nat.reduceLT, Nat.reduceMod, Nat.reducePow, rmaps, nsucc, List.flatten_cons, List.flatten_nil, Nat.reduceEqDiff, Nat.reduceLeDiff, Nat.reduceAdd, Nat.reduceMul, Nat.reduceSub, ↓reduceIte, reduceCtorEq, decide_true, decide_false]
      exact fin_si rfl

def rest16b : CC := dropS 7 Cd.cd16
theorem rest16b_eq : rest16b = putS 2 (dropS 7 Cd.cd16) rest16c := (putS_drop 2 (dropS 7 Cd.cd16)).symm
set_option maxHeartbeats 2000000 in
theorem tail16b (b : ByteArray) (hb : b.size ≤ 4000) (by_ : ByteArray) (hby : by_.size ≤ 4050) (fo : Option (Tree × List Tree)) (hfo : ∀ x ys, fo = some (x, ys) → ys.length ≤ 20 ∧ Chain b (ys.map Tree.h).reverse x.h.frm x.h.fin)
    (f : AF) (H : AH) (f0 : f.t 0 = .v (.string b)) (f2 : f.t 2 = .v (.string by_)) (f11 : f.t 11 = xV fo) (f12 : f.t 12 = arV fo) (hds : f.ds = []) :
    cwp Try.prog [] 91 rest16b (Kont.fin Try.prog [ResultVar.tmp 6, ResultVar.tmp 7] (ResSI (endP (outP b by_ fo)))) f H := by
  rw [rest16b_eq]
  cases fo with
  | none =>
    simp only [xV, arV] at f11 f12
    simp only [dropS, putS, f0, f2, f11, f12, hds, Cd.cd16, Tk.t16, base0, base1, base2, base3, Option.isNone_none, Option.isNone_some, Nat.reduceBEq, true_or, or_true, false_or, or_false, Nat.reduceLT, Nat.reduceMod, Nat.reducePow, rmaps, nsucc, List.flatten_cons, List.flatten_nil, Nat.reduceEqDiff, Nat.reduceLeDiff, Nat.reduceAdd, Nat.reduceMul, Nat.reduceSub, ↓reduceIte, reduceCtorEq, decide_true, decide_false]
    exact tail16c _ _ _ (by simp [upd, outP]) (by simp [upd, hds])
  | some xy =>
    obtain ⟨x, ys⟩ := xy
    obtain ⟨g1, g2⟩ := hfo x ys rfl
    simp only [xV, arV] at f11 f12
    have hx := treeV_box x
    have hR := replaced44 b hb ys x by_ g1 hby g2
    have hz := FZ.treeV x
    rw [hx] at hR f11 hz
    simp only [dropS, putS, f0, f2, f11, f12, hds, Cd.cd16, Tk.t16, base0, base1, base2, base3, Option.isNone_none, Option.isNone_some, Nat.reduceBEq, true_or, or_true, false_or, or_false, Nat.reduceLT, Nat.reduceMod, Nat.reducePow, rmaps, nsucc, List.flatten_cons, List.flatten_nil, Nat.reduceEqDiff, Nat.reduceLeDiff, Nat.reduceAdd, Nat.reduceMul, Nat.reduceSub, ↓reduceIte, reduceCtorEq, decide_true, decide_false]
    first | refine FCall.go hR (FZs.cons (FZ.v _) (FZs.cons (FZ.rowsOf ys) (FZs.cons hz (FZs.one (FZ.v _))))) ?_ | refine FCall.go' hR (FZs.cons (FZ.v _) (FZs.cons (FZ.rowsOf ys) (FZs.cons hz (FZs.one (FZ.v _))))) ?_ | refine FCall.goQ hR (FZs.cons (FZ.v _) (FZs.cons (FZ.rowsOf ys) (FZs.cons hz (FZs.one (FZ.v _))))) ?_
    simp only [dropS, putS, Cd.cd16, Tk.t16, base0, base1, base2, base3, Option.isNone_none, Option.isNone_some, Nat.reduceBEq, true_or, or_true, false_or, or_false, Nat.reduceLT, Nat.reduceMod, Nat.reducePow, rmaps, nsucc, List.flatten_cons, List.flatten_nil, Nat.reduceEqDiff, Nat.reduceLeDiff, Nat.reduceAdd, Nat.reduceMul, Nat.reduceSub, ↓reduceIte, reduceCtorEq, decide_true, decide_false]
    exact tail16c _ _ _ (by simp [upd, outP]) (by simp [upd, hds])

def rest16a : CC := dropS 6 Cd.cd16
theorem rest16a_eq : rest16a = putS 1 (dropS 6 Cd.cd16) rest16b := (putS_drop 1 (dropS 6 Cd.cd16)).symm
set_option maxHeartbeats 2000000 in
theorem tail16a (b : ByteArray) (hb : b.size ≤ 4000) (by_ : ByteArray) (al : Bool) (fo : Option (Tree × List Tree)) (hfo : ∀ x ys, fo = some (x, ys) → ys.length ≤ 20 ∧ Chain b (ys.map Tree.h).reverse x.h.frm x.h.fin)
    (f : AF) (H : AH) (f0 : f.t 0 = .v (.string b)) (f2 : f.t 2 = .v (.string by_)) (f11 : f.t 11 = xV fo) (f12 : f.t 12 = arV fo) (f13 : f.t 13 = .v (.bool al)) (hds : f.ds = []) (R : ByteArray × Int) (hR : (if (by_.size ≠ 0 ∨ al = true) ∧ errOf (readB by_) ≠ 0 then (⟨#[]⟩, errOf (readB by_)) else endP (outP b by_ fo)) = R) :
    cwp Try.prog [] 91 rest16a (Kont.fin Try.prog [ResultVar.tmp 6, ResultVar.tmp 7] (ResSI R)) f H := by
  rw [rest16a_eq]
  by_cases h0 : by_.size = 0
  · cases al with
    | false =>
      rw [if_neg (by simp [h0])] at hR
      subst hR
      simp only [dropS, putS, f0, f2, f13, hds, astr_nnil, h0, ne_eq, not_true_eq_false, Cd.cd16, Tk.t16, base0, base1, base2, base3, Option.isNone_none, Option.isNone_some, Nat.reduceBEq, true_or, or_true, false_or, or_false, Nat.reduceLT, Nat.reduceMod, Nat.reducePow, rmaps, nsucc, List.flatten_cons, List.flatten_nil, Nat.reduceEqDiff, Nat.reduceLeDiff, Nat.reduceAdd, Nat.reduceMul, Nat.reduceSub, ↓reduceIte, reduceCtorEq, decide_true, decide_false]
      exact tail16b b hb by_ (by omega) fo hfo _ _ (by simp [upd, f0]) (by simp [upd, f2]) (by simp [upd, f11]) (by simp [upd, f12]) (by simp [upd, hds])
    | true =>
      simp only [dropS, putS, f0, f2, f13, hds, astr_nnil, h0, ne_eq, not_true_eq_false, Cd.cd16, Tk.t16, base0, base1, base2, base3, Option.isNone_none, Option.isNone_some, Nat.reduceBEq, true_or, or_true, false_or, or_false, Nat.reduceLT, Nat.reduceMod, Nat.reducePow, rmaps, nsucc, List.flatten_cons, List.flatten_nil, Nat.reduceEqDiff, Nat.reduceLeDiff, Nat.reduceAdd, Nat.reduceMul, Nat.reduceSub, ↓reduceIte, reduceCtorEq, decide_true, decide_false]
      first | refine FCall.go (read37 by_) (FZs.one (FZ.v _)) ?_ | refine FCall.go' (read37 by_) (FZs.one (FZ.v _)) ?_ | refine FCall.goQ (read37 by_) (FZs.one (FZ.v _)) ?_
      by_cases h2 : errOf (readB by_) = 0
      · rw [if_neg (fun h => h.2 h2)] at hR
        subst hR
        simp only [dropS, putS, readOut_eq, bneF h2, Cd.cd16, Tk.t16, base0, base1, base2, base3, Option.isNone_none, Option.isNone_some, Nat.reduceBEq, true_or, or_true, false_or, or_false, Nat.reduceLT, Nat.reduceMod, Nat.reducePow, rmaps, nsucc, List.flatten_cons, List.flatten_nil, Nat.reduceEqDiff, Nat.reduceLeDiff, Nat.reduceAdd, Nat.reduceMul, Nat.reduceSub, ↓reduceIte, reduceCtorEq, decide_true, decide_false]
        exact tail16b b hb by_ (by omega) fo hfo _ _ (by simp [upd, f0]) (by simp [upd, f2]) (by simp [upd, f11]) (by simp [upd, f12]) (by simp [upd, hds])
      · rw [if_pos ⟨.inr rfl, h2⟩] at hR
        subst hR
        simp only [dropS, putS, readOut_eq, bneT h2, hds, Cd.cd16, Tk.t16, base0, base1, base2, base3, Option.isNone_none, Option.isNone_some, Nat.reduceBEq, true_or, or_true, false_or, or_false, Nat.reduceLT, Nat.reduceMod, Nat.reducePow, rmaps, nsucc, List.flatten_cons, List.flatten_nil, Nat.reduceEqDiff, Nat.reduceLeDiff, Nat.reduceAdd, Nat.reduceMul, Nat.reduceSub, ↓reduceIte, reduceCtorEq, decide_true, decide_false]
        exact fin_si rfl
  · simp only [dropS, putS, f0, f2, f13, hds, astr_nnil, h0, ne_eq, not_false_eq_true, Cd.cd16, Tk.t16, base0, base1, base2, base3, Option.isNone_none, Option.isNone_some, Nat.reduceBEq, true_or, or_true, false_or, or_false, Nat.reduceLT, Nat.reduceMod, Nat.reducePow, rmaps, nsucc, List.flatten_cons, List.flatten_nil, Nat.reduceEqDiff, Nat.reduceLeDiff, Nat.reduceAdd, Nat.reduceMul, Nat.reduceSub, ↓reduceIte, reduceCtorEq, decide_true, decide_false]
    first | refine FCall.go (read37 by_) (FZs.one (FZ.v _)) ?_ | refine FCall.go' (read37 by_) (FZs.one (FZ.v _)) ?_ | refine FCall.goQ (read37 by_) (FZs.one (FZ.v _)) ?_
    by_cases h2 : errOf (readB by_) = 0
    · rw [if_neg (fun h => h.2 h2)] at hR
      subst hR
      have := errOf_size h2
      simp only [dropS, putS, readOut_eq, bneF h2, Cd.cd16, Tk.t16, base0, base1, base2, base3, Option.isNone_none, Option.isNone_some, Nat.reduceBEq, true_or, or_true, false_or, or_false, Nat.reduceLT, Nat.reduceMod, Nat.reducePow, rmaps, nsucc, List.flatten_cons, List.flatten_nil, Nat.reduceEqDiff, Nat.reduceLeDiff, Nat.reduceAdd, Nat.reduceMul, Nat.reduceSub, ↓reduceIte, reduceCtorEq, decide_true, decide_false]
      exact tail16b b hb by_ (by omega) fo hfo _ _ (by simp [upd, f0]) (by simp [upd, f2]) (by simp [upd, f11]) (by simp [upd, f12]) (by simp [upd, hds])
    · rw [if_pos ⟨.inl h0, h2⟩] at hR
      subst hR
      simp only [dropS, putS, readOut_eq, bneT h2, hds, Cd.cd16, Tk.t16, base0, base1, base2, base3, Option.isNone_none, Option.isNone_some, Nat.reduceBEq, true_or, or_true, false_or, or_false, Nat.reduceLT, Nat.reduceMod, Nat.reducePow, rmaps, nsucc, List.flatten_cons, List.flatten_nil, Nat.reduceEqDiff, Nat.reduceLeDiff, Nat.reduceAdd, Nat.reduceMul, Nat.reduceSub, ↓reduceIte, reduceCtorEq, decide_true, decide_false]
      exact fin_si rfl

set_option maxHeartbeats 2000000 in
theorem replaced16 (b : ByteArray) (path : List Int) (hp : path.length ≤ 20) (by_ : ByteArray) : FCall Try.prog 16 [.v (.string b), intsV path, .v (.string by_)] (· = siV (replacedP b path by_)) := by
  refine ACall.enter [] (cc := putS 6 Cd.cd16 rest16a) (by rw [show putS 6 Cd.cd16 rest16a = Cd.cd16 from putS_drop 6 _]; exact Cd.fn16) (by simp) ?_
  generalize hR : replacedP b path by_ = R
  unfold replacedP at hR
  simp only [putS, Cd.cd16, Tk.t16, base0, base1, base2, base3, Option.isNone_none, Option.isNone_some, Nat.reduceBEq, true_or, or_true, false_or, or_false, Nat.reduceLT, Nat.reduceMod, Nat.reducePow, rmaps, nsucc, List.flatten_cons, List.flatten_nil, Nat.reduceEqDiff, Nat.reduceLeDiff, Nat.reduceAdd, Nat.reduceMul, Nat.reduceSub, ↓reduceIte, reduceCtorEq, decide_true, decide_false]
  first | refine FCall.go (read37 b) (FZs.one (FZ.v _)) ?_ | refine FCall.go' (read37 b) (FZs.one (FZ.v _)) ?_ | refine FCall.goQ (read37 b) (FZs.one (FZ.v _)) ?_
  by_cases h1 : errOf (readB b) = 0
  rotate_left
  · rw [if_pos h1] at hR
    subst hR
    simp only [putS, readOut_eq, bneT h1, Cd.cd16, Tk.t16, base0, base1, base2, base3, Option.isNone_none, Option.isNone_some, Nat.reduceBEq, true_or, or_true, false_or, or_false, Nat.reduceLT, Nat.reduceMod, Nat.reducePow, rmaps, nsucc, List.flatten_cons, List.flatten_nil, Nat.reduceEqDiff, Nat.reduceLeDiff, Nat.reduceAdd, Nat.reduceMul, Nat.reduceSub, ↓reduceIte, reduceCtorEq, decide_true, decide_false]
    exact fin_si rfl
  · rw [if_neg (fun h => h h1)] at hR
    have hb := errOf_size h1
    obtain ⟨l, hl⟩ := errOf_zero h1
    have hwf := readB_wf hl
    have hok : okL (readB b) = l := by rw [hl]; rfl
    rw [hok] at hR
    simp only [putS, readOut_eq, bneF h1, hok, Cd.cd16, Tk.t16, base0, base1, base2, base3, Option.isNone_none, Option.isNone_some, Nat.reduceBEq, true_or, or_true, false_or, or_false, Nat.reduceLT, Nat.reduceMod, Nat.reducePow, rmaps, nsucc, List.flatten_cons, List.flatten_nil, Nat.reduceEqDiff, Nat.reduceLeDiff, Nat.reduceAdd, Nat.reduceMul, Nat.reduceSub, ↓reduceIte, reduceCtorEq, decide_true, decide_false]
    first | refine FCall.go (find43 l path (by omega)) (FZs.cons (FZ.rowsOf l) (FZs.one (FZ.intsV path))) ?_ | refine FCall.go' (find43 l path (by omega)) (FZs.cons (FZ.rowsOf l) (FZs.one (FZ.intsV path))) ?_ | refine FCall.goQ (find43 l path (by omega)) (FZs.cons (FZ.rowsOf l) (FZs.one (FZ.intsV path))) ?_
    have hfl := findT_eq path l []
    have hch : ∀ x ys, findP l path = some (x, ys) → ys.length ≤ 20 ∧ Chain b (ys.map Tree.h).reverse x.h.frm x.h.fin := fun x ys e => by
      have e1 := findP_len e
      exact ⟨by omega, (findP_chain hwf e).1.chain⟩
    cases hfo : findP l path with
    | none =>
      rw [hfo] at hfl hch hR
      rw [hfl]
      cases path with
      | nil =>
        rw [if_neg (fun h => h.1 rfl)] at hR
        simp only [putS, findOut, intsV, List.map_nil, show decide (((0 : Nat) : Int) > 0) = false from rfl, show (((0 : Nat) : Int) == 0) = true from rfl, show (((0 : Nat) : Int) == 1) = false from rfl, Cd.cd16, Tk.t16, base0, base1, base2, base3, Option.isNone_none, Option.isNone_some, Nat.reduceBEq, true_or, or_true, false_or, or_false, Nat.reduceLT, Nat.reduceMod, Nat.reducePow, rmaps, nsucc, List.flatten_cons, List.flatten_nil, Nat.reduceEqDiff, Nat.reduceLeDiff, Nat.reduceAdd, Nat.reduceMul, Nat.reduceSub, ↓reduceIte, reduceCtorEq, decide_true, decide_false]
        refine tail16a b hb by_ true none hch _ _ ?_ ?_ ?_ ?_ ?_ ?_ _ (Eq.trans ?_ hR)
        · simp [upd, enterA]
        · simp [upd, enterA]
        · simp [upd, xV]
        · simp [upd, arV]
        · simp [upd]
        · rfl
        · simp only [List.length_nil, true_or, or_true, true_and]; rfl
      | cons p r =>
        rw [if_pos ⟨by simp, rfl⟩] at hR
        subst hR
        simp only [putS, findOut, intsV, List.map_cons, List.length_map, show decide (((r.length + 1 : Nat) : Int) > 0) = true from decide_eq_true (by omega), Cd.cd16, Tk.t16, base0, base1, base2, base3, Option.isNone_none, Option.isNone_some, Nat.reduceBEq, true_or, or_true, false_or, or_false, Nat.reduceLT, Nat.reduceMod, Nat.reducePow, rmaps, nsucc, List.flatten_cons, List.flatten_nil, Nat.reduceEqDiff, Nat.reduceLeDiff, Nat.reduceAdd, Nat.reduceMul, Nat.reduceSub, ↓reduceIte, reduceCtorEq, decide_true, decide_false]
        exact fin_si rfl
    | some xy =>
      obtain ⟨x, ys⟩ := xy
      rw [hfo] at hfl hch hR
      rw [hfl]
      rw [if_neg (fun h => by cases h.2)] at hR
      have hx := treeV_box x
      have hp0 : path.length ≠ 0 := by have := findP_len hfo; omega
      have e0 : ((path.length : Int) == 0) = false := beqF (by omega)
      by_cases a1 : path.length = 1
      · have e1 : ((path.length : Int) == 1) = true := beqT (by omega)
        by_cases a2 : l.length = 1
        · simp only [putS, findOut, intsV, treesV, hx, List.length_map, e0, e1, show ((l.length : Int) == 1) = true from beqT (by omega), Cd.cd16, Tk.t16, base0, base1, base2, base3, Option.isNone_none, Option.isNone_some, Nat.reduceBEq, true_or, or_true, false_or, or_false, Nat.reduceLT, Nat.reduceMod, Nat.reducePow, rmaps, nsucc, List.flatten_cons, List.flatten_nil, Nat.reduceEqDiff, Nat.reduceLeDiff, Nat.reduceAdd, Nat.reduceMul, Nat.reduceSub, ↓reduceIte, reduceCtorEq, decide_true, decide_false]
          refine tail16a b hb by_ true (some (x, ys)) hch _ _ (by simp [upd, enterA]) (by simp [upd, enterA]) (by simp [upd, hx, xV, treesV]) (by simp [upd, treesV, arV]) (by simp [upd]) rfl _ (Eq.trans ?_ hR)
          simp only [a1, a2, and_self, or_true]; rfl
        · simp only [putS, findOut, intsV, treesV, hx, List.length_map, e0, e1, show ((l.length : Int) == 1) = false from beqF (by omega), Cd.cd16, Tk.t16, base0, base1, base2, base3, Option.isNone_none, Option.isNone_some, Nat.reduceBEq, true_or, or_true, false_or, or_false, Nat.reduceLT, Nat.reduceMod, Nat.reducePow, rmaps, nsucc, List.flatten_cons, List.flatten_nil, Nat.reduceEqDiff, Nat.reduceLeDiff, Nat.reduceAdd, Nat.reduceMul, Nat.reduceSub, ↓reduceIte, reduceCtorEq, decide_true, decide_false]
          refine tail16a b hb by_ false (some (x, ys)) hch _ _ (by simp [upd, enterA]) (by simp [upd, enterA]) (by simp [upd, hx, xV, treesV]) (by simp [upd, treesV, arV]) (by simp [upd]) rfl _ (Eq.trans ?_ hR)
          simp only [hp0, a2, and_false, false_and, or_false, Bool.false_eq_true]; rfl
      · have e1 : ((path.length : Int) == 1) = false := beqF (by omega)
        simp only [putS, findOut, intsV, treesV, hx, List.length_map, e0, e1, Cd.cd16, Tk.t16, base0, base1, base2, base3, Option.isNone_none, Option.isNone_some, Nat.reduceBEq, true_or, or_true, false_or, or_false, Nat.reduceLT, Nat.reduceMod, Nat.reducePow, rmaps, nsucc, List.flatten_cons, List.flatten_nil, Nat.reduceEqDiff, Nat.reduceLeDiff, Nat.reduceAdd, Nat.reduceMul, Nat.reduceSub, ↓reduceIte, reduceCtorEq, decide_true, decide_false]
        refine tail16a b hb by_ false (some (x, ys)) hch _ _ (by simp [upd, enterA]) (by simp [upd, enterA]) (by simp [upd, hx, xV, treesV]) (by simp [upd, treesV, arV]) (by simp [upd]) rfl _ (Eq.trans ?_ hR)
        simp only [hp0, a1, and_false, false_and, or_false, Bool.false_eq_true]; rfl

/-- the chapter's example -/
def exB : ByteArray := ⟨#[48, 6, 2, 1, 5, 1, 1, 255]⟩
theorem example36 : FCall Try.prog 36 [] (· = .v (.string exB)) := by
  refine ACall.enter [] Cd.fn36 (by simp) ?_
  simp only [Cd.cd36, Tk.t36, base0, base1, base2, base3, Option.isNone_none, Option.isNone_some, Nat.reduceBEq, true_or, or_true, false_or, or_false, Nat.reduceLT, Nat.reduceMod, Nat.reducePow, rmaps, nsucc, List.flatten_cons, List.flatten_nil, Nat.reduceEqDiff, Nat.reduceLeDiff, Nat.reduceAdd, Nat.reduceMul, Nat.reduceSub, ↓reduceIte, reduceCtorEq, decide_true, decide_false]
  exact fin_v rfl
def exL : List Hd := [⟨0, 16, true, false, 0, 1, 2, 8, 8, 0⟩, ⟨0, 2, false, false, 2, 3, 4, 5, 5, 1⟩, ⟨0, 1, false, false, 5, 6, 7, 8, 8, 1⟩]
theorem ex_walked : walkedOut (readB exB) = .tup [nodesV exL, .v (.int .i64 0), .v (.int .i64 0)] := by rfl
theorem ex_repl : replacedP exB [0, 1] ⟨#[5, 0]⟩ = (⟨#[48, 5, 2, 1, 5, 5, 0]⟩, 0) := by decide +kernel
theorem awake11 : FCall Try.prog 11 [] (· = .v (.bool true)) := by
  refine ACall.enter [] Cd.fn11 (by simp) ?_
  simp only [Cd.cd11, Tk.t11, base0, base1, base2, base3, Option.isNone_none, Option.isNone_some, Nat.reduceBEq, true_or, or_true, false_or, or_false, Nat.reduceLT, Nat.reduceMod, Nat.reducePow, rmaps, nsucc, List.flatten_cons, List.flatten_nil, Nat.reduceEqDiff, Nat.reduceLeDiff, Nat.reduceAdd, Nat.reduceMul, Nat.reduceSub, ↓reduceIte, reduceCtorEq, decide_true, decide_false]
  first | refine FCall.go (example36) (FZs.nil) ?_ | refine FCall.go' (example36) (FZs.nil) ?_ | refine FCall.goQ (example36) (FZs.nil) ?_
  simp only [Cd.cd11, Tk.t11, base0, base1, base2, base3, Option.isNone_none, Option.isNone_some, Nat.reduceBEq, true_or, or_true, false_or, or_false, Nat.reduceLT, Nat.reduceMod, Nat.reducePow, rmaps, nsucc, List.flatten_cons, List.flatten_nil, Nat.reduceEqDiff, Nat.reduceLeDiff, Nat.reduceAdd, Nat.reduceMul, Nat.reduceSub, ↓reduceIte, reduceCtorEq, decide_true, decide_false]
  first | refine FCall.go (walked13 exB) (FZs.one (FZ.v _)) ?_ | refine FCall.go' (walked13 exB) (FZs.one (FZ.v _)) ?_ | refine FCall.goQ (walked13 exB) (FZs.one (FZ.v _)) ?_
  rw [ex_walked]
  simp only [nodesV, exL, Cd.cd11, Tk.t11, base0, base1, base2, base3, Option.isNone_none, Option.isNone_some, Nat.reduceBEq, true_or, or_true, false_or, or_false, Nat.reduceLT, Nat.reduceMod, Nat.reducePow, rmaps, nsucc, List.flatten_cons, List.flatten_nil, Nat.reduceEqDiff, Nat.reduceLeDiff, Nat.reduceAdd, Nat.reduceMul, Nat.reduceSub, ↓reduceIte, reduceCtorEq, decide_true, decide_false]
  first | refine FCall.go (example36) (FZs.nil) ?_ | refine FCall.go' (example36) (FZs.nil) ?_ | refine FCall.goQ (example36) (FZs.nil) ?_
  simp only [Cd.cd11, Tk.t11, base0, base1, base2, base3, Option.isNone_none, Option.isNone_some, Nat.reduceBEq, true_or, or_true, false_or, or_false, Nat.reduceLT, Nat.reduceMod, Nat.reducePow, rmaps, nsucc, List.flatten_cons, List.flatten_nil, Nat.reduceEqDiff, Nat.reduceLeDiff, Nat.reduceAdd, Nat.reduceMul, Nat.reduceSub, ↓reduceIte, reduceCtorEq, decide_true, decide_false]
  refine FCall.bgo (replaced16 exB [0, 1] (by decide) ⟨#[5, 0]⟩) (Views.cons (FZ.v _).view (Views.cons (View.tip fun r hr => ?_) (Views.cons (FZ.v _).view Views.nil))) (Ground.tup fun c hc => ?_) ?_
  · simp only [List.mem_cons, List.not_mem_nil, or_false] at hr
    rcases hr with rfl | rfl <;> exact FZs.one (FZ.v _)
  · simp only [List.mem_cons, List.not_mem_nil, or_false] at hc
    rcases hc with rfl | rfl <;> exact Ground.v _
  rw [ex_repl]
  simp only [siV, nodeL, Cd.cd11, Tk.t11, base0, base1, base2, base3, Option.isNone_none, Option.isNone_some, Nat.reduceBEq, true_or, or_true, false_or, or_false, Nat.reduceLT, Nat.reduceMod, Nat.reducePow, rmaps, nsucc, List.flatten_cons, List.flatten_nil, Nat.reduceEqDiff, Nat.reduceLeDiff, Nat.reduceAdd, Nat.reduceMul, Nat.reduceSub, ↓reduceIte, reduceCtorEq, decide_true, decide_false]
  exact fin_v (by rw [beq_self_eq_true])
end Go.Proofs.Ytmjjfdppaomcfaa

/- Walks: the nodes directly within a node. -/
namespace Go.Proofs.Ytmjjfdppaomcfaa
open Go Go.Proofs.Ytmjjfdppaomcfaa.Ab
set_option maxRecDepth 100000
set_option linter.unusedSimpArgs false

def natR (n : Nat) : List AV := [.v (.int .i64 (n : Int))]
def natsV (l : List Nat) : AV := .lst 1 (l.map natR) .unk
theorem FZs.natR (n : Nat) : FZs (natR n) := FZs.one (FZ.v _)
theorem FZ.natsV (l : List Nat) : FZ (natsV l) := FZ.lst rfl fun r hr => by
  obtain ⟨x, _, rfl⟩ := List.mem_map.mp hr; exact FZs.natR x
theorem fin_grow {α : Type} {enc : α → List AV} {k : Nat} {H H' : AH} {a : AV} {l : List α} (h : GrowE enc k H a l) (hz : ∀ x, FZs (enc x)) {w : AV} (hw : w = .lst k (l.map enc) .unk) : ∃ v v', AOut.ret a = .ret v ∧ View H' v v' ∧ FZ v' ∧ v' = w := by
  subst hw
  exact ⟨_, _, rfl, h.view hz, FZ.lst rfl fun r hr => by obtain ⟨x, _, rfl⟩ := List.mem_map.mp hr; exact hz x, rfl⟩
def walkV (b : ByteArray) (L : List Hd) : AV := .box (wL b (nodesV L) 0 0)
theorem FZ.walkV (b : ByteArray) (L : List Hd) : FZ (walkV b L) := FZ.box fun x hx => by
  simp only [wL, List.mem_cons, List.not_mem_nil, or_false] at hx
  rcases hx with rfl | rfl | rfl | rfl <;> first | exact FZ.v _ | exact FZ.nodesV L

def rest45 : CC := dropS 4 Cd.cd45
set_option maxHeartbeats 1000000 in
theorem tail45 (b : ByteArray) (L : List Hd) (hl : L.length ≤ 1000) (D frm to i0 : Nat) (R : List Nat) (hR : kidScan D frm to i0 (L.drop i0) = R) (f : AF) (H : AH) (f0 : f.t 0 = walkV b L) (f5 : f.t 5 = iv frm) (f6 : f.t 6 = iv to) (f7 : f.t 7 = iv D) (f8 : f.t 8 = iv i0) (hi0 : i0 ≤ L.length) (hds : f.ds = []) :
    cwp Try.prog [] 72 rest45 (Kont.fin Try.prog [ResultVar.tmp 4] (fun out H' => ∃ v v', out = .ret v ∧ View H' v v' ∧ FZ v' ∧ v' = natsV R)) f H := by
  simp only [rest45, dropS, f0, f5, f6, f7, f8, hds, Cd.cd45, Tk.t45, base0, base1, base2, base3, Option.isNone_none, Option.isNone_some, Nat.reduceBEq, true_or, or_true, false_or, or_false, Nat.reduceLT, Nat.reduceMod, Nat.reducePow, rmaps, nsucc, List.flatten_cons, List.flatten_nil, Nat.reduceEqDiff, Nat.reduceLeDiff, Nat.reduceAdd, Nat.reduceMul, Nat.reduceSub, ↓reduceIte, reduceCtorEq, decide_true, decide_false]
  refine LWP.loop [] (fun m f H' => ∃ i acc, m = L.length - i ∧ (i ≤ L.length) ∧ (acc ++ kidScan D frm to i (L.drop i) = R) ∧ (acc.length ≤ i) ∧ f.t 0 = walkV b L ∧ f.t 5 = iv frm ∧ f.t 6 = iv to ∧ f.t 7 = iv D ∧ f.t 11 = iv i ∧ f.ds = [] ∧ GrowE natR 1 H' (f.t 10) acc) ?_ ?_ (m := L.length - (i0))
  · exact ⟨i0, [], rfl, (hi0), (by simpa using hR), (by simp), by simp [upd, f0], by simp [upd, f5], by simp [upd, f6], by simp [upd, f7], by simp [upd, iv], rfl, .inl ⟨rfl, by simp [upd]⟩⟩
  · rintro m f H' ⟨i, acc, rfl, hi, hT, hacc, f0, f5, f6, f7, f11, hds, hg⟩
    by_cases hlt : i < L.length
    · have hrow := getDmap nodeL L i hlt
      have hd : L.drop i = L.getD i default :: L.drop (i + 1) := by
        rw [List.drop_eq_getElem_cons hlt, List.getD_eq_getElem?_getD, List.getElem?_eq_getElem hlt]; rfl
      generalize L.getD i default = x at hrow hd
      rw [hd] at hT
      simp only [kidScan] at hT
      by_cases h1 : to ≤ x.frm
      · rw [if_pos h1, List.append_nil] at hT
        simp only [iv, walkV, wL, nodesV, List.length_map, show decide ((i : Int) < (L.length : Int)) = true from decide_eq_true (by omega), ltT hlt, Int.natCast_nonneg, Int.toNat_natCast, hrow, nodeL, show decide ((x.frm : Int) ≥ (to : Int)) = true from decide_eq_true (by omega), f0, f5, f6, f7, f11, hds, Cd.cd45, Tk.t45, base0, base1, base2, base3, Option.isNone_none, Option.isNone_some, Nat.reduceBEq, true_or, or_true, false_or, or_false, Nat.reduceLT, Nat.reduceMod, Nat.reducePow, rmaps, nsucc, List.flatten_cons, List.flatten_nil, Nat.reduceEqDiff, Nat.reduceLeDiff, Nat.reduceAdd, Nat.reduceMul, Nat.reduceSub, ↓reduceIte, reduceCtorEq, decide_true, decide_false]
        subst hT; exact fin_grow hg FZs.natR rfl
      · rw [if_neg h1] at hT
        by_cases h2 : x.deep = D
        · by_cases h3 : frm ≤ x.frm
          · rw [if_pos ⟨h2, h3⟩] at hT
            rcases hg with ⟨rfl, h10⟩ | ⟨tp, h10, htp⟩
            · simp only [iv, walkV, wL, nodesV, List.length_map, show decide ((i : Int) < (L.length : Int)) = true from decide_eq_true (by omega), ltT hlt, Int.natCast_nonneg, Int.toNat_natCast, hrow, nodeL, show decide ((x.frm : Int) ≥ (to : Int)) = false from decide_eq_false (by omega), show ((x.deep : Int) == (D : Int)) = true from by rw [beq_iff_eq]; omega, show decide ((x.frm : Int) ≥ (frm : Int)) = true from decide_eq_true (by omega), h10, nilS, show roomA 8 1 = true from rfl, wrapS (show i < 2 ^ 62 by omega), f0, f5, f6, f7, f11, hds, Cd.cd45, Tk.t45, base0, base1, base2, base3, Option.isNone_none, Option.isNone_some, Nat.reduceBEq, true_or, or_true, false_or, or_false, Nat.reduceLT, Nat.reduceMod, Nat.reducePow, rmaps, nsucc, List.flatten_cons, List.flatten_nil, Nat.reduceEqDiff, Nat.reduceLeDiff, Nat.reduceAdd, Nat.reduceMul, Nat.reduceSub, ↓reduceIte, reduceCtorEq, decide_true, decide_false]
              refine ⟨_, by omega, i + 1, [i], rfl, by omega, by simpa using hT, by simp, ?_⟩
              (repeat' apply And.intro) <;> first | rfl | exact GrowE.live (by simp [natR]) (by simp)
            · simp only [iv, walkV, wL, nodesV, List.length_map, show decide ((i : Int) < (L.length : Int)) = true from decide_eq_true (by omega), ltT hlt, Int.natCast_nonneg, Int.toNat_natCast, hrow, nodeL, show decide ((x.frm : Int) ≥ (to : Int)) = false from decide_eq_false (by omega), show ((x.deep : Int) == (D : Int)) = true from by rw [beq_iff_eq]; omega, show decide ((x.frm : Int) ≥ (frm : Int)) = true from decide_eq_true (by omega), h10, htp, room1 (b := 8) (n := acc.length) (by omega) (by omega), wrapS (show i < 2 ^ 62 by omega), f0, f5, f6, f7, f11, hds, Cd.cd45, Tk.t45, base0, base1, base2, base3, Option.isNone_none, Option.isNone_some, Nat.reduceBEq, true_or, or_true, false_or, or_false, Nat.reduceLT, Nat.reduceMod, Nat.reducePow, rmaps, nsucc, List.flatten_cons, List.flatten_nil, Nat.reduceEqDiff, Nat.reduceLeDiff, Nat.reduceAdd, Nat.reduceMul, Nat.reduceSub, ↓reduceIte, reduceCtorEq, decide_true, decide_false]
              refine ⟨_, by omega, i + 1, acc ++ [i], rfl, by omega, by simpa using hT, by simp; omega, ?_⟩
              (repeat' apply And.intro) <;> first | rfl | exact GrowE.live (by simp [natR]) (by simp)
          · rw [if_neg (fun h => h3 h.2)] at hT
            simp only [iv, walkV, wL, nodesV, List.length_map, show decide ((i : Int) < (L.length : Int)) = true from decide_eq_true (by omega), ltT hlt, Int.natCast_nonneg, Int.toNat_natCast, hrow, nodeL, show decide ((x.frm : Int) ≥ (to : Int)) = false from decide_eq_false (by omega), show ((x.deep : Int) == (D : Int)) = true from by rw [beq_iff_eq]; omega, show decide ((x.frm : Int) ≥ (frm : Int)) = false from decide_eq_false (by omega), wrapS (show i < 2 ^ 62 by omega), f0, f5, f6, f7, f11, hds, Cd.cd45, Tk.t45, base0, base1, base2, base3, Option.isNone_none, Option.isNone_some, Nat.reduceBEq, true_or, or_true, false_or, or_false, Nat.reduceLT, Nat.reduceMod, Nat.reducePow, rmaps, nsucc, List.flatten_cons, List.flatten_nil, Nat.reduceEqDiff, Nat.reduceLeDiff, Nat.reduceAdd, Nat.reduceMul, Nat.reduceSub, ↓reduceIte, reduceCtorEq, decide_true, decide_false]
            refine ⟨_, by omega, i + 1, acc, rfl, by omega, hT, by omega, ?_⟩
            (repeat' apply And.intro) <;> first | rfl | exact hg
        · rw [if_neg (fun h => h2 h.1)] at hT
          simp only [iv, walkV, wL, nodesV, List.length_map, show decide ((i : Int) < (L.length : Int)) = true from decide_eq_true (by omega), ltT hlt, Int.natCast_nonneg, Int.toNat_natCast, hrow, nodeL, show decide ((x.frm : Int) ≥ (to : Int)) = false from decide_eq_false (by omega), show ((x.deep : Int) == (D : Int)) = false from beq_eq_false_iff_ne.mpr (by omega), wrapS (show i < 2 ^ 62 by omega), f0, f5, f6, f7, f11, hds, Cd.cd45, Tk.t45, base0, base1, base2, base3, Option.isNone_none, Option.isNone_some, Nat.reduceBEq, true_or, or_true, false_or, or_false, Nat.reduceLT, Nat.reduceMod, Nat.reducePow, rmaps, nsucc, List.flatten_cons, List.flatten_nil, Nat.reduceEqDiff, Nat.reduceLeDiff, Nat.reduceAdd, Nat.reduceMul, Nat.reduceSub, ↓reduceIte, reduceCtorEq, decide_true, decide_false]
          refine ⟨_, by omega, i + 1, acc, rfl, by omega, hT, by omega, ?_⟩
          (repeat' apply And.intro) <;> first | rfl | exact hg
    · simp only [iv, walkV, wL, nodesV, List.length_map, show decide ((i : Int) < (L.length : Int)) = false from decide_eq_false (by omega), f0, f5, f6, f7, f11, hds, Cd.cd45, Tk.t45, base0, base1, base2, base3, Option.isNone_none, Option.isNone_some, Nat.reduceBEq, true_or, or_true, false_or, or_false, Nat.reduceLT, Nat.reduceMod, Nat.reducePow, rmaps, nsucc, List.flatten_cons, List.flatten_nil, Nat.reduceEqDiff, Nat.reduceLeDiff, Nat.reduceAdd, Nat.reduceMul, Nat.reduceSub, ↓reduceIte, reduceCtorEq, decide_true, decide_false]
      rw [List.drop_of_length_le (by omega)] at hT
      exact fin_grow hg FZs.natR (by rw [← hT]; simp [kidScan, natsV])

theorem kids45 (b : ByteArray) (hb : b.size ≤ 4000) (L : List Hd) (hl : L.length ≤ 1000) (i : Nat) (hi : i < L.length) (hD : (L.getD i default).deep ≤ 1000) : FCall Try.prog 45 [walkV b L, iv i] (· = natsV (kidScan ((L.getD i default).deep + 1) (L.getD i default).body (L.getD i default).stop (i + 1) (L.drop (i + 1)))) := by
  refine ACall.enter [] (cc := putS 4 Cd.cd45 rest45) (by rw [show putS 4 Cd.cd45 rest45 = Cd.cd45 from putS_drop 4 _]; exact Cd.fn45) (by simp) ?_
  have hrow := getDmap nodeL L i hi
  generalize L.getD i default = x at hrow hD
  simp only [putS, iv, walkV, wL, nodesV, List.length_map, ltT hi, Int.natCast_nonneg, Int.toNat_natCast, hrow, nodeL, show ((i : Int) != -1) = true from by simp, wrapS (show i < 2 ^ 62 by omega), wrapS (show x.deep < 2 ^ 62 by omega), Cd.cd45, Tk.t45, base0, base1, base2, base3, Option.isNone_none, Option.isNone_some, Nat.reduceBEq, true_or, or_true, false_or, or_false, Nat.reduceLT, Nat.reduceMod, Nat.reducePow, rmaps, nsucc, List.flatten_cons, List.flatten_nil, Nat.reduceEqDiff, Nat.reduceLeDiff, Nat.reduceAdd, Nat.reduceMul, Nat.reduceSub, ↓reduceIte, reduceCtorEq, decide_true, decide_false]
  exact tail45 b L hl _ _ _ _ _ rfl _ _ rfl rfl rfl rfl rfl (by omega) rfl
theorem kids45n (b : ByteArray) (hb : b.size ≤ 4000) (L : List Hd) (hl : L.length ≤ 1000) : FCall Try.prog 45 [walkV b L, .v (.int .i64 (-1))] (· = natsV (kidScan 0 0 b.size 0 L)) := by
  refine ACall.enter [] (cc := putS 4 Cd.cd45 rest45) (by rw [show putS 4 Cd.cd45 rest45 = Cd.cd45 from putS_drop 4 _]; exact Cd.fn45) (by simp) ?_
  simp only [putS, iv, walkV, wL, nodesV, List.length_map, show ((-1 : Int) != -1) = false from rfl, Cd.cd45, Tk.t45, base0, base1, base2, base3, Option.isNone_none, Option.isNone_some, Nat.reduceBEq, true_or, or_true, false_or, or_false, Nat.reduceLT, Nat.reduceMod, Nat.reducePow, rmaps, nsucc, List.flatten_cons, List.flatten_nil, Nat.reduceEqDiff, Nat.reduceLeDiff, Nat.reduceAdd, Nat.reduceMul, Nat.reduceSub, ↓reduceIte, reduceCtorEq, decide_true, decide_false]
  exact tail45 b L hl 0 0 b.size 0 _ rfl _ _ rfl rfl rfl rfl rfl (by omega) rfl
end Go.Proofs.Ytmjjfdppaomcfaa

/- Walks: the octets of identifiers and lengths, as the reference writes them. -/
namespace Go.Proofs.Ytmjjfdppaomcfaa
open Go Go.Proofs.Ytmjjfdppaomcfaa.Ab
set_option maxRecDepth 100000
set_option linter.unusedSimpArgs false

/-- the first octet of an identifier, without the number -/
def hdN (cls : Nat) (bl : Bool) : Nat := cls * 64 + (if bl then 32 else 0)
def lowCF : Nat → Nat → List UInt8
  | 0, _ => []
  | m + 1, k => if k = 0 then [] else UInt8.ofNat (128 + k % 128) :: lowCF m (k / 128)
def lowC (n : Nat) : List UInt8 := lowCF n n
/-- the octets of an identifier -/
def identL (cls num : Nat) (bl : Bool) : List UInt8 := if num < 31 then [UInt8.ofNat (hdN cls bl + num)] else
  UInt8.ofNat (hdN cls bl + 31) :: (UInt8.ofNat (num % 128) :: lowC (num / 128)).reverse
def identB (cls num : Nat) (bl : Bool) : ByteArray := ⟨(identL cls num bl).toArray⟩

/-- bytes as a frozen list, or nil -/
def RowsB (v : AV) (L : List UInt8) : Prop := (L = [] ∧ v = nilS) ∨ ∃ tip, v = .lst 1 (L.map byR) tip ∧ (L.length = 0) = False
theorem within20 (x lo hi : Int) : FCall Try.prog 20 [.v (.int .i64 x), .v (.int .i64 lo), .v (.int .i64 hi)] (· = .v (.bool (decide (lo ≤ x ∧ x ≤ hi)))) := by
  refine ACall.enter [] Cd.fn20 (by simp) ?_
  by_cases h1 : lo ≤ x
  · simp only [decide_eq_true h1, Cd.cd20, Tk.t20, base0, base1, base2, base3, Option.isNone_none, Option.isNone_some, Nat.reduceBEq, true_or, or_true, false_or, or_false, Nat.reduceLT, Nat.reduceMod, Nat.reducePow, rmaps, nsucc, List.flatten_cons, List.flatten_nil, Nat.reduceEqDiff, Nat.reduceLeDiff, Nat.reduceAdd, Nat.reduceMul, Nat.reduceSub, ↓reduceIte, reduceCtorEq, decide_true, decide_false]
    exact fin_v (by simp [h1])
  · simp only [decide_eq_false h1, Cd.cd20, Tk.t20, base0, base1, base2, base3, Option.isNone_none, Option.isNone_some, Nat.reduceBEq, true_or, or_true, false_or, or_false, Nat.reduceLT, Nat.reduceMod, Nat.reducePow, rmaps, nsucc, List.flatten_cons, List.flatten_nil, Nat.reduceEqDiff, Nat.reduceLeDiff, Nat.reduceAdd, Nat.reduceMul, Nat.reduceSub, ↓reduceIte, reduceCtorEq, decide_true, decide_false]
    exact fin_v (by simp [h1])

def tagV (c n : Nat) : AV := .agg [iv c, iv n]

def rest21 : CC := dropS 2 Cd.cd21
end Go.Proofs.Ytmjjfdppaomcfaa

/- Walks: lengths in at least so many octets; the program's identifiers; the law of writing. -/
namespace Go.Proofs.Ytmjjfdppaomcfaa
open Go Go.Proofs.Ytmjjfdppaomcfaa.Ab
set_option maxRecDepth 100000
set_option linter.unusedSimpArgs false

def rest69 : CC := dropS 2 Cd.cd69
end Go.Proofs.Ytmjjfdppaomcfaa

/- Walks: the program's identifiers and lengths; the law of writing. -/
namespace Go.Proofs.Ytmjjfdppaomcfaa
open Go Go.Proofs.Ytmjjfdppaomcfaa.Ab
set_option maxRecDepth 100000
set_option linter.unusedSimpArgs false

def rest47 : CC := dropS 3 Cd.cd47
/-- the shortest octets of an identifier, or the error -/
def identOf (c n : Int) (bl : Bool) : ByteArray × Int := if 0 ≤ c ∧ c < 4 ∧ 0 ≤ n ∧ n ≤ 268435456 then (identB c.toNat n.toNat bl, 0) else (⟨#[]⟩, 3)
def lengthOf (n : Int) : ByteArray × Int := if 0 ≤ n ∧ n ≤ 4000 then (lengthB n.toNat 1, 0) else (⟨#[]⟩, 3)
end Go.Proofs.Ytmjjfdppaomcfaa

/- Walks: the law of writing. -/
namespace Go.Proofs.Ytmjjfdppaomcfaa
open Go Go.Proofs.Ytmjjfdppaomcfaa.Ab
set_option maxRecDepth 100000
set_option linter.unusedSimpArgs false

def rest5 : CC := dropS 4 Cd.cd5
end Go.Proofs.Ytmjjfdppaomcfaa

/- Plain: the node at a path by its index; bytes around a node. -/
namespace Go.Proofs.Ytmjjfdppaomcfaa
open Go Go.Proofs.Ytmjjfdppaomcfaa.Ab

theorem okT_deep {b : ByteArray} {D : Nat} {t : Tree} (h : okT b D t) : t.h.deep = D ∧ D ≤ 15 := by
  obtain ⟨h', k⟩ := t
  simp only [okT] at h
  exact h.1
theorem okT_leaf {b : ByteArray} {D : Nat} {t : Tree} (h : okT b D t) (hb : t.h.built = false) : t.kids = [] := by
  obtain ⟨h', k⟩ := t
  simp only [okT] at h
  exact h.2.2.2.2.2.2.2.2.2.1 hb
def findN : Nat → List Tree → List Int → Option Nat
  | _, _, [] => none
  | s, l, p :: r => if 0 ≤ p ∧ p < (l.length : Int) then (if r = [] then some ((kidIx s l).getD p.toNat 0) else findN ((kidIx s l).getD p.toNat 0 + 1) (l.getD p.toNat default).kids r) else none
theorem findN_findP {b : ByteArray} {S : List Tree} : ∀ {path : List Int} {l : List Tree} {s D p q : Nat}, AtL b S s D p q l → (findP l path = none ∧ findN s l path = none) ∨ ∃ x ys i E, findP l path = some (x, ys) ∧ findN s l path = some i ∧ AtT b S i E x
  | [], l, s, D, p, q, h => .inl ⟨rfl, rfl⟩
  | a :: r, l, s, D, p, q, h => by
    simp only [findP, findN]
    by_cases ha : 0 ≤ a ∧ a < (l.length : Int)
    · rw [if_pos ha, if_pos ha]
      have hg := h.get a.toNat (by omega)
      generalize (kidIx s l).getD a.toNat 0 = i at hg
      generalize l.getD a.toNat default = t at hg
      by_cases hr : r = []
      · rw [if_pos hr, if_pos hr]
        exact .inr ⟨t, [], i, D, rfl, rfl, hg⟩
      · rw [if_neg hr, if_neg hr]
        cases hb : t.h.built with
        | true =>
          rcases findN_findP (path := r) (hg.kids hb) with ⟨e1, e2⟩ | ⟨x, ys, j, E, e1, e2, e3⟩
          · rw [e1, e2]; exact .inl ⟨rfl, rfl⟩
          · rw [e1, e2]; exact .inr ⟨x, _, j, E, rfl, rfl, e3⟩
        | false =>
          have hk := okT_leaf hg.ok hb
          rw [hk]
          cases r with
          | nil => exact absurd rfl hr
          | cons c r =>
            have e1 : findP [] (c :: r) = none := by simp only [findP]; rw [if_neg (by simp <;> omega)]
            have e2 : findN (i + 1) [] (c :: r) = none := by simp only [findN]; rw [if_neg (by simp <;> omega)]
            rw [e1, e2]; exact .inl ⟨rfl, rfl⟩
    · rw [if_neg ha, if_neg ha]; exact .inl ⟨rfl, rfl⟩

/-- a constructed node with another content -/
def againB (b : ByteArray) (x : Hd) (c : ByteArray) : ByteArray :=
  if x.opn then b.extract x.frm x.body ++ c ++ b.extract x.stop x.fin else b.extract x.frm x.len ++ lengthB c.size (x.body - x.len) ++ c
def partA (b : ByteArray) (p : Int) (mid : Tree → ByteArray) : Nat → List Tree → ByteArray
  | _, [] => ⟨#[]⟩
  | i, t :: l => (if (i : Int) ≠ p then b.extract t.h.frm t.h.fin else mid t) ++ partA b p mid (i + 1) l
def aroundT (b by_ : ByteArray) : List Int → List Tree → ByteArray
  | [], _ => ⟨#[]⟩
  | p :: r, l => partA b p (fun t => if r = [] then by_ else againB b t.h (aroundT b by_ r t.kids)) 0 l

def replF (b : ByteArray) : List Hd → Nat → Nat → ByteArray → Nat × Nat × ByteArray
  | [], p, q, out => (p, q, out)
  | y :: r, p, q, out => replF b r y.frm y.fin (replStep b y p q out)
end Go.Proofs.Ytmjjfdppaomcfaa

/- Walks: the reference looks for a node, and puts bytes in its place. -/
namespace Go.Proofs.Ytmjjfdppaomcfaa
open Go Go.Proofs.Ytmjjfdppaomcfaa.Ab
set_option maxRecDepth 100000
set_option linter.unusedSimpArgs false

theorem fin_fz {H' : AH} {v w : AV} (h : FZ v) (hw : v = w) : ∃ x x', AOut.ret v = .ret x ∧ View H' x x' ∧ FZ x' ∧ x' = w := by
  subst hw; exact ⟨_, _, rfl, h.view, h, rfl⟩
section
variable {b : ByteArray} {l : List Tree} (hb : b.size ≤ 4000) (hwf : okTs b 0 0 b.size l) (hlen : (flatTs l).length ≤ 300)
theorem AtT.node {i D : Nat} {t : Tree} (h : AtT b (subTs l) i D t) : i < (flatTs l).length ∧ (flatTs l).getD i default = t.h := by
  obtain ⟨h1, h2⟩ := h.get
  rw [← subTs_map]
  refine ⟨by simpa using h1, ?_⟩
  rw [List.getD_eq_getElem?_getD, List.getElem?_map, List.getElem?_eq_getElem h1]
  rw [List.getD_eq_getElem?_getD, List.getElem?_eq_getElem h1] at h2
  simp only [Option.getD_some] at h2
  simp [h2]
include hb hlen in
theorem kidsAt {i D : Nat} {t : Tree} (h : AtT b (subTs l) i D t) : FCall Try.prog 45 [walkV b (flatTs l), iv i] (· = natsV (kidIx (i + 1) t.kids)) := by
  obtain ⟨h1, h2⟩ := h.node
  have hd := okT_deep h.ok
  have := kids45 b hb (flatTs l) (by omega) i h1 (by rw [h2]; omega)
  rw [h2] at this
  have hs := h.scan
  rw [List.map_drop, subTs_map] at hs
  rw [hs] at this
  exact this
include hb hwf hlen in
theorem kidsTop : FCall Try.prog 45 [walkV b (flatTs l), .v (.int .i64 (-1))] (· = natsV (kidIx 0 l)) := by
  have := kids45n b hb (flatTs l) (by omega)
  rw [scan_top hwf] at this
  exact this
end
def ixV : Option Nat → AV
  | some i => iv i
  | none => .v (.int .i64 (-1))
end Go.Proofs.Ytmjjfdppaomcfaa

/- Walks: the reference looks for a node at a path; constructed nodes again. -/
namespace Go.Proofs.Ytmjjfdppaomcfaa
open Go Go.Proofs.Ytmjjfdppaomcfaa.Ab
set_option maxRecDepth 100000
set_option linter.unusedSimpArgs false

/-- a node, or the whole: its number, where its kids begin, and they -/
def AtK (b : ByteArray) (l : List Tree) (a : Int) (s : Nat) (l' : List Tree) : Prop := (a = -1 ∧ s = 0 ∧ l' = l) ∨ ∃ (n D : Nat) (t : Tree), a = (n : Int) ∧ AtT b (subTs l) n D t ∧ t.h.built = true ∧ s = n + 1 ∧ l' = t.kids
section
variable {b : ByteArray} {l : List Tree} (hb : b.size ≤ 4000) (hwf : okTs b 0 0 b.size l) (hlen : (flatTs l).length ≤ 300)
theorem kidIx_le {b : ByteArray} {S : List Tree} {s D p q : Nat} {l : List Tree} (h : AtL b S s D p q l) (hS : S.length ≤ 300) : l.length ≤ 300 := by
  rcases Nat.eq_zero_or_pos l.length with h0 | h0
  · omega
  · obtain ⟨rest, h1, _, _⟩ := h
    have h2 := congrArg List.length h1
    have h3 := len_flatTs l
    have h4 := congrArg List.length (subTs_map l)
    simp only [List.length_drop, List.length_append, List.length_map] at h2 h4
    omega
theorem kidRow (s : Nat) (l : List Tree) (i : Nat) (h : i < l.length) : ((kidIx s l).map natR).getD i [] = [.v (.int .i64 (((kidIx s l).getD i 0 : Nat) : Int))] := by
  have := getDmap natR (kidIx s l) i (by rw [kidIx_length]; exact h)
  rw [this]; rfl
theorem findN_bad {s : Nat} {l : List Tree} {p : Int} {r : List Int} (h : ¬ (0 ≤ p ∧ p < (l.length : Int))) : findN s l (p :: r) = none := if_neg h

include hb hwf hlen in
set_option maxHeartbeats 1000000 in
theorem find29 (path : List Int) (hp : path.length ≤ 100) : FCall Try.prog 29 [walkV b (flatTs l), intsV path] (· = ixV (findN 0 l path)) := by
  have hsl : (subTs l).length ≤ 300 := by have := congrArg List.length (subTs_map l); simp only [List.length_map] at this; omega
  generalize hR : findN 0 l path = R
  refine ACall.enter [] Cd.fn29 (by simp) ?_
  simp only [intsV, List.length_map, Cd.cd29, Tk.t29, base0, base1, base2, base3, Option.isNone_none, Option.isNone_some, Nat.reduceBEq, true_or, or_true, false_or, or_false, Nat.reduceLT, Nat.reduceMod, Nat.reducePow, rmaps, nsucc, List.flatten_cons, List.flatten_nil, Nat.reduceEqDiff, Nat.reduceLeDiff, Nat.reduceAdd, Nat.reduceMul, Nat.reduceSub, ↓reduceIte, reduceCtorEq, decide_true, decide_false]
  refine LWP.loop [] (fun m f H' => ∃ i a s l', m = path.length - i ∧ (i ≤ path.length) ∧ ((i = 0 ∧ a = -1 ∧ s = 0 ∧ l' = l) ∨ (0 < i ∧ ∃ (n D : Nat) (t : Tree), a = (n : Int) ∧ AtT b (subTs l) n D t ∧ s = n + 1 ∧ l' = t.kids)) ∧ ((i < path.length → findN s l' (path.drop i) = R) ∧ (i = path.length → R = if i = 0 then none else some a.toNat)) ∧ f.t 0 = walkV b (flatTs l) ∧ f.t 1 = intsV path ∧ f.t 5 = .v (.int .i64 a) ∧ f.t 6 = iv i ∧ f.ds = [] ∧ H' = AH.none) ?_ ?_ (m := path.length - (0))
  · exact ⟨0, (-1 : Int), 0, l, rfl, (by omega), (.inl ⟨rfl, rfl, rfl, rfl⟩), (⟨fun _ => hR, fun e => by rw [← hR, List.eq_nil_of_length_eq_zero e.symm]; rfl⟩), rfl, rfl, rfl, rfl, rfl, rfl⟩
  · rintro m f H' ⟨i, a, s, l', rfl, hi, hS, hT, f0, f1, f5, f6, hds, rfl⟩
    by_cases hlt : i < path.length
    · have hd : path.drop i = path.getD i 0 :: path.drop (i + 1) := by
        rw [List.drop_eq_getElem_cons hlt, List.getD_eq_getElem?_getD, List.getElem?_eq_getElem hlt]; rfl
      have hget : (path.map intR).getD i [] = [.v (.int .i64 (path.getD i 0))] := getDmap intR path i hlt
      generalize path.getD i 0 = p at hd hget
      have hT1 := hT.1 hlt
      rw [hd] at hT1
      have go : ∀ (D pp q : Nat), AtL b (subTs l) s D pp q l' → 0 ≤ p ∧ p < (l'.length : Int) → findN s l' (p :: path.drop (i + 1)) = R →
          (i + 1 = 0 ∧ ((((kidIx s l').getD p.toNat 0 : Nat) : Int) = -1) ∧ ((kidIx s l').getD p.toNat 0 + 1) = 0 ∧ (l'.getD p.toNat default).kids = l) ∨ (0 < i + 1 ∧ ∃ (n D : Nat) (t : Tree), (((kidIx s l').getD p.toNat 0 : Nat) : Int) = (n : Int) ∧ AtT b (subTs l) n D t ∧ ((kidIx s l').getD p.toNat 0 + 1) = n + 1 ∧ (l'.getD p.toNat default).kids = t.kids) := fun D pp q h1 h2 h3 =>
        .inr ⟨by omega, _, D, l'.getD p.toNat default, rfl, h1.get p.toNat (by omega), rfl, rfl⟩
      have hn : 0 ≤ p ∧ p < (l'.length : Int) → (i + 1 < path.length → findN ((kidIx s l').getD p.toNat 0 + 1) (l'.getD p.toNat default).kids (path.drop (i + 1)) = R) ∧ (i + 1 = path.length → R = if i + 1 = 0 then none else some (((kidIx s l').getD p.toNat 0 : Nat) : Int).toNat) := fun h2 => by
        have h3 := hT1
        simp only [findN] at h3
        rw [if_pos h2] at h3
        refine ⟨fun h4 => ?_, fun h4 => ?_⟩
        · rw [if_neg (fun e => by have := congrArg List.length e; simp at this; omega)] at h3; exact h3
        · rw [if_pos (List.drop_of_length_le (by omega))] at h3
          rw [← h3, if_neg (by omega)]; rfl
      have hw := within20 p 0 ((l'.length : Int) - 1)
      rcases hS with ⟨rfl, rfl, rfl, rfl⟩ | ⟨hi0, n, D, t, rfl, hA, rfl, rfl⟩
      · have hl' := kidIx_le (AtL.all hwf) hsl
        simp only [intsV, natsV, List.length_map, kidIx_length, iv, ltT hlt, f0, f1, f5, f6, hds, Cd.cd29, Tk.t29, base0, base1, base2, base3, Option.isNone_none, Option.isNone_some, Nat.reduceBEq, true_or, or_true, false_or, or_false, Nat.reduceLT, Nat.reduceMod, Nat.reducePow, rmaps, nsucc, List.flatten_cons, List.flatten_nil, Nat.reduceEqDiff, Nat.reduceLeDiff, Nat.reduceAdd, Nat.reduceMul, Nat.reduceSub, ↓reduceIte, reduceCtorEq, decide_true, decide_false]
        first | refine FCall.go (kidsTop hb hwf hlen) (FZs.cons (FZ.walkV _ _) (FZs.one (FZ.v _))) ?_ | refine FCall.go' (kidsTop hb hwf hlen) (FZs.cons (FZ.walkV _ _) (FZs.one (FZ.v _))) ?_ | refine FCall.goQ (kidsTop hb hwf hlen) (FZs.cons (FZ.walkV _ _) (FZs.one (FZ.v _))) ?_
        have wl : IntKind.i64.wrap ((l'.length : Int) - 1) = (l'.length : Int) - 1 := wrapI (by omega) (by omega)
        simp only [intsV, natsV, List.length_map, kidIx_length, iv, ltT hlt, show decide (((0 : Nat) : Int) < (path.length : Int)) = true from decide_eq_true (by omega), show decide (((0 : Nat) : Int) > 0) = false from rfl, Int.natCast_nonneg, Int.toNat_natCast, hget, wl, f0, f1, f5, f6, hds, Cd.cd29, Tk.t29, base0, base1, base2, base3, Option.isNone_none, Option.isNone_some, Nat.reduceBEq, true_or, or_true, false_or, or_false, Nat.reduceLT, Nat.reduceMod, Nat.reducePow, rmaps, nsucc, List.flatten_cons, List.flatten_nil, Nat.reduceEqDiff, Nat.reduceLeDiff, Nat.reduceAdd, Nat.reduceMul, Nat.reduceSub, ↓reduceIte, reduceCtorEq, decide_true, decide_false]
        first | refine FCall.go hw (FZs.cons (FZ.v _) (FZs.cons (FZ.v _) (FZs.one (FZ.v _)))) ?_ | refine FCall.go' hw (FZs.cons (FZ.v _) (FZs.cons (FZ.v _) (FZs.one (FZ.v _)))) ?_ | refine FCall.goQ hw (FZs.cons (FZ.v _) (FZs.cons (FZ.v _) (FZs.one (FZ.v _)))) ?_
        by_cases hr : 0 ≤ p ∧ p < (l'.length : Int)
        · have hrow := kidRow 0 l' p.toNat (by omega)
          simp only [intsV, natsV, List.length_map, kidIx_length, iv, ltT hlt, decide_eq_true (show p ≤ (l'.length : Int) - 1 by omega), true_and, Int.natCast_nonneg, Int.toNat_natCast, hget, hr.1, hr.2, hrow, wrapS (show 0 < 2 ^ 62 by omega), f0, f1, f5, f6, hds, Cd.cd29, Tk.t29, base0, base1, base2, base3, Option.isNone_none, Option.isNone_some, Nat.reduceBEq, true_or, or_true, false_or, or_false, Nat.reduceLT, Nat.reduceMod, Nat.reducePow, rmaps, nsucc, List.flatten_cons, List.flatten_nil, Nat.reduceEqDiff, Nat.reduceLeDiff, Nat.reduceAdd, Nat.reduceMul, Nat.reduceSub, ↓reduceIte, reduceCtorEq, decide_true, decide_false]
          refine ⟨_, by omega, 0 + 1, _, _, _, rfl, by omega, go _ _ _ (AtL.all hwf) hr hT1, hn hr, ?_⟩
          (repeat' apply And.intro) <;> rfl
        · rw [findN_bad hr] at hT1
          simp only [show decide (0 ≤ p ∧ p ≤ (l'.length : Int) - 1) = false from decide_eq_false (by omega), f0, f1, f5, f6, hds, Cd.cd29, Tk.t29, base0, base1, base2, base3, Option.isNone_none, Option.isNone_some, Nat.reduceBEq, true_or, or_true, false_or, or_false, Nat.reduceLT, Nat.reduceMod, Nat.reducePow, rmaps, nsucc, List.flatten_cons, List.flatten_nil, Nat.reduceEqDiff, Nat.reduceLeDiff, Nat.reduceAdd, Nat.reduceMul, Nat.reduceSub, ↓reduceIte, reduceCtorEq, decide_true, decide_false]
          exact fin_v (by rw [← hT1]; rfl)
      · obtain ⟨n1, n2⟩ := hA.node
        have hrn := getDmap nodeL (flatTs l) n n1
        rw [n2] at hrn
        simp only [intsV, natsV, List.length_map, kidIx_length, iv, ltT hlt, show decide ((i : Int) < (path.length : Int)) = true from decide_eq_true (by omega), f0, f1, f5, f6, hds, Cd.cd29, Tk.t29, base0, base1, base2, base3, Option.isNone_none, Option.isNone_some, Nat.reduceBEq, true_or, or_true, false_or, or_false, Nat.reduceLT, Nat.reduceMod, Nat.reducePow, rmaps, nsucc, List.flatten_cons, List.flatten_nil, Nat.reduceEqDiff, Nat.reduceLeDiff, Nat.reduceAdd, Nat.reduceMul, Nat.reduceSub, ↓reduceIte, reduceCtorEq, decide_true, decide_false]
        first | refine FCall.go (kidsAt hb hlen hA) (FZs.cons (FZ.walkV _ _) (FZs.one (FZ.v _))) ?_ | refine FCall.go' (kidsAt hb hlen hA) (FZs.cons (FZ.walkV _ _) (FZs.one (FZ.v _))) ?_ | refine FCall.goQ (kidsAt hb hlen hA) (FZs.cons (FZ.walkV _ _) (FZs.one (FZ.v _))) ?_
        cases hbt : t.h.built with
        | false =>
          have hk := okT_leaf hA.ok hbt
          rw [findN_bad (by rw [hk]; simp <;> omega)] at hT1
          simp only [walkV, wL, nodesV, intsV, natsV, List.length_map, kidIx_length, iv, ltT n1, show decide ((i : Int) > 0) = true from decide_eq_true (by omega), Int.natCast_nonneg, Int.toNat_natCast, hrn, nodeL, hbt, f0, f1, f5, f6, hds, Cd.cd29, Tk.t29, base0, base1, base2, base3, Option.isNone_none, Option.isNone_some, Nat.reduceBEq, true_or, or_true, false_or, or_false, Nat.reduceLT, Nat.reduceMod, Nat.reducePow, rmaps, nsucc, List.flatten_cons, List.flatten_nil, Nat.reduceEqDiff, Nat.reduceLeDiff, Nat.reduceAdd, Nat.reduceMul, Nat.reduceSub, ↓reduceIte, reduceCtorEq, decide_true, decide_false]
          exact fin_v (by rw [← hT1]; rfl)
        | true =>
          have hAL := hA.kids hbt
          have hl' := kidIx_le hAL hsl
          have wl : IntKind.i64.wrap ((t.kids.length : Int) - 1) = (t.kids.length : Int) - 1 := wrapI (by omega) (by omega)
          simp only [walkV, wL, nodesV, intsV, natsV, List.length_map, kidIx_length, iv, ltT n1, ltT hlt, show decide ((i : Int) > 0) = true from decide_eq_true (by omega), Int.natCast_nonneg, Int.toNat_natCast, hrn, nodeL, hbt, hget, wl, f0, f1, f5, f6, hds, Cd.cd29, Tk.t29, base0, base1, base2, base3, Option.isNone_none, Option.isNone_some, Nat.reduceBEq, true_or, or_true, false_or, or_false, Nat.reduceLT, Nat.reduceMod, Nat.reducePow, rmaps, nsucc, List.flatten_cons, List.flatten_nil, Nat.reduceEqDiff, Nat.reduceLeDiff, Nat.reduceAdd, Nat.reduceMul, Nat.reduceSub, ↓reduceIte, reduceCtorEq, decide_true, decide_false]
          first | refine FCall.go hw (FZs.cons (FZ.v _) (FZs.cons (FZ.v _) (FZs.one (FZ.v _)))) ?_ | refine FCall.go' hw (FZs.cons (FZ.v _) (FZs.cons (FZ.v _) (FZs.one (FZ.v _)))) ?_ | refine FCall.goQ hw (FZs.cons (FZ.v _) (FZs.cons (FZ.v _) (FZs.one (FZ.v _)))) ?_
          by_cases hr : 0 ≤ p ∧ p < (t.kids.length : Int)
          · have hrow := kidRow (n + 1) t.kids p.toNat (by omega)
            simp only [intsV, natsV, List.length_map, kidIx_length, iv, ltT hlt, decide_eq_true (show p ≤ (t.kids.length : Int) - 1 by omega), true_and, Int.natCast_nonneg, Int.toNat_natCast, hget, hr.1, hr.2, hrow, wrapS (show i < 2 ^ 62 by omega), f0, f1, f5, f6, hds, Cd.cd29, Tk.t29, base0, base1, base2, base3, Option.isNone_none, Option.isNone_some, Nat.reduceBEq, true_or, or_true, false_or, or_false, Nat.reduceLT, Nat.reduceMod, Nat.reducePow, rmaps, nsucc, List.flatten_cons, List.flatten_nil, Nat.reduceEqDiff, Nat.reduceLeDiff, Nat.reduceAdd, Nat.reduceMul, Nat.reduceSub, ↓reduceIte, reduceCtorEq, decide_true, decide_false]
            refine ⟨_, by omega, i + 1, _, _, _, rfl, by omega, go _ _ _ hAL hr hT1, hn hr, ?_⟩
            (repeat' apply And.intro) <;> rfl
          · rw [findN_bad hr] at hT1
            simp only [show decide (0 ≤ p ∧ p ≤ (t.kids.length : Int) - 1) = false from decide_eq_false (by omega), f0, f1, f5, f6, hds, Cd.cd29, Tk.t29, base0, base1, base2, base3, Option.isNone_none, Option.isNone_some, Nat.reduceBEq, true_or, or_true, false_or, or_false, Nat.reduceLT, Nat.reduceMod, Nat.reducePow, rmaps, nsucc, List.flatten_cons, List.flatten_nil, Nat.reduceEqDiff, Nat.reduceLeDiff, Nat.reduceAdd, Nat.reduceMul, Nat.reduceSub, ↓reduceIte, reduceCtorEq, decide_true, decide_false]
            exact fin_v (by rw [← hT1]; rfl)
    · simp only [intsV, List.length_map, iv, show decide ((i : Int) < (path.length : Int)) = false from decide_eq_false (by omega), f0, f1, f5, f6, hds, Cd.cd29, Tk.t29, base0, base1, base2, base3, Option.isNone_none, Option.isNone_some, Nat.reduceBEq, true_or, or_true, false_or, or_false, Nat.reduceLT, Nat.reduceMod, Nat.reducePow, rmaps, nsucc, List.flatten_cons, List.flatten_nil, Nat.reduceEqDiff, Nat.reduceLeDiff, Nat.reduceAdd, Nat.reduceMul, Nat.reduceSub, ↓reduceIte, reduceCtorEq, decide_true, decide_false]
      refine fin_v ?_
      have := hT.2 (by omega)
      rcases hS with ⟨rfl, rfl, -, -⟩ | ⟨hi0, n, D, t, rfl, -⟩
      · rw [this]; rfl
      · rw [this, if_neg (by omega)]; rfl
end
end Go.Proofs.Ytmjjfdppaomcfaa

/- Walks: the reference's Replaced; the law of replacing. -/
namespace Go.Proofs.Ytmjjfdppaomcfaa
open Go Go.Proofs.Ytmjjfdppaomcfaa.Ab
set_option maxRecDepth 100000
set_option linter.unusedSimpArgs false

theorem fin_lst {H' : AH} {k : Nat} {rows : List (List AV)} {tip : Tip} {w : AV} (hw : w = .lst k rows .unk) (hz : ∀ r ∈ rows, FZs r) : ∃ v v', AOut.ret (.lst k rows tip) = .ret v ∧ View H' v v' ∧ FZ v' ∧ v' = w := by
  subst hw; exact ⟨_, _, rfl, View.tip hz, FZ.lst rfl hz, rfl⟩
theorem FZs.intR (l : List Int) : ∀ r ∈ l.map intR, FZs r := fun r hr => by
  obtain ⟨x, _, rfl⟩ := List.mem_map.mp hr; exact FZs.one (FZ.v _)
theorem ownInts17 (l : List Int) (hl : l.length ≤ 1000) : FCall Try.prog 17 [intsV l] (· = intsV l) := by
  refine ACall.enter [] Cd.fn17 (by simp) ?_
  cases l with
  | nil =>
    simp only [intsV, List.map_nil, List.range_zero, Nat.zero_mul, Nat.zero_le, Nat.zero_lt_one, Cd.cd17, Tk.t17, base0, base1, base2, base3, Option.isNone_none, Option.isNone_some, Nat.reduceBEq, true_or, or_true, false_or, or_false, Nat.reduceLT, Nat.reduceMod, Nat.reducePow, rmaps, nsucc, List.flatten_cons, List.flatten_nil, Nat.reduceEqDiff, Nat.reduceLeDiff, Nat.reduceAdd, Nat.reduceMul, Nat.reduceSub, ↓reduceIte, reduceCtorEq, decide_true, decide_false]
    exact fin_lst rfl (fun r hr => by cases hr)
  | cons x l =>
    have hr : roomA 8 (l.length + 1) = true := room1 (by simp at hl; omega) (by simp at hl; omega)
    simp only [intsV, List.map_cons, List.length_map, hr, List.range_zero, Nat.zero_mul, Nat.zero_le, Nat.zero_lt_one, Cd.cd17, Tk.t17, base0, base1, base2, base3, Option.isNone_none, Option.isNone_some, Nat.reduceBEq, true_or, or_true, false_or, or_false, Nat.reduceLT, Nat.reduceMod, Nat.reducePow, rmaps, nsucc, List.flatten_cons, List.flatten_nil, Nat.reduceEqDiff, Nat.reduceLeDiff, Nat.reduceAdd, Nat.reduceMul, Nat.reduceSub, ↓reduceIte, reduceCtorEq, decide_true, decide_false]
    exact fin_lst rfl (FZs.intR (x :: l))

def atE : Except Flt (List Tree) → Nat
  | .ok _ => 0
  | .error e => e.1
theorem refOut_eq (b : ByteArray) (r : Except Flt (List Tree)) : refOut b r = .box (wL b (nodesV (flatTs (okL r))) (atE r) (errOf r)) := by cases r <;> rfl
theorem refOut_ok {b : ByteArray} (h : errOf (readB b) = 0) : refOut b (readB b) = walkV b (flatTs (okL (readB b))) := by
  obtain ⟨l, hl⟩ := errOf_zero h
  rw [hl]; rfl

def rest18c : CC := dropS 7 Cd.cd18
def rest18b : CC := dropS 5 Cd.cd18
def rest18a : CC := dropS 4 Cd.cd18
end Go.Proofs.Ytmjjfdppaomcfaa

/- Plain: the path of the first node that is another one. -/
namespace Go.Proofs.Ytmjjfdppaomcfaa
open Go Go.Proofs.Ytmjjfdppaomcfaa.Ab

/-- two nodes are not the same, but for those within -/
def difB (a b : ByteArray) (x y : Hd) : Bool := !(x.cls == y.cls && x.num == y.num) || (x.built != y.built || (!x.built && !decide (a.extract x.body x.stop = b.extract y.body y.stop)))
def apartL (a b : ByteArray) (rec : List Tree → List Tree → Option (List Nat)) : Nat → List Tree → List Tree → Option (List Nat)
  | i, x :: l, y :: m => if difB a b x.h y.h = true then some [i] else match rec x.kids y.kids with
    | some p => some (i :: p)
    | none => apartL a b rec (i + 1) l m
  | _, [], [] => none
  | i, _ :: _, [] => some [i]
  | i, [], _ :: _ => some [i]
def apartD (a b : ByteArray) : Nat → List Tree → List Tree → Option (List Nat)
  | 0 => fun _ _ => none
  | d + 1 => apartL a b (apartD a b d) 0
theorem okTs_deep {b : ByteArray} {D p q : Nat} {l : List Tree} (h : okTs b D p q l) (hD : 15 < D) : l = [] := by
  cases l with
  | nil => rfl
  | cons t l => simp only [okTs] at h; have := okT_deep h.2.1; omega
theorem flat_kids : ∀ {l : List Tree} {i : Nat}, i < l.length → (flatTs (l.getD i default).kids).length < (flatTs l).length
  | [], i, h => by simp at h
  | .mk hd k :: l, 0, h => by simp [flatTs, flatT, Tree.kids_mk]; omega
  | .mk hd k :: l, i + 1, h => by
    have := flat_kids (l := l) (i := i) (by simpa using h)
    simp only [List.getD_cons_succ, flatTs, flatT, List.length_append, List.length_cons]; omega
end Go.Proofs.Ytmjjfdppaomcfaa

/- Walks: words for finding the first node that is another one. -/
namespace Go.Proofs.Ytmjjfdppaomcfaa
open Go Go.Proofs.Ytmjjfdppaomcfaa.Ab
set_option maxRecDepth 100000
set_option linter.unusedSimpArgs false

def apV : Option (List Nat) → AV
  | some p => .tup [natsV p, .v (.bool true)]
  | none => .tup [natsV [], .v (.bool false)]
theorem FZ.apV (o : Option (List Nat)) : FZ (apV o) := by
  cases o
  · exact FZ.tup (FZs.cons (FZ.natsV []) (FZs.one (FZ.v _)))
  · rename_i p
    exact FZ.tup (FZs.cons (FZ.natsV p) (FZs.one (FZ.v _)))
end Go.Proofs.Ytmjjfdppaomcfaa

/- Walks: whether two are alike; the law of it. -/
namespace Go.Proofs.Ytmjjfdppaomcfaa
open Go Go.Proofs.Ytmjjfdppaomcfaa.Ab
set_option maxRecDepth 100000
set_option linter.unusedSimpArgs false

/-- whether they are alike, the path of the first difference, the error -/
def alikeP (a b : ByteArray) : Bool × List Nat × Int :=
  if errOf (readB a) ≠ 0 then (false, [], errOf (readB a)) else if errOf (readB b) ≠ 0 then (false, [], errOf (readB b)) else
    match apartD a b 17 (okL (readB a)) (okL (readB b)) with
    | some p => (false, p, 0)
    | none => (true, [], 0)
def bleV (x : Bool × List Nat × Int) : AV := .tup [.v (.bool x.1), natsV x.2.1, .v (.int .i64 x.2.2)]
theorem sameInts26 (l : List Nat) (hl : l.length ≤ 4000) : FCall Try.prog 26 [natsV l, natsV l] (· = .v (.bool true)) := by
  refine ACall.enter [] Cd.fn26 (by simp) ?_
  simp only [natsV, List.length_map, show ((l.length : Int) != (l.length : Int)) = false from by simp, Cd.cd26, Tk.t26, base0, base1, base2, base3, Option.isNone_none, Option.isNone_some, Nat.reduceBEq, true_or, or_true, false_or, or_false, Nat.reduceLT, Nat.reduceMod, Nat.reducePow, rmaps, nsucc, List.flatten_cons, List.flatten_nil, Nat.reduceEqDiff, Nat.reduceLeDiff, Nat.reduceAdd, Nat.reduceMul, Nat.reduceSub, ↓reduceIte, reduceCtorEq, decide_true, decide_false]
  refine LWP.loop [] (fun m f H' => ∃ i, m = l.length - i ∧ (i ≤ l.length) ∧ f.t 0 = natsV l ∧ f.t 1 = natsV l ∧ f.t 5 = .v (.int .i64 (i : Nat)) ∧ f.ds = [] ∧ H' = AH.none) ?_ ?_ (m := l.length - (0))
  · exact ⟨0, rfl, (by omega), rfl, rfl, rfl, rfl, rfl⟩
  · rintro m f H' ⟨i, rfl, hi, f0, f1, f5, hds, rfl⟩
    by_cases hlt : i < l.length
    · have hg := getDmap natR l i hlt
      generalize l.getD i default = x at hg
      simp only [natsV, List.length_map, show decide ((i : Int) < (l.length : Int)) = true from decide_eq_true (by omega), ltT hlt, Int.natCast_nonneg, Int.toNat_natCast, hg, natR, bneF (show (x : Int) = (x : Int) from rfl), f0, f1, f5, hds, Cd.cd26, Tk.t26, base0, base1, base2, base3, Option.isNone_none, Option.isNone_some, Nat.reduceBEq, true_or, or_true, false_or, or_false, Nat.reduceLT, Nat.reduceMod, Nat.reducePow, rmaps, nsucc, List.flatten_cons, List.flatten_nil, Nat.reduceEqDiff, Nat.reduceLeDiff, Nat.reduceAdd, Nat.reduceMul, Nat.reduceSub, ↓reduceIte, reduceCtorEq, decide_true, decide_false]
      refine ⟨_, by omega, i + 1, rfl, ?_⟩
      (repeat' apply And.intro) <;> first | rfl | (rw [wrapS (by omega)]) | omega | assumption
    · simp only [natsV, List.length_map, show decide ((i : Int) < (l.length : Int)) = false from decide_eq_false (by omega), f0, f1, f5, hds, Cd.cd26, Tk.t26, base0, base1, base2, base3, Option.isNone_none, Option.isNone_some, Nat.reduceBEq, true_or, or_true, false_or, or_false, Nat.reduceLT, Nat.reduceMod, Nat.reducePow, rmaps, nsucc, List.flatten_cons, List.flatten_nil, Nat.reduceEqDiff, Nat.reduceLeDiff, Nat.reduceAdd, Nat.reduceMul, Nat.reduceSub, ↓reduceIte, reduceCtorEq, decide_true, decide_false]
      exact fin_v rfl
end Go.Proofs.Ytmjjfdppaomcfaa

/- Plain: the short form, and that it is no longer. -/
namespace Go.Proofs.Ytmjjfdppaomcfaa
open Go Go.Proofs.Ytmjjfdppaomcfaa.Ab

mutual
/-- the short form of a node -/
def shortT (b : ByteArray) : Tree → ByteArray
  | .mk h k => identB h.cls h.num h.built ++ lengthB (if h.built then shortTs b k else b.extract h.body h.stop).size 1 ++ (if h.built then shortTs b k else b.extract h.body h.stop)
def shortTs (b : ByteArray) : List Tree → ByteArray
  | [] => ⟨#[]⟩
  | t :: l => shortT b t ++ shortTs b l
end
end Go.Proofs.Ytmjjfdppaomcfaa

/- Walks: the short form by the reference; the law of it. -/
namespace Go.Proofs.Ytmjjfdppaomcfaa
open Go Go.Proofs.Ytmjjfdppaomcfaa.Ab
set_option maxRecDepth 100000
set_option linter.unusedSimpArgs false

/-- the short form of bytes, or the error -/
def shortP (b : ByteArray) : ByteArray × Int := if errOf (readB b) ≠ 0 then (⟨#[]⟩, errOf (readB b)) else (shortTs b (okL (readB b)), 0)
def isShortP (b : ByteArray) : Bool × Int := (decide ((shortP b).2 = 0) && decide ((shortP b).1 = b), (shortP b).2)
def biV (x : Bool × Int) : AV := .tup [.v (.bool x.1), .v (.int .i64 x.2)]
section
variable {b : ByteArray} {l0 : List Tree} (hb : b.size ≤ 4000) (hwf : okTs b 0 0 b.size l0) (hlen : (flatTs l0).length ≤ 300)
end
end Go.Proofs.Ytmjjfdppaomcfaa

/- Walks: the node at a path, the path of an octet. -/
namespace Go.Proofs.Ytmjjfdppaomcfaa
open Go Go.Proofs.Ytmjjfdppaomcfaa.Ab
set_option maxRecDepth 100000
set_option linter.unusedSimpArgs false

def hd0 : Hd := ⟨0, 0, false, false, 0, 0, 0, 0, 0, 0⟩
/-- the node at a path, or the error -/
def nodeAtP (b : ByteArray) (path : List Int) : Hd × Int :=
  if errOf (readB b) ≠ 0 then (hd0, errOf (readB b)) else match findP (okL (readB b)) path with
    | none => (hd0, 11)
    | some (x, _) => (x.h, 0)
def naV (x : Hd × Int) : AV := .tup [.agg (nodeL x.1), .v (.int .i64 x.2)]
theorem FZ.na (x : Hd × Int) : FZ (naV x) := FZ.tup (FZs.cons (FZ.agg (FZs.nodeL _)) (FZs.one (FZ.v _)))
set_option maxHeartbeats 1000000 in
theorem nodeAt27 (b : ByteArray) (path : List Int) (hp : path.length ≤ 1000) : FCall Try.prog 27 [.v (.string b), intsV path] (· = naV (nodeAtP b path)) := by
  have hzi := FZ.intsV path
  generalize hR : nodeAtP b path = R
  unfold nodeAtP at hR
  refine ACall.enter [] Cd.fn27 (by simp) ?_
  simp only [Cd.cd27, Tk.t27, base0, base1, base2, base3, Option.isNone_none, Option.isNone_some, Nat.reduceBEq, true_or, or_true, false_or, or_false, Nat.reduceLT, Nat.reduceMod, Nat.reducePow, rmaps, nsucc, List.flatten_cons, List.flatten_nil, Nat.reduceEqDiff, Nat.reduceLeDiff, Nat.reduceAdd, Nat.reduceMul, Nat.reduceSub, ↓reduceIte, reduceCtorEq, decide_true, decide_false]
  first | refine FCall.go (read37 b) (FZs.one (FZ.v _)) ?_ | refine FCall.go' (read37 b) (FZs.one (FZ.v _)) ?_ | refine FCall.goQ (read37 b) (FZs.one (FZ.v _)) ?_
  by_cases h1 : errOf (readB b) = 0
  rotate_left
  · rw [if_pos h1] at hR
    subst hR
    simp only [readOut_eq, bneT h1, Cd.cd27, Tk.t27, base0, base1, base2, base3, Option.isNone_none, Option.isNone_some, Nat.reduceBEq, true_or, or_true, false_or, or_false, Nat.reduceLT, Nat.reduceMod, Nat.reducePow, rmaps, nsucc, List.flatten_cons, List.flatten_nil, Nat.reduceEqDiff, Nat.reduceLeDiff, Nat.reduceAdd, Nat.reduceMul, Nat.reduceSub, ↓reduceIte, reduceCtorEq, decide_true, decide_false]
    exact fin_fz (FZ.na (hd0, errOf (readB b))) rfl
  rw [if_neg (fun h => h h1)] at hR
  obtain ⟨l, hl⟩ := errOf_zero h1
  rw [hl] at hR ⊢
  simp only [okL] at hR
  simp only [readOut_eq, okL, errOf, show ((0 : Int) != 0) = false from rfl, Cd.cd27, Tk.t27, base0, base1, base2, base3, Option.isNone_none, Option.isNone_some, Nat.reduceBEq, true_or, or_true, false_or, or_false, Nat.reduceLT, Nat.reduceMod, Nat.reducePow, rmaps, nsucc, List.flatten_cons, List.flatten_nil, Nat.reduceEqDiff, Nat.reduceLeDiff, Nat.reduceAdd, Nat.reduceMul, Nat.reduceSub, ↓reduceIte, reduceCtorEq, decide_true, decide_false]
  first | refine FCall.go (find43 l path (by omega)) (FZs.cons (FZ.rowsOf l) (FZs.one hzi)) ?_ | refine FCall.go' (find43 l path (by omega)) (FZs.cons (FZ.rowsOf l) (FZs.one hzi)) ?_ | refine FCall.goQ (find43 l path (by omega)) (FZs.cons (FZ.rowsOf l) (FZs.one hzi)) ?_
  have hfl := findT_eq path l []
  cases hf : findP l path with
  | none =>
    rw [hf] at hR hfl
    subst hR
    rw [hfl]
    simp only [findOut, Cd.cd27, Tk.t27, base0, base1, base2, base3, Option.isNone_none, Option.isNone_some, Nat.reduceBEq, true_or, or_true, false_or, or_false, Nat.reduceLT, Nat.reduceMod, Nat.reducePow, rmaps, nsucc, List.flatten_cons, List.flatten_nil, Nat.reduceEqDiff, Nat.reduceLeDiff, Nat.reduceAdd, Nat.reduceMul, Nat.reduceSub, ↓reduceIte, reduceCtorEq, decide_true, decide_false]
    exact fin_fz (FZ.na (hd0, 11)) rfl
  | some xy =>
    obtain ⟨x, ys⟩ := xy
    rw [hf] at hR hfl
    subst hR
    rw [hfl]
    have hx := treeV_box x
    have hP := public40 x
    have hzx := FZ.treeV x
    rw [hx] at hP hzx
    simp only [hdL] at hP hzx
    simp only [findOut, hx, hdL, Cd.cd27, Tk.t27, base0, base1, base2, base3, Option.isNone_none, Option.isNone_some, Nat.reduceBEq, true_or, or_true, false_or, or_false, Nat.reduceLT, Nat.reduceMod, Nat.reducePow, rmaps, nsucc, List.flatten_cons, List.flatten_nil, Nat.reduceEqDiff, Nat.reduceLeDiff, Nat.reduceAdd, Nat.reduceMul, Nat.reduceSub, ↓reduceIte, reduceCtorEq, decide_true, decide_false]
    first | refine FCall.go hP (FZs.one hzx) ?_ | refine FCall.go' hP (FZs.one hzx) ?_ | refine FCall.goQ hP (FZs.one hzx) ?_
    simp only [nodeL, Cd.cd27, Tk.t27, base0, base1, base2, base3, Option.isNone_none, Option.isNone_some, Nat.reduceBEq, true_or, or_true, false_or, or_false, Nat.reduceLT, Nat.reduceMod, Nat.reducePow, rmaps, nsucc, List.flatten_cons, List.flatten_nil, Nat.reduceEqDiff, Nat.reduceLeDiff, Nat.reduceAdd, Nat.reduceMul, Nat.reduceSub, ↓reduceIte, reduceCtorEq, decide_true, decide_false]
    exact fin_fz (FZ.na (x.h, 0)) rfl

/-! the path of an octet -/
def hasB (at_ : Int) (t : Tree) : Bool := decide ((t.h.frm : Int) ≤ at_) && decide (at_ < (t.h.fin : Int))
theorem pathTo52 (at_ : Int) (t : Tree) : FCall Try.prog 52 [treeV t, .box [.v (.int .i64 at_)]] (· = .v (.bool (hasB at_ t))) := by
  have hx := treeV_box t
  unfold hasB
  refine ACall.enter [] Cd.fn52 (by simp) ?_
  by_cases h1 : (t.h.frm : Int) ≤ at_
  · simp only [hx, hdL, decide_eq_true h1, Cd.cd52, Tk.t52, base0, base1, base2, base3, Option.isNone_none, Option.isNone_some, Nat.reduceBEq, true_or, or_true, false_or, or_false, Nat.reduceLT, Nat.reduceMod, Nat.reducePow, rmaps, nsucc, List.flatten_cons, List.flatten_nil, Nat.reduceEqDiff, Nat.reduceLeDiff, Nat.reduceAdd, Nat.reduceMul, Nat.reduceSub, ↓reduceIte, reduceCtorEq, decide_true, decide_false]
    exact fin_v (by simp)
  · simp only [hx, hdL, decide_eq_false h1, Cd.cd52, Tk.t52, base0, base1, base2, base3, Option.isNone_none, Option.isNone_some, Nat.reduceBEq, true_or, or_true, false_or, or_false, Nat.reduceLT, Nat.reduceMod, Nat.reducePow, rmaps, nsucc, List.flatten_cons, List.flatten_nil, Nat.reduceEqDiff, Nat.reduceLeDiff, Nat.reduceAdd, Nat.reduceMul, Nat.reduceSub, ↓reduceIte, reduceCtorEq, decide_true, decide_false]
    exact fin_v (by simp)
def idxB (at_ : Int) : Nat → List Tree → Option Nat
  | _, [] => none
  | i, t :: l => if hasB at_ t = true then some i else idxB at_ (i + 1) l
theorem idxB_drop {at_ : Int} {l : List Tree} {i s : Nat} (h : i < l.length) : idxB at_ s (l.drop i) = if hasB at_ (l.getD i default) = true then some s else idxB at_ (s + 1) (l.drop (i + 1)) := by
  rw [List.drop_eq_getElem_cons h, idxB, List.getD_eq_getElem?_getD, List.getElem?_eq_getElem h]; rfl
theorem FZ.clo (at_ : Int) : FZ (.fn (.func 52) [] [.box [.v (.int .i64 at_)]]) := FZ.fn FZs.nil (FZs.one (FZ.box (FZs.one (FZ.v _))))
theorem indexFunc51 (at_ : Int) (l : List Tree) (hl : l.length ≤ 1000) : FCall Try.prog 51 [treesV l, .fn (.func 52) [] [.box [.v (.int .i64 at_)]]] (· = ixV (idxB at_ 0 l)) := by
  generalize hR : idxB at_ 0 l = R
  refine ACall.enter [] Cd.fn51 (by simp) ?_
  simp only [treesV, List.length_map, Cd.cd51, Tk.t51, base0, base1, base2, base3, Option.isNone_none, Option.isNone_some, Nat.reduceBEq, true_or, or_true, false_or, or_false, Nat.reduceLT, Nat.reduceMod, Nat.reducePow, rmaps, nsucc, List.flatten_cons, List.flatten_nil, Nat.reduceEqDiff, Nat.reduceLeDiff, Nat.reduceAdd, Nat.reduceMul, Nat.reduceSub, ↓reduceIte, reduceCtorEq, decide_true, decide_false]
  refine LWP.loop [] (fun m f H' => ∃ i, m = l.length - i ∧ (i ≤ l.length) ∧ (idxB at_ i (l.drop i) = R) ∧ f.t 0 = treesV l ∧ f.t 1 = .fn (.func 52) [] [.box [.v (.int .i64 at_)]] ∧ f.t 7 = .v (.int .i64 (l.length : Nat)) ∧ f.t 8 = iv i ∧ f.ds = [] ∧ H' = AH.none) ?_ ?_ (m := l.length - (0))
  · exact ⟨0, rfl, (by omega), (hR), rfl, rfl, rfl, rfl, rfl, rfl⟩
  · rintro m f H' ⟨i, rfl, hi, hT, f0, f1, f7, f8, hds, rfl⟩
    by_cases hlt : i < l.length
    · rw [idxB_drop hlt] at hT
      have hrow := treesR_get l i hlt
      generalize l.getD i default = t at hT hrow
      simp only [treesV, iv, List.length_map, show decide ((i : Int) < (l.length : Int)) = true from decide_eq_true (by omega), ltT hlt, Int.natCast_nonneg, Int.toNat_natCast, hrow, f0, f1, f7, f8, hds, Cd.cd51, Tk.t51, base0, base1, base2, base3, Option.isNone_none, Option.isNone_some, Nat.reduceBEq, true_or, or_true, false_or, or_false, Nat.reduceLT, Nat.reduceMod, Nat.reducePow, rmaps, nsucc, List.flatten_cons, List.flatten_nil, Nat.reduceEqDiff, Nat.reduceLeDiff, Nat.reduceAdd, Nat.reduceMul, Nat.reduceSub, ↓reduceIte, reduceCtorEq, decide_true, decide_false]
      first | refine FCall.go (pathTo52 at_ t) (FZs.cons (FZ.treeV t) (FZs.one (FZ.box (FZs.one (FZ.v _))))) ?_ | refine FCall.go' (pathTo52 at_ t) (FZs.cons (FZ.treeV t) (FZs.one (FZ.box (FZs.one (FZ.v _))))) ?_ | refine FCall.goQ (pathTo52 at_ t) (FZs.cons (FZ.treeV t) (FZs.one (FZ.box (FZs.one (FZ.v _))))) ?_
      cases hh : hasB at_ t with
      | true =>
        rw [if_pos hh] at hT
        simp only [f0, f1, f7, f8, hds, Cd.cd51, Tk.t51, base0, base1, base2, base3, Option.isNone_none, Option.isNone_some, Nat.reduceBEq, true_or, or_true, false_or, or_false, Nat.reduceLT, Nat.reduceMod, Nat.reducePow, rmaps, nsucc, List.flatten_cons, List.flatten_nil, Nat.reduceEqDiff, Nat.reduceLeDiff, Nat.reduceAdd, Nat.reduceMul, Nat.reduceSub, ↓reduceIte, reduceCtorEq, decide_true, decide_false]
        exact fin_v (by rw [← hT]; rfl)
      | false =>
        rw [if_neg (by simp [hh])] at hT
        simp only [iv, wrapS (show i < 2 ^ 62 by omega), f0, f1, f7, f8, hds, Cd.cd51, Tk.t51, base0, base1, base2, base3, Option.isNone_none, Option.isNone_some, Nat.reduceBEq, true_or, or_true, false_or, or_false, Nat.reduceLT, Nat.reduceMod, Nat.reducePow, rmaps, nsucc, List.flatten_cons, List.flatten_nil, Nat.reduceEqDiff, Nat.reduceLeDiff, Nat.reduceAdd, Nat.reduceMul, Nat.reduceSub, ↓reduceIte, reduceCtorEq, decide_true, decide_false]
        refine ⟨_, by omega, i + 1, rfl, by omega, hT, ?_⟩
        (repeat' apply And.intro) <;> first | rfl | trivial
    · rw [List.drop_of_length_le (by omega)] at hT
      simp only [iv, show decide ((i : Int) < (l.length : Int)) = false from decide_eq_false (by omega), f0, f1, f7, f8, hds, Cd.cd51, Tk.t51, base0, base1, base2, base3, Option.isNone_none, Option.isNone_some, Nat.reduceBEq, true_or, or_true, false_or, or_false, Nat.reduceLT, Nat.reduceMod, Nat.reducePow, rmaps, nsucc, List.flatten_cons, List.flatten_nil, Nat.reduceEqDiff, Nat.reduceLeDiff, Nat.reduceAdd, Nat.reduceMul, Nat.reduceSub, ↓reduceIte, reduceCtorEq, decide_true, decide_false]
      exact fin_v (by rw [← hT]; rfl)

/-- the path of an octet, so many levels -/
def pathN (at_ : Int) : Nat → List Tree → List Nat
  | 0, _ => []
  | n + 1, l => match idxB at_ 0 l with
    | none => []
    | some i => i :: pathN at_ n (l.getD i default).kids
theorem idxB_lt {at_ : Int} : ∀ {l : List Tree} {s i : Nat}, idxB at_ s l = some i → s ≤ i ∧ i < s + l.length ∧ hasB at_ (l.getD (i - s) default) = true
  | [], s, i, h => by cases h
  | t :: l, s, i, h => by
    simp only [idxB] at h
    split at h
    · rename_i hh; cases h; simp [hh]
    · have := idxB_lt h
      refine ⟨by omega, by simp; omega, ?_⟩
      rw [show i - s = (i - (s + 1)) + 1 from by omega, List.getD_cons_succ]; exact this.2.2
theorem okT_sub {b : ByteArray} {D : Nat} {t : Tree} (h : okT b D t) : ∃ p q, q ≤ b.size ∧ okTs b (D + 1) p q t.kids := by
  by_cases hk : t.kids = []
  · rw [hk]; exact ⟨0, 0, by omega, by simp only [okTs]⟩
  · have := okT_in h
    exact ⟨_, _, by omega, okT_kids h hk⟩
def pathToP (b : ByteArray) (at_ : Int) : List Nat × Int :=
  if errOf (readB b) ≠ 0 then ([], errOf (readB b)) else if at_ < 0 ∨ at_ ≥ (b.size : Int) then ([], 3) else (pathN at_ 17 (okL (readB b)), 0)
def liV (x : List Nat × Int) : AV := .tup [natsV x.1, .v (.int .i64 x.2)]
theorem FZ.li (x : List Nat × Int) : FZ (liV x) := FZ.tup (FZs.cons (FZ.natsV _) (FZs.one (FZ.v _)))
theorem fin_li {H H' : AH} {v : AV} {l : List Nat} {e : Int} (h : GrowE natR 1 H v l) {w : AV} (hw : w = liV (l, e)) : ∃ x x', AOut.ret (.tup [v, .v (.int .i64 e)]) = .ret x ∧ View H' x x' ∧ FZ x' ∧ x' = w := by
  subst hw
  exact ⟨_, _, rfl, Views.tup (Views.cons (h.view FZs.natR) (Views.cons (FZ.v _).view Views.nil)), FZ.li (l, e), rfl⟩
theorem flat_kids_le {l : List Tree} {i : Nat} (h : i < l.length) {n : Nat} (hn : (flatTs l).length ≤ n) : (flatTs (l.getD i default).kids).length ≤ n := by have := flat_kids h; omega

set_option maxHeartbeats 2000000 in
theorem pathTo28 (b : ByteArray) (at_ : Int) : FCall Try.prog 28 [.v (.string b), .v (.int .i64 at_)] (· = liV (pathToP b at_)) := by
  generalize hR : pathToP b at_ = R
  unfold pathToP at hR
  refine ACall.enter [] Cd.fn28 (by simp) ?_
  simp only [Cd.cd28, Tk.t28, base0, base1, base2, base3, Option.isNone_none, Option.isNone_some, Nat.reduceBEq, true_or, or_true, false_or, or_false, Nat.reduceLT, Nat.reduceMod, Nat.reducePow, rmaps, nsucc, List.flatten_cons, List.flatten_nil, Nat.reduceEqDiff, Nat.reduceLeDiff, Nat.reduceAdd, Nat.reduceMul, Nat.reduceSub, ↓reduceIte, reduceCtorEq, decide_true, decide_false]
  first | refine FCall.go (read37 b) (FZs.one (FZ.v _)) ?_ | refine FCall.go' (read37 b) (FZs.one (FZ.v _)) ?_ | refine FCall.goQ (read37 b) (FZs.one (FZ.v _)) ?_
  by_cases h1 : errOf (readB b) = 0
  rotate_left
  · rw [if_pos h1] at hR
    subst hR
    simp only [readOut_eq, bneT h1, Cd.cd28, Tk.t28, base0, base1, base2, base3, Option.isNone_none, Option.isNone_some, Nat.reduceBEq, true_or, or_true, false_or, or_false, Nat.reduceLT, Nat.reduceMod, Nat.reducePow, rmaps, nsucc, List.flatten_cons, List.flatten_nil, Nat.reduceEqDiff, Nat.reduceLeDiff, Nat.reduceAdd, Nat.reduceMul, Nat.reduceSub, ↓reduceIte, reduceCtorEq, decide_true, decide_false]
    exact fin_li (H := AH.none) GrowE.nil rfl
  rw [if_neg (fun h => h h1)] at hR
  obtain ⟨l, hl⟩ := errOf_zero h1
  have hwf := readB_wf hl
  have hb := readB_len hl
  rw [hl] at hR ⊢
  simp only [okL] at hR
  by_cases h2 : at_ < 0
  · rw [if_pos (.inl h2)] at hR
    subst hR
    simp only [readOut_eq, okL, errOf, show ((0 : Int) != 0) = false from rfl, decide_eq_true h2, Cd.cd28, Tk.t28, base0, base1, base2, base3, Option.isNone_none, Option.isNone_some, Nat.reduceBEq, true_or, or_true, false_or, or_false, Nat.reduceLT, Nat.reduceMod, Nat.reducePow, rmaps, nsucc, List.flatten_cons, List.flatten_nil, Nat.reduceEqDiff, Nat.reduceLeDiff, Nat.reduceAdd, Nat.reduceMul, Nat.reduceSub, ↓reduceIte, reduceCtorEq, decide_true, decide_false]
    exact fin_li (H := AH.none) GrowE.nil rfl
  by_cases h3 : at_ ≥ (b.size : Int)
  · rw [if_pos (.inr h3)] at hR
    subst hR
    simp only [readOut_eq, okL, errOf, show ((0 : Int) != 0) = false from rfl, decide_eq_false h2, decide_eq_true h3, Cd.cd28, Tk.t28, base0, base1, base2, base3, Option.isNone_none, Option.isNone_some, Nat.reduceBEq, true_or, or_true, false_or, or_false, Nat.reduceLT, Nat.reduceMod, Nat.reducePow, rmaps, nsucc, List.flatten_cons, List.flatten_nil, Nat.reduceEqDiff, Nat.reduceLeDiff, Nat.reduceAdd, Nat.reduceMul, Nat.reduceSub, ↓reduceIte, reduceCtorEq, decide_true, decide_false]
    exact fin_li (H := AH.none) GrowE.nil rfl
  rw [if_neg (by omega)] at hR
  simp only [readOut_eq, okL, errOf, show ((0 : Int) != 0) = false from rfl, decide_eq_false h2, decide_eq_false h3, Cd.cd28, Tk.t28, base0, base1, base2, base3, Option.isNone_none, Option.isNone_some, Nat.reduceBEq, true_or, or_true, false_or, or_false, Nat.reduceLT, Nat.reduceMod, Nat.reducePow, rmaps, nsucc, List.flatten_cons, List.flatten_nil, Nat.reduceEqDiff, Nat.reduceLeDiff, Nat.reduceAdd, Nat.reduceMul, Nat.reduceSub, ↓reduceIte, reduceCtorEq, decide_true, decide_false]
  refine LWP.loop [] (fun m f H' => ∃ d D l' acc, m = d + 1 ∧ (D + d = 17) ∧ (∃ p q, q ≤ b.size ∧ okTs b D p q l') ∧ ((flatTs l').length ≤ 300) ∧ ((acc ++ pathN at_ d l', (0 : Int)) = R) ∧ (acc.length ≤ D) ∧ f.t 3 = .box [.v (.int .i64 at_)] ∧ f.t 6 = treesV l' ∧ f.ds = [] ∧ GrowE natR 1 H' (f.t 9) acc) ?_ ?_ (m := (17) + 1)
  · exact ⟨17, 0, l, [], rfl, (rfl), (⟨_, _, Nat.le_refl _, hwf⟩), (hb.1), (hR), (by simp), rfl, rfl, rfl, .inl ⟨rfl, by simp [upd]⟩⟩
  · rintro m f H' ⟨d, D, l', acc, rfl, hd, hok, hfl, hT, hal, f3, f6, hds, hg⟩
    have hll := len_flatTs l'
    obtain ⟨p, q, hq, hok⟩ := hok
    simp only [treesV, f3, f6, hds, Cd.cd28, Tk.t28, base0, base1, base2, base3, Option.isNone_none, Option.isNone_some, Nat.reduceBEq, true_or, or_true, false_or, or_false, Nat.reduceLT, Nat.reduceMod, Nat.reducePow, rmaps, nsucc, List.flatten_cons, List.flatten_nil, Nat.reduceEqDiff, Nat.reduceLeDiff, Nat.reduceAdd, Nat.reduceMul, Nat.reduceSub, ↓reduceIte, reduceCtorEq, decide_true, decide_false]
    first | refine FCall.go (indexFunc51 at_ l' (by omega)) (FZs.cons (FZ.rowsOf l') (FZs.one (FZ.clo at_))) ?_ | refine FCall.go' (indexFunc51 at_ l' (by omega)) (FZs.cons (FZ.rowsOf l') (FZs.one (FZ.clo at_))) ?_ | refine FCall.goQ (indexFunc51 at_ l' (by omega)) (FZs.cons (FZ.rowsOf l') (FZs.one (FZ.clo at_))) ?_
    cases hi : idxB at_ 0 l' with
    | none =>
      have : pathN at_ d l' = [] := by cases d with
        | zero => rfl
        | succ d => simp only [pathN, hi]
      rw [this, List.append_nil] at hT
      simp only [ixV, show decide ((-1 : Int) < 0) = true from rfl, f3, f6, hds, Cd.cd28, Tk.t28, base0, base1, base2, base3, Option.isNone_none, Option.isNone_some, Nat.reduceBEq, true_or, or_true, false_or, or_false, Nat.reduceLT, Nat.reduceMod, Nat.reducePow, rmaps, nsucc, List.flatten_cons, List.flatten_nil, Nat.reduceEqDiff, Nat.reduceLeDiff, Nat.reduceAdd, Nat.reduceMul, Nat.reduceSub, ↓reduceIte, reduceCtorEq, decide_true, decide_false]
      exact fin_li hg (by rw [← hT])
    | some i =>
      obtain ⟨-, i1, i2⟩ := idxB_lt hi
      rw [Nat.zero_add] at i1
      have hrow := treesR_get l' i i1
      have gl := (okTs_get hok i i1).1
      have hfk := flat_kids_le i1 hfl
      obtain ⟨e, rfl⟩ : ∃ e, d = e + 1 := by
        cases d with
        | zero => have := okTs_deep hok (by omega); subst this; simp at i1
        | succ e => exact ⟨e, rfl⟩
      have hpn : pathN at_ (e + 1) l' = i :: pathN at_ e (l'.getD i default).kids := by simp only [pathN, hi]
      rw [hpn] at hT
      generalize l'.getD i default = t at hT hrow gl hfk
      have ht := treeV_box t
      have hT2 : ((acc ++ [i]) ++ pathN at_ e t.kids, (0 : Int)) = R := by rw [← hT]; simp
      rcases hg with ⟨rfl, h9⟩ | ⟨tp, h9, htp⟩
      · simp only [ixV, iv, treesV, List.length_map, show decide ((i : Int) < 0) = false from decide_eq_false (by omega), ltT i1, Int.natCast_nonneg, Int.toNat_natCast, hrow, ht, hdL, h9, show roomA 8 1 = true from rfl, f3, f6, hds, Cd.cd28, Tk.t28, base0, base1, base2, base3, Option.isNone_none, Option.isNone_some, Nat.reduceBEq, true_or, or_true, false_or, or_false, Nat.reduceLT, Nat.reduceMod, Nat.reducePow, rmaps, nsucc, List.flatten_cons, List.flatten_nil, Nat.reduceEqDiff, Nat.reduceLeDiff, Nat.reduceAdd, Nat.reduceMul, Nat.reduceSub, ↓reduceIte, reduceCtorEq, decide_true, decide_false]
        refine ⟨_, by omega, e, D + 1, t.kids, [i], rfl, by omega, okT_sub gl, hfk, by simpa using hT2, by simp, ?_⟩
        (repeat' apply And.intro) <;> first | rfl | exact GrowE.live (by simp [natR]) (by simp)
      · simp only [ixV, iv, treesV, List.length_map, show decide ((i : Int) < 0) = false from decide_eq_false (by omega), ltT i1, Int.natCast_nonneg, Int.toNat_natCast, hrow, ht, hdL, h9, htp, room1 (b := 8) (n := acc.length) (by omega) (by omega), f3, f6, hds, Cd.cd28, Tk.t28, base0, base1, base2, base3, Option.isNone_none, Option.isNone_some, Nat.reduceBEq, true_or, or_true, false_or, or_false, Nat.reduceLT, Nat.reduceMod, Nat.reducePow, rmaps, nsucc, List.flatten_cons, List.flatten_nil, Nat.reduceEqDiff, Nat.reduceLeDiff, Nat.reduceAdd, Nat.reduceMul, Nat.reduceSub, ↓reduceIte, reduceCtorEq, decide_true, decide_false]
        refine ⟨_, by omega, e, D + 1, t.kids, acc ++ [i], rfl, by omega, okT_sub gl, hfk, hT2, by simp; omega, ?_⟩
        (repeat' apply And.intro) <;> first | rfl | exact GrowE.live (by simp [natR]) (by simp)
end Go.Proofs.Ytmjjfdppaomcfaa

/- Walks: the path of an octet by the reference; the law of places. -/
namespace Go.Proofs.Ytmjjfdppaomcfaa
open Go Go.Proofs.Ytmjjfdppaomcfaa.Ab
set_option maxRecDepth 100000
set_option linter.unusedSimpArgs false

theorem okTs_ord {b : ByteArray} {D q : Nat} : ∀ {l : List Tree} {p : Nat}, okTs b D p q l → ∀ j k, j < k → k < l.length → (l.getD j default).h.fin ≤ (l.getD k default).h.frm
  | [], p, h, j, k, hj, hk => by simp at hk
  | t :: l, p, h, 0, k + 1, hj, hk => by
    simp only [okTs] at h
    have := okTs_get h.2.2 k (by simpa using hk)
    simp only [List.getD_cons_zero, List.getD_cons_succ]; exact this.2.1
  | t :: l, p, h, j + 1, k + 1, hj, hk => by
    simp only [okTs] at h
    simp only [List.getD_cons_succ]
    exact okTs_ord h.2.2 j k (by omega) (by simpa using hk)
theorem hasB_iff {at_ : Int} {t : Tree} : hasB at_ t = true ↔ (t.h.frm : Int) ≤ at_ ∧ at_ < (t.h.fin : Int) := by simp [hasB]
theorem okTs_uniq {b : ByteArray} {D p q : Nat} {l : List Tree} (h : okTs b D p q l) {at_ : Int} {j k : Nat} (hj : j < l.length) (hk : k < l.length) (h1 : hasB at_ (l.getD j default) = true) (h2 : hasB at_ (l.getD k default) = true) : j = k := by
  rw [hasB_iff] at h1 h2
  rcases Nat.lt_trichotomy j k with hl | hl | hl
  · have := okTs_ord h j k hl hk; omega
  · exact hl
  · have := okTs_ord h k j hl hj; omega
theorem idxB_none {at_ : Int} : ∀ {l : List Tree} {s : Nat}, idxB at_ s l = none → ∀ j, j < l.length → hasB at_ (l.getD j default) = false
  | [], s, h, j, hj => by simp at hj
  | t :: l, s, h, j, hj => by
    simp only [idxB] at h
    split at h
    · cases h
    · rename_i hh
      cases j with
      | zero => simpa using hh
      | succ j => rw [List.getD_cons_succ]; exact idxB_none h j (by simpa using hj)
theorem idxB_of {b : ByteArray} {D p q : Nat} {l : List Tree} (h : okTs b D p q l) {at_ : Int} {j : Nat} (hj : j < l.length) (h1 : hasB at_ (l.getD j default) = true) : idxB at_ 0 l = some j := by
  cases hi : idxB at_ 0 l with
  | none => rw [idxB_none hi j hj] at h1; cases h1
  | some i =>
    obtain ⟨-, h2, h3⟩ := idxB_lt hi
    rw [okTs_uniq h (show i - 0 < l.length by omega) hj h3 h1 |> fun e => (show i = j by omega)]
theorem idxB_all {at_ : Int} {l : List Tree} (h : ∀ j, j < l.length → hasB at_ (l.getD j default) = false) : idxB at_ 0 l = none := by
  cases hi : idxB at_ 0 l with
  | none => rfl
  | some i =>
    obtain ⟨-, h2, h3⟩ := idxB_lt hi
    rw [h (i - 0) (by omega)] at h3; cases h3

section
variable {b : ByteArray} {l : List Tree} (hb : b.size ≤ 4000) (hwf : okTs b 0 0 b.size l) (hlen : (flatTs l).length ≤ 300)
include hb hwf hlen
set_option maxHeartbeats 4000000 in
theorem pathTo30 (at_ : Int) : FCall Try.prog 30 [walkV b (flatTs l), .v (.int .i64 at_)] (· = natsV (pathN at_ 17 l)) := by
  have hsl : (subTs l).length ≤ 300 := by have := congrArg List.length (subTs_map l); simp only [List.length_map] at this; omega
  have hzw := FZ.walkV b (flatTs l)
  generalize hR : pathN at_ 17 l = R
  refine ACall.enter [] Cd.fn30 (by simp) ?_
  simp only [Cd.cd30, Tk.t30, base0, base1, base2, base3, Option.isNone_none, Option.isNone_some, Nat.reduceBEq, true_or, or_true, false_or, or_false, Nat.reduceLT, Nat.reduceMod, Nat.reducePow, rmaps, nsucc, List.flatten_cons, List.flatten_nil, Nat.reduceEqDiff, Nat.reduceLeDiff, Nat.reduceAdd, Nat.reduceMul, Nat.reduceSub, ↓reduceIte, reduceCtorEq, decide_true, decide_false]
  refine LWP.loop [] (fun m f H' => ∃ d D a s l' acc, m = d + 1 ∧ (D + d = 17) ∧ ((a = -1 ∧ s = 0 ∧ l' = l ∧ D = 0) ∨ ∃ (n E : Nat) (t : Tree), a = (n : Int) ∧ AtT b (subTs l) n E t ∧ s = n + 1 ∧ l' = t.kids ∧ D = E + 1) ∧ (acc ++ pathN at_ d l' = R) ∧ (acc.length ≤ D) ∧ f.t 0 = walkV b (flatTs l) ∧ f.t 1 = .v (.int .i64 at_) ∧ f.t 6 = .v (.int .i64 a) ∧ f.ds = [] ∧ GrowE natR 1 H' (f.t 5) acc) ?_ ?_ (m := (17) + 1)
  · exact ⟨17, 0, (-1 : Int), 0, l, [], rfl, (rfl), (.inl ⟨rfl, rfl, rfl, rfl⟩), (hR), (by simp), rfl, rfl, rfl, rfl, .inl ⟨rfl, by simp [upd]⟩⟩
  · rintro m f H' ⟨d, D, a, s, l', acc, rfl, hd, hS, hT, hal, f0, f1, f6, hds, hg⟩
    have hkF : FCall Try.prog 45 [walkV b (flatTs l), .v (.int .i64 a)] (· = natsV (kidIx s l')) := by
      rcases hS with ⟨rfl, rfl, rfl, -⟩ | ⟨n, E, t, rfl, h1, rfl, rfl, -⟩
      · exact kidsTop hb hwf hlen
      · exact kidsAt hb hlen h1
    simp only [f0, f1, f6, hds, Cd.cd30, Tk.t30, base0, base1, base2, base3, Option.isNone_none, Option.isNone_some, Nat.reduceBEq, true_or, or_true, false_or, or_false, Nat.reduceLT, Nat.reduceMod, Nat.reducePow, rmaps, nsucc, List.flatten_cons, List.flatten_nil, Nat.reduceEqDiff, Nat.reduceLeDiff, Nat.reduceAdd, Nat.reduceMul, Nat.reduceSub, ↓reduceIte, reduceCtorEq, decide_true, decide_false]
    first | refine FCall.go hkF (FZs.cons hzw (FZs.one (FZ.v _))) ?_ | refine FCall.go' hkF (FZs.cons hzw (FZs.one (FZ.v _))) ?_ | refine FCall.goQ hkF (FZs.cons hzw (FZs.one (FZ.v _))) ?_
    have key : (a = -1 ∧ ∃ p q, q ≤ b.size ∧ AtL b (subTs l) s D p q l') ∨ (∃ (n E : Nat) (t : Tree), a = (n : Int) ∧ AtT b (subTs l) n E t ∧ t.h.built = true ∧ ∃ p q, q ≤ b.size ∧ AtL b (subTs l) s D p q l') ∨ (l' = [] ∧ ∃ (n E : Nat) (t : Tree), a = (n : Int) ∧ AtT b (subTs l) n E t ∧ t.h.built = false) := by
      rcases hS with ⟨rfl, rfl, rfl, rfl⟩ | ⟨n, E, t, rfl, h1, rfl, rfl, rfl⟩
      · exact .inl ⟨rfl, _, _, Nat.le_refl _, AtL.all hwf⟩
      · cases hbt : t.h.built with
        | true => have := okT_in h1.ok; exact .inr (.inl ⟨n, E, t, rfl, h1, hbt, _, _, by omega, h1.kids hbt⟩)
        | false => exact .inr (.inr ⟨okT_leaf h1.ok hbt, n, E, t, rfl, h1, hbt⟩)
    clear hS hkF
    rcases key with ⟨ha, hAL⟩ | ⟨n, E, t0, ha, h1, hbt, hAL⟩ | ⟨hl0, n, E, t, ha, h1, hbt⟩
    · subst ha
      simp only [show ((-1 : Int) != -1) = false from rfl, f0, f1, f6, hds, Cd.cd30, Tk.t30, base0, base1, base2, base3, Option.isNone_none, Option.isNone_some, Nat.reduceBEq, true_or, or_true, false_or, or_false, Nat.reduceLT, Nat.reduceMod, Nat.reducePow, rmaps, nsucc, List.flatten_cons, List.flatten_nil, Nat.reduceEqDiff, Nat.reduceLeDiff, Nat.reduceAdd, Nat.reduceMul, Nat.reduceSub, ↓reduceIte, reduceCtorEq, decide_true, decide_false]
      obtain ⟨pp, qq, hqb, hAL⟩ := hAL
      have hle := kidIx_le hAL hsl
      have hoks : okTs b D pp qq l' := by obtain ⟨_, _, h, _⟩ := hAL; exact h
      refine LWP.loop [] (fun m f H' => ∃ i fd, m = l'.length - i ∧ (i ≤ l'.length) ∧ ((fd = -1 ∧ ∀ j, j < i → hasB at_ (l'.getD j default) = false) ∨ ∃ j : Nat, j < i ∧ fd = (j : Int) ∧ hasB at_ (l'.getD j default) = true) ∧ f.t 0 = walkV b (flatTs l) ∧ f.t 1 = .v (.int .i64 at_) ∧ f.t 7 = natsV (kidIx s l') ∧ f.t 8 = .v (.int .i64 fd) ∧ f.t 9 = iv i ∧ f.ds = [] ∧ GrowE natR 1 H' (f.t 5) acc) ?_ ?_ (m := l'.length - (0))
      · exact ⟨0, (-1 : Int), rfl, (by omega), (.inl ⟨rfl, fun j hj => by omega⟩), by simp [upd, f0], by simp [upd, f1], by simp [upd, natsV], by simp [upd], by simp [upd, iv], rfl, by simpa [upd] using hg⟩
      · rintro m f H' ⟨i, fd, rfl, hi, hF, f0, f1, f7, f8, f9, hds, hg⟩
        by_cases hlt : i < l'.length
        · have hg0 := hAL.get i hlt
          have hrow := kidRow s l' i hlt
          obtain ⟨n1, n2⟩ := hg0.node
          have hrn := getDmap nodeL (flatTs l) _ n1
          rw [n2] at hrn
          have hfin := okT_lt hg0.ok
          generalize hkn : (kidIx s l').getD i 0 = kn at hrow n1 hrn hg0
          generalize htt : l'.getD i default = t at hg0 hrn hfin
          have wl : IntKind.i64.wrap ((t.h.fin : Int) - 1) = (t.h.fin : Int) - 1 := wrapI (by omega) (by omega)
          simp only [walkV, wL, nodesV, natsV, iv, List.length_map, kidIx_length, show decide ((i : Int) < (l'.length : Int)) = true from decide_eq_true (by omega), ltT hlt, ltT n1, Int.natCast_nonneg, Int.toNat_natCast, hrow, hrn, nodeL, wl, f0, f1, f7, f8, f9, hds, Cd.cd30, Tk.t30, base0, base1, base2, base3, Option.isNone_none, Option.isNone_some, Nat.reduceBEq, true_or, or_true, false_or, or_false, Nat.reduceLT, Nat.reduceMod, Nat.reducePow, rmaps, nsucc, List.flatten_cons, List.flatten_nil, Nat.reduceEqDiff, Nat.reduceLeDiff, Nat.reduceAdd, Nat.reduceMul, Nat.reduceSub, ↓reduceIte, reduceCtorEq, decide_true, decide_false]
          first | refine FCall.go (within20 at_ t.h.frm ((t.h.fin : Int) - 1)) (FZs.cons (FZ.v _) (FZs.cons (FZ.v _) (FZs.one (FZ.v _)))) ?_ | refine FCall.go' (within20 at_ t.h.frm ((t.h.fin : Int) - 1)) (FZs.cons (FZ.v _) (FZs.cons (FZ.v _) (FZs.one (FZ.v _)))) ?_ | refine FCall.goQ (within20 at_ t.h.frm ((t.h.fin : Int) - 1)) (FZs.cons (FZ.v _) (FZs.cons (FZ.v _) (FZs.one (FZ.v _)))) ?_
          cases hh : hasB at_ t with
          | true =>
            have h3 := hasB_iff.mp hh
            simp only [List.not_mem_nil, false_imp_iff, implies_true, iv, decide_eq_true (show (t.h.frm : Int) ≤ at_ ∧ at_ ≤ (t.h.fin : Int) - 1 by omega), wrapS (show i < 2 ^ 62 by omega), f0, f1, f7, f8, f9, hds, Cd.cd30, Tk.t30, base0, base1, base2, base3, Option.isNone_none, Option.isNone_some, Nat.reduceBEq, true_or, or_true, false_or, or_false, Nat.reduceLT, Nat.reduceMod, Nat.reducePow, rmaps, nsucc, List.flatten_cons, List.flatten_nil, Nat.reduceEqDiff, Nat.reduceLeDiff, Nat.reduceAdd, Nat.reduceMul, Nat.reduceSub, ↓reduceIte, reduceCtorEq, decide_true, decide_false]
            refine ⟨_, by omega, i + 1, (i : Int), rfl, by omega, .inr ⟨i, by omega, rfl, by rw [htt]; exact hh⟩, ?_⟩
            (repeat' apply And.intro) <;> first | rfl | exact hg
          | false =>
            have h3 : ¬ ((t.h.frm : Int) ≤ at_ ∧ at_ ≤ (t.h.fin : Int) - 1) := fun e => by
              have := hasB_iff.mpr (show (t.h.frm : Int) ≤ at_ ∧ at_ < (t.h.fin : Int) by omega)
              rw [hh] at this; cases this
            simp only [List.not_mem_nil, false_imp_iff, implies_true, iv, decide_eq_false h3, wrapS (show i < 2 ^ 62 by omega), f0, f1, f7, f8, f9, hds, Cd.cd30, Tk.t30, base0, base1, base2, base3, Option.isNone_none, Option.isNone_some, Nat.reduceBEq, true_or, or_true, false_or, or_false, Nat.reduceLT, Nat.reduceMod, Nat.reducePow, rmaps, nsucc, List.flatten_cons, List.flatten_nil, Nat.reduceEqDiff, Nat.reduceLeDiff, Nat.reduceAdd, Nat.reduceMul, Nat.reduceSub, ↓reduceIte, reduceCtorEq, decide_true, decide_false]
            refine ⟨_, by omega, i + 1, fd, rfl, by omega, ?_, ?_⟩
            · rcases hF with ⟨e1, e2⟩ | ⟨j, e1, e2, e3⟩
              · refine .inl ⟨e1, fun j hj => ?_⟩
                by_cases hji : j = i
                · rw [hji, htt]; exact hh
                · exact e2 j (by omega)
              · exact .inr ⟨j, by omega, e2, e3⟩
            · (repeat' apply And.intro) <;> first | rfl | exact hg
        · have hil : i = l'.length := by omega
          rcases hF with ⟨rfl, e2⟩ | ⟨j, e1, rfl, e3⟩
          · have hid := idxB_all (at_ := at_) (l := l') (fun j hj => e2 j (by omega))
            have hpn : pathN at_ d l' = [] := by cases d with
              | zero => rfl
              | succ d => simp only [pathN, hid]
            rw [hpn, List.append_nil] at hT
            simp only [natsV, iv, List.length_map, kidIx_length, show decide ((i : Int) < (l'.length : Int)) = false from decide_eq_false (by omega), show ((-1 : Int) == -1) = true from rfl, f0, f1, f7, f8, f9, hds, Cd.cd30, Tk.t30, base0, base1, base2, base3, Option.isNone_none, Option.isNone_some, Nat.reduceBEq, true_or, or_true, false_or, or_false, Nat.reduceLT, Nat.reduceMod, Nat.reducePow, rmaps, nsucc, List.flatten_cons, List.flatten_nil, Nat.reduceEqDiff, Nat.reduceLeDiff, Nat.reduceAdd, Nat.reduceMul, Nat.reduceSub, ↓reduceIte, reduceCtorEq, decide_true, decide_false]
            exact fin_grow hg FZs.natR (by rw [← hT] <;> rfl)
          · have hid := idxB_of hoks (show j < l'.length by omega) e3
            have hg0 := hAL.get j (by omega)
            have hrow := kidRow s l' j (by omega)
            have hD15 := okT_deep hg0.ok
            obtain ⟨e, rfl⟩ : ∃ e, d = e + 1 := ⟨d - 1, by omega⟩
            have hpn : pathN at_ (e + 1) l' = j :: pathN at_ e (l'.getD j default).kids := by simp only [pathN, hid]
            rw [hpn] at hT
            generalize (kidIx s l').getD j 0 = kn at hrow hg0
            generalize l'.getD j default = t at hT hg0
            have hT2 : (acc ++ [j]) ++ pathN at_ e t.kids = R := by rw [← hT]; simp
            rcases hg with ⟨rfl, h9⟩ | ⟨tp, h9, htp⟩
            · simp only [List.not_mem_nil, false_imp_iff, implies_true, natsV, iv, List.length_map, kidIx_length, show decide ((i : Int) < (l'.length : Int)) = false from decide_eq_false (by omega), show ((j : Int) == -1) = false from beqF (by omega), ltT (show j < l'.length by omega), Int.natCast_nonneg, Int.toNat_natCast, hrow, h9, show roomA 8 1 = true from rfl, f0, f1, f7, f8, f9, hds, Cd.cd30, Tk.t30, base0, base1, base2, base3, Option.isNone_none, Option.isNone_some, Nat.reduceBEq, true_or, or_true, false_or, or_false, Nat.reduceLT, Nat.reduceMod, Nat.reducePow, rmaps, nsucc, List.flatten_cons, List.flatten_nil, Nat.reduceEqDiff, Nat.reduceLeDiff, Nat.reduceAdd, Nat.reduceMul, Nat.reduceSub, ↓reduceIte, reduceCtorEq, decide_true, decide_false]
              refine ⟨_, by omega, e, D + 1, (kn : Int), kn + 1, t.kids, [j], rfl, by omega, .inr ⟨kn, D, t, rfl, hg0, rfl, rfl, rfl⟩, by simpa using hT2, by simp, ?_⟩
              (repeat' apply And.intro) <;> first | rfl | exact GrowE.live (by simp [natR]) (by simp)
            · simp only [List.not_mem_nil, false_imp_iff, implies_true, natsV, iv, List.length_map, kidIx_length, show decide ((i : Int) < (l'.length : Int)) = false from decide_eq_false (by omega), show ((j : Int) == -1) = false from beqF (by omega), ltT (show j < l'.length by omega), Int.natCast_nonneg, Int.toNat_natCast, hrow, h9, htp, room1 (b := 8) (n := acc.length) (by omega) (by omega), f0, f1, f7, f8, f9, hds, Cd.cd30, Tk.t30, base0, base1, base2, base3, Option.isNone_none, Option.isNone_some, Nat.reduceBEq, true_or, or_true, false_or, or_false, Nat.reduceLT, Nat.reduceMod, Nat.reducePow, rmaps, nsucc, List.flatten_cons, List.flatten_nil, Nat.reduceEqDiff, Nat.reduceLeDiff, Nat.reduceAdd, Nat.reduceMul, Nat.reduceSub, ↓reduceIte, reduceCtorEq, decide_true, decide_false]
              refine ⟨_, by omega, e, D + 1, (kn : Int), kn + 1, t.kids, acc ++ [j], rfl, by omega, .inr ⟨kn, D, t, rfl, hg0, rfl, rfl, rfl⟩, hT2, by simp; omega, ?_⟩
              (repeat' apply And.intro) <;> first | rfl | exact GrowE.live (by simp [natR]) (by simp)
    · subst ha
      obtain ⟨n1, n2⟩ := h1.node
      have hrn := getDmap nodeL (flatTs l) _ n1
      rw [n2] at hrn
      simp only [walkV, wL, nodesV, List.length_map, show ((n : Int) != -1) = true from by simp, ltT n1, Int.natCast_nonneg, Int.toNat_natCast, hrn, nodeL, hbt, f0, f1, f6, hds, Cd.cd30, Tk.t30, base0, base1, base2, base3, Option.isNone_none, Option.isNone_some, Nat.reduceBEq, true_or, or_true, false_or, or_false, Nat.reduceLT, Nat.reduceMod, Nat.reducePow, rmaps, nsucc, List.flatten_cons, List.flatten_nil, Nat.reduceEqDiff, Nat.reduceLeDiff, Nat.reduceAdd, Nat.reduceMul, Nat.reduceSub, ↓reduceIte, reduceCtorEq, decide_true, decide_false]
      obtain ⟨pp, qq, hqb, hAL⟩ := hAL
      have hle := kidIx_le hAL hsl
      have hoks : okTs b D pp qq l' := by obtain ⟨_, _, h, _⟩ := hAL; exact h
      refine LWP.loop [] (fun m f H' => ∃ i fd, m = l'.length - i ∧ (i ≤ l'.length) ∧ ((fd = -1 ∧ ∀ j, j < i → hasB at_ (l'.getD j default) = false) ∨ ∃ j : Nat, j < i ∧ fd = (j : Int) ∧ hasB at_ (l'.getD j default) = true) ∧ f.t 0 = walkV b (flatTs l) ∧ f.t 1 = .v (.int .i64 at_) ∧ f.t 7 = natsV (kidIx s l') ∧ f.t 8 = .v (.int .i64 fd) ∧ f.t 9 = iv i ∧ f.ds = [] ∧ GrowE natR 1 H' (f.t 5) acc) ?_ ?_ (m := l'.length - (0))
      · exact ⟨0, (-1 : Int), rfl, (by omega), (.inl ⟨rfl, fun j hj => by omega⟩), by simp [upd, f0], by simp [upd, f1], by simp [upd, natsV], by simp [upd], by simp [upd, iv], rfl, by simpa [upd] using hg⟩
      · rintro m f H' ⟨i, fd, rfl, hi, hF, f0, f1, f7, f8, f9, hds, hg⟩
        by_cases hlt : i < l'.length
        · have hg0 := hAL.get i hlt
          have hrow := kidRow s l' i hlt
          obtain ⟨n1, n2⟩ := hg0.node
          have hrn := getDmap nodeL (flatTs l) _ n1
          rw [n2] at hrn
          have hfin := okT_lt hg0.ok
          generalize hkn : (kidIx s l').getD i 0 = kn at hrow n1 hrn hg0
          generalize htt : l'.getD i default = t at hg0 hrn hfin
          have wl : IntKind.i64.wrap ((t.h.fin : Int) - 1) = (t.h.fin : Int) - 1 := wrapI (by omega) (by omega)
          simp only [walkV, wL, nodesV, natsV, iv, List.length_map, kidIx_length, show decide ((i : Int) < (l'.length : Int)) = true from decide_eq_true (by omega), ltT hlt, ltT n1, Int.natCast_nonneg, Int.toNat_natCast, hrow, hrn, nodeL, wl, f0, f1, f7, f8, f9, hds, Cd.cd30, Tk.t30, base0, base1, base2, base3, Option.isNone_none, Option.isNone_some, Nat.reduceBEq, true_or, or_true, false_or, or_false, Nat.reduceLT, Nat.reduceMod, Nat.reducePow, rmaps, nsucc, List.flatten_cons, List.flatten_nil, Nat.reduceEqDiff, Nat.reduceLeDiff, Nat.reduceAdd, Nat.reduceMul, Nat.reduceSub, ↓reduceIte, reduceCtorEq, decide_true, decide_false]
          first | refine FCall.go (within20 at_ t.h.frm ((t.h.fin : Int) - 1)) (FZs.cons (FZ.v _) (FZs.cons (FZ.v _) (FZs.one (FZ.v _)))) ?_ | refine FCall.go' (within20 at_ t.h.frm ((t.h.fin : Int) - 1)) (FZs.cons (FZ.v _) (FZs.cons (FZ.v _) (FZs.one (FZ.v _)))) ?_ | refine FCall.goQ (within20 at_ t.h.frm ((t.h.fin : Int) - 1)) (FZs.cons (FZ.v _) (FZs.cons (FZ.v _) (FZs.one (FZ.v _)))) ?_
          cases hh : hasB at_ t with
          | true =>
            have h3 := hasB_iff.mp hh
            simp only [List.not_mem_nil, false_imp_iff, implies_true, iv, decide_eq_true (show (t.h.frm : Int) ≤ at_ ∧ at_ ≤ (t.h.fin : Int) - 1 by omega), wrapS (show i < 2 ^ 62 by omega), f0, f1, f7, f8, f9, hds, Cd.cd30, Tk.t30, base0, base1, base2, base3, Option.isNone_none, Option.isNone_some, Nat.reduceBEq, true_or, or_true, false_or, or_false, Nat.reduceLT, Nat.reduceMod, Nat.reducePow, rmaps, nsucc, List.flatten_cons, List.flatten_nil, Nat.reduceEqDiff, Nat.reduceLeDiff, Nat.reduceAdd, Nat.reduceMul, Nat.reduceSub, ↓reduceIte, reduceCtorEq, decide_true, decide_false]
            refine ⟨_, by omega, i + 1, (i : Int), rfl, by omega, .inr ⟨i, by omega, rfl, by rw [htt]; exact hh⟩, ?_⟩
            (repeat' apply And.intro) <;> first | rfl | exact hg
          | false =>
            have h3 : ¬ ((t.h.frm : Int) ≤ at_ ∧ at_ ≤ (t.h.fin : Int) - 1) := fun e => by
              have := hasB_iff.mpr (show (t.h.frm : Int) ≤ at_ ∧ at_ < (t.h.fin : Int) by omega)
              rw [hh] at this; cases this
            simp only [List.not_mem_nil, false_imp_iff, implies_true, iv, decide_eq_false h3, wrapS (show i < 2 ^ 62 by omega), f0, f1, f7, f8, f9, hds, Cd.cd30, Tk.t30, base0, base1, base2, base3, Option.isNone_none, Option.isNone_some, Nat.reduceBEq, true_or, or_true, false_or, or_false, Nat.reduceLT, Nat.reduceMod, Nat.reducePow, rmaps, nsucc, List.flatten_cons, List.flatten_nil, Nat.reduceEqDiff, Nat.reduceLeDiff, Nat.reduceAdd, Nat.reduceMul, Nat.reduceSub, ↓reduceIte, reduceCtorEq, decide_true, decide_false]
            refine ⟨_, by omega, i + 1, fd, rfl, by omega, ?_, ?_⟩
            · rcases hF with ⟨e1, e2⟩ | ⟨j, e1, e2, e3⟩
              · refine .inl ⟨e1, fun j hj => ?_⟩
                by_cases hji : j = i
                · rw [hji, htt]; exact hh
                · exact e2 j (by omega)
              · exact .inr ⟨j, by omega, e2, e3⟩
            · (repeat' apply And.intro) <;> first | rfl | exact hg
        · have hil : i = l'.length := by omega
          rcases hF with ⟨rfl, e2⟩ | ⟨j, e1, rfl, e3⟩
          · have hid := idxB_all (at_ := at_) (l := l') (fun j hj => e2 j (by omega))
            have hpn : pathN at_ d l' = [] := by cases d with
              | zero => rfl
              | succ d => simp only [pathN, hid]
            rw [hpn, List.append_nil] at hT
            simp only [natsV, iv, List.length_map, kidIx_length, show decide ((i : Int) < (l'.length : Int)) = false from decide_eq_false (by omega), show ((-1 : Int) == -1) = true from rfl, f0, f1, f7, f8, f9, hds, Cd.cd30, Tk.t30, base0, base1, base2, base3, Option.isNone_none, Option.isNone_some, Nat.reduceBEq, true_or, or_true, false_or, or_false, Nat.reduceLT, Nat.reduceMod, Nat.reducePow, rmaps, nsucc, List.flatten_cons, List.flatten_nil, Nat.reduceEqDiff, Nat.reduceLeDiff, Nat.reduceAdd, Nat.reduceMul, Nat.reduceSub, ↓reduceIte, reduceCtorEq, decide_true, decide_false]
            exact fin_grow hg FZs.natR (by rw [← hT] <;> rfl)
          · have hid := idxB_of hoks (show j < l'.length by omega) e3
            have hg0 := hAL.get j (by omega)
            have hrow := kidRow s l' j (by omega)
            have hD15 := okT_deep hg0.ok
            obtain ⟨e, rfl⟩ : ∃ e, d = e + 1 := ⟨d - 1, by omega⟩
            have hpn : pathN at_ (e + 1) l' = j :: pathN at_ e (l'.getD j default).kids := by simp only [pathN, hid]
            rw [hpn] at hT
            generalize (kidIx s l').getD j 0 = kn at hrow hg0
            generalize l'.getD j default = t at hT hg0
            have hT2 : (acc ++ [j]) ++ pathN at_ e t.kids = R := by rw [← hT]; simp
            rcases hg with ⟨rfl, h9⟩ | ⟨tp, h9, htp⟩
            · simp only [List.not_mem_nil, false_imp_iff, implies_true, natsV, iv, List.length_map, kidIx_length, show decide ((i : Int) < (l'.length : Int)) = false from decide_eq_false (by omega), show ((j : Int) == -1) = false from beqF (by omega), ltT (show j < l'.length by omega), Int.natCast_nonneg, Int.toNat_natCast, hrow, h9, show roomA 8 1 = true from rfl, f0, f1, f7, f8, f9, hds, Cd.cd30, Tk.t30, base0, base1, base2, base3, Option.isNone_none, Option.isNone_some, Nat.reduceBEq, true_or, or_true, false_or, or_false, Nat.reduceLT, Nat.reduceMod, Nat.reducePow, rmaps, nsucc, List.flatten_cons, List.flatten_nil, Nat.reduceEqDiff, Nat.reduceLeDiff, Nat.reduceAdd, Nat.reduceMul, Nat.reduceSub, ↓reduceIte, reduceCtorEq, decide_true, decide_false]
              refine ⟨_, by omega, e, D + 1, (kn : Int), kn + 1, t.kids, [j], rfl, by omega, .inr ⟨kn, D, t, rfl, hg0, rfl, rfl, rfl⟩, by simpa using hT2, by simp, ?_⟩
              (repeat' apply And.intro) <;> first | rfl | exact GrowE.live (by simp [natR]) (by simp)
            · simp only [List.not_mem_nil, false_imp_iff, implies_true, natsV, iv, List.length_map, kidIx_length, show decide ((i : Int) < (l'.length : Int)) = false from decide_eq_false (by omega), show ((j : Int) == -1) = false from beqF (by omega), ltT (show j < l'.length by omega), Int.natCast_nonneg, Int.toNat_natCast, hrow, h9, htp, room1 (b := 8) (n := acc.length) (by omega) (by omega), f0, f1, f7, f8, f9, hds, Cd.cd30, Tk.t30, base0, base1, base2, base3, Option.isNone_none, Option.isNone_some, Nat.reduceBEq, true_or, or_true, false_or, or_false, Nat.reduceLT, Nat.reduceMod, Nat.reducePow, rmaps, nsucc, List.flatten_cons, List.flatten_nil, Nat.reduceEqDiff, Nat.reduceLeDiff, Nat.reduceAdd, Nat.reduceMul, Nat.reduceSub, ↓reduceIte, reduceCtorEq, decide_true, decide_false]
              refine ⟨_, by omega, e, D + 1, (kn : Int), kn + 1, t.kids, acc ++ [j], rfl, by omega, .inr ⟨kn, D, t, rfl, hg0, rfl, rfl, rfl⟩, hT2, by simp; omega, ?_⟩
              (repeat' apply And.intro) <;> first | rfl | exact GrowE.live (by simp [natR]) (by simp)
    · subst ha
      obtain ⟨n1, n2⟩ := h1.node
      have hrn := getDmap nodeL (flatTs l) _ n1
      rw [n2] at hrn
      have hpn : pathN at_ d l' = [] := by rw [hl0]; cases d <;> rfl
      rw [hpn, List.append_nil] at hT
      simp only [walkV, wL, nodesV, List.length_map, show ((n : Int) != -1) = true from by simp, ltT n1, Int.natCast_nonneg, Int.toNat_natCast, hrn, nodeL, hbt, f0, f1, f6, hds, Cd.cd30, Tk.t30, base0, base1, base2, base3, Option.isNone_none, Option.isNone_some, Nat.reduceBEq, true_or, or_true, false_or, or_false, Nat.reduceLT, Nat.reduceMod, Nat.reducePow, rmaps, nsucc, List.flatten_cons, List.flatten_nil, Nat.reduceEqDiff, Nat.reduceLeDiff, Nat.reduceAdd, Nat.reduceMul, Nat.reduceSub, ↓reduceIte, reduceCtorEq, decide_true, decide_false]
      exact fin_grow hg FZs.natR (by rw [← hT] <;> rfl)
end
end Go.Proofs.Ytmjjfdppaomcfaa

/- Walks: the law of places. -/
namespace Go.Proofs.Ytmjjfdppaomcfaa
open Go Go.Proofs.Ytmjjfdppaomcfaa.Ab
set_option maxRecDepth 100000
set_option linter.unusedSimpArgs false

theorem pathN_len (at_ : Int) : ∀ (d : Nat) (l : List Tree), (pathN at_ d l).length ≤ d
  | 0, l => by simp [pathN]
  | d + 1, l => by
    simp only [pathN]
    split
    · simp
    · have := pathN_len at_ d; simp; exact this _
def rest7 : CC := dropS 9 Cd.cd7
set_option maxHeartbeats 2000000 in
theorem tail7 {b : ByteArray} {l : List Tree} (hl : readB b = .ok l) (at_ : Int) (f : AF) (H : AH) (f0 : f.t 0 = .v (.string b)) (f2 : f.t 2 = .v (.int .i64 at_)) (f9 : f.t 9 = natsV (pathToP b at_).1) (f10 : f.t 10 = .v (.int .i64 (pathToP b at_).2)) (f11 : f.t 11 = walkV b (flatTs l)) (hds : f.ds = []) :
    cwp Try.prog [] 122 rest7 (Kont.fin Try.prog [ResultVar.tmp 6] (fun out H' => ∃ v v', out = .ret v ∧ View H' v v' ∧ FZ v' ∧ v' = .v (.bool true))) f H := by
  have hb := readB_len hl
  have hwf := readB_wf hl
  have wl : IntKind.i64.wrap ((b.size : Int) - 1) = (b.size : Int) - 1 := wrapI (by omega) (by omega)
  have hzw := FZ.walkV b (flatTs l)
  simp only [rest7, dropS, f0, f2, f9, f10, f11, hds, wl, Cd.cd7, Tk.t7, base0, base1, base2, base3, Option.isNone_none, Option.isNone_some, Nat.reduceBEq, true_or, or_true, false_or, or_false, Nat.reduceLT, Nat.reduceMod, Nat.reducePow, rmaps, nsucc, List.flatten_cons, List.flatten_nil, Nat.reduceEqDiff, Nat.reduceLeDiff, Nat.reduceAdd, Nat.reduceMul, Nat.reduceSub, ↓reduceIte, reduceCtorEq, decide_true, decide_false]
  first | refine FCall.go (within20 at_ 0 ((b.size : Int) - 1)) (FZs.cons (FZ.v _) (FZs.cons (FZ.v _) (FZs.one (FZ.v _)))) ?_ | refine FCall.go' (within20 at_ 0 ((b.size : Int) - 1)) (FZs.cons (FZ.v _) (FZs.cons (FZ.v _) (FZs.one (FZ.v _)))) ?_ | refine FCall.goQ (within20 at_ 0 ((b.size : Int) - 1)) (FZs.cons (FZ.v _) (FZs.cons (FZ.v _) (FZs.one (FZ.v _)))) ?_
  by_cases h : 0 ≤ at_ ∧ at_ ≤ (b.size : Int) - 1
  · have hp : pathToP b at_ = (pathN at_ 17 l, 0) := by unfold pathToP; rw [hl, if_neg (fun h => h rfl), if_neg (by omega)]; rfl
    rw [hp] at f9 f10
    have hlen := pathN_len at_ 17 l
    simp only [decide_eq_true h, f0, f2, f9, f10, f11, hds, show ((0 : Int) == 0) = true from rfl, Cd.cd7, Tk.t7, base0, base1, base2, base3, Option.isNone_none, Option.isNone_some, Nat.reduceBEq, true_or, or_true, false_or, or_false, Nat.reduceLT, Nat.reduceMod, Nat.reducePow, rmaps, nsucc, List.flatten_cons, List.flatten_nil, Nat.reduceEqDiff, Nat.reduceLeDiff, Nat.reduceAdd, Nat.reduceMul, Nat.reduceSub, ↓reduceIte, reduceCtorEq, decide_true, decide_false]
    first | refine FCall.go (pathTo30 hb.2 hwf hb.1 at_) (FZs.cons hzw (FZs.one (FZ.v _))) ?_ | refine FCall.go' (pathTo30 hb.2 hwf hb.1 at_) (FZs.cons hzw (FZs.one (FZ.v _))) ?_ | refine FCall.goQ (pathTo30 hb.2 hwf hb.1 at_) (FZs.cons hzw (FZs.one (FZ.v _))) ?_
    simp only [hds, Cd.cd7, Tk.t7, base0, base1, base2, base3, Option.isNone_none, Option.isNone_some, Nat.reduceBEq, true_or, or_true, false_or, or_false, Nat.reduceLT, Nat.reduceMod, Nat.reducePow, rmaps, nsucc, List.flatten_cons, List.flatten_nil, Nat.reduceEqDiff, Nat.reduceLeDiff, Nat.reduceAdd, Nat.reduceMul, Nat.reduceSub, ↓reduceIte, reduceCtorEq, decide_true, decide_false]
    first | refine FCall.go (sameInts26 _ (by omega)) (FZs.cons (FZ.natsV _) (FZs.one (FZ.natsV _))) ?_ | refine FCall.go' (sameInts26 _ (by omega)) (FZs.cons (FZ.natsV _) (FZs.one (FZ.natsV _))) ?_ | refine FCall.goQ (sameInts26 _ (by omega)) (FZs.cons (FZ.natsV _) (FZs.one (FZ.natsV _))) ?_
    simp only [hds, Cd.cd7, Tk.t7, base0, base1, base2, base3, Option.isNone_none, Option.isNone_some, Nat.reduceBEq, true_or, or_true, false_or, or_false, Nat.reduceLT, Nat.reduceMod, Nat.reducePow, rmaps, nsucc, List.flatten_cons, List.flatten_nil, Nat.reduceEqDiff, Nat.reduceLeDiff, Nat.reduceAdd, Nat.reduceMul, Nat.reduceSub, ↓reduceIte, reduceCtorEq, decide_true, decide_false]
    exact fin_v rfl
  · have hp : pathToP b at_ = ([], 3) := by unfold pathToP; rw [hl, if_neg (fun h => h rfl), if_pos (by omega)]
    rw [hp] at f9 f10
    simp only [decide_eq_false h, f0, f2, f9, f10, f11, hds, natsV, List.map_nil, show ((3 : Int) == 3) = true from rfl, show (((0 : Nat) : Int) == 0) = true from rfl, Cd.cd7, Tk.t7, base0, base1, base2, base3, Option.isNone_none, Option.isNone_some, Nat.reduceBEq, true_or, or_true, false_or, or_false, Nat.reduceLT, Nat.reduceMod, Nat.reducePow, rmaps, nsucc, List.flatten_cons, List.flatten_nil, Nat.reduceEqDiff, Nat.reduceLeDiff, Nat.reduceAdd, Nat.reduceMul, Nat.reduceSub, ↓reduceIte, reduceCtorEq, decide_true, decide_false]
    exact fin_v rfl
set_option maxHeartbeats 4000000 in
theorem law7 (b : ByteArray) (path : List Int) (at_ : Int) : FCall Try.prog 7 [.v (.string b), intsV path, .v (.int .i64 at_)] (· = .v (.bool true)) := by
  have hzi := FZ.intsV path
  refine ACall.enter [] (cc := putS 9 Cd.cd7 rest7) (by rw [show putS 9 Cd.cd7 rest7 = Cd.cd7 from putS_drop 9 _]; exact Cd.fn7) (by simp) ?_
  simp only [putS, Cd.cd7, Tk.t7, base0, base1, base2, base3, Option.isNone_none, Option.isNone_some, Nat.reduceBEq, true_or, or_true, false_or, or_false, Nat.reduceLT, Nat.reduceMod, Nat.reducePow, rmaps, nsucc, List.flatten_cons, List.flatten_nil, Nat.reduceEqDiff, Nat.reduceLeDiff, Nat.reduceAdd, Nat.reduceMul, Nat.reduceSub, ↓reduceIte, reduceCtorEq, decide_true, decide_false]
  first | refine FCall.go (awake11) (FZs.nil) ?_ | refine FCall.go' (awake11) (FZs.nil) ?_ | refine FCall.goQ (awake11) (FZs.nil) ?_
  simp only [putS, Cd.cd7, Tk.t7, base0, base1, base2, base3, Option.isNone_none, Option.isNone_some, Nat.reduceBEq, true_or, or_true, false_or, or_false, Nat.reduceLT, Nat.reduceMod, Nat.reducePow, rmaps, nsucc, List.flatten_cons, List.flatten_nil, Nat.reduceEqDiff, Nat.reduceLeDiff, Nat.reduceAdd, Nat.reduceMul, Nat.reduceSub, ↓reduceIte, reduceCtorEq, decide_true, decide_false]
  first | refine FCall.go (small12 b) (FZs.one (FZ.v _)) ?_ | refine FCall.go' (small12 b) (FZs.one (FZ.v _)) ?_ | refine FCall.goQ (small12 b) (FZs.one (FZ.v _)) ?_
  cases hs : smallB b
  · simp only [putS, Cd.cd7, Tk.t7, base0, base1, base2, base3, Option.isNone_none, Option.isNone_some, Nat.reduceBEq, true_or, or_true, false_or, or_false, Nat.reduceLT, Nat.reduceMod, Nat.reducePow, rmaps, nsucc, List.flatten_cons, List.flatten_nil, Nat.reduceEqDiff, Nat.reduceLeDiff, Nat.reduceAdd, Nat.reduceMul, Nat.reduceSub, ↓reduceIte, reduceCtorEq, decide_true, decide_false]
    exact fin_v rfl
  by_cases hp : path.length ≤ 20
  rotate_left
  · simp only [putS, intsV, List.length_map, show decide ((path.length : Int) > 20) = true from decide_eq_true (by omega), Cd.cd7, Tk.t7, base0, base1, base2, base3, Option.isNone_none, Option.isNone_some, Nat.reduceBEq, true_or, or_true, false_or, or_false, Nat.reduceLT, Nat.reduceMod, Nat.reducePow, rmaps, nsucc, List.flatten_cons, List.flatten_nil, Nat.reduceEqDiff, Nat.reduceLeDiff, Nat.reduceAdd, Nat.reduceMul, Nat.reduceSub, ↓reduceIte, reduceCtorEq, decide_true, decide_false]
    exact fin_v rfl
  have hO := ownInts17 path (by omega)
  have hN := nodeAt27 b path (by omega)
  simp only [intsV] at hO hN hzi
  simp only [putS, intsV, List.length_map, show decide ((path.length : Int) > 20) = false from decide_eq_false (by omega), Cd.cd7, Tk.t7, base0, base1, base2, base3, Option.isNone_none, Option.isNone_some, Nat.reduceBEq, true_or, or_true, false_or, or_false, Nat.reduceLT, Nat.reduceMod, Nat.reducePow, rmaps, nsucc, List.flatten_cons, List.flatten_nil, Nat.reduceEqDiff, Nat.reduceLeDiff, Nat.reduceAdd, Nat.reduceMul, Nat.reduceSub, ↓reduceIte, reduceCtorEq, decide_true, decide_false]
  first | refine FCall.go hO (FZs.one hzi) ?_ | refine FCall.go' hO (FZs.one hzi) ?_ | refine FCall.goQ hO (FZs.one hzi) ?_
  simp only [putS, Cd.cd7, Tk.t7, base0, base1, base2, base3, Option.isNone_none, Option.isNone_some, Nat.reduceBEq, true_or, or_true, false_or, or_false, Nat.reduceLT, Nat.reduceMod, Nat.reducePow, rmaps, nsucc, List.flatten_cons, List.flatten_nil, Nat.reduceEqDiff, Nat.reduceLeDiff, Nat.reduceAdd, Nat.reduceMul, Nat.reduceSub, ↓reduceIte, reduceCtorEq, decide_true, decide_false]
  first | refine FCall.go hN (FZs.cons (FZ.v _) (FZs.one hzi)) ?_ | refine FCall.go' hN (FZs.cons (FZ.v _) (FZs.one hzi)) ?_ | refine FCall.goQ hN (FZs.cons (FZ.v _) (FZs.one hzi)) ?_
  simp only [putS, naV, nodeL, Cd.cd7, Tk.t7, base0, base1, base2, base3, Option.isNone_none, Option.isNone_some, Nat.reduceBEq, true_or, or_true, false_or, or_false, Nat.reduceLT, Nat.reduceMod, Nat.reducePow, rmaps, nsucc, List.flatten_cons, List.flatten_nil, Nat.reduceEqDiff, Nat.reduceLeDiff, Nat.reduceAdd, Nat.reduceMul, Nat.reduceSub, ↓reduceIte, reduceCtorEq, decide_true, decide_false]
  first | refine FCall.go (pathTo28 b at_) (FZs.cons (FZ.v _) (FZs.one (FZ.v _))) ?_ | refine FCall.go' (pathTo28 b at_) (FZs.cons (FZ.v _) (FZs.one (FZ.v _))) ?_ | refine FCall.goQ (pathTo28 b at_) (FZs.cons (FZ.v _) (FZs.one (FZ.v _))) ?_
  simp only [putS, liV, Cd.cd7, Tk.t7, base0, base1, base2, base3, Option.isNone_none, Option.isNone_some, Nat.reduceBEq, true_or, or_true, false_or, or_false, Nat.reduceLT, Nat.reduceMod, Nat.reducePow, rmaps, nsucc, List.flatten_cons, List.flatten_nil, Nat.reduceEqDiff, Nat.reduceLeDiff, Nat.reduceAdd, Nat.reduceMul, Nat.reduceSub, ↓reduceIte, reduceCtorEq, decide_true, decide_false]
  first | refine FCall.go (read14 b) (FZs.one (FZ.v _)) ?_ | refine FCall.go' (read14 b) (FZs.one (FZ.v _)) ?_ | refine FCall.goQ (read14 b) (FZs.one (FZ.v _)) ?_
  by_cases h1 : errOf (readB b) = 0
  rotate_left
  · have e1 : nodeAtP b path = (hd0, errOf (readB b)) := if_pos h1
    have e2 : pathToP b at_ = ([], errOf (readB b)) := if_pos h1
    rw [e1, e2]
    simp only [putS, refOut_eq, wL, bneT h1, hd0, natsV, List.map_nil, show (((0 : Nat) : Int) == 0) = true from rfl, Ty.ef41, Ty.ag41, Ty.sz41, Ty.in3, Ty.bo4, Ty.ag4, Ty.ag3, aeq0, beq_self_eq_true, Bool.and_self, List.not_mem_nil, false_imp_iff, implies_true, Cd.cd7, Tk.t7, base0, base1, base2, base3, Option.isNone_none, Option.isNone_some, Nat.reduceBEq, true_or, or_true, false_or, or_false, Nat.reduceLT, Nat.reduceMod, Nat.reducePow, rmaps, nsucc, List.flatten_cons, List.flatten_nil, Nat.reduceEqDiff, Nat.reduceLeDiff, Nat.reduceAdd, Nat.reduceMul, Nat.reduceSub, ↓reduceIte, reduceCtorEq, decide_true, decide_false]
    exact fin_v rfl
  obtain ⟨l, hl⟩ := errOf_zero h1
  have hb := readB_len hl
  have hwf := readB_wf hl
  have hzw := FZ.walkV b (flatTs l)
  have hF := find29 hb.2 hwf hb.1 path (by omega)
  have hfn := findN_findP (path := path) (AtL.all hwf)
  rw [refOut_ok h1, hl]
  simp only [walkV, wL, okL, intsV] at hF hzw ⊢
  simp only [putS, show ((0 : Int) != 0) = false from rfl, Cd.cd7, Tk.t7, base0, base1, base2, base3, Option.isNone_none, Option.isNone_some, Nat.reduceBEq, true_or, or_true, false_or, or_false, Nat.reduceLT, Nat.reduceMod, Nat.reducePow, rmaps, nsucc, List.flatten_cons, List.flatten_nil, Nat.reduceEqDiff, Nat.reduceLeDiff, Nat.reduceAdd, Nat.reduceMul, Nat.reduceSub, ↓reduceIte, reduceCtorEq, decide_true, decide_false]
  first | refine FCall.go hF (FZs.cons hzw (FZs.one hzi)) ?_ | refine FCall.go' hF (FZs.cons hzw (FZs.one hzi)) ?_ | refine FCall.goQ hF (FZs.cons hzw (FZs.one hzi)) ?_
  rcases hfn with ⟨q1, q2⟩ | ⟨x, ys, i, E, q1, q2, q3⟩
  · have e1 : nodeAtP b path = (hd0, 11) := by unfold nodeAtP; rw [if_neg (fun h => h h1), hl]; simp only [okL, q1]
    rw [q2, e1]
    simp only [putS, ixV, hd0, show ((-1 : Int) == -1) = true from rfl, show ((-1 : Int) != -1) = false from rfl, show ((11 : Int) != 11) = false from rfl, show (((0 : Nat) : Int) == 0) = true from rfl, Ty.ef41, Ty.ag41, Ty.sz41, Ty.in3, Ty.bo4, Ty.ag4, Ty.ag3, aeq0, beq_self_eq_true, Bool.and_self, List.not_mem_nil, false_imp_iff, implies_true, Cd.cd7, Tk.t7, base0, base1, base2, base3, Option.isNone_none, Option.isNone_some, Nat.reduceBEq, true_or, or_true, false_or, or_false, Nat.reduceLT, Nat.reduceMod, Nat.reducePow, rmaps, nsucc, List.flatten_cons, List.flatten_nil, Nat.reduceEqDiff, Nat.reduceLeDiff, Nat.reduceAdd, Nat.reduceMul, Nat.reduceSub, ↓reduceIte, reduceCtorEq, decide_true, decide_false]
    refine tail7 hl at_ _ _ ?_ ?_ ?_ ?_ ?_ ?_ <;> rfl
  · have e1 : nodeAtP b path = (x.h, 0) := by unfold nodeAtP; rw [if_neg (fun h => h h1), hl]; simp only [okL, q1]
    obtain ⟨n1, n2⟩ := q3.node
    have hrn := getDmap nodeL (flatTs l) _ n1
    rw [n2] at hrn
    rw [q2, e1]
    simp only [putS, ixV, iv, nodesV, List.length_map, ltT n1, Int.natCast_nonneg, Int.toNat_natCast, hrn, nodeL, show ((i : Int) == -1) = false from beqF (by omega), show ((i : Int) != -1) = true from bneT (by omega), show ((0 : Int) != 0) = false from rfl, Ty.ef41, Ty.ag41, Ty.sz41, Ty.in3, Ty.bo4, Ty.ag4, Ty.ag3, aeq0, beq_self_eq_true, Bool.and_self, List.not_mem_nil, false_imp_iff, implies_true, Cd.cd7, Tk.t7, base0, base1, base2, base3, Option.isNone_none, Option.isNone_some, Nat.reduceBEq, true_or, or_true, false_or, or_false, Nat.reduceLT, Nat.reduceMod, Nat.reducePow, rmaps, nsucc, List.flatten_cons, List.flatten_nil, Nat.reduceEqDiff, Nat.reduceLeDiff, Nat.reduceAdd, Nat.reduceMul, Nat.reduceSub, ↓reduceIte, reduceCtorEq, decide_true, decide_false]
    refine tail7 hl at_ _ _ ?_ ?_ ?_ ?_ ?_ ?_ <;> rfl
end Go.Proofs.Ytmjjfdppaomcfaa

/- The law holds: for every input it returns true, and each argument reads behind the call as it read before. No condition. -/
namespace Go.Proofs.Ytmjjfdppaomcfaa
open Go Go.Proofs.Ytmjjfdppaomcfaa.Ab Go.ChangeShapes Go.WideShapes Go.ChangeAt Go.RowKit
set_option maxRecDepth 100000

set_option maxHeartbeats 800000 in
theorem lift7 (os : Os) (started : os.Started) (H : Type) (enc : TypeId × Value → H) :
    ReturnsInHanded {} Try.checked os 7 .any (Rows.walkPlacesSpec.pre6 enc Try.prog Try.f7 Rows.walkPlacesRow.domain false) (Rows.walkPlacesSpec.post enc Try.prog Try.f7 false true false false) := by
  refine returnsInHanded_of_change (C := Try.checked) own started (by kernel_rfl) Try.func7
    (ChangeSpec.witness6 (enc := enc) (C := Try.checked) false ⟨#[], #[.string ⟨#[]⟩, .slice none 0 0, .int .i64 0], []⟩ 8 (by kernel_rfl) (by kernel_rfl) (by kernel_rfl) (by kernel_rfl)) ?_
  intro W base args ds gs before hval0 hW _ _
  have hval : ∀ (j : Nat) t v, Try.f7.params[j]? = some t → args[j]? = some v → Value.okWide Try.prog W .any base t v := hval0
  have hW' := hW
  obtain ⟨p, q, hA0, hV, rfl, _, _⟩ := hW
  have hA : DataW.TrodAll enc Try.prog W 0 (fun _ => true) true Try.f7.params.toList args.toList ds p := hA0
  rw [Try.params7] at hA hval
  obtain ⟨v0, v1, v2, d0, d1, d2, p0, p1, p2, rfl, rfl, rfl, h0, h1, h2⟩ := trodAll_three hA
  obtain ⟨rfl, rfl⟩ := trodVars_none hV
  obtain ⟨s0, rfl⟩ := okWide_string Try.underlying9 (hval 0 9 v0 rfl rfl)
  obtain ⟨x0, -, hx0⟩ := arg_one rdS h0 rfl
  obtain ⟨a1, len1, cap1, rfl⟩ := okWide_slice Try.underlying33 (hval 1 33 v1 rfl rfl)
  obtain ⟨x1, -, hx1⟩ := arg_one rdInts h1 rfl
  obtain ⟨n2, rfl⟩ := okWide_int Try.underlying3 (hval 2 3 v2 rfl rfl)
  obtain ⟨x2, -, hx2⟩ := arg_one rdI h2 rfl
  clear hA0 hval0
  simp only [List.append_nil] at hW'
  have hlt : ∀ x ∈ p0 ++ p1 ++ p2, x.block < W.heap.size := fun x hx => by simpa using hW'.lt x hx
  refine ((law7 x0 x1 x2).true (xs := #[.string s0, .slice a1 len1 cap1, .int .i64 n2]) (W := W) ⟨rfl, fun j hj => ?_⟩).mono fun e W' ⟨he, hb⟩ => ?_
  · match j, hj with
    | 0, _ => exact hx0
    | 1, _ => exact hx1
    | 2, _ => exact hx2
  subst he
  have harg0 : DataW.Trod enc Try.prog W' 0 (fun b => decide (b < W.heap.size)) true 9 (.string s0) d0 p0 :=
    Below.trod laidOut (by kernel_rfl) (of_decide_eq_true (by kernel_rfl)) h0 hb (fun x hx => hlt x (List.mem_append.2 (.inl (List.mem_append.2 (.inl hx)))))
  have harg1 : DataW.Trod enc Try.prog W' 0 (fun b => decide (b < W.heap.size)) true 33 (.slice a1 len1 cap1) d1 p1 :=
    Below.trod laidOut (by kernel_rfl) (of_decide_eq_true (by kernel_rfl)) h1 hb (fun x hx => hlt x (List.mem_append.2 (.inl (List.mem_append.2 (.inr hx)))))
  have harg2 : DataW.Trod enc Try.prog W' 0 (fun b => decide (b < W.heap.size)) true 3 (.int .i64 n2) d2 p2 :=
    Below.trod laidOut (by kernel_rfl) (of_decide_eq_true (by kernel_rfl)) h2 hb (fun x hx => hlt x (List.mem_append.2 (.inr hx)))
  refine ⟨_, rfl, _, _, _, [], _, [], hW', ?_, (by have h := trodAll_mk3 harg0 harg1 harg2; rw [← List.append_assoc] at h; exact h), rfl, hb.frame _, fun h => by cases h⟩
  exact trodAll_mk1 (shut_bool Try.underlying4 _)

theorem walkPlaces : Rows.WalkPlacesSaid :=
  OpenClaim.holds_of_wide 7 Try.f7 rfl rfl rfl rfl rfl rfl rfl ⟨rfl, rfl, rfl, rfl, rfl⟩ rfl rfl rfl rfl rfl (by kernel_rfl) Try.func7 (by kernel_rfl)
    (of_decide_eq_true (by kernel_rfl)) (by unfold Func.isWrapper; first | (rw [if_pos (by decide +kernel)]; kernel_rfl) | (rw [if_neg (by decide +kernel)]; exact ⟨rfl, rfl⟩))
    (fun os started H enc _ => lift7 os started H enc)
end Go.Proofs.Ytmjjfdppaomcfaa

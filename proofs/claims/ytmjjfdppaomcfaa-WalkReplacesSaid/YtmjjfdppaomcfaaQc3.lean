/- Part 3 of a proof: walkReplaces holds for every input; no condition. -/
import Derived.Test.YtmjjfdppaomcfaaProg
import Derived.KernelRfl
import Derived.Test.YtmjjfdppaomcfaaRows
import Derived.ProofKit
import Derived.Test.YtmjjfdppaomcfaaAb0
import Derived.Test.YtmjjfdppaomcfaaAb1
import Derived.Test.YtmjjfdppaomcfaaAb2
import Derived.Test.YtmjjfdppaomcfaaAb3
import Derived.Test.YtmjjfdppaomcfaaAb4
import Derived.Test.YtmjjfdppaomcfaaAb5
import Derived.Test.YtmjjfdppaomcfaaAb6
import Derived.Test.YtmjjfdppaomcfaaAb7
import Derived.Test.YtmjjfdppaomcfaaAb8
import Derived.Test.YtmjjfdppaomcfaaAb8a
import Derived.Test.YtmjjfdppaomcfaaAb8b
import Derived.Test.YtmjjfdppaomcfaaAb8c
import Derived.Test.YtmjjfdppaomcfaaAb8d
import Derived.Test.YtmjjfdppaomcfaaAb9
import Derived.Test.YtmjjfdppaomcfaaAb10
import Derived.Test.YtmjjfdppaomcfaaAb11
import Derived.Test.YtmjjfdppaomcfaaAb12
import Derived.Test.YtmjjfdppaomcfaaAb13
import Derived.Test.YtmjjfdppaomcfaaAb14
import Derived.Test.YtmjjfdppaomcfaaAb15
import Derived.Test.YtmjjfdppaomcfaaAb16
import Derived.Test.YtmjjfdppaomcfaaAb17
import Derived.Test.YtmjjfdppaomcfaaAb18
import Derived.Test.YtmjjfdppaomcfaaAb19
import Derived.Test.YtmjjfdppaomcfaaAb20
import Derived.Test.YtmjjfdppaomcfaaAb21
import Derived.Test.YtmjjfdppaomcfaaAb22
import Derived.Test.YtmjjfdppaomcfaaAb23
import Derived.Test.YtmjjfdppaomcfaaAb24
import Derived.Test.YtmjjfdppaomcfaaAb25
import Derived.Test.YtmjjfdppaomcfaaAb26
import Derived.Test.YtmjjfdppaomcfaaBw
import Derived.Test.YtmjjfdppaomcfaaQc2
set_option linter.unusedSimpArgs false
set_option linter.unusedVariables false
set_option linter.defProp false
/- Walks: bytes in the place of a node, with what is around it. -/
namespace Go.Proofs.Ytmjjfdppaomcfaa
open Go Go.Proofs.Ytmjjfdppaomcfaa.Ab
set_option maxRecDepth 100000
set_option linter.unusedSimpArgs false

theorem backward60 (l : List Tree) : FCall Try.prog 60 [treesV l] (· = .fn (.func 68) [] [.box [treesV l]]) := by
  refine ACall.enter [] Cd.fn60 (by simp) ?_
  simp only [treesV, Cd.cd60, Tk.t60, base0, base1, base2, base3, Option.isNone_none, Option.isNone_some, Nat.reduceBEq, true_or, or_true, false_or, or_false, Nat.reduceLT, Nat.reduceMod, Nat.reducePow, rmaps, nsucc, List.flatten_cons, List.flatten_nil, Nat.reduceEqDiff, Nat.reduceLeDiff, Nat.reduceAdd, Nat.reduceMul, Nat.reduceSub, ↓reduceIte, reduceCtorEq, decide_true, decide_false]
  exact ⟨_, _, rfl, (FZ.fn FZs.nil (FZs.one (FZ.box (FZs.one (FZ.rowsOf l))))).view, FZ.fn FZs.nil (FZs.one (FZ.box (FZs.one (FZ.rowsOf l)))), rfl⟩

/-- a node around with another content -/
def replStep (b : ByteArray) (y : Hd) (p q : Nat) (out : ByteArray) : ByteArray :=
  b.extract y.frm y.len ++ (if y.opn then b.extract y.len y.body else lengthB (b.extract y.body p ++ out ++ b.extract q y.stop).size (y.body - y.len)) ++ (b.extract y.body p ++ out ++ b.extract q y.stop) ++ b.extract y.stop y.fin
def replA (b : ByteArray) : List Hd → Nat → Nat → ByteArray → ByteArray
  | [], p, q, out => b.extract 0 p ++ out ++ b.extract q b.size
  | y :: r, p, q, out => replA b r y.frm y.fin (replStep b y p q out)
def Chain (b : ByteArray) : List Hd → Nat → Nat → Prop
  | [], p, q => p ≤ q ∧ q ≤ b.size
  | y :: r, p, q => y.frm ≤ y.len ∧ y.len < y.body ∧ y.body ≤ p ∧ p ≤ q ∧ q ≤ y.stop ∧ y.stop ≤ y.fin ∧ y.fin ≤ b.size ∧ Chain b r y.frm y.fin
theorem lowB_len : ∀ (k n : Nat), n < 256 ^ k → (lowB n).length ≤ k
  | 0, n, h => by
    have : n = 0 := by simpa using h
    subst this; simp [lowB, lowF]
  | k + 1, n, h => by
    rcases Nat.eq_zero_or_pos n with rfl | hp
    · simp [lowB, lowF]
    · rw [lowB_step hp]
      have := lowB_len k (n / 256) (by rw [Nat.pow_succ] at h; omega)
      simp; omega
theorem lengthB_size (n least : Nat) (h : n ≤ 1000000) : (lengthB n least).size ≤ 4 + least := by
  have := lowB_len 3 n (by omega)
  have e : (lengthB n least).size = (lengthL n least).length := by simp [lengthB, ByteArray.size]
  rw [e]
  unfold lengthL
  split
  · simp; omega
  · simp [padB_len]; omega
theorem replStep_size {b : ByteArray} {y : Hd} {p q : Nat} {r : List Hd} {out : ByteArray} (hb : b.size ≤ 4000) (h : Chain b (y :: r) p q) (ho : out.size ≤ 900000) : (replStep b y p q out).size ≤ out.size + 21000 := by
  simp only [Chain] at h
  have h2 := lengthB_size (b.extract y.body p ++ out ++ b.extract q y.stop).size (y.body - y.len) (by simp only [ByteArray.size_append, ByteArray.size_extract]; omega)
  unfold replStep
  split
  · simp only [ByteArray.size_append, ByteArray.size_extract] at h2 ⊢; omega
  · simp only [ByteArray.size_append, ByteArray.size_extract] at h2 ⊢; omega

set_option maxHeartbeats 2000000 in
theorem replaced44 (b : ByteArray) (hb : b.size ≤ 4000) (ys : List Tree) (x : Tree) (by_ : ByteArray) (hn : ys.length ≤ 20) (hby : by_.size ≤ 4050) (hc : Chain b (ys.map Tree.h).reverse x.h.frm x.h.fin) :
    FCall Try.prog 44 [.v (.string b), treesV ys, treeV x, .v (.string by_)] (· = .v (.string (replA b (ys.map Tree.h).reverse x.h.frm x.h.fin by_))) := by
  generalize hR : replA b (ys.map Tree.h).reverse x.h.frm x.h.fin by_ = R
  have hx := treeV_box x
  refine ACall.enterB [9,10,11] back68 (by kernel_rfl) Cd.fn44 (by simp) ?_
  simp only [hx, hdL, KN_normal, List.not_mem_nil, false_imp_iff, implies_true, Cd.cd440, Cd.cd441, Cd.cd442, Cd.cd44G, Cd.cd44D, Cd.cd44C, Tk.t44, base0, base1, base2, base3, Option.isNone_none, Option.isNone_some, Nat.reduceBEq, true_or, or_true, false_or, or_false, Nat.reduceLT, Nat.reduceMod, Nat.reducePow, rmaps, nsucc, List.flatten_cons, List.flatten_nil, Nat.reduceEqDiff, Nat.reduceLeDiff, Nat.reduceAdd, Nat.reduceMul, Nat.reduceSub, ↓reduceIte, reduceCtorEq, decide_true, decide_false]
  first | refine FCall.go (backward60 ys) (FZs.one (FZ.rowsOf ys)) ?_ | refine FCall.go' (backward60 ys) (FZs.one (FZ.rowsOf ys)) ?_ | refine FCall.goQ (backward60 ys) (FZs.one (FZ.rowsOf ys)) ?_
  simp only [KN_normal, Cd.cd440, Cd.cd441, Cd.cd442, Cd.cd44G, Cd.cd44D, Cd.cd44C, Tk.t44, base0, base1, base2, base3, Option.isNone_none, Option.isNone_some, Nat.reduceBEq, true_or, or_true, false_or, or_false, Nat.reduceLT, Nat.reduceMod, Nat.reducePow, rmaps, nsucc, List.flatten_cons, List.flatten_nil, Nat.reduceEqDiff, Nat.reduceLeDiff, Nat.reduceAdd, Nat.reduceMul, Nat.reduceSub, ↓reduceIte, reduceCtorEq, decide_true, decide_false]
  refine ⟨⟨.unk, ys.map treeV, fun k H => ∃ p q out, H.own AH.none.next = some (.cells [iv p]) ∧ H.own (AH.none.next + 1) = some (.cells [iv q]) ∧ H.own (AH.none.next + 1 + 1) = some (.cells [.v (.string out)]) ∧
      Chain b ((ys.take k).map Tree.h).reverse p q ∧ replA b ((ys.take k).map Tree.h).reverse p q out = R ∧ out.size + k * 21000 ≤ 4050 + ys.length * 21000, ?_, by simp; omega, by simp [upd], ?_, ?_, ?_⟩⟩
  · simp only [treesV, Cd.cd440, Cd.cd441, Cd.cd442, Cd.cd44G, Cd.cd44D, Cd.cd44C, Tk.t44, base0, base1, base2, base3, Option.isNone_none, Option.isNone_some, Nat.reduceBEq, true_or, or_true, false_or, or_false, Nat.reduceLT, Nat.reduceMod, Nat.reducePow, rmaps, nsucc, List.flatten_cons, List.flatten_nil, Nat.reduceEqDiff, Nat.reduceLeDiff, Nat.reduceAdd, Nat.reduceMul, Nat.reduceSub, ↓reduceIte, reduceCtorEq, decide_true, decide_false]
    rw [List.map_map]; rfl
  · refine ⟨x.h.frm, x.h.fin, by_, ?_, ?_, ?_, ?_, ?_, ?_⟩
    · simp [iv, show ¬ AH.none.next = AH.none.next + 1 + 1 by omega]
    · simp [iv]
    · simp
    · rw [List.length_map, List.take_length]; exact hc
    · rw [List.length_map, List.take_length]; exact hR
    · simp; exact hby
  · rintro k H2 hk ⟨p, q, out, h1, h2, h3, hch, hrep, hsz⟩
    rw [List.length_map] at hk
    have hget : (ys.map treeV).getD k .any = treeV (ys.getD k default) := by
      rw [List.getD_eq_getElem?_getD, List.getElem?_map, List.getElem?_eq_getElem hk, List.getD_eq_getElem?_getD, List.getElem?_eq_getElem hk]; rfl
    have htk : ((ys.take (k + 1)).map Tree.h).reverse = (ys.getD k default).h :: ((ys.take k).map Tree.h).reverse := by
      rw [List.take_add_one, List.getElem?_eq_getElem hk, List.getD_eq_getElem?_getD, List.getElem?_eq_getElem hk, List.map_append, List.reverse_append]; rfl
    rw [hget]
    rw [htk] at hch hrep
    generalize ys.getD k default = y at hch hrep
    have hy := treeV_box y
    have hch0 := hch
    simp only [Chain] at hch
    obtain ⟨c1, c2, c3, c4, c5, c6, c7, c8⟩ := hch
    simp only [replA] at hrep
    have hss := replStep_size hb hch0 (show out.size ≤ 900000 by omega)
    have zc : ∀ s e, (b.extract s e).size ≤ 4000 := fun s e => by rw [ByteArray.size_extract]; omega
    have z1 := zc y.h.body p
    have z2 := zc q y.h.stop
    have z3 := zc y.h.frm y.h.len
    have z4 := zc y.h.stop y.h.fin
    have z5 := zc y.h.len y.h.body
    have s1 : astr .add (b.extract y.h.body p) out = _ := sadd (by omega)
    have s2 : astr .add (b.extract y.h.body p ++ out) (b.extract q y.h.stop) = _ := sadd (by rw [ByteArray.size_append]; omega)
    have hcs : (b.extract y.h.body p ++ out ++ b.extract q y.h.stop).size ≤ 910000 := by simp only [ByteArray.size_append]; omega
    unfold replStep at hrep hss
    generalize hcc : b.extract y.h.body p ++ out ++ b.extract q y.h.stop = c at s2 hcs hrep hss
    cases ho : y.h.opn with
    | true =>
      simp only [ho, if_true] at hrep hss
      have s3 : astr .add (b.extract y.h.frm y.h.len) (b.extract y.h.len y.h.body) = _ := sadd (by omega)
      have s4 : astr .add (b.extract y.h.frm y.h.len ++ b.extract y.h.len y.h.body) c = _ := sadd (by rw [ByteArray.size_append]; omega)
      have s5 : astr .add (b.extract y.h.frm y.h.len ++ b.extract y.h.len y.h.body ++ c) (b.extract y.h.stop y.h.fin) = _ := sadd (by simp only [ByteArray.size_append]; omega)
      simp (maxSteps := 2000000) only [KN_normal, hy, hdL, h1, h2, h3, iv, ho, leT (show p ≤ b.size by omega), leT c3, leT (show y.h.stop ≤ b.size by omega), leT c5, leT (show y.h.body ≤ b.size by omega), leT (show y.h.len ≤ y.h.body by omega), leT (show y.h.len ≤ b.size by omega), leT c1, leT c7, leT c6, Int.natCast_nonneg, Int.toNat_natCast, s1, s2, s3, s4, s5, Cd.cd440, Cd.cd441, Cd.cd442, Cd.cd44G, Cd.cd44D, Cd.cd44C, Tk.t44, base0, base1, base2, base3, Option.isNone_none, Option.isNone_some, Nat.reduceBEq, true_or, or_true, false_or, or_false, Nat.reduceLT, Nat.reduceMod, Nat.reducePow, rmaps, nsucc, List.flatten_cons, List.flatten_nil, Nat.reduceEqDiff, Nat.reduceLeDiff, Nat.reduceAdd, Nat.reduceMul, Nat.reduceSub, ↓reduceIte, reduceCtorEq, decide_true, decide_false]
      exact ⟨fun n hn => by simp at hn, y.h.frm, y.h.fin, _, rfl, rfl, rfl, c8, hrep, by omega⟩
    | false =>
      simp only [ho, Bool.false_eq_true, if_false] at hrep hss
      have hlb := lengthB_size c.size (y.h.body - y.h.len) (by omega)
      have hL := length48 c.size (y.h.body - y.h.len) (by omega) (by omega) (by omega)
      generalize lengthB c.size (y.h.body - y.h.len) = w at hrep hss hlb hL
      have s3 : astr .add (b.extract y.h.frm y.h.len) w = _ := sadd (by omega)
      have s4 : astr .add (b.extract y.h.frm y.h.len ++ w) c = _ := sadd (by rw [ByteArray.size_append]; omega)
      have s5 : astr .add (b.extract y.h.frm y.h.len ++ w ++ c) (b.extract y.h.stop y.h.fin) = _ := sadd (by simp only [ByteArray.size_append]; omega)
      have wl : IntKind.i64.wrap ((y.h.body : Int) - (y.h.len : Int)) = ((y.h.body - y.h.len : Nat) : Int) := by rw [wrapI (by omega) (by omega)]; omega
      simp (maxSteps := 2000000) only [KN_normal, hy, hdL, h1, h2, h3, iv, ho, leT (show p ≤ b.size by omega), leT c3, leT (show y.h.stop ≤ b.size by omega), leT c5, leT (show y.h.body ≤ b.size by omega), leT (show y.h.len ≤ y.h.body by omega), leT (show y.h.len ≤ b.size by omega), leT c1, leT c7, leT c6, Int.natCast_nonneg, Int.toNat_natCast, s1, s2, wl, Cd.cd440, Cd.cd441, Cd.cd442, Cd.cd44G, Cd.cd44D, Cd.cd44C, Tk.t44, base0, base1, base2, base3, Option.isNone_none, Option.isNone_some, Nat.reduceBEq, true_or, or_true, false_or, or_false, Nat.reduceLT, Nat.reduceMod, Nat.reducePow, rmaps, nsucc, List.flatten_cons, List.flatten_nil, Nat.reduceEqDiff, Nat.reduceLeDiff, Nat.reduceAdd, Nat.reduceMul, Nat.reduceSub, ↓reduceIte, reduceCtorEq, decide_true, decide_false]
      first | refine FCall.go hL (FZs.cons (FZ.v _) (FZs.one (FZ.v _))) ?_ | refine FCall.go' hL (FZs.cons (FZ.v _) (FZs.one (FZ.v _))) ?_ | refine FCall.goQ hL (FZs.cons (FZ.v _) (FZs.one (FZ.v _))) ?_
      simp (maxSteps := 2000000) only [KN_normal, hy, hdL, h1, h2, h3, iv, ho, leT (show p ≤ b.size by omega), leT c3, leT (show y.h.stop ≤ b.size by omega), leT c5, leT (show y.h.body ≤ b.size by omega), leT (show y.h.len ≤ y.h.body by omega), leT (show y.h.len ≤ b.size by omega), leT c1, leT c7, leT c6, Int.natCast_nonneg, Int.toNat_natCast, s3, s4, s5, Cd.cd440, Cd.cd441, Cd.cd442, Cd.cd44G, Cd.cd44D, Cd.cd44C, Tk.t44, base0, base1, base2, base3, Option.isNone_none, Option.isNone_some, Nat.reduceBEq, true_or, or_true, false_or, or_false, Nat.reduceLT, Nat.reduceMod, Nat.reducePow, rmaps, nsucc, List.flatten_cons, List.flatten_nil, Nat.reduceEqDiff, Nat.reduceLeDiff, Nat.reduceAdd, Nat.reduceMul, Nat.reduceSub, ↓reduceIte, reduceCtorEq, decide_true, decide_false]
      exact ⟨fun n hn => by simp at hn, y.h.frm, y.h.fin, _, rfl, rfl, rfl, c8, hrep, by omega⟩
  · rintro H2 ⟨p, q, out, h1, h2, h3, hch, hrep, hsz⟩
    simp only [List.take_zero, List.map_nil, List.reverse_nil, replA, Chain] at hrep hch
    have z1 : (b.extract 0 p).size ≤ 4000 := by rw [ByteArray.size_extract]; omega
    have z2 : (b.extract q b.size).size ≤ 4000 := by rw [ByteArray.size_extract]; omega
    have s1 : astr .add (b.extract 0 p) out = _ := sadd (by omega)
    have s2 : astr .add (b.extract 0 p ++ out) (b.extract q b.size) = _ := sadd (by rw [ByteArray.size_append]; omega)
    simp only [h1, h2, h3, iv, Int.natCast_nonneg, Int.toNat_natCast, leT (Nat.le_trans hch.1 hch.2), leT hch.2, leT (Nat.le_refl b.size), s1, s2, Cd.cd440, Cd.cd441, Cd.cd442, Cd.cd44G, Cd.cd44D, Cd.cd44C, Tk.t44, base0, base1, base2, base3, Option.isNone_none, Option.isNone_some, Nat.reduceBEq, true_or, or_true, false_or, or_false, Nat.reduceLT, Nat.reduceMod, Nat.reducePow, rmaps, nsucc, List.flatten_cons, List.flatten_nil, Nat.reduceEqDiff, Nat.reduceLeDiff, Nat.reduceAdd, Nat.reduceMul, Nat.reduceSub, ↓reduceIte, reduceCtorEq, decide_true, decide_false]
    exact fin_v (by rw [hrep])
end Go.Proofs.Ytmjjfdppaomcfaa

/- Plain: how the nodes of right bytes lie within one another. -/
namespace Go.Proofs.Ytmjjfdppaomcfaa
open Go Go.Proofs.Ytmjjfdppaomcfaa.Ab

theorem tagL_lim {b : ByteArray} {lim lim' : Nat} (hl : lim ≤ lim') : ∀ {k k' p num m q : Nat}, tagL b lim k p num = .ok (m, q) → k ≤ k' → tagL b lim' k' p num = .ok (m, q)
  | 0, _, p, num, m, q, h, _ => by simp [tagL] at h
  | k + 1, 0, p, num, m, q, h, hk => by omega
  | k + 1, k' + 1, p, num, m, q, h, hk => by
    simp only [tagL] at h ⊢
    split at h
    · rename_i hp
      rw [if_pos (by omega)]
      split at h
      · cases h
      · rename_i h1
        rw [if_neg h1]
        split at h
        · rename_i h2; rw [if_pos h2]; exact h
        · rename_i h2; rw [if_neg h2]; exact tagL_lim hl h (by omega)
    · cases h
theorem ident_lim {b : ByteArray} {lim lim' a : Nat} {x : Nat × Nat × Bool × Nat} (hl : lim ≤ lim') (h : ident b a lim = .ok x) : ident b a lim' = .ok x := by
  unfold ident at h ⊢
  split at h
  · rw [if_pos (by omega)]
    split at h
    · rename_i h1; rw [if_pos h1]; exact h
    · rename_i h1
      rw [if_neg h1]
      split at h
      · rename_i m q hq; rw [tagL_lim hl hq (by omega)]; exact h
      · cases h
  · cases h
theorem lenL_lim {b : ByteArray} {lim lim' : Nat} (hl : lim ≤ lim') : ∀ {k p n m : Nat}, lenL b lim k p n = .ok m → lenL b lim' k p n = .ok m
  | 0, p, n, m, h => h
  | k + 1, p, n, m, h => by
    simp only [lenL] at h ⊢
    split at h
    · rw [if_pos (by omega)]
      split at h
      · cases h
      · rename_i h1; rw [if_neg h1]; exact lenL_lim hl h
    · cases h
theorem lenOf_lim {b : ByteArray} {lim lim' a : Nat} {bl : Bool} {x : Option Nat × Nat} (hl : lim ≤ lim') (h : lenOf b a lim bl = .ok x) : lenOf b a lim' bl = .ok x := by
  unfold lenOf at h ⊢
  split at h
  · rw [if_pos (by omega)]
    split at h
    · rename_i h1; rw [if_pos h1]; exact h
    · rename_i h1
      rw [if_neg h1]
      split at h
      · cases h
      · rename_i h2
        rw [if_neg h2]
        split at h
        · rename_i h3; rw [if_pos h3]; exact h
        · rename_i h3
          rw [if_neg h3]
          split at h
          · rename_i n hn; rw [lenL_lim hl hn]; exact h
          · cases h
  · cases h

theorem Tree.h_mk (h : Hd) (k : List Tree) : (Tree.mk h k).h = h := rfl
theorem Tree.kids_mk (h : Hd) (k : List Tree) : (Tree.mk h k).kids = k := rfl
mutual
/-- a node as bytes have it, so deep -/
def okT (b : ByteArray) (D : Nat) : Tree → Prop
  | .mk h k => (h.deep = D ∧ D ≤ 15) ∧ h.frm < h.len ∧ h.len < h.body ∧ h.body ≤ h.stop ∧ h.fin = h.stop + (if h.opn then 2 else 0) ∧ h.fin ≤ b.size ∧
      ident b h.frm b.size = .ok (h.cls, h.num, h.built, h.len) ∧ lenOf b h.len b.size h.built = .ok (if h.opn then none else some (h.stop - h.body), h.body) ∧
      (h.opn = true → bt b h.stop = 0 ∧ bt b (h.stop + 1) = 0 ∧ h.built = true) ∧ (h.built = false → k = []) ∧ (h.built = true → okTs b (D + 1) h.body h.stop k)
/-- nodes side by side, from a place to a place -/
def okTs (b : ByteArray) (D p q : Nat) : List Tree → Prop
  | [] => p = q
  | t :: l => t.h.frm = p ∧ okT b D t ∧ okTs b D t.h.fin q l
end
theorem okTs_append {b : ByteArray} {D q r : Nat} : ∀ {p : Nat} {l m : List Tree}, okTs b D p q l → okTs b D q r m → okTs b D p r (l ++ m)
  | p, [], m, h, h' => by simp only [okTs] at h; subst h; exact h'
  | p, t :: l, m, h, h' => by
    simp only [okTs, List.cons_append] at h ⊢
    exact ⟨h.1, h.2.1, okTs_append h.2.2 h'⟩
theorem okTs_one {b : ByteArray} {D : Nat} {t : Tree} (h : okT b D t) : okTs b D t.h.frm t.h.fin [t] := by
  simp only [okTs]; exact ⟨trivial, h, trivial⟩
theorem okT_lt {b : ByteArray} {D : Nat} {t : Tree} (h : okT b D t) : t.h.frm < t.h.fin ∧ t.h.fin ≤ b.size := by
  obtain ⟨h', k⟩ := t
  simp only [okT] at h
  simp only [Tree.h]
  have := h.2.2.2.2.1
  omega
theorem okTs_le {b : ByteArray} {D q : Nat} : ∀ {p : Nat} {l : List Tree}, okTs b D p q l → p ≤ q
  | p, [], h => by simp only [okTs] at h; omega
  | p, t :: l, h => by
    simp only [okTs] at h
    have := okTs_le h.2.2
    have := okT_lt h.2.1
    omega

def NodeWf (b : ByteArray) (D : Nat) (node : Nat → Nat → Except Flt (Tree × Nat)) : Prop := ∀ a c t c', node a c = .ok (t, c') → okT b D t ∧ t.h.frm = a
theorem kidsC_wf {b : ByteArray} {D stop : Nat} {node : Nat → Nat → Except Flt (Tree × Nat)} (hn : NodeWf b D node) (hs : NodeOk stop node) : ∀ {n p c : Nat} {acc l : List Tree} {c' p0 : Nat}, kidsC node stop n p c acc = .ok (l, c') → stop - p ≤ n → p ≤ stop → okTs b D p0 p acc → okTs b D p0 stop l
  | 0, p, c, acc, l, c', p0, h, hk, hp, ha => by
    simp only [kidsC] at h; cases h
    have : p = stop := by omega
    subst this; exact ha
  | n + 1, p, c, acc, l, c', p0, h, hk, hp, ha => by
    simp only [kidsC] at h
    split at h
    · split at h
      · cases h
      · rename_i t c1 h1
        have q := hn _ _ _ _ h1
        have q2 := hs _ _ _ _ h1
        refine kidsC_wf hn hs h (by omega) (by omega) (okTs_append ha ?_)
        rw [← q.2]; exact okTs_one q.1
    · cases h
      have : p = stop := by omega
      subst this; exact ha
theorem openC_wf {b : ByteArray} {D lim : Nat} {node : Nat → Nat → Except Flt (Tree × Nat)} (hn : NodeWf b D node) : ∀ {n p c : Nat} {acc l : List Tree} {s c' p0 : Nat}, openC node b lim n p c acc = .ok (l, s, c') → okTs b D p0 p acc → okTs b D p0 s l ∧ s + 1 < lim ∧ bt b s = 0 ∧ bt b (s + 1) = 0
  | 0, p, c, acc, l, s, c', p0, h, ha => by simp only [openC] at h; cases h
  | n + 1, p, c, acc, l, s, c', p0, h, ha => by
    simp only [openC] at h
    split at h
    · rename_i hz; cases h; exact ⟨ha, hz⟩
    · split at h
      · cases h
      · split at h
        · cases h
        · rename_i t c1 h1
          have q := hn _ _ _ _ h1
          refine openC_wf hn h (okTs_append ha ?_)
          rw [← q.2]; exact okTs_one q.1
theorem lenOf_opn {b : ByteArray} {a lim p : Nat} {bl : Bool} (h : lenOf b a lim bl = .ok (none, p)) : bl = true := by
  unfold lenOf at h
  split at h
  · split at h
    · cases h
    · split at h
      · cases h
      · rename_i h2
        split at h
        · rename_i h3
          cases bl
          · exact absurd (.inr ⟨h3, rfl⟩) h2
          · rfl
        · split at h
          · cases h
          · cases h
  · cases h
theorem rd_wf (b : ByteArray) : ∀ (d lim : Nat), lim ≤ b.size → d ≤ 16 → NodeWf b (16 - d) (fun a c => rd b d a lim c)
  | d, lim, hlim, hd, a, c, t, c', h => by
    simp only at h
    cases hid : ident b a lim with
    | error e => rw [rd_e1 hid] at h; cases h
    | ok x =>
      obtain ⟨cls, num, bl, p1⟩ := x
      have q1 := ident_ok hid
      cases hlen : lenOf b p1 lim bl with
      | error e => rw [rd_e2 hid hlen] at h; cases h
      | ok x =>
        obtain ⟨on, p2⟩ := x
        have q2 := lenOf_ok hlen
        cases hany : on.any (fun n => decide (lim - p2 < n)) with
        | true => rw [rd_e3 hid hlen hany] at h; cases h
        | false =>
          by_cases hcnt : 300 < c + 1
          · rw [rd_e4 hid hlen hany hcnt] at h; cases h
          · cases d with
            | zero => rw [rd_e5 hid hlen hany hcnt] at h; cases h
            | succ d =>
              have hd1 : 16 - (d + 1) = 15 - d := by omega
              have hd2 : 16 - d = 15 - d + 1 := by omega
              cases on with
              | none =>
                rw [rd_open hid hlen hcnt] at h
                cases ho : openC (fun a c => rd b d a lim c) b lim (lim - p2 + 1) p2 (c + 1) [] with
                | error e => rw [ho] at h; cases h
                | ok x =>
                  obtain ⟨l, s, c1⟩ := x
                  rw [ho] at h; cases h
                  have w := openC_wf (p0 := p2) (rd_wf b d lim hlim (by omega)) ho (by simp only [okTs])
                  have hb := lenOf_opn hlen
                  have k := openC_ok (rd_ok b d lim) ho (by omega)
                  subst hb
                  rw [hd2] at w
                  refine ⟨?_, rfl⟩
                  rw [hd1]
                  simp only [okT, if_true]
                  exact ⟨⟨trivial, by omega⟩, q1.1, q2.1, by omega, trivial, by omega, ident_lim hlim hid, lenOf_lim hlim hlen, fun _ => ⟨w.2.2.1, w.2.2.2, trivial⟩, fun e => (by cases e), fun _ => w.1⟩
              | some n =>
                have hn : ¬ lim - p2 < n := by simpa using hany
                cases bl with
                | false =>
                  rw [rd_leaf hid hlen hn hcnt] at h; cases h
                  refine ⟨?_, rfl⟩
                  rw [hd1]
                  simp only [okT]
                  exact ⟨⟨trivial, by omega⟩, q1.1, q2.1, by omega, by simp, by omega, ident_lim hlim hid, by rw [lenOf_lim hlim hlen]; simp, fun e => (by cases e), fun _ => trivial, fun e => (by cases e)⟩
                | true =>
                  rw [rd_kids hid hlen hn hcnt] at h
                  cases ho : kidsC (fun a c => rd b d a (p2 + n) c) (p2 + n) n p2 (c + 1) [] with
                  | error e => rw [ho] at h; cases h
                  | ok x =>
                    obtain ⟨l, c1⟩ := x
                    rw [ho] at h; cases h
                    have w := kidsC_wf (p0 := p2) (rd_wf b d (p2 + n) (by omega) (by omega)) (rd_ok b d (p2 + n)) ho (by omega) (by omega) (by simp only [okTs])
                    rw [hd2] at w
                    refine ⟨?_, rfl⟩
                    rw [hd1]
                    simp only [okT]
                    exact ⟨⟨trivial, by omega⟩, q1.1, q2.1, by omega, by simp, by omega, ident_lim hlim hid, by rw [lenOf_lim hlim hlen]; simp, fun e => (by cases e), fun e => (by cases e), fun _ => w⟩
theorem readB_wf {b : ByteArray} {l : List Tree} (h : readB b = .ok l) : okTs b 0 0 b.size l := by
  unfold readB at h
  split at h
  · cases h
  · split at h
    · cases h
    · split at h
      · cases h
      · rename_i l' c hk
        cases h
        exact kidsC_wf (rd_wf b 16 b.size (Nat.le_refl _) (Nat.le_refl _)) (rd_ok b 16 b.size) hk (by omega) (by omega) (by simp only [okTs])

/-! places in the list of all nodes -/
mutual
def subT : Tree → List Tree
  | .mk h k => .mk h k :: subTs k
def subTs : List Tree → List Tree
  | [] => []
  | t :: l => subT t ++ subTs l
end
mutual
theorem subT_map : ∀ t : Tree, (subT t).map Tree.h = flatT t
  | .mk h k => by simp only [subT, List.map_cons, flatT, subTs_map k, Tree.h]
theorem subTs_map : ∀ l : List Tree, (subTs l).map Tree.h = flatTs l
  | [] => rfl
  | t :: l => by simp only [subTs, List.map_append, flatTs, subT_map t, subTs_map l]
end
theorem subT_cons (t : Tree) : subT t = t :: subTs t.kids := by cases t; rfl
def headFrm (q : Nat) (l : List Tree) : Prop := ∀ x, l.head? = some x → q ≤ x.h.frm
/-- a node that stands at a place of the list -/
def AtT (b : ByteArray) (S : List Tree) (i D : Nat) (t : Tree) : Prop := ∃ rest, S.drop i = subT t ++ rest ∧ okT b D t ∧ headFrm t.h.fin rest
def AtL (b : ByteArray) (S : List Tree) (i D p q : Nat) (l : List Tree) : Prop := ∃ rest, S.drop i = subTs l ++ rest ∧ okTs b D p q l ∧ headFrm q rest
def sizeT (t : Tree) : Nat := (subT t).length
/-- the places of nodes side by side -/
def kidIx : Nat → List Tree → List Nat
  | _, [] => []
  | s, t :: l => s :: kidIx (s + sizeT t) l
theorem kidIx_length : ∀ (s : Nat) (l : List Tree), (kidIx s l).length = l.length
  | _, [] => rfl
  | s, t :: l => by simp [kidIx, kidIx_length _ l]
theorem AtL.head {b : ByteArray} {S : List Tree} {i D p q : Nat} {t : Tree} {l : List Tree} (h : AtL b S i D p q (t :: l)) : AtT b S i D t ∧ AtL b S (i + sizeT t) D t.h.fin q l := by
  obtain ⟨rest, h1, h2, h3⟩ := h
  simp only [okTs] at h2
  simp only [subTs, List.append_assoc] at h1
  refine ⟨⟨_, h1, h2.2.1, fun x hx => ?_⟩, ⟨rest, ?_, h2.2.2, h3⟩⟩
  · cases l with
    | nil =>
      simp only [subTs, List.nil_append] at hx
      have := h3 x hx
      simp only [okTs] at h2; omega
    | cons t' l =>
      have h4 := h2.2.2
      simp only [okTs] at h4
      simp only [subTs, subT_cons t', List.cons_append, List.head?_cons, Option.some.injEq] at hx
      subst hx; omega
  · rw [← List.drop_drop, h1, sizeT, List.drop_left]
theorem AtT.kids {b : ByteArray} {S : List Tree} {i D : Nat} {t : Tree} (h : AtT b S i D t) (hb : t.h.built = true) : AtL b S (i + 1) (D + 1) t.h.body t.h.stop t.kids := by
  obtain ⟨rest, h1, h2, h3⟩ := h
  obtain ⟨h, k⟩ := t
  simp only [okT] at h2
  simp only [Tree.h_mk] at hb h3
  refine ⟨rest, ?_, h2.2.2.2.2.2.2.2.2.2.2 hb, fun x hx => ?_⟩
  · rw [← List.drop_drop, h1, subT_cons]; rfl
  · have := h3 x hx
    have := h2.2.2.2.2.1
    simp only [Tree.h_mk]; omega
theorem AtL.all {b : ByteArray} {l : List Tree} (h : okTs b 0 0 b.size l) : AtL b (subTs l) 0 0 0 b.size l := ⟨[], by simp, h, fun x hx => by simp at hx⟩
theorem AtL.get {b : ByteArray} {S : List Tree} {q D : Nat} : ∀ {l : List Tree} {i p : Nat}, AtL b S i D p q l → ∀ j, j < l.length → AtT b S ((kidIx i l).getD j 0) D (l.getD j default)
  | [], i, p, h, j, hj => by simp at hj
  | t :: l, i, p, h, 0, hj => by simpa [kidIx] using h.head.1
  | t :: l, i, p, h, j + 1, hj => by
    have := AtL.get h.head.2 j (by simpa using hj)
    simpa [kidIx] using this
theorem AtT.get {b : ByteArray} {S : List Tree} {i D : Nat} {t : Tree} (h : AtT b S i D t) : i < S.length ∧ S.getD i default = t := by
  obtain ⟨rest, h1, _, _⟩ := h
  rw [subT_cons, List.cons_append] at h1
  have hl : i < S.length := by
    apply Classical.byContradiction
    intro hn
    rw [List.drop_of_length_le (by omega)] at h1; cases h1
  refine ⟨hl, ?_⟩
  rw [List.drop_eq_getElem_cons hl] at h1
  rw [List.getD_eq_getElem?_getD, List.getElem?_eq_getElem hl]
  exact (List.cons.inj h1).1
theorem AtT.ok {b : ByteArray} {S : List Tree} {i D : Nat} {t : Tree} (h : AtT b S i D t) : okT b D t := by obtain ⟨_, _, h, _⟩ := h; exact h

/-! looking for the nodes directly within one -/
def kidScan (D frm to : Nat) : Nat → List Hd → List Nat
  | _, [] => []
  | i, x :: l => if to ≤ x.frm then [] else if x.deep = D ∧ frm ≤ x.frm then i :: kidScan D frm to (i + 1) l else kidScan D frm to (i + 1) l
theorem kidScan_end {D frm to i : Nat} {rest : List Tree} (h : headFrm to rest) : kidScan D frm to i (rest.map Tree.h) = [] := by
  cases rest with
  | nil => rfl
  | cons x l =>
    have := h x rfl
    simp only [List.map_cons, kidScan]
    rw [if_pos this]
mutual
theorem kidScan_T {b : ByteArray} {D E frm to : Nat} (hD : D < E) : ∀ (t : Tree) (i : Nat) (rest : List Hd), okT b E t → t.h.fin ≤ to → kidScan D frm to i (flatT t ++ rest) = kidScan D frm to (i + sizeT t) rest
  | .mk h k, i, rest, ho, hf => by
    simp only [okT] at ho
    simp only [Tree.h_mk] at hf
    have h5 := ho.2.2.2.2.1
    simp only [flatT, List.cons_append, kidScan]
    rw [if_neg (by omega), if_neg (by omega)]
    have hs : sizeT (.mk h k) = 1 + (subTs k).length := by simp [sizeT, subT]; omega
    cases hb : h.built with
    | false =>
      have := ho.2.2.2.2.2.2.2.2.2.1 hb
      subst this
      simp [hs, flatTs, subTs]
    | true =>
      have hk := ho.2.2.2.2.2.2.2.2.2.2 hb
      have := kidScan_L (frm := frm) (to := to) (show D < E + 1 by omega) k (i + 1) rest hk (show h.stop ≤ to by omega)
      rw [this, hs, ← Nat.add_assoc]
theorem kidScan_L {b : ByteArray} {D E frm to : Nat} (hD : D < E) : ∀ (l : List Tree) (i : Nat) (rest : List Hd) {p q : Nat}, okTs b E p q l → q ≤ to → kidScan D frm to i (flatTs l ++ rest) = kidScan D frm to (i + (subTs l).length) rest
  | [], i, rest, p, q, _, _ => by simp [flatTs, subTs]
  | t :: l, i, rest, p, q, ho, hq => by
    simp only [okTs] at ho
    have := okTs_le ho.2.2
    simp only [flatTs, List.append_assoc, subTs, List.length_append]
    rw [kidScan_T hD t i _ ho.2.1 (by omega), kidScan_L hD l _ rest ho.2.2 hq, sizeT, Nat.add_assoc]
end
theorem kidScan_kids {b : ByteArray} {D frm to : Nat} {rest : List Tree} (hr : headFrm to rest) : ∀ (l : List Tree) (i : Nat) {p : Nat}, okTs b D p to l → frm ≤ p → kidScan D frm to i (flatTs l ++ rest.map Tree.h) = kidIx i l
  | [], i, p, _, _ => by simpa [flatTs, kidIx] using kidScan_end hr
  | .mk h k :: l, i, p, ho, hp => by
    simp only [okTs] at ho
    obtain ⟨o1, o2, o3⟩ := ho
    have o4 := okT_lt o2
    have o5 := okTs_le o3
    simp only [Tree.h_mk] at o1 o3 o4 o5
    have o2' := o2
    simp only [okT] at o2
    have h5 := o2.2.2.2.2.1
    simp only [flatTs, flatT, List.cons_append, kidScan, List.append_assoc]
    rw [if_neg (by omega), if_pos ⟨o2.1.1, by omega⟩]
    have hs : sizeT (.mk h k) = 1 + (subTs k).length := by simp [sizeT, subT]; omega
    have ih := kidScan_kids hr l (i + sizeT (.mk h k)) o3 (show frm ≤ h.fin by omega)
    rw [kidIx]
    congr 1
    rw [← ih, hs]
    cases hb : h.built with
    | false =>
      have := o2.2.2.2.2.2.2.2.2.2.1 hb
      subst this
      simp [flatTs, subTs]
    | true =>
      have hk := o2.2.2.2.2.2.2.2.2.2.2 hb
      rw [kidScan_L (frm := frm) (to := to) (show D < D + 1 by omega) k (i + 1) _ hk (show h.stop ≤ to by omega), Nat.add_assoc]
/-- the nodes within a node -/
theorem AtT.scan {b : ByteArray} {S : List Tree} {i D : Nat} {t : Tree} (h : AtT b S i D t) : kidScan (t.h.deep + 1) t.h.body t.h.stop (i + 1) ((S.drop (i + 1)).map Tree.h) = kidIx (i + 1) t.kids := by
  have h0 := h
  obtain ⟨rest, h1, h2, h3⟩ := h
  have hd : S.drop (i + 1) = subTs t.kids ++ rest := by rw [← List.drop_drop, h1, subT_cons]; rfl
  have hd2 : (S.drop (i + 1)).map Tree.h = flatTs t.kids ++ rest.map Tree.h := by rw [hd, List.map_append, subTs_map]
  have hr : headFrm t.h.stop rest := fun x hx => by
    have := h3 x hx
    obtain ⟨h, k⟩ := t
    simp only [okT] at h2
    simp only [Tree.h_mk] at this ⊢
    have := h2.2.2.2.2.1
    omega
  rw [hd2]
  cases hb : t.h.built with
  | true =>
    obtain ⟨rest', _, h5, _⟩ := h0.kids hb
    have hD : t.h.deep = D := by obtain ⟨h, k⟩ := t; simp only [okT] at h2; exact h2.1.1
    rw [hD]
    exact kidScan_kids hr t.kids (i + 1) h5 (Nat.le_refl _)
  | false =>
    obtain ⟨h, k⟩ := t
    simp only [okT] at h2
    simp only [Tree.h_mk] at hb
    have := h2.2.2.2.2.2.2.2.2.2.1 hb
    subst this
    simp only [Tree.kids_mk, flatTs, List.nil_append, kidIx]
    exact kidScan_end hr
theorem scan_top {b : ByteArray} {l : List Tree} (h : okTs b 0 0 b.size l) : kidScan 0 0 b.size 0 (flatTs l) = kidIx 0 l := by
  have := kidScan_kids (rest := []) (fun x hx => by simp at hx) l 0 h (Nat.le_refl _)
  simpa using this
end Go.Proofs.Ytmjjfdppaomcfaa

/- Plain: the node at a path, and bytes in its place. -/
namespace Go.Proofs.Ytmjjfdppaomcfaa
open Go Go.Proofs.Ytmjjfdppaomcfaa.Ab

def findP : List Tree → List Int → Option (Tree × List Tree)
  | _, [] => none
  | l, p :: r => if 0 ≤ p ∧ p < (l.length : Int) then (if r = [] then some (l.getD p.toNat default, []) else
      match findP (l.getD p.toNat default).kids r with
      | some (x, ys) => some (x, l.getD p.toNat default :: ys)
      | none => none) else none
theorem findT_eq : ∀ (path : List Int) (l acc : List Tree), findT l path acc = match findP l path with | some (x, ys) => some (x, acc ++ ys) | none => none
  | [], l, acc => rfl
  | p :: r, l, acc => by
    simp only [findT, findP]
    split
    · split
      · simp
      · rw [findT_eq r]
        cases findP (l.getD p.toNat default).kids r with
        | none => rfl
        | some x => obtain ⟨x, ys⟩ := x; simp
    · rfl
theorem findP_len : ∀ {path : List Int} {l : List Tree} {x : Tree} {ys : List Tree}, findP l path = some (x, ys) → ys.length + 1 = path.length
  | [], l, x, ys, h => by cases h
  | p :: r, l, x, ys, h => by
    simp only [findP] at h
    split at h
    · split at h
      · rename_i hr; subst hr; cases h; rfl
      · split at h
        · rename_i x' ys' he
          cases h
          have := findP_len he
          simp; omega
        · cases h
    · cases h

/-- nodes one within the other, the innermost first -/
def ChainI (n lo hi : Nat) : List Hd → Nat → Nat → Prop
  | [], p, q => lo ≤ p ∧ p ≤ q ∧ q ≤ hi
  | y :: r, p, q => y.frm ≤ y.len ∧ y.len < y.body ∧ y.body ≤ p ∧ p ≤ q ∧ q ≤ y.stop ∧ y.stop ≤ y.fin ∧ y.fin ≤ n ∧ ChainI n lo hi r y.frm y.fin
theorem ChainI.snoc {n lo hi : Nat} {y : Hd} (hy : y.frm ≤ y.len ∧ y.len < y.body ∧ y.body ≤ y.stop ∧ y.stop ≤ y.fin ∧ y.fin ≤ n) (hl : lo ≤ y.frm) (hh : y.fin ≤ hi) : ∀ {m : List Hd} {p q : Nat}, ChainI n y.body y.stop m p q → ChainI n lo hi (m ++ [y]) p q
  | [], p, q, h => by
    simp only [ChainI, List.nil_append] at h ⊢
    omega
  | z :: m, p, q, h => by
    simp only [ChainI, List.cons_append] at h ⊢
    exact ⟨h.1, h.2.1, h.2.2.1, h.2.2.2.1, h.2.2.2.2.1, h.2.2.2.2.2.1, h.2.2.2.2.2.2.1, ChainI.snoc hy hl hh h.2.2.2.2.2.2.2⟩
theorem ChainI.chain {b : ByteArray} : ∀ {m : List Hd} {p q : Nat}, ChainI b.size 0 b.size m p q → Chain b m p q
  | [], p, q, h => by simp only [ChainI, Chain] at h ⊢; omega
  | z :: m, p, q, h => by
    simp only [ChainI, Chain] at h ⊢
    exact ⟨h.1, h.2.1, h.2.2.1, h.2.2.2.1, h.2.2.2.2.1, h.2.2.2.2.2.1, h.2.2.2.2.2.2.1, h.2.2.2.2.2.2.2.chain⟩
theorem okT_in {b : ByteArray} {D : Nat} {t : Tree} (h : okT b D t) : t.h.frm ≤ t.h.len ∧ t.h.len < t.h.body ∧ t.h.body ≤ t.h.stop ∧ t.h.stop ≤ t.h.fin ∧ t.h.fin ≤ b.size := by
  obtain ⟨h', k⟩ := t
  simp only [okT] at h
  simp only [Tree.h_mk]
  have := h.2.2.2.2.1
  omega
theorem okTs_get {b : ByteArray} {D q : Nat} : ∀ {l : List Tree} {p : Nat}, okTs b D p q l → ∀ j, j < l.length → okT b D (l.getD j default) ∧ p ≤ (l.getD j default).h.frm ∧ (l.getD j default).h.fin ≤ q
  | [], p, h, j, hj => by simp at hj
  | t :: l, p, h, 0, hj => by
    simp only [okTs] at h
    have := okTs_le h.2.2
    simp only [List.getD_cons_zero]
    exact ⟨h.2.1, by omega, this⟩
  | t :: l, p, h, j + 1, hj => by
    simp only [okTs] at h
    have h1 := okT_lt h.2.1
    have := okTs_get h.2.2 j (by simpa using hj)
    simp only [List.getD_cons_succ]
    exact ⟨this.1, by omega, this.2.2⟩
theorem okT_kids {b : ByteArray} {D : Nat} {t : Tree} (h : okT b D t) (hk : t.kids ≠ []) : okTs b (D + 1) t.h.body t.h.stop t.kids := by
  obtain ⟨h', k⟩ := t
  simp only [okT] at h
  simp only [Tree.h_mk, Tree.kids_mk] at hk ⊢
  cases hb : h'.built with
  | true => exact h.2.2.2.2.2.2.2.2.2.2 hb
  | false => exact absurd (h.2.2.2.2.2.2.2.2.2.1 hb) hk
theorem findP_kids {l : List Tree} {path : List Int} {x : Tree} {ys : List Tree} (h : findP l path = some (x, ys)) : l ≠ [] := by
  rintro rfl
  cases path with
  | nil => cases h
  | cons p r => simp only [findP] at h; rw [if_neg (by simp <;> omega)] at h; cases h
theorem findP_chain {b : ByteArray} : ∀ {path : List Int} {l : List Tree} {D lo hi : Nat} {x : Tree} {ys : List Tree}, okTs b D lo hi l → findP l path = some (x, ys) → ChainI b.size lo hi (ys.map Tree.h).reverse x.h.frm x.h.fin ∧ ∃ E, okT b E x
  | [], l, D, lo, hi, x, ys, ho, h => by cases h
  | p :: r, l, D, lo, hi, x, ys, ho, h => by
    simp only [findP] at h
    split at h
    · rename_i hp
      have hg := okTs_get ho p.toNat (by omega)
      split at h
      · cases h
        have := okT_in hg.1
        refine ⟨?_, _, hg.1⟩
        simp only [List.map_nil, List.reverse_nil, ChainI]; omega
      · split at h
        · rename_i x' ys' he
          cases h
          have hk := okT_kids hg.1 (findP_kids he)
          have ih := findP_chain hk he
          refine ⟨?_, ih.2⟩
          rw [List.map_cons, List.reverse_cons]
          exact ChainI.snoc (okT_in hg.1) hg.2.1 hg.2.2 ih.1
        · cases h
    · cases h

def errOf : Except Flt (List Tree) → Int
  | .ok _ => 0
  | .error e => e.2
def okL : Except Flt (List Tree) → List Tree
  | .ok l => l
  | .error _ => []
def atOf (b : ByteArray) : Except Flt (List Tree) → Nat
  | .ok _ => b.size
  | .error e => e.1
theorem readOut_eq (b : ByteArray) (r : Except Flt (List Tree)) : readOut b r = .tup [treesV (okL r), .v (.int .i64 (atOf b r : Int)), .v (.int .i64 (errOf r))] := by cases r <;> rfl
theorem errOf_zero {b : ByteArray} (h : errOf (readB b) = 0) : ∃ l, readB b = .ok l := by
  cases hr : readB b with
  | ok l => exact ⟨l, rfl⟩
  | error e => rw [hr] at h; exact absurd h (readB_err hr)
theorem errOf_size {b : ByteArray} (h : errOf (readB b) = 0) : b.size ≤ 4000 := by
  obtain ⟨l, hl⟩ := errOf_zero h
  exact (readB_len hl).2

/-- bytes in which a node is other bytes, and the error -/
def replacedP (b : ByteArray) (path : List Int) (by_ : ByteArray) : ByteArray × Int :=
  if errOf (readB b) ≠ 0 then (⟨#[]⟩, errOf (readB b)) else
  if path ≠ [] ∧ findP (okL (readB b)) path = none then (⟨#[]⟩, 11) else
  if (by_.size ≠ 0 ∨ path.length = 0 ∨ (path.length = 1 ∧ (okL (readB b)).length = 1)) ∧ errOf (readB by_) ≠ 0 then (⟨#[]⟩, errOf (readB by_)) else
  let out := match findP (okL (readB b)) path with
    | none => by_
    | some (x, ys) => replA b (ys.map Tree.h).reverse x.h.frm x.h.fin by_
  if 4000 < out.size then (⟨#[]⟩, 2) else if errOf (readB out) ≠ 0 then (⟨#[]⟩, errOf (readB out)) else (out, 0)
end Go.Proofs.Ytmjjfdppaomcfaa

/- Walks: bytes in which a node is other bytes; the chapter's example. -/
namespace Go.Proofs.Ytmjjfdppaomcfaa
open Go Go.Proofs.Ytmjjfdppaomcfaa.Ab
set_option maxRecDepth 100000
set_option linter.unusedSimpArgs false

theorem astr_nnil (b : ByteArray) : astr .neq b ⟨#[]⟩ = some (.bool (decide (b.size ≠ 0))) := by
  have h := astr_nil b
  simp only [astr, Option.some.injEq, Value.bool.injEq] at h ⊢
  rw [h]; simp
theorem FZ.strInt (s : ByteArray) (e : Int) : FZ (.tup [.v (.string s), .v (.int .i64 e)]) := FZ.tup (FZs.cons (FZ.v _) (FZs.one (FZ.v _)))
theorem fin_si {H' : AH} {s : ByteArray} {e : Int} {w : AV} (hw : w = .tup [.v (.string s), .v (.int .i64 e)]) : ∃ v v', AOut.ret (.tup [.v (.string s), .v (.int .i64 e)]) = .ret v ∧ View H' v v' ∧ FZ v' ∧ v' = w := by
  subst hw; exact ⟨_, _, rfl, (FZ.strInt s e).view, FZ.strInt s e, rfl⟩
def siV (x : ByteArray × Int) : AV := .tup [.v (.string x.1), .v (.int .i64 x.2)]
theorem bneF {x y : Int} (h : x = y) : (x != y) = false := by subst h; simp
theorem bneT {x y : Int} (h : x ≠ y) : (x != y) = true := by simp [h]
theorem beqT {x y : Int} (h : x = y) : (x == y) = true := by subst h; simp
theorem beqF {x y : Int} (h : x ≠ y) : (x == y) = false := by simp [h]
theorem FZ.intsV (l : List Int) : FZ (intsV l) := FZ.lst rfl fun r hr => by
  obtain ⟨x, _, rfl⟩ := List.mem_map.mp hr; exact FZs.one (FZ.v _)

def ResSI (R : ByteArray × Int) : AOut → AH → Prop := fun out H' => ∃ v v', out = .ret v ∧ View H' v v' ∧ FZ v' ∧ v' = siV R
def endP (out : ByteArray) : ByteArray × Int := if 4000 < out.size then (⟨#[]⟩, 2) else if errOf (readB out) ≠ 0 then (⟨#[]⟩, errOf (readB out)) else (out, 0)
def outP (b by_ : ByteArray) : Option (Tree × List Tree) → ByteArray
  | none => by_
  | some (x, ys) => replA b (ys.map Tree.h).reverse x.h.frm x.h.fin by_
def xV : Option (Tree × List Tree) → AV
  | some (t, _) => treeV t
  | none => .v (.pointer none)
def arV : Option (Tree × List Tree) → AV
  | some (_, a) => treesV a
  | none => treesV []
def rest16c : CC := dropS 9 Cd.cd16
set_option maxHeartbeats 2000000 in
theorem tail16c (out : ByteArray) (f : AF) (H : AH) (f17 : f.t 17 = .v (.string out)) (hds : f.ds = []) :
    cwp Try.prog [] 91 rest16c (Kont.fin Try.prog [ResultVar.tmp 6, ResultVar.tmp 7] (ResSI (endP out))) f H := by
  unfold endP
  by_cases h1 : 4000 < out.size
  · rw [if_pos h1]
    simp only [rest16c, dropS, f17, hds, show decide ((out.size : Int) > 4000) = true from decide_eq_true (by omega), Cd.cd16, Tk.t16, base0, base1, base2, base3, Option.isNone_none, Option.isNone_some, Nat.reduceBEq, true_or, or_true, false_or, or_false, Nat.reduceLT, Nat.reduceMod, Nat.reducePow, rmaps, nsucc, List.flatten_cons, List.flatten_nil, Nat.reduceEqDiff, Nat.reduceLeDiff, Nat.reduceAdd, Nat.reduceMul, Nat.reduceSub, ↓reduceIte, reduceCtorEq, decide_true, decide_false]
    exact fin_si rfl
  · rw [if_neg h1]
    simp only [rest16c, dropS, f17, hds, show decide ((out.size : Int) > 4000) = false from decide_eq_false (by omega), Cd.cd16, Tk.t16, base0, base1, base2, base3, Option.isNone_none, Option.isNone_some, Nat.reduceBEq, true_or, or_true, false_or, or_false, Nat.reduceLT, Nat.reduceMod, Nat.reducePow, rmaps, nsucc, List.flatten_cons, List.flatten_nil, Nat.reduceEqDiff, Nat.reduceLeDiff, Nat.reduceAdd, Nat.reduceMul, Nat.reduceSub, ↓reduceIte, reduceCtorEq, decide_true, decide_false]
    first | refine FCall.go (read37 out) (FZs.one (FZ.v _)) ?_ | refine FCall.go' (read37 out) (FZs.one (FZ.v _)) ?_ | refine FCall.goQ (read37 out) (FZs.one (FZ.v _)) ?_
    by_cases h2 : errOf (readB out) = 0
    · rw [if_neg (fun h => h h2)]
      simp only [f17, hds, readOut_eq, bneF h2, Cd.cd16, Tk.t16, base0, base1, base2, base3, Option.isNone_none, Option.isNone_some, Nat.reduceBEq, true_or, or_true, false_or, or_false, Nat.reduceLT, Nat.reduceMod, Nat.reducePow, rmaps, nsucc, List.flatten_cons, List.flatten_nil, Nat.reduceEqDiff, Nat.reduceLeDiff, Nat.reduceAdd, Nat.reduceMul, Nat.reduceSub, ↓reduceIte, reduceCtorEq, decide_true, decide_false]
      exact fin_si rfl
    · rw [if_pos h2]
      simp only [f17, hds, readOut_eq, bneT h2, Cd.cd16, Tk.t16, base0, base1, base2, base3, Option.isNone_none, Option.isNone_some, Nat.reduceBEq, true_or, or_true, false_or, or_false, Nat.reduceLT, Nat.reduceMod, Nat.reducePow, rmaps, nsucc, List.flatten_cons, List.flatten_nil, Nat.reduceEqDiff, Nat.reduceLeDiff, Nat.reduceAdd, Nat.reduceMul, Nat.reduceSub, ↓reduceIte, reduceCtorEq, decide_true, decide_false]
      exact fin_si rfl

def rest16b : CC := dropS 7 Cd.cd16
theorem rest16b_eq : rest16b = putS 2 (dropS 7 Cd.cd16) rest16c := (putS_drop 2 (dropS 7 Cd.cd16)).symm
set_option maxHeartbeats 2000000 in
theorem tail16b (b : ByteArray) (hb : b.size ≤ 4000) (by_ : ByteArray) (hby : by_.size ≤ 4050) (fo : Option (Tree × List Tree)) (hfo : ∀ x ys, fo = some (x, ys) → ys.length ≤ 20 ∧ Chain b (ys.map Tree.h).reverse x.h.frm x.h.fin)
    (f : AF) (H : AH) (f0 : f.t 0 = .v (.string b)) (f2 : f.t 2 = .v (.string by_)) (f11 : f.t 11 = xV fo) (f12 : f.t 12 = arV fo) (hds : f.ds = []) :
    cwp Try.prog [] 91 rest16b (Kont.fin Try.prog [ResultVar.tmp 6, ResultVar.tmp 7] (ResSI (endP (outP b by_ fo)))) f H := by
  rw [rest16b_eq]
  cases fo with
  | none =>
    simp only [xV, arV] at f11 f12
    simp only [dropS, putS, f0, f2, f11, f12, hds, Cd.cd16, Tk.t16, base0, base1, base2, base3, Option.isNone_none, Option.isNone_some, Nat.reduceBEq, true_or, or_true, false_or, or_false, Nat.reduceLT, Nat.reduceMod, Nat.reducePow, rmaps, nsucc, List.flatten_cons, List.flatten_nil, Nat.reduceEqDiff, Nat.reduceLeDiff, Nat.reduceAdd, Nat.reduceMul, Nat.reduceSub, ↓reduceIte, reduceCtorEq, decide_true, decide_false]
    exact tail16c _ _ _ (by simp [upd, outP]) (by simp [upd, hds])
  | some xy =>
    obtain ⟨x, ys⟩ := xy
    obtain ⟨g1, g2⟩ := hfo x ys rfl
    simp only [xV, arV] at f11 f12
    have hx := treeV_box x
    have hR := replaced44 b hb ys x by_ g1 hby g2
    have hz := FZ.treeV x
    rw [hx] at hR f11 hz
    simp only [dropS, putS, f0, f2, f11, f12, hds, Cd.cd16, Tk.t16, base0, base1, base2, base3, Option.isNone_none, Option.isNone_some, Nat.reduceBEq, true_or, or_true, false_or, or_false, Nat.reduceLT, Nat.reduceMod, Nat.reducePow, rmaps, nsucc, List.flatten_cons, List.flatten_nil, Nat.reduceEqDiff, Nat.reduceLeDiff, Nat.reduceAdd, Nat.reduceMul, Nat.reduceSub, ↓reduceIte, reduceCtorEq, decide_true, decide_false]
    first | refine FCall.go hR (FZs.cons (FZ.v _) (FZs.cons (FZ.rowsOf ys) (FZs.cons hz (FZs.one (FZ.v _))))) ?_ | refine FCall.go' hR (FZs.cons (FZ.v _) (FZs.cons (FZ.rowsOf ys) (FZs.cons hz (FZs.one (FZ.v _))))) ?_ | refine FCall.goQ hR (FZs.cons (FZ.v _) (FZs.cons (FZ.rowsOf ys) (FZs.cons hz (FZs.one (FZ.v _))))) ?_
    simp only [dropS, putS, Cd.cd16, Tk.t16, base0, base1, base2, base3, Option.isNone_none, Option.isNone_some, Nat.reduceBEq, true_or, or_true, false_or, or_false, Nat.reduceLT, Nat.reduceMod, Nat.reducePow, rmaps, nsucc, List.flatten_cons, List.flatten_nil, Nat.reduceEqDiff, Nat.reduceLeDiff, Nat.reduceAdd, Nat.reduceMul, Nat.reduceSub, ↓reduceIte, reduceCtorEq, decide_true, decide_false]
    exact tail16c _ _ _ (by simp [upd, outP]) (by simp [upd, hds])

def rest16a : CC := dropS 6 Cd.cd16
theorem rest16a_eq : rest16a = putS 1 (dropS 6 Cd.cd16) rest16b := (putS_drop 1 (dropS 6 Cd.cd16)).symm
set_option maxHeartbeats 2000000 in
theorem tail16a (b : ByteArray) (hb : b.size ≤ 4000) (by_ : ByteArray) (al : Bool) (fo : Option (Tree × List Tree)) (hfo : ∀ x ys, fo = some (x, ys) → ys.length ≤ 20 ∧ Chain b (ys.map Tree.h).reverse x.h.frm x.h.fin)
    (f : AF) (H : AH) (f0 : f.t 0 = .v (.string b)) (f2 : f.t 2 = .v (.string by_)) (f11 : f.t 11 = xV fo) (f12 : f.t 12 = arV fo) (f13 : f.t 13 = .v (.bool al)) (hds : f.ds = []) (R : ByteArray × Int) (hR : (if (by_.size ≠ 0 ∨ al = true) ∧ errOf (readB by_) ≠ 0 then (⟨#[]⟩, errOf (readB by_)) else endP (outP b by_ fo)) = R) :
    cwp Try.prog [] 91 rest16a (Kont.fin Try.prog [ResultVar.tmp 6, ResultVar.tmp 7] (ResSI R)) f H := by
  rw [rest16a_eq]
  by_cases h0 : by_.size = 0
  · cases al with
    | false =>
      rw [if_neg (by simp [h0])] at hR
      subst hR
      simp only [dropS, putS, f0, f2, f13, hds, astr_nnil, h0, ne_eq, not_true_eq_false, Cd.cd16, Tk.t16, base0, base1, base2, base3, Option.isNone_none, Option.isNone_some, Nat.reduceBEq, true_or, or_true, false_or, or_false, Nat.reduceLT, Nat.reduceMod, Nat.reducePow, rmaps, nsucc, List.flatten_cons, List.flatten_nil, Nat.reduceEqDiff, Nat.reduceLeDiff, Nat.reduceAdd, Nat.reduceMul, Nat.reduceSub, ↓reduceIte, reduceCtorEq, decide_true, decide_false]
      exact tail16b b hb by_ (by omega) fo hfo _ _ (by simp [upd, f0]) (by simp [upd, f2]) (by simp [upd, f11]) (by simp [upd, f12]) (by simp [upd, hds])
    | true =>
      simp only [dropS, putS, f0, f2, f13, hds, astr_nnil, h0, ne_eq, not_true_eq_false, Cd.cd16, Tk.t16, base0, base1, base2, base3, Option.isNone_none, Option.isNone_some, Nat.reduceBEq, true_or, or_true, false_or, or_false, Nat.reduceLT, Nat.reduceMod, Nat.reducePow, rmaps, nsucc, List.flatten_cons, List.flatten_nil, Nat.reduceEqDiff, Nat.reduceLeDiff, Nat.reduceAdd, Nat.reduceMul, Nat.reduceSub, ↓reduceIte, reduceCtorEq, decide_true, decide_false]
      first | refine FCall.go (read37 by_) (FZs.one (FZ.v _)) ?_ | refine FCall.go' (read37 by_) (FZs.one (FZ.v _)) ?_ | refine FCall.goQ (read37 by_) (FZs.one (FZ.v _)) ?_
      by_cases h2 : errOf (readB by_) = 0
      · rw [if_neg (fun h => h.2 h2)] at hR
        subst hR
        simp only [dropS, putS, readOut_eq, bneF h2, Cd.cd16, Tk.t16, base0, base1, base2, base3, Option.isNone_none, Option.isNone_some, Nat.reduceBEq, true_or, or_true, false_or, or_false, Nat.reduceLT, Nat.reduceMod, Nat.reducePow, rmaps, nsucc, List.flatten_cons, List.flatten_nil, Nat.reduceEqDiff, Nat.reduceLeDiff, Nat.reduceAdd, Nat.reduceMul, Nat.reduceSub, ↓reduceIte, reduceCtorEq, decide_true, decide_false]
        exact tail16b b hb by_ (by omega) fo hfo _ _ (by simp [upd, f0]) (by simp [upd, f2]) (by simp [upd, f11]) (by simp [upd, f12]) (by simp [upd, hds])
      · rw [if_pos ⟨.inr rfl, h2⟩] at hR
        subst hR
        simp only [dropS, putS, readOut_eq, bneT h2, hds, Cd.cd16, Tk.t16, base0, base1, base2, base3, Option.isNone_none, Option.isNone_some, Nat.reduceBEq, true_or, or_true, false_or, or_false, Nat.reduceLT, Nat.reduceMod, Nat.reducePow, rmaps, nsucc, List.flatten_cons, List.flatten_nil, Nat.reduceEqDiff, Nat.reduceLeDiff, Nat.reduceAdd, Nat.reduceMul, Nat.reduceSub, ↓reduceIte, reduceCtorEq, decide_true, decide_false]
        exact fin_si rfl
  · simp only [dropS, putS, f0, f2, f13, hds, astr_nnil, h0, ne_eq, not_false_eq_true, Cd.cd16, Tk.t16, base0, base1, base2, base3, Option.isNone_none, Option.isNone_some, Nat.reduceBEq, true_or, or_true, false_or, or_false, Nat.reduceLT, Nat.reduceMod, Nat.reducePow, rmaps, nsucc, List.flatten_cons, List.flatten_nil, Nat.reduceEqDiff, Nat.reduceLeDiff, Nat.reduceAdd, Nat.reduceMul, Nat.reduceSub, ↓reduceIte, reduceCtorEq, decide_true, decide_false]
    first | refine FCall.go (read37 by_) (FZs.one (FZ.v _)) ?_ | refine FCall.go' (read37 by_) (FZs.one (FZ.v _)) ?_ | refine FCall.goQ (read37 by_) (FZs.one (FZ.v _)) ?_
    by_cases h2 : errOf (readB by_) = 0
    · rw [if_neg (fun h => h.2 h2)] at hR
      subst hR
      have := errOf_size h2
      simp only [dropS, putS, readOut_eq, bneF h2, Cd.cd16, Tk.t16, base0, base1, base2, base3, Option.isNone_none, Option.isNone_some, Nat.reduceBEq, true_or, or_true, false_or, or_false, Nat.reduceLT, Nat.reduceMod, Nat.reducePow, rmaps, nsucc, List.flatten_cons, List.flatten_nil, Nat.reduceEqDiff, Nat.reduceLeDiff, Nat.reduceAdd, Nat.reduceMul, Nat.reduceSub, ↓reduceIte, reduceCtorEq, decide_true, decide_false]
      exact tail16b b hb by_ (by omega) fo hfo _ _ (by simp [upd, f0]) (by simp [upd, f2]) (by simp [upd, f11]) (by simp [upd, f12]) (by simp [upd, hds])
    · rw [if_pos ⟨.inl h0, h2⟩] at hR
      subst hR
      simp only [dropS, putS, readOut_eq, bneT h2, hds, Cd.cd16, Tk.t16, base0, base1, base2, base3, Option.isNone_none, Option.isNone_some, Nat.reduceBEq, true_or, or_true, false_or, or_false, Nat.reduceLT, Nat.reduceMod, Nat.reducePow, rmaps, nsucc, List.flatten_cons, List.flatten_nil, Nat.reduceEqDiff, Nat.reduceLeDiff, Nat.reduceAdd, Nat.reduceMul, Nat.reduceSub, ↓reduceIte, reduceCtorEq, decide_true, decide_false]
      exact fin_si rfl

set_option maxHeartbeats 2000000 in
theorem replaced16 (b : ByteArray) (path : List Int) (hp : path.length ≤ 20) (by_ : ByteArray) : FCall Try.prog 16 [.v (.string b), intsV path, .v (.string by_)] (· = siV (replacedP b path by_)) := by
  refine ACall.enter [] (cc := putS 6 Cd.cd16 rest16a) (by rw [show putS 6 Cd.cd16 rest16a = Cd.cd16 from putS_drop 6 _]; exact Cd.fn16) (by simp) ?_
  generalize hR : replacedP b path by_ = R
  unfold replacedP at hR
  simp only [putS, Cd.cd16, Tk.t16, base0, base1, base2, base3, Option.isNone_none, Option.isNone_some, Nat.reduceBEq, true_or, or_true, false_or, or_false, Nat.reduceLT, Nat.reduceMod, Nat.reducePow, rmaps, nsucc, List.flatten_cons, List.flatten_nil, Nat.reduceEqDiff, Nat.reduceLeDiff, Nat.reduceAdd, Nat.reduceMul, Nat.reduceSub, ↓reduceIte, reduceCtorEq, decide_true, decide_false]
  first | refine FCall.go (read37 b) (FZs.one (FZ.v _)) ?_ | refine FCall.go' (read37 b) (FZs.one (FZ.v _)) ?_ | refine FCall.goQ (read37 b) (FZs.one (FZ.v _)) ?_
  by_cases h1 : errOf (readB b) = 0
  rotate_left
  · rw [if_pos h1] at hR
    subst hR
    simp only [putS, readOut_eq, bneT h1, Cd.cd16, Tk.t16, base0, base1, base2, base3, Option.isNone_none, Option.isNone_some, Nat.reduceBEq, true_or, or_true, false_or, or_false, Nat.reduceLT, Nat.reduceMod, Nat.reducePow, rmaps, nsucc, List.flatten_cons, List.flatten_nil, Nat.reduceEqDiff, Nat.reduceLeDiff, Nat.reduceAdd, Nat.reduceMul, Nat.reduceSub, ↓reduceIte, reduceCtorEq, decide_true, decide_false]
    exact fin_si rfl
  · rw [if_neg (fun h => h h1)] at hR
    have hb := errOf_size h1
    obtain ⟨l, hl⟩ := errOf_zero h1
    have hwf := readB_wf hl
    have hok : okL (readB b) = l := by rw [hl]; rfl
    rw [hok] at hR
    simp only [putS, readOut_eq, bneF h1, hok, Cd.cd16, Tk.t16, base0, base1, base2, base3, Option.isNone_none, Option.isNone_some, Nat.reduceBEq, true_or, or_true, false_or, or_false, Nat.reduceLT, Nat.reduceMod, Nat.reducePow, rmaps, nsucc, List.flatten_cons, List.flatten_nil, Nat.reduceEqDiff, Nat.reduceLeDiff, Nat.reduceAdd, Nat.reduceMul, Nat.reduceSub, ↓reduceIte, reduceCtorEq, decide_true, decide_false]
    first | refine FCall.go (find43 l path (by omega)) (FZs.cons (FZ.rowsOf l) (FZs.one (FZ.intsV path))) ?_ | refine FCall.go' (find43 l path (by omega)) (FZs.cons (FZ.rowsOf l) (FZs.one (FZ.intsV path))) ?_ | refine FCall.goQ (find43 l path (by omega)) (FZs.cons (FZ.rowsOf l) (FZs.one (FZ.intsV path))) ?_
    have hfl := findT_eq path l []
    have hch : ∀ x ys, findP l path = some (x, ys) → ys.length ≤ 20 ∧ Chain b (ys.map Tree.h).reverse x.h.frm x.h.fin := fun x ys e => by
      have e1 := findP_len e
      exact ⟨by omega, (findP_chain hwf e).1.chain⟩
    cases hfo : findP l path with
    | none =>
      rw [hfo] at hfl hch hR
      rw [hfl]
      cases path with
      | nil =>
        rw [if_neg (fun h => h.1 rfl)] at hR
        simp only [putS, findOut, intsV, List.map_nil, show decide (((0 : Nat) : Int) > 0) = false from rfl, show (((0 : Nat) : Int) == 0) = true from rfl, show (((0 : Nat) : Int) == 1) = false from rfl, Cd.cd16, Tk.t16, base0, base1, base2, base3, Option.isNone_none, Option.isNone_some, Nat.reduceBEq, true_or, or_true, false_or, or_false, Nat.reduceLT, Nat.reduceMod, Nat.reducePow, rmaps, nsucc, List.flatten_cons, List.flatten_nil, Nat.reduceEqDiff, Nat.reduceLeDiff, Nat.reduceAdd, Nat.reduceMul, Nat.reduceSub, ↓reduceIte, reduceCtorEq, decide_true, decide_false]
        refine tail16a b hb by_ true none hch _ _ ?_ ?_ ?_ ?_ ?_ ?_ _ (Eq.trans ?_ hR)
        · simp [upd, enterA]
        · simp [upd, enterA]
        · simp [upd, xV]
        · simp [upd, arV]
        · simp [upd]
        · rfl
        · simp only [List.length_nil, true_or, or_true, true_and]; rfl
      | cons p r =>
        rw [if_pos ⟨by simp, rfl⟩] at hR
        subst hR
        simp only [putS, findOut, intsV, List.map_cons, List.length_map, show decide (((r.length + 1 : Nat) : Int) > 0) = true from decide_eq_true (by omega), Cd.cd16, Tk.t16, base0, base1, base2, base3, Option.isNone_none, Option.isNone_some, Nat.reduceBEq, true_or, or_true, false_or, or_false, Nat.reduceLT, Nat.reduceMod, Nat.reducePow, rmaps, nsucc, List.flatten_cons, List.flatten_nil, Nat.reduceEqDiff, Nat.reduceLeDiff, Nat.reduceAdd, Nat.reduceMul, Nat.reduceSub, ↓reduceIte, reduceCtorEq, decide_true, decide_false]
        exact fin_si rfl
    | some xy =>
      obtain ⟨x, ys⟩ := xy
      rw [hfo] at hfl hch hR
      rw [hfl]
      rw [if_neg (fun h => by cases h.2)] at hR
      have hx := treeV_box x
      have hp0 : path.length ≠ 0 := by have := findP_len hfo; omega
      have e0 : ((path.length : Int) == 0) = false := beqF (by omega)
      by_cases a1 : path.length = 1
      · have e1 : ((path.length : Int) == 1) = true := beqT (by omega)
        by_cases a2 : l.length = 1
        · simp only [putS, findOut, intsV, treesV, hx, List.length_map, e0, e1, show ((l.length : Int) == 1) = true from beqT (by omega), Cd.cd16, Tk.t16, base0, base1, base2, base3, Option.isNone_none, Option.isNone_some, Nat.reduceBEq, true_or, or_true, false_or, or_false, Nat.reduceLT, Nat.reduceMod, Nat.reducePow, rmaps, nsucc, List.flatten_cons, List.flatten_nil, Nat.reduceEqDiff, Nat.reduceLeDiff, Nat.reduceAdd, Nat.reduceMul, Nat.reduceSub, ↓reduceIte, reduceCtorEq, decide_true, decide_false]
          refine tail16a b hb by_ true (some (x, ys)) hch _ _ (by simp [upd, enterA]) (by simp [upd, enterA]) (by simp [upd, hx, xV, treesV]) (by simp [upd, treesV, arV]) (by simp [upd]) rfl _ (Eq.trans ?_ hR)
          simp only [a1, a2, and_self, or_true]; rfl
        · simp only [putS, findOut, intsV, treesV, hx, List.length_map, e0, e1, show ((l.length : Int) == 1) = false from beqF (by omega), Cd.cd16, Tk.t16, base0, base1, base2, base3, Option.isNone_none, Option.isNone_some, Nat.reduceBEq, true_or, or_true, false_or, or_false, Nat.reduceLT, Nat.reduceMod, Nat.reducePow, rmaps, nsucc, List.flatten_cons, List.flatten_nil, Nat.reduceEqDiff, Nat.reduceLeDiff, Nat.reduceAdd, Nat.reduceMul, Nat.reduceSub, ↓reduceIte, reduceCtorEq, decide_true, decide_false]
          refine tail16a b hb by_ false (some (x, ys)) hch _ _ (by simp [upd, enterA]) (by simp [upd, enterA]) (by simp [upd, hx, xV, treesV]) (by simp [upd, treesV, arV]) (by simp [upd]) rfl _ (Eq.trans ?_ hR)
          simp only [hp0, a2, and_false, false_and, or_false, Bool.false_eq_true]; rfl
      · have e1 : ((path.length : Int) == 1) = false := beqF (by omega)
        simp only [putS, findOut, intsV, treesV, hx, List.length_map, e0, e1, Cd.cd16, Tk.t16, base0, base1, base2, base3, Option.isNone_none, Option.isNone_some, Nat.reduceBEq, true_or, or_true, false_or, or_false, Nat.reduceLT, Nat.reduceMod, Nat.reducePow, rmaps, nsucc, List.flatten_cons, List.flatten_nil, Nat.reduceEqDiff, Nat.reduceLeDiff, Nat.reduceAdd, Nat.reduceMul, Nat.reduceSub, ↓reduceIte, reduceCtorEq, decide_true, decide_false]
        refine tail16a b hb by_ false (some (x, ys)) hch _ _ (by simp [upd, enterA]) (by simp [upd, enterA]) (by simp [upd, hx, xV, treesV]) (by simp [upd, treesV, arV]) (by simp [upd]) rfl _ (Eq.trans ?_ hR)
        simp only [hp0, a1, and_false, false_and, or_false, Bool.false_eq_true]; rfl

/-- the chapter's example -/
def exB : ByteArray := ⟨#[48, 6, 2, 1, 5, 1, 1, 255]⟩
theorem example36 : FCall Try.prog 36 [] (· = .v (.string exB)) := by
  refine ACall.enter [] Cd.fn36 (by simp) ?_
  simp only [Cd.cd36, Tk.t36, base0, base1, base2, base3, Option.isNone_none, Option.isNone_some, Nat.reduceBEq, true_or, or_true, false_or, or_false, Nat.reduceLT, Nat.reduceMod, Nat.reducePow, rmaps, nsucc, List.flatten_cons, List.flatten_nil, Nat.reduceEqDiff, Nat.reduceLeDiff, Nat.reduceAdd, Nat.reduceMul, Nat.reduceSub, ↓reduceIte, reduceCtorEq, decide_true, decide_false]
  exact fin_v rfl
def exL : List Hd := [⟨0, 16, true, false, 0, 1, 2, 8, 8, 0⟩, ⟨0, 2, false, false, 2, 3, 4, 5, 5, 1⟩, ⟨0, 1, false, false, 5, 6, 7, 8, 8, 1⟩]
theorem ex_walked : walkedOut (readB exB) = .tup [nodesV exL, .v (.int .i64 0), .v (.int .i64 0)] := by rfl
theorem ex_repl : replacedP exB [0, 1] ⟨#[5, 0]⟩ = (⟨#[48, 5, 2, 1, 5, 5, 0]⟩, 0) := by decide +kernel
theorem awake11 : FCall Try.prog 11 [] (· = .v (.bool true)) := by
  refine ACall.enter [] Cd.fn11 (by simp) ?_
  simp only [Cd.cd11, Tk.t11, base0, base1, base2, base3, Option.isNone_none, Option.isNone_some, Nat.reduceBEq, true_or, or_true, false_or, or_false, Nat.reduceLT, Nat.reduceMod, Nat.reducePow, rmaps, nsucc, List.flatten_cons, List.flatten_nil, Nat.reduceEqDiff, Nat.reduceLeDiff, Nat.reduceAdd, Nat.reduceMul, Nat.reduceSub, ↓reduceIte, reduceCtorEq, decide_true, decide_false]
  first | refine FCall.go (example36) (FZs.nil) ?_ | refine FCall.go' (example36) (FZs.nil) ?_ | refine FCall.goQ (example36) (FZs.nil) ?_
  simp only [Cd.cd11, Tk.t11, base0, base1, base2, base3, Option.isNone_none, Option.isNone_some, Nat.reduceBEq, true_or, or_true, false_or, or_false, Nat.reduceLT, Nat.reduceMod, Nat.reducePow, rmaps, nsucc, List.flatten_cons, List.flatten_nil, Nat.reduceEqDiff, Nat.reduceLeDiff, Nat.reduceAdd, Nat.reduceMul, Nat.reduceSub, ↓reduceIte, reduceCtorEq, decide_true, decide_false]
  first | refine FCall.go (walked13 exB) (FZs.one (FZ.v _)) ?_ | refine FCall.go' (walked13 exB) (FZs.one (FZ.v _)) ?_ | refine FCall.goQ (walked13 exB) (FZs.one (FZ.v _)) ?_
  rw [ex_walked]
  simp only [nodesV, exL, Cd.cd11, Tk.t11, base0, base1, base2, base3, Option.isNone_none, Option.isNone_some, Nat.reduceBEq, true_or, or_true, false_or, or_false, Nat.reduceLT, Nat.reduceMod, Nat.reducePow, rmaps, nsucc, List.flatten_cons, List.flatten_nil, Nat.reduceEqDiff, Nat.reduceLeDiff, Nat.reduceAdd, Nat.reduceMul, Nat.reduceSub, ↓reduceIte, reduceCtorEq, decide_true, decide_false]
  first | refine FCall.go (example36) (FZs.nil) ?_ | refine FCall.go' (example36) (FZs.nil) ?_ | refine FCall.goQ (example36) (FZs.nil) ?_
  simp only [Cd.cd11, Tk.t11, base0, base1, base2, base3, Option.isNone_none, Option.isNone_some, Nat.reduceBEq, true_or, or_true, false_or, or_false, Nat.reduceLT, Nat.reduceMod, Nat.reducePow, rmaps, nsucc, List.flatten_cons, List.flatten_nil, Nat.reduceEqDiff, Nat.reduceLeDiff, Nat.reduceAdd, Nat.reduceMul, Nat.reduceSub, ↓reduceIte, reduceCtorEq, decide_true, decide_false]
  refine FCall.bgo (replaced16 exB [0, 1] (by decide) ⟨#[5, 0]⟩) (Views.cons (FZ.v _).view (Views.cons (View.tip fun r hr => ?_) (Views.cons (FZ.v _).view Views.nil))) (Ground.tup fun c hc => ?_) ?_
  · simp only [List.mem_cons, List.not_mem_nil, or_false] at hr
    rcases hr with rfl | rfl <;> exact FZs.one (FZ.v _)
  · simp only [List.mem_cons, List.not_mem_nil, or_false] at hc
    rcases hc with rfl | rfl <;> exact Ground.v _
  rw [ex_repl]
  simp only [siV, nodeL, Cd.cd11, Tk.t11, base0, base1, base2, base3, Option.isNone_none, Option.isNone_some, Nat.reduceBEq, true_or, or_true, false_or, or_false, Nat.reduceLT, Nat.reduceMod, Nat.reducePow, rmaps, nsucc, List.flatten_cons, List.flatten_nil, Nat.reduceEqDiff, Nat.reduceLeDiff, Nat.reduceAdd, Nat.reduceMul, Nat.reduceSub, ↓reduceIte, reduceCtorEq, decide_true, decide_false]
  exact fin_v (by rw [beq_self_eq_true])
end Go.Proofs.Ytmjjfdppaomcfaa

/- Walks: the nodes directly within a node. -/
namespace Go.Proofs.Ytmjjfdppaomcfaa
open Go Go.Proofs.Ytmjjfdppaomcfaa.Ab
set_option maxRecDepth 100000
set_option linter.unusedSimpArgs false

def natR (n : Nat) : List AV := [.v (.int .i64 (n : Int))]
def natsV (l : List Nat) : AV := .lst 1 (l.map natR) .unk
theorem FZs.natR (n : Nat) : FZs (natR n) := FZs.one (FZ.v _)
theorem FZ.natsV (l : List Nat) : FZ (natsV l) := FZ.lst rfl fun r hr => by
  obtain ⟨x, _, rfl⟩ := List.mem_map.mp hr; exact FZs.natR x
theorem fin_grow {α : Type} {enc : α → List AV} {k : Nat} {H H' : AH} {a : AV} {l : List α} (h : GrowE enc k H a l) (hz : ∀ x, FZs (enc x)) {w : AV} (hw : w = .lst k (l.map enc) .unk) : ∃ v v', AOut.ret a = .ret v ∧ View H' v v' ∧ FZ v' ∧ v' = w := by
  subst hw
  exact ⟨_, _, rfl, h.view hz, FZ.lst rfl fun r hr => by obtain ⟨x, _, rfl⟩ := List.mem_map.mp hr; exact hz x, rfl⟩
def walkV (b : ByteArray) (L : List Hd) : AV := .box (wL b (nodesV L) 0 0)
theorem FZ.walkV (b : ByteArray) (L : List Hd) : FZ (walkV b L) := FZ.box fun x hx => by
  simp only [wL, List.mem_cons, List.not_mem_nil, or_false] at hx
  rcases hx with rfl | rfl | rfl | rfl <;> first | exact FZ.v _ | exact FZ.nodesV L

def rest45 : CC := dropS 4 Cd.cd45
set_option maxHeartbeats 1000000 in
theorem tail45 (b : ByteArray) (L : List Hd) (hl : L.length ≤ 1000) (D frm to i0 : Nat) (R : List Nat) (hR : kidScan D frm to i0 (L.drop i0) = R) (f : AF) (H : AH) (f0 : f.t 0 = walkV b L) (f5 : f.t 5 = iv frm) (f6 : f.t 6 = iv to) (f7 : f.t 7 = iv D) (f8 : f.t 8 = iv i0) (hi0 : i0 ≤ L.length) (hds : f.ds = []) :
    cwp Try.prog [] 72 rest45 (Kont.fin Try.prog [ResultVar.tmp 4] (fun out H' => ∃ v v', out = .ret v ∧ View H' v v' ∧ FZ v' ∧ v' = natsV R)) f H := by
  simp only [rest45, dropS, f0, f5, f6, f7, f8, hds, Cd.cd45, Tk.t45, base0, base1, base2, base3, Option.isNone_none, Option.isNone_some, Nat.reduceBEq, true_or, or_true, false_or, or_false, Nat.reduceLT, Nat.reduceMod, Nat.reducePow, rmaps, nsucc, List.flatten_cons, List.flatten_nil, Nat.reduceEqDiff, Nat.reduceLeDiff, Nat.reduceAdd, Nat.reduceMul, Nat.reduceSub, ↓reduceIte, reduceCtorEq, decide_true, decide_false]
  refine LWP.loop [] (fun m f H' => ∃ i acc, m = L.length - i ∧ (i ≤ L.length) ∧ (acc ++ kidScan D frm to i (L.drop i) = R) ∧ (acc.length ≤ i) ∧ f.t 0 = walkV b L ∧ f.t 5 = iv frm ∧ f.t 6 = iv to ∧ f.t 7 = iv D ∧ f.t 11 = iv i ∧ f.ds = [] ∧ GrowE natR 1 H' (f.t 10) acc) ?_ ?_ (m := L.length - (i0))
  · exact ⟨i0, [], rfl, (hi0), (by simpa using hR), (by simp), by simp [upd, f0], by simp [upd, f5], by simp [upd, f6], by simp [upd, f7], by simp [upd, iv], rfl, .inl ⟨rfl, by simp [upd]⟩⟩
  · rintro m f H' ⟨i, acc, rfl, hi, hT, hacc, f0, f5, f6, f7, f11, hds, hg⟩
    by_cases hlt : i < L.length
    · have hrow := getDmap nodeL L i hlt
      have hd : L.drop i = L.getD i default :: L.drop (i + 1) := by
        rw [List.drop_eq_getElem_cons hlt, List.getD_eq_getElem?_getD, List.getElem?_eq_getElem hlt]; rfl
      generalize L.getD i default = x at hrow hd
      rw [hd] at hT
      simp only [kidScan] at hT
      by_cases h1 : to ≤ x.frm
      · rw [if_pos h1, List.append_nil] at hT
        simp only [iv, walkV, wL, nodesV, List.length_map, show decide ((i : Int) < (L.length : Int)) = true from decide_eq_true (by omega), ltT hlt, Int.natCast_nonneg, Int.toNat_natCast, hrow, nodeL, show decide ((x.frm : Int) ≥ (to : Int)) = true from decide_eq_true (by omega), f0, f5, f6, f7, f11, hds, Cd.cd45, Tk.t45, base0, base1, base2, base3, Option.isNone_none, Option.isNone_some, Nat.reduceBEq, true_or, or_true, false_or, or_false, Nat.reduceLT, Nat.reduceMod, Nat.reducePow, rmaps, nsucc, List.flatten_cons, List.flatten_nil, Nat.reduceEqDiff, Nat.reduceLeDiff, Nat.reduceAdd, Nat.reduceMul, Nat.reduceSub, ↓reduceIte, reduceCtorEq, decide_true, decide_false]
        subst hT; exact fin_grow hg FZs.natR rfl
      · rw [if_neg h1] at hT
        by_cases h2 : x.deep = D
        · by_cases h3 : frm ≤ x.frm
          · rw [if_pos ⟨h2, h3⟩] at hT
            rcases hg with ⟨rfl, h10⟩ | ⟨tp, h10, htp⟩
            · simp only [iv, walkV, wL, nodesV, List.length_map, show decide ((i : Int) < (L.length : Int)) = true from decide_eq_true (by omega), ltT hlt, Int.natCast_nonneg, Int.toNat_natCast, hrow, nodeL, show decide ((x.frm : Int) ≥ (to : Int)) = false from decide_eq_false (by omega), show ((x.deep : Int) == (D : Int)) = true from by rw [beq_iff_eq]; omega, show decide ((x.frm : Int) ≥ (frm : Int)) = true from decide_eq_true (by omega), h10, nilS, show roomA 8 1 = true from rfl, wrapS (show i < 2 ^ 62 by omega), f0, f5, f6, f7, f11, hds, Cd.cd45, Tk.t45, base0, base1, base2, base3, Option.isNone_none, Option.isNone_some, Nat.reduceBEq, true_or, or_true, false_or, or_false, Nat.reduceLT, Nat.reduceMod, Nat.reducePow, rmaps, nsucc, List.flatten_cons, List.flatten_nil, Nat.reduceEqDiff, Nat.reduceLeDiff, Nat.reduceAdd, Nat.reduceMul, Nat.reduceSub, ↓reduceIte, reduceCtorEq, decide_true, decide_false]
              refine ⟨_, by omega, i + 1, [i], rfl, by omega, by simpa using hT, by simp, ?_⟩
              (repeat' apply And.intro) <;> first | rfl | exact GrowE.live (by simp [natR]) (by simp)
            · simp only [iv, walkV, wL, nodesV, List.length_map, show decide ((i : Int) < (L.length : Int)) = true from decide_eq_true (by omega), ltT hlt, Int.natCast_nonneg, Int.toNat_natCast, hrow, nodeL, show decide ((x.frm : Int) ≥ (to : Int)) = false from decide_eq_false (by omega), show ((x.deep : Int) == (D : Int)) = true from by rw [beq_iff_eq]; omega, show decide ((x.frm : Int) ≥ (frm : Int)) = true from decide_eq_true (by omega), h10, htp, room1 (b := 8) (n := acc.length) (by omega) (by omega), wrapS (show i < 2 ^ 62 by omega), f0, f5, f6, f7, f11, hds, Cd.cd45, Tk.t45, base0, base1, base2, base3, Option.isNone_none, Option.isNone_some, Nat.reduceBEq, true_or, or_true, false_or, or_false, Nat.reduceLT, Nat.reduceMod, Nat.reducePow, rmaps, nsucc, List.flatten_cons, List.flatten_nil, Nat.reduceEqDiff, Nat.reduceLeDiff, Nat.reduceAdd, Nat.reduceMul, Nat.reduceSub, ↓reduceIte, reduceCtorEq, decide_true, decide_false]
              refine ⟨_, by omega, i + 1, acc ++ [i], rfl, by omega, by simpa using hT, by simp; omega, ?_⟩
              (repeat' apply And.intro) <;> first | rfl | exact GrowE.live (by simp [natR]) (by simp)
          · rw [if_neg (fun h => h3 h.2)] at hT
            simp only [iv, walkV, wL, nodesV, List.length_map, show decide ((i : Int) < (L.length : Int)) = true from decide_eq_true (by omega), ltT hlt, Int.natCast_nonneg, Int.toNat_natCast, hrow, nodeL, show decide ((x.frm : Int) ≥ (to : Int)) = false from decide_eq_false (by omega), show ((x.deep : Int) == (D : Int)) = true from by rw [beq_iff_eq]; omega, show decide ((x.frm : Int) ≥ (frm : Int)) = false from decide_eq_false (by omega), wrapS (show i < 2 ^ 62 by omega), f0, f5, f6, f7, f11, hds, Cd.cd45, Tk.t45, base0, base1, base2, base3, Option.isNone_none, Option.isNone_some, Nat.reduceBEq, true_or, or_true, false_or, or_false, Nat.reduceLT, Nat.reduceMod, Nat.reducePow, rmaps, nsucc, List.flatten_cons, List.flatten_nil, Nat.reduceEqDiff, Nat.reduceLeDiff, Nat.reduceAdd, Nat.reduceMul, Nat.reduceSub, ↓reduceIte, reduceCtorEq, decide_true, decide_false]
            refine ⟨_, by omega, i + 1, acc, rfl, by omega, hT, by omega, ?_⟩
            (repeat' apply And.intro) <;> first | rfl | exact hg
        · rw [if_neg (fun h => h2 h.1)] at hT
          simp only [iv, walkV, wL, nodesV, List.length_map, show decide ((i : Int) < (L.length : Int)) = true from decide_eq_true (by omega), ltT hlt, Int.natCast_nonneg, Int.toNat_natCast, hrow, nodeL, show decide ((x.frm : Int) ≥ (to : Int)) = false from decide_eq_false (by omega), show ((x.deep : Int) == (D : Int)) = false from beq_eq_false_iff_ne.mpr (by omega), wrapS (show i < 2 ^ 62 by omega), f0, f5, f6, f7, f11, hds, Cd.cd45, Tk.t45, base0, base1, base2, base3, Option.isNone_none, Option.isNone_some, Nat.reduceBEq, true_or, or_true, false_or, or_false, Nat.reduceLT, Nat.reduceMod, Nat.reducePow, rmaps, nsucc, List.flatten_cons, List.flatten_nil, Nat.reduceEqDiff, Nat.reduceLeDiff, Nat.reduceAdd, Nat.reduceMul, Nat.reduceSub, ↓reduceIte, reduceCtorEq, decide_true, decide_false]
          refine ⟨_, by omega, i + 1, acc, rfl, by omega, hT, by omega, ?_⟩
          (repeat' apply And.intro) <;> first | rfl | exact hg
    · simp only [iv, walkV, wL, nodesV, List.length_map, show decide ((i : Int) < (L.length : Int)) = false from decide_eq_false (by omega), f0, f5, f6, f7, f11, hds, Cd.cd45, Tk.t45, base0, base1, base2, base3, Option.isNone_none, Option.isNone_some, Nat.reduceBEq, true_or, or_true, false_or, or_false, Nat.reduceLT, Nat.reduceMod, Nat.reducePow, rmaps, nsucc, List.flatten_cons, List.flatten_nil, Nat.reduceEqDiff, Nat.reduceLeDiff, Nat.reduceAdd, Nat.reduceMul, Nat.reduceSub, ↓reduceIte, reduceCtorEq, decide_true, decide_false]
      rw [List.drop_of_length_le (by omega)] at hT
      exact fin_grow hg FZs.natR (by rw [← hT]; simp [kidScan, natsV])

theorem kids45 (b : ByteArray) (hb : b.size ≤ 4000) (L : List Hd) (hl : L.length ≤ 1000) (i : Nat) (hi : i < L.length) (hD : (L.getD i default).deep ≤ 1000) : FCall Try.prog 45 [walkV b L, iv i] (· = natsV (kidScan ((L.getD i default).deep + 1) (L.getD i default).body (L.getD i default).stop (i + 1) (L.drop (i + 1)))) := by
  refine ACall.enter [] (cc := putS 4 Cd.cd45 rest45) (by rw [show putS 4 Cd.cd45 rest45 = Cd.cd45 from putS_drop 4 _]; exact Cd.fn45) (by simp) ?_
  have hrow := getDmap nodeL L i hi
  generalize L.getD i default = x at hrow hD
  simp only [putS, iv, walkV, wL, nodesV, List.length_map, ltT hi, Int.natCast_nonneg, Int.toNat_natCast, hrow, nodeL, show ((i : Int) != -1) = true from by simp, wrapS (show i < 2 ^ 62 by omega), wrapS (show x.deep < 2 ^ 62 by omega), Cd.cd45, Tk.t45, base0, base1, base2, base3, Option.isNone_none, Option.isNone_some, Nat.reduceBEq, true_or, or_true, false_or, or_false, Nat.reduceLT, Nat.reduceMod, Nat.reducePow, rmaps, nsucc, List.flatten_cons, List.flatten_nil, Nat.reduceEqDiff, Nat.reduceLeDiff, Nat.reduceAdd, Nat.reduceMul, Nat.reduceSub, ↓reduceIte, reduceCtorEq, decide_true, decide_false]
  exact tail45 b L hl _ _ _ _ _ rfl _ _ rfl rfl rfl rfl rfl (by omega) rfl
theorem kids45n (b : ByteArray) (hb : b.size ≤ 4000) (L : List Hd) (hl : L.length ≤ 1000) : FCall Try.prog 45 [walkV b L, .v (.int .i64 (-1))] (· = natsV (kidScan 0 0 b.size 0 L)) := by
  refine ACall.enter [] (cc := putS 4 Cd.cd45 rest45) (by rw [show putS 4 Cd.cd45 rest45 = Cd.cd45 from putS_drop 4 _]; exact Cd.fn45) (by simp) ?_
  simp only [putS, iv, walkV, wL, nodesV, List.length_map, show ((-1 : Int) != -1) = false from rfl, Cd.cd45, Tk.t45, base0, base1, base2, base3, Option.isNone_none, Option.isNone_some, Nat.reduceBEq, true_or, or_true, false_or, or_false, Nat.reduceLT, Nat.reduceMod, Nat.reducePow, rmaps, nsucc, List.flatten_cons, List.flatten_nil, Nat.reduceEqDiff, Nat.reduceLeDiff, Nat.reduceAdd, Nat.reduceMul, Nat.reduceSub, ↓reduceIte, reduceCtorEq, decide_true, decide_false]
  exact tail45 b L hl 0 0 b.size 0 _ rfl _ _ rfl rfl rfl rfl rfl (by omega) rfl
end Go.Proofs.Ytmjjfdppaomcfaa

/- Walks: the octets of identifiers and lengths, as the reference writes them. -/
namespace Go.Proofs.Ytmjjfdppaomcfaa
open Go Go.Proofs.Ytmjjfdppaomcfaa.Ab
set_option maxRecDepth 100000
set_option linter.unusedSimpArgs false

/-- the first octet of an identifier, without the number -/
def hdN (cls : Nat) (bl : Bool) : Nat := cls * 64 + (if bl then 32 else 0)
def lowCF : Nat → Nat → List UInt8
  | 0, _ => []
  | m + 1, k => if k = 0 then [] else UInt8.ofNat (128 + k % 128) :: lowCF m (k / 128)
def lowC (n : Nat) : List UInt8 := lowCF n n
/-- the octets of an identifier -/
def identL (cls num : Nat) (bl : Bool) : List UInt8 := if num < 31 then [UInt8.ofNat (hdN cls bl + num)] else
  UInt8.ofNat (hdN cls bl + 31) :: (UInt8.ofNat (num % 128) :: lowC (num / 128)).reverse
def identB (cls num : Nat) (bl : Bool) : ByteArray := ⟨(identL cls num bl).toArray⟩

/-- bytes as a frozen list, or nil -/
def RowsB (v : AV) (L : List UInt8) : Prop := (L = [] ∧ v = nilS) ∨ ∃ tip, v = .lst 1 (L.map byR) tip ∧ (L.length = 0) = False
theorem room2 {n : Nat} (h : n ≤ 1000000) : roomA 1 (1 + n) = true := by simp [roomA]; omega

theorem within20 (x lo hi : Int) : FCall Try.prog 20 [.v (.int .i64 x), .v (.int .i64 lo), .v (.int .i64 hi)] (· = .v (.bool (decide (lo ≤ x ∧ x ≤ hi)))) := by
  refine ACall.enter [] Cd.fn20 (by simp) ?_
  by_cases h1 : lo ≤ x
  · simp only [decide_eq_true h1, Cd.cd20, Tk.t20, base0, base1, base2, base3, Option.isNone_none, Option.isNone_some, Nat.reduceBEq, true_or, or_true, false_or, or_false, Nat.reduceLT, Nat.reduceMod, Nat.reducePow, rmaps, nsucc, List.flatten_cons, List.flatten_nil, Nat.reduceEqDiff, Nat.reduceLeDiff, Nat.reduceAdd, Nat.reduceMul, Nat.reduceSub, ↓reduceIte, reduceCtorEq, decide_true, decide_false]
    exact fin_v (by simp [h1])
  · simp only [decide_eq_false h1, Cd.cd20, Tk.t20, base0, base1, base2, base3, Option.isNone_none, Option.isNone_some, Nat.reduceBEq, true_or, or_true, false_or, or_false, Nat.reduceLT, Nat.reduceMod, Nat.reducePow, rmaps, nsucc, List.flatten_cons, List.flatten_nil, Nat.reduceEqDiff, Nat.reduceLeDiff, Nat.reduceAdd, Nat.reduceMul, Nat.reduceSub, ↓reduceIte, reduceCtorEq, decide_true, decide_false]
    exact fin_v (by simp [h1])

set_option maxHeartbeats 1000000 in
theorem length23 (n : Nat) (hn : n ≤ 1000000) : FCall Try.prog 23 [iv n] (· = .v (.string (lengthB n 1))) := by
  generalize hR : lengthB n 1 = R
  unfold lengthB lengthL at hR
  refine ACall.enter [] Cd.fn23 (by simp) ?_
  by_cases h1 : n < 128
  · rw [if_pos ⟨h1, rfl⟩] at hR
    have hB : bytesA [[byV (UInt8.ofNat n)]] = some [UInt8.ofNat n] := bytesA_map [UInt8.ofNat n]
    simp only [iv, show decide ((n : Int) < 128) = true from decide_eq_true (by omega), wrapU8, byV_ofNat, byV_cells, hB, isB84, Cd.cd23, Tk.t23, base0, base1, base2, base3, Option.isNone_none, Option.isNone_some, Nat.reduceBEq, true_or, or_true, false_or, or_false, Nat.reduceLT, Nat.reduceMod, Nat.reducePow, rmaps, nsucc, List.flatten_cons, List.flatten_nil, Nat.reduceEqDiff, Nat.reduceLeDiff, Nat.reduceAdd, Nat.reduceMul, Nat.reduceSub, ↓reduceIte, reduceCtorEq, decide_true, decide_false]
    exact fin_v (by rw [hR])
  · rw [if_neg (fun h => h1 h.1)] at hR
    have hlow : (lowB n).length ≤ 3 := lowB_len 3 n (by omega)
    have hlow0 : 1 ≤ (lowB n).length := by rw [lowB_step (by omega)]; simp
    rw [padB_done (by omega)] at hR
    simp only [iv, show decide ((n : Int) < 128) = false from decide_eq_false (by omega), Cd.cd23, Tk.t23, base0, base1, base2, base3, Option.isNone_none, Option.isNone_some, Nat.reduceBEq, true_or, or_true, false_or, or_false, Nat.reduceLT, Nat.reduceMod, Nat.reducePow, rmaps, nsucc, List.flatten_cons, List.flatten_nil, Nat.reduceEqDiff, Nat.reduceLeDiff, Nat.reduceAdd, Nat.reduceMul, Nat.reduceSub, ↓reduceIte, reduceCtorEq, decide_true, decide_false]
    refine LWP.loop [] (fun m f H' => ∃ k L, m = k + 1 ∧ (k ≤ n) ∧ ((lowB k).reverse ++ L = (lowB n).reverse) ∧ f.t 4 = iv k ∧ f.ds = [] ∧ RowsB (f.t 3) L) ?_ ?_ (m := (n) + 1)
    · exact ⟨n, [], rfl, (Nat.le_refl n), (by simp), rfl, rfl, .inl ⟨rfl, rfl⟩⟩
    · rintro m f H' ⟨k, L, rfl, hk, hL, f4, hds, hA⟩
      have hLl : L.length ≤ 3 := by have := congrArg List.length hL; simp at this; omega
      by_cases hk0 : 0 < k
      · have hst : (lowB (k / 256)).reverse ++ (UInt8.ofNat k :: L) = (lowB n).reverse := by rw [← hL, lowB_step hk0]; simp
        rcases hA with ⟨rfl, h3⟩ | ⟨tip, h3, hz⟩
        · simp only [h3, nilS, iv, show decide ((k : Int) > 0) = true from decide_eq_true (by omega), wrapU8, byV_ofNat, byV_cells, shr8n, f4, hds, Cd.cd23, Tk.t23, base0, base1, base2, base3, Option.isNone_none, Option.isNone_some, Nat.reduceBEq, true_or, or_true, false_or, or_false, Nat.reduceLT, Nat.reduceMod, Nat.reducePow, rmaps, nsucc, List.flatten_cons, List.flatten_nil, Nat.reduceEqDiff, Nat.reduceLeDiff, Nat.reduceAdd, Nat.reduceMul, Nat.reduceSub, ↓reduceIte, reduceCtorEq, decide_true, decide_false]
          refine ⟨_, by omega, k / 256, [UInt8.ofNat k], rfl, by omega, hst, ?_⟩
          (repeat' apply And.intro) <;> first | rfl | exact .inr ⟨_, rfl, by simp⟩
        · simp only [h3, iv, show decide ((k : Int) > 0) = true from decide_eq_true (by omega), wrapU8, byV_ofNat, byV_cells, shr8n, List.length_map, hz, room2 (show L.length ≤ 1000000 by omega), f4, hds, Cd.cd23, Tk.t23, base0, base1, base2, base3, Option.isNone_none, Option.isNone_some, Nat.reduceBEq, true_or, or_true, false_or, or_false, Nat.reduceLT, Nat.reduceMod, Nat.reducePow, rmaps, nsucc, List.flatten_cons, List.flatten_nil, Nat.reduceEqDiff, Nat.reduceLeDiff, Nat.reduceAdd, Nat.reduceMul, Nat.reduceSub, ↓reduceIte, reduceCtorEq, decide_true, decide_false]
          refine ⟨_, by omega, k / 256, UInt8.ofNat k :: L, rfl, by omega, hst, ?_⟩
          (repeat' apply And.intro) <;> first | rfl | exact .inr ⟨_, rfl, by simp⟩
      · obtain rfl : k = 0 := by omega
        have hL' : L = (lowB n).reverse := by rw [← hL]; rfl
        rcases hA with ⟨rfl, h3⟩ | ⟨tip, h3, hz⟩
        · have h0 := congrArg List.length hL'
          simp only [List.length_nil, List.length_reverse] at h0; omega
        · have hB : bytesA ([byV (UInt8.ofNat (128 + L.length))] :: L.map byR) = some (UInt8.ofNat (128 + L.length) :: L) := bytesA_map (UInt8.ofNat (128 + L.length) :: L)
          have h128 : IntKind.u8.wrap (IntKind.i64.wrap (128 + (L.length : Int))) = ((UInt8.ofNat (128 + L.length)).toNat : Int) := by rw [wrapI (by omega) (by omega), ← wrapU8]; congr 1
          simp only [h3, iv, show decide (((0 : Nat) : Int) > 0) = false from rfl, List.length_map, h128, byV_ofNat, byV_cells, hB, isB84, hz, room2 (show L.length ≤ 1000000 by omega), f4, hds, Cd.cd23, Tk.t23, base0, base1, base2, base3, Option.isNone_none, Option.isNone_some, Nat.reduceBEq, true_or, or_true, false_or, or_false, Nat.reduceLT, Nat.reduceMod, Nat.reducePow, rmaps, nsucc, List.flatten_cons, List.flatten_nil, Nat.reduceEqDiff, Nat.reduceLeDiff, Nat.reduceAdd, Nat.reduceMul, Nat.reduceSub, ↓reduceIte, reduceCtorEq, decide_true, decide_false]
          refine fin_v ?_
          rw [← hR, ← hL', hL', List.length_reverse]

def tagV (c n : Nat) : AV := .agg [iv c, iv n]

def rest21 : CC := dropS 2 Cd.cd21
end Go.Proofs.Ytmjjfdppaomcfaa

/- Walks: lengths in at least so many octets; the program's identifiers; the law of writing. -/
namespace Go.Proofs.Ytmjjfdppaomcfaa
open Go Go.Proofs.Ytmjjfdppaomcfaa.Ab
set_option maxRecDepth 100000
set_option linter.unusedSimpArgs false

theorem size_mk (l : List UInt8) : (⟨l.toArray⟩ : ByteArray).size = l.length := by simp [ByteArray.size]
theorem get0_mk (x : UInt8) (l : List UInt8) : (⟨(x :: l).toArray⟩ : ByteArray)[0]? = some x := by
  rw [getElem?_pos _ 0 (by rw [size_mk]; simp)]; rfl
theorem ext1_mk (x : UInt8) (l : List UInt8) : (⟨(x :: l).toArray⟩ : ByteArray).extract 1 (l.length + 1) = ⟨l.toArray⟩ := by
  apply ByteArray.ext
  simp [ByteArray.extract, ByteArray.copySlice]
theorem lowB_small {n : Nat} (h : n < 128) : padB (lowB n) 1 = [UInt8.ofNat n] := by
  rcases Nat.eq_zero_or_pos n with rfl | hp
  · rfl
  · rw [lowB_step hp, show n / 256 = 0 from by omega]; rfl
theorem lenL_small {n o : Nat} (h1 : 1 ≤ o) (h : o ≤ (lengthL n 1).length) : lengthL n o = lengthL n 1 := by
  by_cases hn : n < 128
  · have : o = 1 := by unfold lengthL at h; rw [if_pos ⟨hn, rfl⟩] at h; simp at h; omega
    rw [this]
  · unfold lengthL at h ⊢
    rw [if_neg (fun e => hn e.1)] at h ⊢
    rw [if_neg (fun e => hn e.1)]
    have h0 : 1 ≤ (lowB n).length := by rw [lowB_step (by omega)]; simp
    have e1 : padB (lowB n) (max 1 (1 - 1)) = lowB n := padB_done (by omega)
    rw [e1] at h
    simp only [List.length_cons, List.length_reverse] at h
    have e2 : padB (lowB n) (max 1 (o - 1)) = lowB n := padB_done (by omega)
    rw [e1, e2]
theorem lenL_len {n j : Nat} (hj : 1 ≤ j) (h : (lengthL n 1).length ≤ j) : (lengthL n j).length = j := by
  by_cases hn : n < 128
  · unfold lengthL
    split
    · rename_i h2; simp [h2.2]
    · rename_i h2
      have : (lowB n).length ≤ 1 := lowB_len 1 n (by omega)
      simp [padB_len]; omega
  · unfold lengthL at h ⊢
    rw [if_neg (fun e => hn e.1)] at h ⊢
    have h0 : 1 ≤ (lowB n).length := by rw [lowB_step (by omega)]; simp
    simp [padB_len] at h ⊢; omega
theorem lenL_pos (n o : Nat) : 1 ≤ (lengthL n o).length := by unfold lengthL; split <;> simp
theorem lenL_next {n j : Nat} (hj : 2 ≤ j) (h : (lengthL n 1).length ≤ j) : ∃ X : List UInt8, X.length + 1 = j ∧ lengthL n j = UInt8.ofNat (128 + X.length) :: X ∧ lengthL n (j + 1) = UInt8.ofNat (128 + j) :: 0 :: X := by
  have hl := lenL_len (show 1 ≤ j by omega) h
  have hc : ∀ o, 2 ≤ o → ¬ (n < 128 ∧ o = 1) := fun o ho e => by omega
  unfold lengthL at hl ⊢
  rw [if_neg (hc j hj)] at hl ⊢
  rw [if_neg (hc (j + 1) (by omega))]
  simp only [List.length_cons, List.length_reverse] at hl
  have e1 : max 1 (j - 1) = j - 1 := by omega
  have e2 : max 1 (j + 1 - 1) = j := by omega
  rw [e1] at hl ⊢
  rw [e2]
  have hle : (lowB n).length ≤ j - 1 := by rw [padB_len] at hl; omega
  have e3 : padB (lowB n) j = padB (lowB n) (j - 1) ++ [0] := by
    unfold padB
    rw [show j - (lowB n).length = (j - 1 - (lowB n).length) + 1 from by omega, List.replicate_succ', List.append_assoc]
  refine ⟨(padB (lowB n) (j - 1)).reverse, by simp; omega, by simp, ?_⟩
  rw [e3]; simp only [List.length_append, List.length_cons, List.length_nil, padB_len, List.reverse_append, List.reverse_cons, List.reverse_nil, List.nil_append, List.cons_append]
  congr 2; omega
theorem u8next (k : Nat) : IntKind.u8.wrap (((UInt8.ofNat (128 + k)).toNat : Int) + 1) = ((UInt8.ofNat (128 + (k + 1))).toNat : Int) := by
  simp [IntKind.wrap, IntKind.bits, IntKind.signed]; omega

def rest69 : CC := dropS 2 Cd.cd69
set_option maxHeartbeats 1000000 in
theorem lengthOf69 (n o : Nat) (hn : n ≤ 1000000) (h1 : 1 ≤ o) (h2 : o ≤ 1000000) : FCall Try.prog 69 [iv n, iv o] (· = .v (.string (lengthB n o))) := by
  have hlp := lenL_pos n 1
  refine ACall.enter [] Cd.fn69 (by simp) ?_
  simp only [iv, Cd.cd69, Tk.t69, base0, base1, base2, base3, Option.isNone_none, Option.isNone_some, Nat.reduceBEq, true_or, or_true, false_or, or_false, Nat.reduceLT, Nat.reduceMod, Nat.reducePow, rmaps, nsucc, List.flatten_cons, List.flatten_nil, Nat.reduceEqDiff, Nat.reduceLeDiff, Nat.reduceAdd, Nat.reduceMul, Nat.reduceSub, ↓reduceIte, reduceCtorEq, decide_true, decide_false]
  first | refine FCall.go (length23 n hn) (FZs.one (FZ.v _)) ?_ | refine FCall.go' (length23 n hn) (FZs.one (FZ.v _)) ?_ | refine FCall.goQ (length23 n hn) (FZs.one (FZ.v _)) ?_
  simp only [iv, Cd.cd69, Tk.t69, base0, base1, base2, base3, Option.isNone_none, Option.isNone_some, Nat.reduceBEq, true_or, or_true, false_or, or_false, Nat.reduceLT, Nat.reduceMod, Nat.reducePow, rmaps, nsucc, List.flatten_cons, List.flatten_nil, Nat.reduceEqDiff, Nat.reduceLeDiff, Nat.reduceAdd, Nat.reduceMul, Nat.reduceSub, ↓reduceIte, reduceCtorEq, decide_true, decide_false]
  have hl1 : (lengthL n 1).length ≤ 5 := by
    have := lowB_len 3 n (by omega)
    unfold lengthL; split
    · simp
    · simp [padB_len]; omega
  refine LWP.loop [] (fun m f H' => ∃ j, m = o - j ∧ ((lengthL n 1).length ≤ j) ∧ (j ≤ max (lengthL n 1).length o) ∧ f.t 1 = iv o ∧ f.t 5 = .v (.string (lengthB n j)) ∧ f.ds = [] ∧ H' = AH.none) ?_ ?_ (m := o - ((lengthL n 1).length))
  · exact ⟨(lengthL n 1).length, rfl, (Nat.le_refl _), (by omega), rfl, by simp only [upd, lengthB]; rw [lenL_small (by omega) (Nat.le_refl _)]; rfl, rfl, rfl⟩
  · rintro m f H' ⟨j, rfl, hj, hjo, f1, f5, hds, rfl⟩
    have hlen := lenL_len (n := n) (j := j) (by omega) hj
    have hsz : (lengthB n j).size = j := by unfold lengthB; rw [size_mk, hlen]
    by_cases hlt : j < o
    · by_cases hj1 : j = 1
      · subst hj1
        have hn128 : n < 128 := by
          apply Classical.byContradiction
          intro hc
          unfold lengthL at hj
          rw [if_neg (fun e => hc e.1)] at hj
          have h0 : 1 ≤ (lowB n).length := by rw [lowB_step (by omega)]; simp
          simp [padB_len] at hj <;> omega
        have hc : astr .add ⟨#[129]⟩ (lengthB n 1) = some (.string (lengthB n 2)) := by
          rw [sadd (by rw [hsz]; simp [ByteArray.size])]
          have e := bcat [129] (lengthL n 1)
          have e2 : [129] ++ lengthL n 1 = lengthL n 2 := by
            unfold lengthL
            rw [if_pos ⟨hn128, rfl⟩, if_neg (fun e => by omega)]
            rw [show max 1 (2 - 1) = 1 from rfl, lowB_small hn128]; rfl
          rw [e2] at e
          exact congrArg (fun x => some (Value.string x)) e
        have hB : bytesA [[.v (.int .u8 129)]] = some [129] := by decide
        simp only [hsz, iv, show decide (((1 : Nat) : Int) < (o : Int)) = true from decide_eq_true (by omega), show (((1 : Nat) : Int) == 1) = true from rfl, hB, isB84, hc, f1, f5, hds, Cd.cd69, Tk.t69, base0, base1, base2, base3, Option.isNone_none, Option.isNone_some, Nat.reduceBEq, true_or, or_true, false_or, or_false, Nat.reduceLT, Nat.reduceMod, Nat.reducePow, rmaps, nsucc, List.flatten_cons, List.flatten_nil, Nat.reduceEqDiff, Nat.reduceLeDiff, Nat.reduceAdd, Nat.reduceMul, Nat.reduceSub, ↓reduceIte, reduceCtorEq, decide_true, decide_false]
        exact ⟨_, by omega, 2, rfl, by omega, by omega, rfl⟩
      · obtain ⟨X, x1, x2, x3⟩ := lenL_next (n := n) (j := j) (by omega) hj
        have hbj : lengthB n j = ⟨(UInt8.ofNat (128 + X.length) :: X).toArray⟩ := by unfold lengthB; rw [x2]
        have hc : astr .add ⟨#[UInt8.ofNat (128 + j), 0]⟩ ⟨X.toArray⟩ = some (.string (lengthB n (j + 1))) := by
          rw [sadd (by rw [size_mk]; simp [ByteArray.size]; omega)]
          have e := bcat [UInt8.ofNat (128 + j), 0] X
          rw [show [UInt8.ofNat (128 + j), 0] ++ X = lengthL n (j + 1) from by rw [x3]; rfl] at e
          exact congrArg (fun x => some (Value.string x)) e
        have hB : bytesA [[.v (.int .u8 ((UInt8.ofNat (128 + j)).toNat : Int))], [.v (.int .u8 0)]] = some [UInt8.ofNat (128 + j), 0] := bytesA_map [UInt8.ofNat (128 + j), 0]
        have hnx : IntKind.u8.wrap (((UInt8.ofNat (128 + X.length)).toNat : Int) + 1) = ((UInt8.ofNat (128 + j)).toNat : Int) := by rw [u8next, x1]
        have hex : (⟨(UInt8.ofNat (128 + X.length) :: X).toArray⟩ : ByteArray).extract 1 j = ⟨X.toArray⟩ := by rw [← x1]; exact ext1_mk _ _
        have hsz2 : (⟨(UInt8.ofNat (128 + X.length) :: X).toArray⟩ : ByteArray).size = X.length + 1 := by rw [size_mk]; rfl
        simp only [hbj, hsz2, x1, iv, show decide ((j : Int) < (o : Int)) = true from decide_eq_true (by omega), show ((j : Int) == 1) = false from beqF (by omega), get0_mk, hex, hnx, show Int.toNat 0 = 0 from rfl, show Int.toNat 1 = 1 from rfl, show ((0 : Int) ≤ 0) = True from by simp, show ((0 : Int) ≤ 1) = True from by simp, show ((1 : Int) ≤ (j : Int)) = True from by simp; omega, Option.map_some, hB, isB84, hc, f1, f5, hds, Cd.cd69, Tk.t69, base0, base1, base2, base3, Option.isNone_none, Option.isNone_some, Nat.reduceBEq, true_or, or_true, false_or, or_false, Nat.reduceLT, Nat.reduceMod, Nat.reducePow, rmaps, nsucc, List.flatten_cons, List.flatten_nil, Nat.reduceEqDiff, Nat.reduceLeDiff, Nat.reduceAdd, Nat.reduceMul, Nat.reduceSub, ↓reduceIte, reduceCtorEq, decide_true, decide_false]
        exact ⟨_, by omega, j + 1, rfl, by omega, by omega, rfl⟩
    · simp only [hsz, iv, show decide ((j : Int) < (o : Int)) = false from decide_eq_false (by omega), f1, f5, hds, Cd.cd69, Tk.t69, base0, base1, base2, base3, Option.isNone_none, Option.isNone_some, Nat.reduceBEq, true_or, or_true, false_or, or_false, Nat.reduceLT, Nat.reduceMod, Nat.reducePow, rmaps, nsucc, List.flatten_cons, List.flatten_nil, Nat.reduceEqDiff, Nat.reduceLeDiff, Nat.reduceAdd, Nat.reduceMul, Nat.reduceSub, ↓reduceIte, reduceCtorEq, decide_true, decide_false]
      refine fin_v ?_
      by_cases ho : o ≤ (lengthL n 1).length
      · have : j = (lengthL n 1).length := by omega
        subst this
        unfold lengthB
        rw [lenL_small h1 ho, lenL_small (by omega) (Nat.le_refl _)]
      · rw [show j = o from by omega]
end Go.Proofs.Ytmjjfdppaomcfaa

/- Walks: the program's identifiers and lengths; the law of writing. -/
namespace Go.Proofs.Ytmjjfdppaomcfaa
open Go Go.Proofs.Ytmjjfdppaomcfaa.Ab
set_option maxRecDepth 100000
set_option linter.unusedSimpArgs false

def rest47 : CC := dropS 3 Cd.cd47
/-- the shortest octets of an identifier, or the error -/
def identOf (c n : Int) (bl : Bool) : ByteArray × Int := if 0 ≤ c ∧ c < 4 ∧ 0 ≤ n ∧ n ≤ 268435456 then (identB c.toNat n.toNat bl, 0) else (⟨#[]⟩, 3)
def lengthOf (n : Int) : ByteArray × Int := if 0 ≤ n ∧ n ≤ 4000 then (lengthB n.toNat 1, 0) else (⟨#[]⟩, 3)
theorem astr_eqs (x : ByteArray) : astr .eql x x = some (.bool true) := by simp [astr]
theorem FZ.tag (c n : Int) : FZ (.agg [.v (.int .i64 c), .v (.int .i64 n)]) := FZ.agg (FZs.cons (FZ.v _) (FZs.one (FZ.v _)))

end Go.Proofs.Ytmjjfdppaomcfaa

/- Walks: the law of writing. -/
namespace Go.Proofs.Ytmjjfdppaomcfaa
open Go Go.Proofs.Ytmjjfdppaomcfaa.Ab
set_option maxRecDepth 100000
set_option linter.unusedSimpArgs false

def rest5 : CC := dropS 4 Cd.cd5
end Go.Proofs.Ytmjjfdppaomcfaa

/- Plain: the node at a path by its index; bytes around a node. -/
namespace Go.Proofs.Ytmjjfdppaomcfaa
open Go Go.Proofs.Ytmjjfdppaomcfaa.Ab

theorem okT_deep {b : ByteArray} {D : Nat} {t : Tree} (h : okT b D t) : t.h.deep = D ∧ D ≤ 15 := by
  obtain ⟨h', k⟩ := t
  simp only [okT] at h
  exact h.1
theorem okT_leaf {b : ByteArray} {D : Nat} {t : Tree} (h : okT b D t) (hb : t.h.built = false) : t.kids = [] := by
  obtain ⟨h', k⟩ := t
  simp only [okT] at h
  exact h.2.2.2.2.2.2.2.2.2.1 hb
theorem okT_ident {b : ByteArray} {D : Nat} {t : Tree} (h : okT b D t) : ident b t.h.frm b.size = .ok (t.h.cls, t.h.num, t.h.built, t.h.len) := by
  obtain ⟨h', k⟩ := t
  simp only [okT] at h
  exact h.2.2.2.2.2.2.1
theorem okT_fin {b : ByteArray} {D : Nat} {t : Tree} (h : okT b D t) : t.h.fin = t.h.stop + (if t.h.opn then 2 else 0) := by
  obtain ⟨h', k⟩ := t
  simp only [okT] at h
  exact h.2.2.2.2.1

def findN : Nat → List Tree → List Int → Option Nat
  | _, _, [] => none
  | s, l, p :: r => if 0 ≤ p ∧ p < (l.length : Int) then (if r = [] then some ((kidIx s l).getD p.toNat 0) else findN ((kidIx s l).getD p.toNat 0 + 1) (l.getD p.toNat default).kids r) else none
theorem findN_findP {b : ByteArray} {S : List Tree} : ∀ {path : List Int} {l : List Tree} {s D p q : Nat}, AtL b S s D p q l → (findP l path = none ∧ findN s l path = none) ∨ ∃ x ys i E, findP l path = some (x, ys) ∧ findN s l path = some i ∧ AtT b S i E x
  | [], l, s, D, p, q, h => .inl ⟨rfl, rfl⟩
  | a :: r, l, s, D, p, q, h => by
    simp only [findP, findN]
    by_cases ha : 0 ≤ a ∧ a < (l.length : Int)
    · rw [if_pos ha, if_pos ha]
      have hg := h.get a.toNat (by omega)
      generalize (kidIx s l).getD a.toNat 0 = i at hg
      generalize l.getD a.toNat default = t at hg
      by_cases hr : r = []
      · rw [if_pos hr, if_pos hr]
        exact .inr ⟨t, [], i, D, rfl, rfl, hg⟩
      · rw [if_neg hr, if_neg hr]
        cases hb : t.h.built with
        | true =>
          rcases findN_findP (path := r) (hg.kids hb) with ⟨e1, e2⟩ | ⟨x, ys, j, E, e1, e2, e3⟩
          · rw [e1, e2]; exact .inl ⟨rfl, rfl⟩
          · rw [e1, e2]; exact .inr ⟨x, _, j, E, rfl, rfl, e3⟩
        | false =>
          have hk := okT_leaf hg.ok hb
          rw [hk]
          cases r with
          | nil => exact absurd rfl hr
          | cons c r =>
            have e1 : findP [] (c :: r) = none := by simp only [findP]; rw [if_neg (by simp <;> omega)]
            have e2 : findN (i + 1) [] (c :: r) = none := by simp only [findN]; rw [if_neg (by simp <;> omega)]
            rw [e1, e2]; exact .inl ⟨rfl, rfl⟩
    · rw [if_neg ha, if_neg ha]; exact .inl ⟨rfl, rfl⟩

/-- a constructed node with another content -/
def againB (b : ByteArray) (x : Hd) (c : ByteArray) : ByteArray :=
  if x.opn then b.extract x.frm x.body ++ c ++ b.extract x.stop x.fin else b.extract x.frm x.len ++ lengthB c.size (x.body - x.len) ++ c
def partA (b : ByteArray) (p : Int) (mid : Tree → ByteArray) : Nat → List Tree → ByteArray
  | _, [] => ⟨#[]⟩
  | i, t :: l => (if (i : Int) ≠ p then b.extract t.h.frm t.h.fin else mid t) ++ partA b p mid (i + 1) l
def aroundT (b by_ : ByteArray) : List Int → List Tree → ByteArray
  | [], _ => ⟨#[]⟩
  | p :: r, l => partA b p (fun t => if r = [] then by_ else againB b t.h (aroundT b by_ r t.kids)) 0 l

theorem ext_ext (b : ByteArray) {i j k : Nat} (h1 : i ≤ j) (h2 : j ≤ k) : b.extract i j ++ b.extract j k = b.extract i k := by
  rw [ByteArray.extract_append_extract, Nat.min_eq_left h1, Nat.max_eq_right h2]
theorem ext_self (b : ByteArray) (i : Nat) : b.extract i i = ⟨#[]⟩ := by
  rw [bnil, ByteArray.size_extract]; omega
theorem app_nil (x : ByteArray) : x ++ ⟨#[]⟩ = x := by apply ByteArray.ext; simp
theorem nil_app (x : ByteArray) : ⟨#[]⟩ ++ x = x := by apply ByteArray.ext; simp
theorem partA_out {b : ByteArray} {D q : Nat} {p : Int} {mid : Tree → ByteArray} : ∀ {l : List Tree} {i s : Nat}, okTs b D s q l → (p < i ∨ i + l.length ≤ p) → partA b p mid i l = b.extract s q
  | [], i, s, h, hp => by simp only [okTs] at h; subst h; rw [ext_self]; rfl
  | t :: l, i, s, h, hp => by
    simp only [okTs] at h
    have h1 := okT_lt h.2.1
    have h2 := okTs_le h.2.2
    simp only [List.length_cons] at hp
    rw [partA, if_pos (by omega), partA_out h.2.2 (by omega), ← h.1, ext_ext b (by omega) h2]
theorem partA_in {b : ByteArray} {D q : Nat} {p : Int} {mid : Tree → ByteArray} : ∀ {l : List Tree} {i s j : Nat}, okTs b D s q l → p = i + j → j < l.length → partA b p mid i l = b.extract s (l.getD j default).h.frm ++ mid (l.getD j default) ++ b.extract (l.getD j default).h.fin q
  | [], i, s, j, h, hp, hj => by simp at hj
  | t :: l, i, s, 0, h, hp, hj => by
    simp only [okTs] at h
    rw [partA, if_neg (by omega), partA_out h.2.2 (by omega), List.getD_cons_zero, h.1, ext_self, nil_app]
  | t :: l, i, s, j + 1, h, hp, hj => by
    simp only [okTs] at h
    have h1 := okT_lt h.2.1
    have hg := okTs_get h.2.2 j (by simpa using hj)
    rw [partA, if_pos (by omega), partA_in (j := j) h.2.2 (by omega) (by simpa using hj), List.getD_cons_succ, ← ByteArray.append_assoc, ← ByteArray.append_assoc, ← h.1, ext_ext b (by omega) hg.2.1]

def replF (b : ByteArray) : List Hd → Nat → Nat → ByteArray → Nat × Nat × ByteArray
  | [], p, q, out => (p, q, out)
  | y :: r, p, q, out => replF b r y.frm y.fin (replStep b y p q out)
theorem replF_snoc (b : ByteArray) (y : Hd) : ∀ (m : List Hd) (p q : Nat) (out : ByteArray), replF b (m ++ [y]) p q out = (y.frm, y.fin, replStep b y (replF b m p q out).1 (replF b m p q out).2.1 (replF b m p q out).2.2)
  | [], p, q, out => rfl
  | z :: m, p, q, out => by rw [List.cons_append, replF, replF_snoc b y m]; rfl
theorem replA_F (b : ByteArray) : ∀ (m : List Hd) (p q : Nat) (out : ByteArray), replA b m p q out = b.extract 0 (replF b m p q out).1 ++ (replF b m p q out).2.2 ++ b.extract (replF b m p q out).2.1 b.size
  | [], p, q, out => rfl
  | z :: m, p, q, out => by rw [replA, replA_F b m]; rfl
theorem again_step {b : ByteArray} {D : Nat} {t : Tree} (h : okT b D t) (p q : Nat) (out : ByteArray) : againB b t.h (b.extract t.h.body p ++ out ++ b.extract q t.h.stop) = replStep b t.h p q out := by
  have h1 := okT_in h
  have h2 := okT_fin h
  unfold againB replStep
  cases ho : t.h.opn with
  | true => simp only [if_true]; rw [ext_ext b h1.1 (by omega)]
  | false =>
    rw [ho] at h2
    simp only [Bool.false_eq_true, if_false, Nat.add_zero] at h2 ⊢
    rw [h2, ext_self, app_nil]
theorem around_eq {b by_ : ByteArray} : ∀ {path : List Int} {l : List Tree} {D s e : Nat} {x : Tree} {ys : List Tree}, okTs b D s e l → findP l path = some (x, ys) →
    aroundT b by_ path l = b.extract s (replF b (ys.map Tree.h).reverse x.h.frm x.h.fin by_).1 ++ (replF b (ys.map Tree.h).reverse x.h.frm x.h.fin by_).2.2 ++ b.extract (replF b (ys.map Tree.h).reverse x.h.frm x.h.fin by_).2.1 e
  | [], l, D, s, e, x, ys, ho, h => by cases h
  | p :: r, l, D, s, e, x, ys, ho, h => by
    simp only [findP] at h
    split at h
    · rename_i hp
      have hg := okTs_get ho p.toNat (by omega)
      rw [aroundT, partA_in (j := p.toNat) ho (by omega) (by omega)]
      split at h
      · rename_i hr
        cases h
        rw [if_pos hr]; rfl
      · rename_i hr
        rw [if_neg hr]
        split at h
        · rename_i x' ys' he
          cases h
          have hk := okT_kids hg.1 (findP_kids he)
          rw [around_eq hk he, again_step hg.1, List.map_cons, List.reverse_cons, replF_snoc]
        · cases h
    · cases h
theorem around_replA {b by_ : ByteArray} {path : List Int} {l : List Tree} {x : Tree} {ys : List Tree} (ho : okTs b 0 0 b.size l) (h : findP l path = some (x, ys)) : aroundT b by_ path l = replA b (ys.map Tree.h).reverse x.h.frm x.h.fin by_ := by
  rw [around_eq ho h, replA_F]
theorem aroundT_size {b by_ : ByteArray} (hb : b.size ≤ 4000) (hy : by_.size ≤ 4050) : ∀ {path : List Int} {l : List Tree} {D s e : Nat} {x : Tree} {ys : List Tree}, path.length ≤ 20 → okTs b D s e l → e ≤ b.size → findP l path = some (x, ys) → (aroundT b by_ path l).size ≤ 10000 + path.length * 21000
  | [], l, D, s, e, x, ys, hl, ho, hee, h => by cases h
  | p :: r, l, D, s, e, x, ys, hl, ho, hee, h => by
    simp only [findP] at h
    split at h
    · rename_i hp
      have hg := okTs_get ho p.toNat (by omega)
      rw [aroundT, partA_in (j := p.toNat) ho (by omega) (by omega)]
      generalize l.getD p.toNat default = t at hg h
      have hi := okT_in hg.1
      have e1 : (b.extract s t.h.frm).size ≤ 4000 := by rw [ByteArray.size_extract]; omega
      have e2 : (b.extract t.h.fin e).size ≤ 4000 := by rw [ByteArray.size_extract]; omega
      simp only [ByteArray.size_append, List.length_cons] at hl ⊢
      split at h
      · rename_i hr
        rw [if_pos hr]; omega
      · rename_i hr
        rw [if_neg hr]
        split at h
        · rename_i x' ys' he
          cases h
          have hk := okT_kids hg.1 (findP_kids he)
          have ih := aroundT_size hb hy (path := r) (by omega) hk (by omega) he
          have hlb := lengthB_size (aroundT b by_ r t.kids).size (t.h.body - t.h.len) (by omega)
          generalize aroundT b by_ r t.kids = c at ih hlb
          have : (againB b t.h c).size ≤ c.size + 13000 := by
            unfold againB
            split <;> simp only [ByteArray.size_append, ByteArray.size_extract] <;> omega
          omega
        · cases h
    · cases h
end Go.Proofs.Ytmjjfdppaomcfaa

/- Walks: the reference looks for a node, and puts bytes in its place. -/
namespace Go.Proofs.Ytmjjfdppaomcfaa
open Go Go.Proofs.Ytmjjfdppaomcfaa.Ab
set_option maxRecDepth 100000
set_option linter.unusedSimpArgs false

theorem fin_fz {H' : AH} {v w : AV} (h : FZ v) (hw : v = w) : ∃ x x', AOut.ret v = .ret x ∧ View H' x x' ∧ FZ x' ∧ x' = w := by
  subst hw; exact ⟨_, _, rfl, h.view, h, rfl⟩
theorem FZ.idT (c n : Nat) (bl : Bool) (p : Nat) : FZ (.tup [tagV c n, .v (.bool bl), iv p]) := FZ.tup (FZs.cons (FZ.tag _ _) (FZs.cons (FZ.v _) (FZs.one (FZ.v _))))
set_option maxHeartbeats 1000000 in
theorem fident57 (b : ByteArray) (hb : b.size ≤ 4000) (L : List Hd) (at_ lim c0 n0 q0 : Nat) (bl0 : Bool) (hl : lim ≤ b.size) (hid : ident b at_ lim = .ok (c0, n0, bl0, q0)) :
    FCall Try.prog 57 [walkV b L, iv at_, iv lim] (· = .tup [tagV c0 n0, .v (.bool bl0), iv q0]) := by
  have h : at_ < lim := by
    apply Classical.byContradiction
    intro hn
    unfold ident at hid; rw [if_neg hn] at hid; cases hid
  unfold ident at hid
  rw [if_pos h] at hid
  have hc := bt_lt b at_
  refine ACall.enter [] Cd.fn57 (by simp) ?_
  simp only [walkV, wL, iv, show decide ((at_ : Int) ≥ (lim : Int)) = false from decide_eq_false (by omega), Int.toNat_natCast, sget (s := b) (i := at_) (by omega), Int.natCast_nonneg, lt60, wrapN (show bt b at_ < 2 ^ 62 by omega), shr6i hc, and31i hc, and32i hc, wrapS (show at_ < 2 ^ 62 by omega), Cd.cd57, Tk.t57, base0, base1, base2, base3, Option.isNone_none, Option.isNone_some, Nat.reduceBEq, true_or, or_true, false_or, or_false, Nat.reduceLT, Nat.reduceMod, Nat.reducePow, rmaps, nsucc, List.flatten_cons, List.flatten_nil, Nat.reduceEqDiff, Nat.reduceLeDiff, Nat.reduceAdd, Nat.reduceMul, Nat.reduceSub, ↓reduceIte, reduceCtorEq, decide_true, decide_false]
  by_cases h31 : bt b at_ % 32 < 31
  · rw [if_pos h31] at hid
    cases hid
    simp only [show decide (((bt b at_ % 32 : Nat) : Int) < 31) = true from decide_eq_true (by omega), Cd.cd57, Tk.t57, base0, base1, base2, base3, Option.isNone_none, Option.isNone_some, Nat.reduceBEq, true_or, or_true, false_or, or_false, Nat.reduceLT, Nat.reduceMod, Nat.reducePow, rmaps, nsucc, List.flatten_cons, List.flatten_nil, Nat.reduceEqDiff, Nat.reduceLeDiff, Nat.reduceAdd, Nat.reduceMul, Nat.reduceSub, ↓reduceIte, reduceCtorEq, decide_true, decide_false]
    exact fin_fz (FZ.idT _ _ _ _) rfl
  · rw [if_neg h31] at hid
    simp only [show decide (((bt b at_ % 32 : Nat) : Int) < 31) = false from decide_eq_false (by omega), Cd.cd57, Tk.t57, base0, base1, base2, base3, Option.isNone_none, Option.isNone_some, Nat.reduceBEq, true_or, or_true, false_or, or_false, Nat.reduceLT, Nat.reduceMod, Nat.reducePow, rmaps, nsucc, List.flatten_cons, List.flatten_nil, Nat.reduceEqDiff, Nat.reduceLeDiff, Nat.reduceAdd, Nat.reduceMul, Nat.reduceSub, ↓reduceIte, reduceCtorEq, decide_true, decide_false]
    generalize hT : tagL b lim (lim - (at_ + 1)) (at_ + 1) 0 = T at hid
    obtain ⟨n1, hn1⟩ : ∃ n1, n1 = AH.none.next := ⟨_, rfl⟩
    refine LWP.loop [] (fun m f H' => ∃ p k num, m = lim - p ∧ (lim - p ≤ k) ∧ (p ≤ lim) ∧ (num ≤ 268435456) ∧ (tagL b lim k p num = T) ∧ f.t 0 = walkV b L ∧ f.t 1 = .v (.int .i64 (p : Nat)) ∧ f.t 2 = .v (.int .i64 (lim : Nat)) ∧ f.t 6 = .ptr n1 0 ∧ f.t 11 = .v (.bool (bt b at_ / 32 % 2 == 1)) ∧ f.t 10 = .ptr (n1 + 1) 0 ∧ f.ds = [] ∧ H'.own (n1 + 1) = some (.cells [.v (.int .i64 (bt b at_ / 64 : Nat)), .v (.int .i64 (num : Nat))]) ∧ H'.own n1 = some (.cells [.v (.int .i64 0), .v (.int .i64 0)])) ?_ ?_ (m := lim - (at_ + 1))
    · exact ⟨at_ + 1, lim - (at_ + 1), 0, rfl, (by omega), (by omega), (by omega), (hT), rfl, rfl, rfl, by rw [hn1]; rfl, rfl, by rw [hn1]; rfl, rfl, ⟨by simp [hn1], by simp [hn1]⟩⟩
    · rintro m f H' ⟨p, k, num, rfl, hk, hp, hnum, hT, f0, f1, f2, f6, f11, f10, hds, ⟨h2,h1⟩⟩
      have m2 : (n1 = n1 + 1) = False := eq_false (by omega)
      have m3 : (n1 + 1 = n1) = False := eq_false (by omega)
      by_cases hpl : p < lim
      rotate_left
      · rw [tagL_end hpl] at hT
        subst hT; cases hid
      · have hcp := bt_lt b p
        obtain ⟨k, rfl⟩ : ∃ k', k = k' + 1 := ⟨k - 1, by omega⟩
        simp only [tagL, if_pos hpl] at hT
        simp only [walkV, wL, iv, show decide ((p : Int) ≥ (lim : Int)) = false from decide_eq_false (by omega), h2, m2, m3, Int.toNat_natCast, sget (s := b) (i := p) (by omega), Int.natCast_nonneg, wrapN (show bt b p < 2 ^ 62 by omega), and127i hcp, show IntKind.i64.wrap (IntKind.i64.wrap ((num : Int) * 128) + ((bt b p % 128 : Nat) : Int)) = ((num * 128 + bt b p % 128 : Nat) : Int) from by rw [wrapI (x := (num : Int) * 128) (by omega) (by omega), wrapI (by omega) (by omega)]; omega, f0, f1, f2, f6, f11, f10, hds, Cd.cd57, Tk.t57, base0, base1, base2, base3, Option.isNone_none, Option.isNone_some, Nat.reduceBEq, true_or, or_true, false_or, or_false, Nat.reduceLT, Nat.reduceMod, Nat.reducePow, rmaps, nsucc, List.flatten_cons, List.flatten_nil, Nat.reduceEqDiff, Nat.reduceLeDiff, Nat.reduceAdd, Nat.reduceMul, Nat.reduceSub, ↓reduceIte, reduceCtorEq, decide_true, decide_false]
        generalize hM : num * 128 + bt b p % 128 = M at hT
        by_cases hov : 268435456 < M
        · rw [if_pos hov] at hT
          subst hT; cases hid
        rw [if_neg hov] at hT
        simp only [show decide (((M : Nat) : Int) > 268435456) = false from decide_eq_false (by omega), and128i hcp, wrapS (show p < 2 ^ 62 by omega), f0, f1, f2, f6, f11, f10, hds, Cd.cd57, Tk.t57, base0, base1, base2, base3, Option.isNone_none, Option.isNone_some, Nat.reduceBEq, true_or, or_true, false_or, or_false, Nat.reduceLT, Nat.reduceMod, Nat.reducePow, rmaps, nsucc, List.flatten_cons, List.flatten_nil, Nat.reduceEqDiff, Nat.reduceLeDiff, Nat.reduceAdd, Nat.reduceMul, Nat.reduceSub, ↓reduceIte, reduceCtorEq, decide_true, decide_false]
        by_cases h128 : bt b p < 128
        · rw [if_pos h128] at hT
          subst hT; cases hid
          simp only [h1, m2, m3, decide_eq_true h128, f0, f1, f2, f6, f11, f10, hds, Cd.cd57, Tk.t57, base0, base1, base2, base3, Option.isNone_none, Option.isNone_some, Nat.reduceBEq, true_or, or_true, false_or, or_false, Nat.reduceLT, Nat.reduceMod, Nat.reducePow, rmaps, nsucc, List.flatten_cons, List.flatten_nil, Nat.reduceEqDiff, Nat.reduceLeDiff, Nat.reduceAdd, Nat.reduceMul, Nat.reduceSub, ↓reduceIte, reduceCtorEq, decide_true, decide_false]
          exact fin_fz (FZ.idT _ _ _ _) rfl
        · rw [if_neg h128] at hT
          simp only [decide_eq_false h128, f0, f1, f2, f6, f11, f10, hds, Cd.cd57, Tk.t57, base0, base1, base2, base3, Option.isNone_none, Option.isNone_some, Nat.reduceBEq, true_or, or_true, false_or, or_false, Nat.reduceLT, Nat.reduceMod, Nat.reducePow, rmaps, nsucc, List.flatten_cons, List.flatten_nil, Nat.reduceEqDiff, Nat.reduceLeDiff, Nat.reduceAdd, Nat.reduceMul, Nat.reduceSub, ↓reduceIte, reduceCtorEq, decide_true, decide_false]
          refine ⟨_, by omega, p + 1, k, M, rfl, by omega, by omega, by omega, hT, ?_⟩
          (repeat' apply And.intro) <;> first | rfl | simp [m3, m2, h1]

section
variable {b : ByteArray} {l : List Tree} (hb : b.size ≤ 4000) (hwf : okTs b 0 0 b.size l) (hlen : (flatTs l).length ≤ 300)
theorem AtT.node {i D : Nat} {t : Tree} (h : AtT b (subTs l) i D t) : i < (flatTs l).length ∧ (flatTs l).getD i default = t.h := by
  obtain ⟨h1, h2⟩ := h.get
  rw [← subTs_map]
  refine ⟨by simpa using h1, ?_⟩
  rw [List.getD_eq_getElem?_getD, List.getElem?_map, List.getElem?_eq_getElem h1]
  rw [List.getD_eq_getElem?_getD, List.getElem?_eq_getElem h1] at h2
  simp only [Option.getD_some] at h2
  simp [h2]
include hb hlen in
theorem kidsAt {i D : Nat} {t : Tree} (h : AtT b (subTs l) i D t) : FCall Try.prog 45 [walkV b (flatTs l), iv i] (· = natsV (kidIx (i + 1) t.kids)) := by
  obtain ⟨h1, h2⟩ := h.node
  have hd := okT_deep h.ok
  have := kids45 b hb (flatTs l) (by omega) i h1 (by rw [h2]; omega)
  rw [h2] at this
  have hs := h.scan
  rw [List.map_drop, subTs_map] at hs
  rw [hs] at this
  exact this
include hb hwf hlen in
theorem kidsTop : FCall Try.prog 45 [walkV b (flatTs l), .v (.int .i64 (-1))] (· = natsV (kidIx 0 l)) := by
  have := kids45n b hb (flatTs l) (by omega)
  rw [scan_top hwf] at this
  exact this
end
def ixV : Option Nat → AV
  | some i => iv i
  | none => .v (.int .i64 (-1))
end Go.Proofs.Ytmjjfdppaomcfaa

/- Walks: the reference looks for a node at a path; constructed nodes again. -/
namespace Go.Proofs.Ytmjjfdppaomcfaa
open Go Go.Proofs.Ytmjjfdppaomcfaa.Ab
set_option maxRecDepth 100000
set_option linter.unusedSimpArgs false

/-- a node, or the whole: its number, where its kids begin, and they -/
def AtK (b : ByteArray) (l : List Tree) (a : Int) (s : Nat) (l' : List Tree) : Prop := (a = -1 ∧ s = 0 ∧ l' = l) ∨ ∃ (n D : Nat) (t : Tree), a = (n : Int) ∧ AtT b (subTs l) n D t ∧ t.h.built = true ∧ s = n + 1 ∧ l' = t.kids
theorem AtK.top (b : ByteArray) (l : List Tree) : AtK b l (-1) 0 l := .inl ⟨rfl, rfl, rfl⟩
theorem AtK.list {b : ByteArray} {l l' : List Tree} {a : Int} {s : Nat} (hwf : okTs b 0 0 b.size l) (h : AtK b l a s l') : ∃ D p q, q ≤ b.size ∧ AtL b (subTs l) s D p q l' := by
  rcases h with ⟨-, rfl, rfl⟩ | ⟨n, D, t, -, h1, h2, rfl, rfl⟩
  · exact ⟨_, _, _, Nat.le_refl _, AtL.all hwf⟩
  · have := okT_in h1.ok
    exact ⟨_, _, _, by omega, h1.kids h2⟩
section
variable {b : ByteArray} {l : List Tree} (hb : b.size ≤ 4000) (hwf : okTs b 0 0 b.size l) (hlen : (flatTs l).length ≤ 300)
include hb hwf hlen in
theorem kidsK {l' : List Tree} {a : Int} {s : Nat} (h : AtK b l a s l') : FCall Try.prog 45 [walkV b (flatTs l), .v (.int .i64 a)] (· = natsV (kidIx s l')) := by
  rcases h with ⟨rfl, rfl, rfl⟩ | ⟨n, D, t, rfl, h1, h2, rfl, rfl⟩
  · exact kidsTop hb hwf hlen
  · exact kidsAt hb hlen h1
theorem kidIx_le {b : ByteArray} {S : List Tree} {s D p q : Nat} {l : List Tree} (h : AtL b S s D p q l) (hS : S.length ≤ 300) : l.length ≤ 300 := by
  rcases Nat.eq_zero_or_pos l.length with h0 | h0
  · omega
  · obtain ⟨rest, h1, _, _⟩ := h
    have h2 := congrArg List.length h1
    have h3 := len_flatTs l
    have h4 := congrArg List.length (subTs_map l)
    simp only [List.length_drop, List.length_append, List.length_map] at h2 h4
    omega
theorem kidRow (s : Nat) (l : List Tree) (i : Nat) (h : i < l.length) : ((kidIx s l).map natR).getD i [] = [.v (.int .i64 (((kidIx s l).getD i 0 : Nat) : Int))] := by
  have := getDmap natR (kidIx s l) i (by rw [kidIx_length]; exact h)
  rw [this]; rfl
theorem findN_bad {s : Nat} {l : List Tree} {p : Int} {r : List Int} (h : ¬ (0 ≤ p ∧ p < (l.length : Int))) : findN s l (p :: r) = none := if_neg h

include hb hwf hlen in
set_option maxHeartbeats 1000000 in
theorem find29 (path : List Int) (hp : path.length ≤ 100) : FCall Try.prog 29 [walkV b (flatTs l), intsV path] (· = ixV (findN 0 l path)) := by
  have hsl : (subTs l).length ≤ 300 := by have := congrArg List.length (subTs_map l); simp only [List.length_map] at this; omega
  generalize hR : findN 0 l path = R
  refine ACall.enter [] Cd.fn29 (by simp) ?_
  simp only [intsV, List.length_map, Cd.cd29, Tk.t29, base0, base1, base2, base3, Option.isNone_none, Option.isNone_some, Nat.reduceBEq, true_or, or_true, false_or, or_false, Nat.reduceLT, Nat.reduceMod, Nat.reducePow, rmaps, nsucc, List.flatten_cons, List.flatten_nil, Nat.reduceEqDiff, Nat.reduceLeDiff, Nat.reduceAdd, Nat.reduceMul, Nat.reduceSub, ↓reduceIte, reduceCtorEq, decide_true, decide_false]
  refine LWP.loop [] (fun m f H' => ∃ i a s l', m = path.length - i ∧ (i ≤ path.length) ∧ ((i = 0 ∧ a = -1 ∧ s = 0 ∧ l' = l) ∨ (0 < i ∧ ∃ (n D : Nat) (t : Tree), a = (n : Int) ∧ AtT b (subTs l) n D t ∧ s = n + 1 ∧ l' = t.kids)) ∧ ((i < path.length → findN s l' (path.drop i) = R) ∧ (i = path.length → R = if i = 0 then none else some a.toNat)) ∧ f.t 0 = walkV b (flatTs l) ∧ f.t 1 = intsV path ∧ f.t 5 = .v (.int .i64 a) ∧ f.t 6 = iv i ∧ f.ds = [] ∧ H' = AH.none) ?_ ?_ (m := path.length - (0))
  · exact ⟨0, (-1 : Int), 0, l, rfl, (by omega), (.inl ⟨rfl, rfl, rfl, rfl⟩), (⟨fun _ => hR, fun e => by rw [← hR, List.eq_nil_of_length_eq_zero e.symm]; rfl⟩), rfl, rfl, rfl, rfl, rfl, rfl⟩
  · rintro m f H' ⟨i, a, s, l', rfl, hi, hS, hT, f0, f1, f5, f6, hds, rfl⟩
    by_cases hlt : i < path.length
    · have hd : path.drop i = path.getD i 0 :: path.drop (i + 1) := by
        rw [List.drop_eq_getElem_cons hlt, List.getD_eq_getElem?_getD, List.getElem?_eq_getElem hlt]; rfl
      have hget : (path.map intR).getD i [] = [.v (.int .i64 (path.getD i 0))] := getDmap intR path i hlt
      generalize path.getD i 0 = p at hd hget
      have hT1 := hT.1 hlt
      rw [hd] at hT1
      have go : ∀ (D pp q : Nat), AtL b (subTs l) s D pp q l' → 0 ≤ p ∧ p < (l'.length : Int) → findN s l' (p :: path.drop (i + 1)) = R →
          (i + 1 = 0 ∧ ((((kidIx s l').getD p.toNat 0 : Nat) : Int) = -1) ∧ ((kidIx s l').getD p.toNat 0 + 1) = 0 ∧ (l'.getD p.toNat default).kids = l) ∨ (0 < i + 1 ∧ ∃ (n D : Nat) (t : Tree), (((kidIx s l').getD p.toNat 0 : Nat) : Int) = (n : Int) ∧ AtT b (subTs l) n D t ∧ ((kidIx s l').getD p.toNat 0 + 1) = n + 1 ∧ (l'.getD p.toNat default).kids = t.kids) := fun D pp q h1 h2 h3 =>
        .inr ⟨by omega, _, D, l'.getD p.toNat default, rfl, h1.get p.toNat (by omega), rfl, rfl⟩
      have hn : 0 ≤ p ∧ p < (l'.length : Int) → (i + 1 < path.length → findN ((kidIx s l').getD p.toNat 0 + 1) (l'.getD p.toNat default).kids (path.drop (i + 1)) = R) ∧ (i + 1 = path.length → R = if i + 1 = 0 then none else some (((kidIx s l').getD p.toNat 0 : Nat) : Int).toNat) := fun h2 => by
        have h3 := hT1
        simp only [findN] at h3
        rw [if_pos h2] at h3
        refine ⟨fun h4 => ?_, fun h4 => ?_⟩
        · rw [if_neg (fun e => by have := congrArg List.length e; simp at this; omega)] at h3; exact h3
        · rw [if_pos (List.drop_of_length_le (by omega))] at h3
          rw [← h3, if_neg (by omega)]; rfl
      have hw := within20 p 0 ((l'.length : Int) - 1)
      rcases hS with ⟨rfl, rfl, rfl, rfl⟩ | ⟨hi0, n, D, t, rfl, hA, rfl, rfl⟩
      · have hl' := kidIx_le (AtL.all hwf) hsl
        simp only [intsV, natsV, List.length_map, kidIx_length, iv, ltT hlt, f0, f1, f5, f6, hds, Cd.cd29, Tk.t29, base0, base1, base2, base3, Option.isNone_none, Option.isNone_some, Nat.reduceBEq, true_or, or_true, false_or, or_false, Nat.reduceLT, Nat.reduceMod, Nat.reducePow, rmaps, nsucc, List.flatten_cons, List.flatten_nil, Nat.reduceEqDiff, Nat.reduceLeDiff, Nat.reduceAdd, Nat.reduceMul, Nat.reduceSub, ↓reduceIte, reduceCtorEq, decide_true, decide_false]
        first | refine FCall.go (kidsTop hb hwf hlen) (FZs.cons (FZ.walkV _ _) (FZs.one (FZ.v _))) ?_ | refine FCall.go' (kidsTop hb hwf hlen) (FZs.cons (FZ.walkV _ _) (FZs.one (FZ.v _))) ?_ | refine FCall.goQ (kidsTop hb hwf hlen) (FZs.cons (FZ.walkV _ _) (FZs.one (FZ.v _))) ?_
        have wl : IntKind.i64.wrap ((l'.length : Int) - 1) = (l'.length : Int) - 1 := wrapI (by omega) (by omega)
        simp only [intsV, natsV, List.length_map, kidIx_length, iv, ltT hlt, show decide (((0 : Nat) : Int) < (path.length : Int)) = true from decide_eq_true (by omega), show decide (((0 : Nat) : Int) > 0) = false from rfl, Int.natCast_nonneg, Int.toNat_natCast, hget, wl, f0, f1, f5, f6, hds, Cd.cd29, Tk.t29, base0, base1, base2, base3, Option.isNone_none, Option.isNone_some, Nat.reduceBEq, true_or, or_true, false_or, or_false, Nat.reduceLT, Nat.reduceMod, Nat.reducePow, rmaps, nsucc, List.flatten_cons, List.flatten_nil, Nat.reduceEqDiff, Nat.reduceLeDiff, Nat.reduceAdd, Nat.reduceMul, Nat.reduceSub, ↓reduceIte, reduceCtorEq, decide_true, decide_false]
        first | refine FCall.go hw (FZs.cons (FZ.v _) (FZs.cons (FZ.v _) (FZs.one (FZ.v _)))) ?_ | refine FCall.go' hw (FZs.cons (FZ.v _) (FZs.cons (FZ.v _) (FZs.one (FZ.v _)))) ?_ | refine FCall.goQ hw (FZs.cons (FZ.v _) (FZs.cons (FZ.v _) (FZs.one (FZ.v _)))) ?_
        by_cases hr : 0 ≤ p ∧ p < (l'.length : Int)
        · have hrow := kidRow 0 l' p.toNat (by omega)
          simp only [intsV, natsV, List.length_map, kidIx_length, iv, ltT hlt, decide_eq_true (show p ≤ (l'.length : Int) - 1 by omega), true_and, Int.natCast_nonneg, Int.toNat_natCast, hget, hr.1, hr.2, hrow, wrapS (show 0 < 2 ^ 62 by omega), f0, f1, f5, f6, hds, Cd.cd29, Tk.t29, base0, base1, base2, base3, Option.isNone_none, Option.isNone_some, Nat.reduceBEq, true_or, or_true, false_or, or_false, Nat.reduceLT, Nat.reduceMod, Nat.reducePow, rmaps, nsucc, List.flatten_cons, List.flatten_nil, Nat.reduceEqDiff, Nat.reduceLeDiff, Nat.reduceAdd, Nat.reduceMul, Nat.reduceSub, ↓reduceIte, reduceCtorEq, decide_true, decide_false]
          refine ⟨_, by omega, 0 + 1, _, _, _, rfl, by omega, go _ _ _ (AtL.all hwf) hr hT1, hn hr, ?_⟩
          (repeat' apply And.intro) <;> rfl
        · rw [findN_bad hr] at hT1
          simp only [show decide (0 ≤ p ∧ p ≤ (l'.length : Int) - 1) = false from decide_eq_false (by omega), f0, f1, f5, f6, hds, Cd.cd29, Tk.t29, base0, base1, base2, base3, Option.isNone_none, Option.isNone_some, Nat.reduceBEq, true_or, or_true, false_or, or_false, Nat.reduceLT, Nat.reduceMod, Nat.reducePow, rmaps, nsucc, List.flatten_cons, List.flatten_nil, Nat.reduceEqDiff, Nat.reduceLeDiff, Nat.reduceAdd, Nat.reduceMul, Nat.reduceSub, ↓reduceIte, reduceCtorEq, decide_true, decide_false]
          exact fin_v (by rw [← hT1]; rfl)
      · obtain ⟨n1, n2⟩ := hA.node
        have hrn := getDmap nodeL (flatTs l) n n1
        rw [n2] at hrn
        simp only [intsV, natsV, List.length_map, kidIx_length, iv, ltT hlt, show decide ((i : Int) < (path.length : Int)) = true from decide_eq_true (by omega), f0, f1, f5, f6, hds, Cd.cd29, Tk.t29, base0, base1, base2, base3, Option.isNone_none, Option.isNone_some, Nat.reduceBEq, true_or, or_true, false_or, or_false, Nat.reduceLT, Nat.reduceMod, Nat.reducePow, rmaps, nsucc, List.flatten_cons, List.flatten_nil, Nat.reduceEqDiff, Nat.reduceLeDiff, Nat.reduceAdd, Nat.reduceMul, Nat.reduceSub, ↓reduceIte, reduceCtorEq, decide_true, decide_false]
        first | refine FCall.go (kidsAt hb hlen hA) (FZs.cons (FZ.walkV _ _) (FZs.one (FZ.v _))) ?_ | refine FCall.go' (kidsAt hb hlen hA) (FZs.cons (FZ.walkV _ _) (FZs.one (FZ.v _))) ?_ | refine FCall.goQ (kidsAt hb hlen hA) (FZs.cons (FZ.walkV _ _) (FZs.one (FZ.v _))) ?_
        cases hbt : t.h.built with
        | false =>
          have hk := okT_leaf hA.ok hbt
          rw [findN_bad (by rw [hk]; simp <;> omega)] at hT1
          simp only [walkV, wL, nodesV, intsV, natsV, List.length_map, kidIx_length, iv, ltT n1, show decide ((i : Int) > 0) = true from decide_eq_true (by omega), Int.natCast_nonneg, Int.toNat_natCast, hrn, nodeL, hbt, f0, f1, f5, f6, hds, Cd.cd29, Tk.t29, base0, base1, base2, base3, Option.isNone_none, Option.isNone_some, Nat.reduceBEq, true_or, or_true, false_or, or_false, Nat.reduceLT, Nat.reduceMod, Nat.reducePow, rmaps, nsucc, List.flatten_cons, List.flatten_nil, Nat.reduceEqDiff, Nat.reduceLeDiff, Nat.reduceAdd, Nat.reduceMul, Nat.reduceSub, ↓reduceIte, reduceCtorEq, decide_true, decide_false]
          exact fin_v (by rw [← hT1]; rfl)
        | true =>
          have hAL := hA.kids hbt
          have hl' := kidIx_le hAL hsl
          have wl : IntKind.i64.wrap ((t.kids.length : Int) - 1) = (t.kids.length : Int) - 1 := wrapI (by omega) (by omega)
          simp only [walkV, wL, nodesV, intsV, natsV, List.length_map, kidIx_length, iv, ltT n1, ltT hlt, show decide ((i : Int) > 0) = true from decide_eq_true (by omega), Int.natCast_nonneg, Int.toNat_natCast, hrn, nodeL, hbt, hget, wl, f0, f1, f5, f6, hds, Cd.cd29, Tk.t29, base0, base1, base2, base3, Option.isNone_none, Option.isNone_some, Nat.reduceBEq, true_or, or_true, false_or, or_false, Nat.reduceLT, Nat.reduceMod, Nat.reducePow, rmaps, nsucc, List.flatten_cons, List.flatten_nil, Nat.reduceEqDiff, Nat.reduceLeDiff, Nat.reduceAdd, Nat.reduceMul, Nat.reduceSub, ↓reduceIte, reduceCtorEq, decide_true, decide_false]
          first | refine FCall.go hw (FZs.cons (FZ.v _) (FZs.cons (FZ.v _) (FZs.one (FZ.v _)))) ?_ | refine FCall.go' hw (FZs.cons (FZ.v _) (FZs.cons (FZ.v _) (FZs.one (FZ.v _)))) ?_ | refine FCall.goQ hw (FZs.cons (FZ.v _) (FZs.cons (FZ.v _) (FZs.one (FZ.v _)))) ?_
          by_cases hr : 0 ≤ p ∧ p < (t.kids.length : Int)
          · have hrow := kidRow (n + 1) t.kids p.toNat (by omega)
            simp only [intsV, natsV, List.length_map, kidIx_length, iv, ltT hlt, decide_eq_true (show p ≤ (t.kids.length : Int) - 1 by omega), true_and, Int.natCast_nonneg, Int.toNat_natCast, hget, hr.1, hr.2, hrow, wrapS (show i < 2 ^ 62 by omega), f0, f1, f5, f6, hds, Cd.cd29, Tk.t29, base0, base1, base2, base3, Option.isNone_none, Option.isNone_some, Nat.reduceBEq, true_or, or_true, false_or, or_false, Nat.reduceLT, Nat.reduceMod, Nat.reducePow, rmaps, nsucc, List.flatten_cons, List.flatten_nil, Nat.reduceEqDiff, Nat.reduceLeDiff, Nat.reduceAdd, Nat.reduceMul, Nat.reduceSub, ↓reduceIte, reduceCtorEq, decide_true, decide_false]
            refine ⟨_, by omega, i + 1, _, _, _, rfl, by omega, go _ _ _ hAL hr hT1, hn hr, ?_⟩
            (repeat' apply And.intro) <;> rfl
          · rw [findN_bad hr] at hT1
            simp only [show decide (0 ≤ p ∧ p ≤ (t.kids.length : Int) - 1) = false from decide_eq_false (by omega), f0, f1, f5, f6, hds, Cd.cd29, Tk.t29, base0, base1, base2, base3, Option.isNone_none, Option.isNone_some, Nat.reduceBEq, true_or, or_true, false_or, or_false, Nat.reduceLT, Nat.reduceMod, Nat.reducePow, rmaps, nsucc, List.flatten_cons, List.flatten_nil, Nat.reduceEqDiff, Nat.reduceLeDiff, Nat.reduceAdd, Nat.reduceMul, Nat.reduceSub, ↓reduceIte, reduceCtorEq, decide_true, decide_false]
            exact fin_v (by rw [← hT1]; rfl)
    · simp only [intsV, List.length_map, iv, show decide ((i : Int) < (path.length : Int)) = false from decide_eq_false (by omega), f0, f1, f5, f6, hds, Cd.cd29, Tk.t29, base0, base1, base2, base3, Option.isNone_none, Option.isNone_some, Nat.reduceBEq, true_or, or_true, false_or, or_false, Nat.reduceLT, Nat.reduceMod, Nat.reducePow, rmaps, nsucc, List.flatten_cons, List.flatten_nil, Nat.reduceEqDiff, Nat.reduceLeDiff, Nat.reduceAdd, Nat.reduceMul, Nat.reduceSub, ↓reduceIte, reduceCtorEq, decide_true, decide_false]
      refine fin_v ?_
      have := hT.2 (by omega)
      rcases hS with ⟨rfl, rfl, -, -⟩ | ⟨hi0, n, D, t, rfl, -⟩
      · rw [this]; rfl
      · rw [this, if_neg (by omega)]; rfl
end
end Go.Proofs.Ytmjjfdppaomcfaa

/- Walks: the reference puts bytes in the place of a node; the law of replacing. -/
namespace Go.Proofs.Ytmjjfdppaomcfaa
open Go Go.Proofs.Ytmjjfdppaomcfaa.Ab
set_option maxRecDepth 100000
set_option linter.unusedSimpArgs false

section
variable {b : ByteArray} {l : List Tree} (hb : b.size ≤ 4000) (hwf : okTs b 0 0 b.size l) (hlen : (flatTs l).length ≤ 300)
include hb in
theorem ext_le (i j : Nat) : (b.extract i j).size ≤ 4000 := by rw [ByteArray.size_extract]; omega
include hb in
set_option maxHeartbeats 2000000 in
theorem again61 {i D : Nat} {t : Tree} (hA : AtT b (subTs l) i D t) (c : ByteArray) (hc : c.size ≤ 900000) : FCall Try.prog 61 [walkV b (flatTs l), iv i, .v (.string c)] (· = .v (.string (againB b t.h c))) := by
  generalize hR : againB b t.h c = R
  unfold againB at hR
  obtain ⟨n1, n2⟩ := hA.node
  have hrn := getDmap nodeL (flatTs l) i n1
  rw [n2] at hrn
  obtain ⟨o1, o2, o3, o4, o5⟩ := okT_in hA.ok
  have hid := okT_ident hA.ok
  have hI := fident57 b hb (flatTs l) t.h.frm b.size _ _ _ _ (Nat.le_refl _) hid
  have hlb := lengthB_size c.size (t.h.body - t.h.len) (by omega)
  have hL := lengthOf69 c.size (t.h.body - t.h.len) (by omega) (by omega) (by omega)
  have z1 := ext_le hb t.h.frm t.h.body
  have z2 := ext_le hb t.h.stop t.h.fin
  have z3 := ext_le hb t.h.frm t.h.len
  have hz := FZ.walkV b (flatTs l)
  simp only [walkV, wL, nodesV, iv, tagV] at hI hz hL
  refine ACall.enter [] Cd.fn61 (by simp) ?_
  simp only [walkV, wL, nodesV, iv, List.length_map, ltT n1, Int.natCast_nonneg, Int.toNat_natCast, hrn, nodeL, Cd.cd61, Tk.t61, base0, base1, base2, base3, Option.isNone_none, Option.isNone_some, Nat.reduceBEq, true_or, or_true, false_or, or_false, Nat.reduceLT, Nat.reduceMod, Nat.reducePow, rmaps, nsucc, List.flatten_cons, List.flatten_nil, Nat.reduceEqDiff, Nat.reduceLeDiff, Nat.reduceAdd, Nat.reduceMul, Nat.reduceSub, ↓reduceIte, reduceCtorEq, decide_true, decide_false]
  first | refine FCall.go hI (FZs.cons hz (FZs.cons (FZ.v _) (FZs.one (FZ.v _)))) ?_ | refine FCall.go' hI (FZs.cons hz (FZs.cons (FZ.v _) (FZs.one (FZ.v _)))) ?_ | refine FCall.goQ hI (FZs.cons hz (FZs.cons (FZ.v _) (FZs.one (FZ.v _)))) ?_
  cases ho : t.h.opn with
  | true =>
    rw [if_pos ho] at hR
    have s1 : astr .add (b.extract t.h.frm t.h.body) c = _ := sadd (by omega)
    have s2 : astr .add (b.extract t.h.frm t.h.body ++ c) (b.extract t.h.stop t.h.fin) = _ := sadd (by rw [ByteArray.size_append]; omega)
    simp only [List.not_mem_nil, false_imp_iff, implies_true, ho, Int.natCast_nonneg, Int.toNat_natCast, leT (show t.h.body ≤ b.size by omega), leT (show t.h.frm ≤ t.h.body by omega), leT o5, leT o4, s1, s2, Cd.cd61, Tk.t61, base0, base1, base2, base3, Option.isNone_none, Option.isNone_some, Nat.reduceBEq, true_or, or_true, false_or, or_false, Nat.reduceLT, Nat.reduceMod, Nat.reducePow, rmaps, nsucc, List.flatten_cons, List.flatten_nil, Nat.reduceEqDiff, Nat.reduceLeDiff, Nat.reduceAdd, Nat.reduceMul, Nat.reduceSub, ↓reduceIte, reduceCtorEq, decide_true, decide_false]
    exact fin_v (by rw [← hR])
  | false =>
    rw [if_neg (by simp [ho])] at hR
    generalize lengthB c.size (t.h.body - t.h.len) = w at hlb hL hR
    have s1 : astr .add (b.extract t.h.frm t.h.len) w = _ := sadd (by omega)
    have s2 : astr .add (b.extract t.h.frm t.h.len ++ w) c = _ := sadd (by rw [ByteArray.size_append]; omega)
    have wl : IntKind.i64.wrap ((t.h.body : Int) - (t.h.len : Int)) = ((t.h.body - t.h.len : Nat) : Int) := by rw [wrapI (by omega) (by omega)]; omega
    simp only [List.not_mem_nil, false_imp_iff, implies_true, ho, Int.natCast_nonneg, Int.toNat_natCast, leT (show t.h.len ≤ b.size by omega), leT o1, wl, Cd.cd61, Tk.t61, base0, base1, base2, base3, Option.isNone_none, Option.isNone_some, Nat.reduceBEq, true_or, or_true, false_or, or_false, Nat.reduceLT, Nat.reduceMod, Nat.reducePow, rmaps, nsucc, List.flatten_cons, List.flatten_nil, Nat.reduceEqDiff, Nat.reduceLeDiff, Nat.reduceAdd, Nat.reduceMul, Nat.reduceSub, ↓reduceIte, reduceCtorEq, decide_true, decide_false]
    first | refine FCall.go hL (FZs.cons (FZ.v _) (FZs.one (FZ.v _))) ?_ | refine FCall.go' hL (FZs.cons (FZ.v _) (FZs.one (FZ.v _))) ?_ | refine FCall.goQ hL (FZs.cons (FZ.v _) (FZs.one (FZ.v _))) ?_
    simp only [List.not_mem_nil, false_imp_iff, implies_true, s1, s2, Cd.cd61, Tk.t61, base0, base1, base2, base3, Option.isNone_none, Option.isNone_some, Nat.reduceBEq, true_or, or_true, false_or, or_false, Nat.reduceLT, Nat.reduceMod, Nat.reducePow, rmaps, nsucc, List.flatten_cons, List.flatten_nil, Nat.reduceEqDiff, Nat.reduceLeDiff, Nat.reduceAdd, Nat.reduceMul, Nat.reduceSub, ↓reduceIte, reduceCtorEq, decide_true, decide_false]
    exact fin_v (by rw [← hR])

theorem AtK.kid {b : ByteArray} {l l' : List Tree} {s D p q : Nat} (h : AtL b (subTs l) s D p q l') {j : Nat} (hj : j < l'.length) (hb : (l'.getD j default).h.built = true) : AtK b l (((kidIx s l').getD j 0 : Nat) : Int) ((kidIx s l').getD j 0 + 1) (l'.getD j default).kids :=
  .inr ⟨_, D, _, rfl, h.get j hj, hb, rfl, rfl⟩
theorem partA_step {b : ByteArray} {p : Int} {mid : Tree → ByteArray} {l : List Tree} {i : Nat} (h : i < l.length) : partA b p mid i (l.drop i) = (if (i : Int) ≠ p then b.extract (l.getD i default).h.frm (l.getD i default).h.fin else mid (l.getD i default)) ++ partA b p mid (i + 1) (l.drop (i + 1)) := by
  rw [List.drop_eq_getElem_cons h, partA, List.getD_eq_getElem?_getD, List.getElem?_eq_getElem h]; rfl

include hb hwf hlen in
set_option maxHeartbeats 4000000 in
theorem around46 (by_ : ByteArray) (hy : by_.size ≤ 4050) : ∀ (path : List Int) (a : Int) (s : Nat) (l' : List Tree) (x : Tree) (ys : List Tree), AtK b l a s l' → findP l' path = some (x, ys) → path.length ≤ 20 →
    FCall Try.prog 46 [walkV b (flatTs l), .v (.int .i64 a), intsV path, .v (.string by_)] (· = .v (.string (aroundT b by_ path l')))
  | [], a, s, l', x, ys, hk, hf, hp => by cases hf
  | p :: r, a, s, l', x, ys, hk, hf, hp => by
    have hsl : (subTs l).length ≤ 300 := by have := congrArg List.length (subTs_map l); simp only [List.length_map] at this; omega
    obtain ⟨D, pp, qq, hqb, hAL⟩ := hk.list hwf
    have hle := kidIx_le hAL hsl
    have hoks : okTs b D pp qq l' := by obtain ⟨_, _, h, _⟩ := hAL; exact h
    have hRs := aroundT_size hb hy hp hoks hqb hf
    have hpr : 0 ≤ p ∧ p < (l'.length : Int) := by
      apply Classical.byContradiction
      intro hn
      simp only [findP] at hf; rw [if_neg hn] at hf; cases hf
    have ih : r ≠ [] → ∀ t, t = l'.getD p.toNat default → (∃ x ys, findP t.kids r = some (x, ys)) ∧ t.h.built = true ∧ FCall Try.prog 46 [walkV b (flatTs l), iv ((kidIx s l').getD p.toNat 0), intsV r, .v (.string by_)] (· = .v (.string (aroundT b by_ r t.kids))) ∧ (aroundT b by_ r t.kids).size ≤ 10000 + r.length * 21000 := fun hr t ht => by
      subst ht
      simp only [findP] at hf
      rw [if_pos hpr, if_neg hr] at hf
      split at hf
      · rename_i x' ys' he
        have hg := hAL.get p.toNat (by omega)
        have hbt : (l'.getD p.toNat default).h.built = true := by
          cases hb' : (l'.getD p.toNat default).h.built with
          | true => rfl
          | false => exact absurd (okT_leaf hg.ok hb') (findP_kids he)
        have hin := okT_in hg.ok
        exact ⟨⟨_, _, he⟩, hbt, around46 by_ hy r _ _ _ _ _ (AtK.kid hAL (by omega) hbt) he (by simp at hp; omega), aroundT_size hb hy (by simp at hp; omega) (okT_kids hg.ok (findP_kids he)) (by omega) he⟩
      · cases hf
    generalize hR : aroundT b by_ (p :: r) l' = R at hRs
    rw [aroundT] at hR
    have hzw := FZ.walkV b (flatTs l)
    refine ACall.enter [] Cd.fn46 (by simp) ?_
    simp only [intsV, Cd.cd46, Tk.t46, base0, base1, base2, base3, Option.isNone_none, Option.isNone_some, Nat.reduceBEq, true_or, or_true, false_or, or_false, Nat.reduceLT, Nat.reduceMod, Nat.reducePow, rmaps, nsucc, List.flatten_cons, List.flatten_nil, Nat.reduceEqDiff, Nat.reduceLeDiff, Nat.reduceAdd, Nat.reduceMul, Nat.reduceSub, ↓reduceIte, reduceCtorEq, decide_true, decide_false]
    first | refine FCall.go (kidsK hb hwf hlen hk) (FZs.cons hzw (FZs.one (FZ.v _))) ?_ | refine FCall.go' (kidsK hb hwf hlen hk) (FZs.cons hzw (FZs.one (FZ.v _))) ?_ | refine FCall.goQ (kidsK hb hwf hlen hk) (FZs.cons hzw (FZs.one (FZ.v _))) ?_
    simp only [intsV, natsV, Cd.cd46, Tk.t46, base0, base1, base2, base3, Option.isNone_none, Option.isNone_some, Nat.reduceBEq, true_or, or_true, false_or, or_false, Nat.reduceLT, Nat.reduceMod, Nat.reducePow, rmaps, nsucc, List.flatten_cons, List.flatten_nil, Nat.reduceEqDiff, Nat.reduceLeDiff, Nat.reduceAdd, Nat.reduceMul, Nat.reduceSub, ↓reduceIte, reduceCtorEq, decide_true, decide_false]
    refine LWP.loop [] (fun m f H' => ∃ i acc, m = l'.length - i ∧ (i ≤ l'.length) ∧ (acc ++ partA b p (fun t => if r = [] then by_ else againB b t.h (aroundT b by_ r t.kids)) i (l'.drop i) = R) ∧ f.t 0 = walkV b (flatTs l) ∧ f.t 2 = intsV (p :: r) ∧ f.t 3 = .v (.string by_) ∧ f.t 9 = natsV (kidIx s l') ∧ f.t 10 = .v (.string acc) ∧ f.t 11 = iv i ∧ f.ds = [] ∧ True) ?_ ?_ (m := l'.length - (0))
    · exact ⟨0, ⟨#[]⟩, rfl, (by omega), (by rw [nil_app]; exact hR), rfl, rfl, rfl, rfl, rfl, rfl, rfl, trivial⟩
    · rintro m f H' ⟨i, acc, rfl, hi, hT, f0, f2, f3, f9, f10, f11, hds, hh⟩
      have hacc : acc.size ≤ 500000 := by
        have := congrArg ByteArray.size hT
        rw [ByteArray.size_append] at this
        simp only [List.length_cons] at hp hRs
        omega
      by_cases hlt : i < l'.length
      · rw [partA_step hlt] at hT
        have hg := hAL.get i hlt
        have hrow := kidRow s l' i hlt
        obtain ⟨n1, n2⟩ := hg.node
        have hrn := getDmap nodeL (flatTs l) _ n1
        rw [n2] at hrn
        obtain ⟨o1, o2, o3, o4, o5⟩ := okT_in hg.ok
        have hi1 : iv i = AV.v (.int .i64 (i : Int)) := rfl
        generalize hkn : (kidIx s l').getD i 0 = kn at hg hrow n1 hrn
        by_cases hip : (i : Int) = p
        · rw [if_neg (by simp [hip])] at hT
          have hpi : p.toNat = i := by omega
          by_cases hr : r = []
          · subst hr
            rw [if_pos rfl] at hT
            have s1 : astr .add acc by_ = _ := sadd (by omega)
            simp only [walkV, wL, nodesV, natsV, intsV, intR, iv, List.length_map, kidIx_length, show decide ((i : Int) < (l'.length : Int)) = true from decide_eq_true (by omega), ltT hlt, ltT n1, Int.natCast_nonneg, Int.toNat_natCast, hrow, hrn, nodeL, show ((0 : Int) ≤ 0) = True from by simp, show ((0 : Int) < ((0 + 1 : Nat) : Int)) = True from by simp, show Int.toNat 0 = 0 from rfl, bneF hip, show (((0 + 1 : Nat) : Int) == 1) = true from rfl, show (((1 : Nat) : Int) == 1) = true from rfl, s1, wrapS (show i < 2 ^ 62 by omega), f0, f2, f3, f9, f10, f11, hds, Cd.cd46, Tk.t46, base0, base1, base2, base3, Option.isNone_none, Option.isNone_some, Nat.reduceBEq, true_or, or_true, false_or, or_false, Nat.reduceLT, Nat.reduceMod, Nat.reducePow, rmaps, nsucc, List.flatten_cons, List.flatten_nil, Nat.reduceEqDiff, Nat.reduceLeDiff, Nat.reduceAdd, Nat.reduceMul, Nat.reduceSub, ↓reduceIte, reduceCtorEq, decide_true, decide_false]
            refine ⟨_, by omega, i + 1, acc ++ by_, rfl, by omega, by rw [ByteArray.append_assoc]; exact hT, ?_⟩
            (repeat' apply And.intro) <;> first | rfl | trivial
          · rw [if_neg hr] at hT
            obtain ⟨-, hbt, hA46, hcs⟩ := ih hr (l'.getD i default) (by rw [hpi])
            rw [hpi, hkn] at hA46
            have hA61 := again61 hb hg (aroundT b by_ r (l'.getD i default).kids) (by simp at hp; omega)
            have hgs : (againB b (l'.getD i default).h (aroundT b by_ r (l'.getD i default).kids)).size ≤ 1000000 := by
              have := congrArg ByteArray.size hT
              simp only [ByteArray.size_append] at this
              simp only [List.length_cons] at hp hRs
              omega
            generalize aroundT b by_ r (l'.getD i default).kids = c at hA46 hA61 hT hgs
            generalize againB b (l'.getD i default).h c = gg at hA61 hT hgs
            have hr1 : r.length ≠ 0 := fun e => hr (List.eq_nil_of_length_eq_zero e)
            have s1 : astr .add acc gg = _ := sadd (by omega)
            have hzr := FZ.intsV r
            have e1 : (((r.length + 1 : Nat) : Int) == 1) = false := beqF (by omega)
            simp only [walkV, wL, nodesV, iv, intsV] at hA46 hA61 hzw hzr
            simp only [walkV, wL, nodesV, natsV, intsV, intR, iv, List.length_map, kidIx_length, show decide ((i : Int) < (l'.length : Int)) = true from decide_eq_true (by omega), ltT hlt, ltT n1, Int.natCast_nonneg, Int.toNat_natCast, hrow, hrn, nodeL, show ((0 : Int) ≤ 0) = True from by simp, show Int.toNat 0 = 0 from rfl, show ((0 : Int) < ((r.length + 1 : Nat) : Int)) = True from by simp <;> omega, bneF hip, e1, show List.take r.length (r.map intR) = r.map intR from List.take_of_length_le (by simp), show ((0 : Int) ≤ 1) = True from by simp, show ((1 : Int) ≤ ((r.length + 1 : Nat) : Int)) = True from by simp <;> omega, show Int.toNat 1 = 1 from rfl, f0, f2, f3, f9, f10, f11, hds, Cd.cd46, Tk.t46, base0, base1, base2, base3, Option.isNone_none, Option.isNone_some, Nat.reduceBEq, true_or, or_true, false_or, or_false, Nat.reduceLT, Nat.reduceMod, Nat.reducePow, rmaps, nsucc, List.flatten_cons, List.flatten_nil, Nat.reduceEqDiff, Nat.reduceLeDiff, Nat.reduceAdd, Nat.reduceMul, Nat.reduceSub, ↓reduceIte, reduceCtorEq, decide_true, decide_false]
            first | refine FCall.go hA46 (FZs.cons hzw (FZs.cons (FZ.v _) (FZs.cons hzr (FZs.one (FZ.v _))))) ?_ | refine FCall.go' hA46 (FZs.cons hzw (FZs.cons (FZ.v _) (FZs.cons hzr (FZs.one (FZ.v _))))) ?_ | refine FCall.goQ hA46 (FZs.cons hzw (FZs.cons (FZ.v _) (FZs.cons hzr (FZs.one (FZ.v _))))) ?_
            simp only [List.not_mem_nil, false_imp_iff, implies_true, f0, f2, f3, f9, f10, f11, hds, Cd.cd46, Tk.t46, base0, base1, base2, base3, Option.isNone_none, Option.isNone_some, Nat.reduceBEq, true_or, or_true, false_or, or_false, Nat.reduceLT, Nat.reduceMod, Nat.reducePow, rmaps, nsucc, List.flatten_cons, List.flatten_nil, Nat.reduceEqDiff, Nat.reduceLeDiff, Nat.reduceAdd, Nat.reduceMul, Nat.reduceSub, ↓reduceIte, reduceCtorEq, decide_true, decide_false]
            first | refine FCall.go hA61 (FZs.cons hzw (FZs.cons (FZ.v _) (FZs.one (FZ.v _)))) ?_ | refine FCall.go' hA61 (FZs.cons hzw (FZs.cons (FZ.v _) (FZs.one (FZ.v _)))) ?_ | refine FCall.goQ hA61 (FZs.cons hzw (FZs.cons (FZ.v _) (FZs.one (FZ.v _)))) ?_
            simp only [List.not_mem_nil, false_imp_iff, implies_true, iv, s1, wrapS (show i < 2 ^ 62 by omega), f0, f2, f3, f9, f10, f11, hds, Cd.cd46, Tk.t46, base0, base1, base2, base3, Option.isNone_none, Option.isNone_some, Nat.reduceBEq, true_or, or_true, false_or, or_false, Nat.reduceLT, Nat.reduceMod, Nat.reducePow, rmaps, nsucc, List.flatten_cons, List.flatten_nil, Nat.reduceEqDiff, Nat.reduceLeDiff, Nat.reduceAdd, Nat.reduceMul, Nat.reduceSub, ↓reduceIte, reduceCtorEq, decide_true, decide_false]
            refine ⟨_, by omega, i + 1, acc ++ gg, rfl, by omega, by rw [ByteArray.append_assoc]; exact hT, ?_⟩
            (repeat' apply And.intro) <;> first | rfl | trivial
        · rw [if_pos hip] at hT
          have z1 := ext_le hb (l'.getD i default).h.frm (l'.getD i default).h.fin
          have s1 : astr .add acc (b.extract (l'.getD i default).h.frm (l'.getD i default).h.fin) = _ := sadd (by omega)
          simp only [walkV, wL, nodesV, natsV, intsV, intR, iv, List.length_map, kidIx_length, show decide ((i : Int) < (l'.length : Int)) = true from decide_eq_true (by omega), ltT hlt, ltT n1, Int.natCast_nonneg, Int.toNat_natCast, hrow, hrn, nodeL, show ((0 : Int) ≤ 0) = True from by simp, show Int.toNat 0 = 0 from rfl, show ((0 : Int) < ((r.length + 1 : Nat) : Int)) = True from by simp <;> omega, bneT hip, leT (show (l'.getD i default).h.frm ≤ (l'.getD i default).h.fin by omega), leT o5, s1, wrapS (show i < 2 ^ 62 by omega), f0, f2, f3, f9, f10, f11, hds, Cd.cd46, Tk.t46, base0, base1, base2, base3, Option.isNone_none, Option.isNone_some, Nat.reduceBEq, true_or, or_true, false_or, or_false, Nat.reduceLT, Nat.reduceMod, Nat.reducePow, rmaps, nsucc, List.flatten_cons, List.flatten_nil, Nat.reduceEqDiff, Nat.reduceLeDiff, Nat.reduceAdd, Nat.reduceMul, Nat.reduceSub, ↓reduceIte, reduceCtorEq, decide_true, decide_false]
          refine ⟨_, by omega, i + 1, acc ++ b.extract (l'.getD i default).h.frm (l'.getD i default).h.fin, rfl, by omega, by rw [ByteArray.append_assoc]; exact hT, ?_⟩
          (repeat' apply And.intro) <;> first | rfl | trivial
      · simp only [natsV, iv, List.length_map, kidIx_length, show decide ((i : Int) < (l'.length : Int)) = false from decide_eq_false (by omega), f0, f2, f3, f9, f10, f11, hds, Cd.cd46, Tk.t46, base0, base1, base2, base3, Option.isNone_none, Option.isNone_some, Nat.reduceBEq, true_or, or_true, false_or, or_false, Nat.reduceLT, Nat.reduceMod, Nat.reducePow, rmaps, nsucc, List.flatten_cons, List.flatten_nil, Nat.reduceEqDiff, Nat.reduceLeDiff, Nat.reduceAdd, Nat.reduceMul, Nat.reduceSub, ↓reduceIte, reduceCtorEq, decide_true, decide_false]
        rw [List.drop_of_length_le (by omega), partA, app_nil] at hT
        exact fin_v (by rw [hT])
end

end Go.Proofs.Ytmjjfdppaomcfaa

/- Walks: the reference's Replaced; the law of replacing. -/
namespace Go.Proofs.Ytmjjfdppaomcfaa
open Go Go.Proofs.Ytmjjfdppaomcfaa.Ab
set_option maxRecDepth 100000
set_option linter.unusedSimpArgs false

theorem fin_lst {H' : AH} {k : Nat} {rows : List (List AV)} {tip : Tip} {w : AV} (hw : w = .lst k rows .unk) (hz : ∀ r ∈ rows, FZs r) : ∃ v v', AOut.ret (.lst k rows tip) = .ret v ∧ View H' v v' ∧ FZ v' ∧ v' = w := by
  subst hw; exact ⟨_, _, rfl, View.tip hz, FZ.lst rfl hz, rfl⟩
theorem FZs.intR (l : List Int) : ∀ r ∈ l.map intR, FZs r := fun r hr => by
  obtain ⟨x, _, rfl⟩ := List.mem_map.mp hr; exact FZs.one (FZ.v _)
theorem ownInts17 (l : List Int) (hl : l.length ≤ 1000) : FCall Try.prog 17 [intsV l] (· = intsV l) := by
  refine ACall.enter [] Cd.fn17 (by simp) ?_
  cases l with
  | nil =>
    simp only [intsV, List.map_nil, List.range_zero, Nat.zero_mul, Nat.zero_le, Nat.zero_lt_one, Cd.cd17, Tk.t17, base0, base1, base2, base3, Option.isNone_none, Option.isNone_some, Nat.reduceBEq, true_or, or_true, false_or, or_false, Nat.reduceLT, Nat.reduceMod, Nat.reducePow, rmaps, nsucc, List.flatten_cons, List.flatten_nil, Nat.reduceEqDiff, Nat.reduceLeDiff, Nat.reduceAdd, Nat.reduceMul, Nat.reduceSub, ↓reduceIte, reduceCtorEq, decide_true, decide_false]
    exact fin_lst rfl (fun r hr => by cases hr)
  | cons x l =>
    have hr : roomA 8 (l.length + 1) = true := room1 (by simp at hl; omega) (by simp at hl; omega)
    simp only [intsV, List.map_cons, List.length_map, hr, List.range_zero, Nat.zero_mul, Nat.zero_le, Nat.zero_lt_one, Cd.cd17, Tk.t17, base0, base1, base2, base3, Option.isNone_none, Option.isNone_some, Nat.reduceBEq, true_or, or_true, false_or, or_false, Nat.reduceLT, Nat.reduceMod, Nat.reducePow, rmaps, nsucc, List.flatten_cons, List.flatten_nil, Nat.reduceEqDiff, Nat.reduceLeDiff, Nat.reduceAdd, Nat.reduceMul, Nat.reduceSub, ↓reduceIte, reduceCtorEq, decide_true, decide_false]
    exact fin_lst rfl (FZs.intR (x :: l))

def atE : Except Flt (List Tree) → Nat
  | .ok _ => 0
  | .error e => e.1
theorem refOut_eq (b : ByteArray) (r : Except Flt (List Tree)) : refOut b r = .box (wL b (nodesV (flatTs (okL r))) (atE r) (errOf r)) := by cases r <;> rfl
theorem refOut_ok {b : ByteArray} (h : errOf (readB b) = 0) : refOut b (readB b) = walkV b (flatTs (okL (readB b))) := by
  obtain ⟨l, hl⟩ := errOf_zero h
  rw [hl]; rfl

def rest18c : CC := dropS 7 Cd.cd18
set_option maxHeartbeats 2000000 in
theorem tail18c (out : ByteArray) (f : AF) (H : AH) (f10 : f.t 10 = .v (.string out)) (hds : f.ds = []) :
    cwp Try.prog [] 84 rest18c (Kont.fin Try.prog [ResultVar.tmp 6, ResultVar.tmp 7] (ResSI (endP out))) f H := by
  unfold endP
  by_cases h1 : 4000 < out.size
  · rw [if_pos h1]
    simp only [rest18c, dropS, f10, hds, show decide ((out.size : Int) > 4000) = true from decide_eq_true (by omega), Cd.cd18, Tk.t18, base0, base1, base2, base3, Option.isNone_none, Option.isNone_some, Nat.reduceBEq, true_or, or_true, false_or, or_false, Nat.reduceLT, Nat.reduceMod, Nat.reducePow, rmaps, nsucc, List.flatten_cons, List.flatten_nil, Nat.reduceEqDiff, Nat.reduceLeDiff, Nat.reduceAdd, Nat.reduceMul, Nat.reduceSub, ↓reduceIte, reduceCtorEq, decide_true, decide_false]
    exact fin_si rfl
  · rw [if_neg h1]
    simp only [rest18c, dropS, f10, hds, show decide ((out.size : Int) > 4000) = false from decide_eq_false (by omega), Cd.cd18, Tk.t18, base0, base1, base2, base3, Option.isNone_none, Option.isNone_some, Nat.reduceBEq, true_or, or_true, false_or, or_false, Nat.reduceLT, Nat.reduceMod, Nat.reducePow, rmaps, nsucc, List.flatten_cons, List.flatten_nil, Nat.reduceEqDiff, Nat.reduceLeDiff, Nat.reduceAdd, Nat.reduceMul, Nat.reduceSub, ↓reduceIte, reduceCtorEq, decide_true, decide_false]
    first | refine FCall.go (read14 out) (FZs.one (FZ.v _)) ?_ | refine FCall.go' (read14 out) (FZs.one (FZ.v _)) ?_ | refine FCall.goQ (read14 out) (FZs.one (FZ.v _)) ?_
    by_cases h2 : errOf (readB out) = 0
    · rw [if_neg (fun h => h h2)]
      simp only [f10, hds, refOut_eq, wL, bneF h2, Cd.cd18, Tk.t18, base0, base1, base2, base3, Option.isNone_none, Option.isNone_some, Nat.reduceBEq, true_or, or_true, false_or, or_false, Nat.reduceLT, Nat.reduceMod, Nat.reducePow, rmaps, nsucc, List.flatten_cons, List.flatten_nil, Nat.reduceEqDiff, Nat.reduceLeDiff, Nat.reduceAdd, Nat.reduceMul, Nat.reduceSub, ↓reduceIte, reduceCtorEq, decide_true, decide_false]
      exact fin_si rfl
    · rw [if_pos h2]
      simp only [f10, hds, refOut_eq, wL, bneT h2, Cd.cd18, Tk.t18, base0, base1, base2, base3, Option.isNone_none, Option.isNone_some, Nat.reduceBEq, true_or, or_true, false_or, or_false, Nat.reduceLT, Nat.reduceMod, Nat.reducePow, rmaps, nsucc, List.flatten_cons, List.flatten_nil, Nat.reduceEqDiff, Nat.reduceLeDiff, Nat.reduceAdd, Nat.reduceMul, Nat.reduceSub, ↓reduceIte, reduceCtorEq, decide_true, decide_false]
      exact fin_si rfl

def rest18b : CC := dropS 5 Cd.cd18
theorem rest18b_eq : rest18b = putS 2 (dropS 5 Cd.cd18) rest18c := (putS_drop 2 (dropS 5 Cd.cd18)).symm
set_option maxHeartbeats 2000000 in
theorem tail18b {b : ByteArray} {l : List Tree} (hb : b.size ≤ 4000) (hwf : okTs b 0 0 b.size l) (hlen : (flatTs l).length ≤ 300) (path : List Int) (hp : path.length ≤ 20) (by_ : ByteArray) (hby : by_.size ≤ 4050) (hpf : path = [] ∨ findP l path ≠ none)
    (f : AF) (H : AH) (f1 : f.t 1 = intsV path) (f2 : f.t 2 = .v (.string by_)) (f8 : f.t 8 = walkV b (flatTs l)) (hds : f.ds = []) :
    cwp Try.prog [] 84 rest18b (Kont.fin Try.prog [ResultVar.tmp 6, ResultVar.tmp 7] (ResSI (endP (outP b by_ (findP l path))))) f H := by
  rw [rest18b_eq]
  cases path with
  | nil =>
    simp only [dropS, putS, f1, f2, f8, hds, intsV, List.map_nil, show decide (((0 : Nat) : Int) > 0) = false from rfl, Cd.cd18, Tk.t18, base0, base1, base2, base3, Option.isNone_none, Option.isNone_some, Nat.reduceBEq, true_or, or_true, false_or, or_false, Nat.reduceLT, Nat.reduceMod, Nat.reducePow, rmaps, nsucc, List.flatten_cons, List.flatten_nil, Nat.reduceEqDiff, Nat.reduceLeDiff, Nat.reduceAdd, Nat.reduceMul, Nat.reduceSub, ↓reduceIte, reduceCtorEq, decide_true, decide_false]
    exact tail18c _ _ _ rfl rfl
  | cons p r =>
    have hpf' : findP l (p :: r) ≠ none := by simpa using hpf
    cases hf : findP l (p :: r) with
    | none => exact absurd hf hpf'
    | some xy =>
      obtain ⟨x, ys⟩ := xy
      have hA := around46 hb hwf hlen by_ hby (p :: r) (-1) 0 l x ys (AtK.top b l) hf hp
      rw [around_replA hwf hf] at hA
      have hz := FZ.intsV (p :: r)
      simp only [intsV, List.map_cons] at hA hz f1
      simp only [dropS, putS, f1, f2, f8, hds, List.length_map, show decide (((r.length + 1 : Nat) : Int) > 0) = true from decide_eq_true (by omega), Cd.cd18, Tk.t18, base0, base1, base2, base3, Option.isNone_none, Option.isNone_some, Nat.reduceBEq, true_or, or_true, false_or, or_false, Nat.reduceLT, Nat.reduceMod, Nat.reducePow, rmaps, nsucc, List.flatten_cons, List.flatten_nil, Nat.reduceEqDiff, Nat.reduceLeDiff, Nat.reduceAdd, Nat.reduceMul, Nat.reduceSub, ↓reduceIte, reduceCtorEq, decide_true, decide_false]
      first | refine FCall.go hA (FZs.cons (FZ.walkV _ _) (FZs.cons (FZ.v _) (FZs.cons hz (FZs.one (FZ.v _))))) ?_ | refine FCall.go' hA (FZs.cons (FZ.walkV _ _) (FZs.cons (FZ.v _) (FZs.cons hz (FZs.one (FZ.v _))))) ?_ | refine FCall.goQ hA (FZs.cons (FZ.walkV _ _) (FZs.cons (FZ.v _) (FZs.cons hz (FZs.one (FZ.v _))))) ?_
      simp only [dropS, putS, Cd.cd18, Tk.t18, base0, base1, base2, base3, Option.isNone_none, Option.isNone_some, Nat.reduceBEq, true_or, or_true, false_or, or_false, Nat.reduceLT, Nat.reduceMod, Nat.reducePow, rmaps, nsucc, List.flatten_cons, List.flatten_nil, Nat.reduceEqDiff, Nat.reduceLeDiff, Nat.reduceAdd, Nat.reduceMul, Nat.reduceSub, ↓reduceIte, reduceCtorEq, decide_true, decide_false]
      exact tail18c _ _ _ rfl rfl

def rest18a : CC := dropS 4 Cd.cd18
theorem rest18a_eq : rest18a = putS 1 (dropS 4 Cd.cd18) rest18b := (putS_drop 1 (dropS 4 Cd.cd18)).symm
set_option maxHeartbeats 4000000 in
theorem tail18a {b : ByteArray} {l : List Tree} (hb : b.size ≤ 4000) (hwf : okTs b 0 0 b.size l) (hlen : (flatTs l).length ≤ 300) (path : List Int) (hp : path.length ≤ 20) (by_ : ByteArray) (hpf : path = [] ∨ findP l path ≠ none)
    (f : AF) (H : AH) (f1 : f.t 1 = intsV path) (f2 : f.t 2 = .v (.string by_)) (f8 : f.t 8 = walkV b (flatTs l)) (hds : f.ds = []) (R : ByteArray × Int)
    (hR : (if (by_.size ≠ 0 ∨ path.length = 0 ∨ (path.length = 1 ∧ l.length = 1)) ∧ errOf (readB by_) ≠ 0 then (⟨#[]⟩, errOf (readB by_)) else endP (outP b by_ (findP l path))) = R) :
    cwp Try.prog [] 84 rest18a (Kont.fin Try.prog [ResultVar.tmp 6, ResultVar.tmp 7] (ResSI R)) f H := by
  rw [rest18a_eq]
  have e1 : ∀ h : path.length = 0, ((path.length : Int) == 0) = true := fun h => beqT (by omega)
  by_cases h0 : by_.size = 0
  · by_cases p0 : path.length = 0
    · simp only [dropS, putS, f1, f2, f8, hds, intsV, List.length_map, astr_nnil, h0, ne_eq, not_true_eq_false, show ((path.length : Int) == 0) = true from beqT (by omega), Cd.cd18, Tk.t18, base0, base1, base2, base3, Option.isNone_none, Option.isNone_some, Nat.reduceBEq, true_or, or_true, false_or, or_false, Nat.reduceLT, Nat.reduceMod, Nat.reducePow, rmaps, nsucc, List.flatten_cons, List.flatten_nil, Nat.reduceEqDiff, Nat.reduceLeDiff, Nat.reduceAdd, Nat.reduceMul, Nat.reduceSub, ↓reduceIte, reduceCtorEq, decide_true, decide_false]
      first | refine FCall.go (read14 by_) (FZs.one (FZ.v _)) ?_ | refine FCall.go' (read14 by_) (FZs.one (FZ.v _)) ?_ | refine FCall.goQ (read14 by_) (FZs.one (FZ.v _)) ?_
      by_cases h2 : errOf (readB by_) = 0
      · rw [if_neg (fun h => h.2 h2)] at hR
        subst hR
        simp only [dropS, putS, refOut_eq, wL, bneF h2, Cd.cd18, Tk.t18, base0, base1, base2, base3, Option.isNone_none, Option.isNone_some, Nat.reduceBEq, true_or, or_true, false_or, or_false, Nat.reduceLT, Nat.reduceMod, Nat.reducePow, rmaps, nsucc, List.flatten_cons, List.flatten_nil, Nat.reduceEqDiff, Nat.reduceLeDiff, Nat.reduceAdd, Nat.reduceMul, Nat.reduceSub, ↓reduceIte, reduceCtorEq, decide_true, decide_false]
        exact tail18b hb hwf hlen path hp by_ (by omega) hpf _ _ (by simp [upd, f1]) (by simp [upd, f2]) (by simp [upd, f8]) (by simp [upd, hds])
      · rw [if_pos ⟨.inr (.inl p0), h2⟩] at hR
        subst hR
        simp only [dropS, putS, refOut_eq, wL, bneT h2, hds, Cd.cd18, Tk.t18, base0, base1, base2, base3, Option.isNone_none, Option.isNone_some, Nat.reduceBEq, true_or, or_true, false_or, or_false, Nat.reduceLT, Nat.reduceMod, Nat.reducePow, rmaps, nsucc, List.flatten_cons, List.flatten_nil, Nat.reduceEqDiff, Nat.reduceLeDiff, Nat.reduceAdd, Nat.reduceMul, Nat.reduceSub, ↓reduceIte, reduceCtorEq, decide_true, decide_false]
        exact fin_si rfl
    · by_cases p1 : path.length = 1
      · simp only [dropS, putS, f1, f2, f8, hds, intsV, List.length_map, astr_nnil, h0, ne_eq, not_true_eq_false, show ((path.length : Int) == 0) = false from beqF (by omega), show ((path.length : Int) == 1) = true from beqT (by omega), Cd.cd18, Tk.t18, base0, base1, base2, base3, Option.isNone_none, Option.isNone_some, Nat.reduceBEq, true_or, or_true, false_or, or_false, Nat.reduceLT, Nat.reduceMod, Nat.reducePow, rmaps, nsucc, List.flatten_cons, List.flatten_nil, Nat.reduceEqDiff, Nat.reduceLeDiff, Nat.reduceAdd, Nat.reduceMul, Nat.reduceSub, ↓reduceIte, reduceCtorEq, decide_true, decide_false]
        first | refine FCall.go (kidsTop hb hwf hlen) (FZs.cons (FZ.walkV _ _) (FZs.one (FZ.v _))) ?_ | refine FCall.go' (kidsTop hb hwf hlen) (FZs.cons (FZ.walkV _ _) (FZs.one (FZ.v _))) ?_ | refine FCall.goQ (kidsTop hb hwf hlen) (FZs.cons (FZ.walkV _ _) (FZs.one (FZ.v _))) ?_
        by_cases l1 : l.length = 1
        · simp only [dropS, putS, natsV, List.length_map, kidIx_length, f2, show ((l.length : Int) == 1) = true from beqT (by omega), Cd.cd18, Tk.t18, base0, base1, base2, base3, Option.isNone_none, Option.isNone_some, Nat.reduceBEq, true_or, or_true, false_or, or_false, Nat.reduceLT, Nat.reduceMod, Nat.reducePow, rmaps, nsucc, List.flatten_cons, List.flatten_nil, Nat.reduceEqDiff, Nat.reduceLeDiff, Nat.reduceAdd, Nat.reduceMul, Nat.reduceSub, ↓reduceIte, reduceCtorEq, decide_true, decide_false]
          first | refine FCall.go (read14 by_) (FZs.one (FZ.v _)) ?_ | refine FCall.go' (read14 by_) (FZs.one (FZ.v _)) ?_ | refine FCall.goQ (read14 by_) (FZs.one (FZ.v _)) ?_
          by_cases h2 : errOf (readB by_) = 0
          · rw [if_neg (fun h => h.2 h2)] at hR
            subst hR
            simp only [dropS, putS, refOut_eq, wL, bneF h2, Cd.cd18, Tk.t18, base0, base1, base2, base3, Option.isNone_none, Option.isNone_some, Nat.reduceBEq, true_or, or_true, false_or, or_false, Nat.reduceLT, Nat.reduceMod, Nat.reducePow, rmaps, nsucc, List.flatten_cons, List.flatten_nil, Nat.reduceEqDiff, Nat.reduceLeDiff, Nat.reduceAdd, Nat.reduceMul, Nat.reduceSub, ↓reduceIte, reduceCtorEq, decide_true, decide_false]
            exact tail18b hb hwf hlen path hp by_ (by omega) hpf _ _ (by simp [upd, f1]) (by simp [upd, f2]) (by simp [upd, f8]) (by simp [upd, hds])
          · rw [if_pos ⟨.inr (.inr ⟨p1, l1⟩), h2⟩] at hR
            subst hR
            simp only [dropS, putS, refOut_eq, wL, bneT h2, hds, Cd.cd18, Tk.t18, base0, base1, base2, base3, Option.isNone_none, Option.isNone_some, Nat.reduceBEq, true_or, or_true, false_or, or_false, Nat.reduceLT, Nat.reduceMod, Nat.reducePow, rmaps, nsucc, List.flatten_cons, List.flatten_nil, Nat.reduceEqDiff, Nat.reduceLeDiff, Nat.reduceAdd, Nat.reduceMul, Nat.reduceSub, ↓reduceIte, reduceCtorEq, decide_true, decide_false]
            exact fin_si rfl
        · rw [if_neg (fun h => by have := h.1; omega)] at hR
          subst hR
          simp only [dropS, putS, natsV, List.length_map, kidIx_length, show ((l.length : Int) == 1) = false from beqF (by omega), Cd.cd18, Tk.t18, base0, base1, base2, base3, Option.isNone_none, Option.isNone_some, Nat.reduceBEq, true_or, or_true, false_or, or_false, Nat.reduceLT, Nat.reduceMod, Nat.reducePow, rmaps, nsucc, List.flatten_cons, List.flatten_nil, Nat.reduceEqDiff, Nat.reduceLeDiff, Nat.reduceAdd, Nat.reduceMul, Nat.reduceSub, ↓reduceIte, reduceCtorEq, decide_true, decide_false]
          exact tail18b hb hwf hlen path hp by_ (by omega) hpf _ _ (by simp [upd, f1]) (by simp [upd, f2]) (by simp [upd, f8]) (by simp [upd, hds])
      · rw [if_neg (fun h => by have := h.1; omega)] at hR
        subst hR
        simp only [dropS, putS, f1, f2, f8, hds, intsV, List.length_map, astr_nnil, h0, ne_eq, not_true_eq_false, show ((path.length : Int) == 0) = false from beqF (by omega), show ((path.length : Int) == 1) = false from beqF (by omega), Cd.cd18, Tk.t18, base0, base1, base2, base3, Option.isNone_none, Option.isNone_some, Nat.reduceBEq, true_or, or_true, false_or, or_false, Nat.reduceLT, Nat.reduceMod, Nat.reducePow, rmaps, nsucc, List.flatten_cons, List.flatten_nil, Nat.reduceEqDiff, Nat.reduceLeDiff, Nat.reduceAdd, Nat.reduceMul, Nat.reduceSub, ↓reduceIte, reduceCtorEq, decide_true, decide_false]
        exact tail18b hb hwf hlen path hp by_ (by omega) hpf _ _ (by simp [upd, f1]) (by simp [upd, f2]) (by simp [upd, f8]) (by simp [upd, hds])
  · simp only [dropS, putS, f1, f2, f8, hds, astr_nnil, h0, ne_eq, not_false_eq_true, Cd.cd18, Tk.t18, base0, base1, base2, base3, Option.isNone_none, Option.isNone_some, Nat.reduceBEq, true_or, or_true, false_or, or_false, Nat.reduceLT, Nat.reduceMod, Nat.reducePow, rmaps, nsucc, List.flatten_cons, List.flatten_nil, Nat.reduceEqDiff, Nat.reduceLeDiff, Nat.reduceAdd, Nat.reduceMul, Nat.reduceSub, ↓reduceIte, reduceCtorEq, decide_true, decide_false]
    first | refine FCall.go (read14 by_) (FZs.one (FZ.v _)) ?_ | refine FCall.go' (read14 by_) (FZs.one (FZ.v _)) ?_ | refine FCall.goQ (read14 by_) (FZs.one (FZ.v _)) ?_
    by_cases h2 : errOf (readB by_) = 0
    · rw [if_neg (fun h => h.2 h2)] at hR
      have := errOf_size h2
      subst hR
      simp only [dropS, putS, refOut_eq, wL, bneF h2, Cd.cd18, Tk.t18, base0, base1, base2, base3, Option.isNone_none, Option.isNone_some, Nat.reduceBEq, true_or, or_true, false_or, or_false, Nat.reduceLT, Nat.reduceMod, Nat.reducePow, rmaps, nsucc, List.flatten_cons, List.flatten_nil, Nat.reduceEqDiff, Nat.reduceLeDiff, Nat.reduceAdd, Nat.reduceMul, Nat.reduceSub, ↓reduceIte, reduceCtorEq, decide_true, decide_false]
      exact tail18b hb hwf hlen path hp by_ (by omega) hpf _ _ (by simp [upd, f1]) (by simp [upd, f2]) (by simp [upd, f8]) (by simp [upd, hds])
    · rw [if_pos ⟨.inl h0, h2⟩] at hR
      subst hR
      simp only [dropS, putS, refOut_eq, wL, bneT h2, hds, Cd.cd18, Tk.t18, base0, base1, base2, base3, Option.isNone_none, Option.isNone_some, Nat.reduceBEq, true_or, or_true, false_or, or_false, Nat.reduceLT, Nat.reduceMod, Nat.reducePow, rmaps, nsucc, List.flatten_cons, List.flatten_nil, Nat.reduceEqDiff, Nat.reduceLeDiff, Nat.reduceAdd, Nat.reduceMul, Nat.reduceSub, ↓reduceIte, reduceCtorEq, decide_true, decide_false]
      exact fin_si rfl

set_option maxHeartbeats 2000000 in
theorem replaced18 (b : ByteArray) (path : List Int) (hp : path.length ≤ 20) (by_ : ByteArray) : FCall Try.prog 18 [.v (.string b), intsV path, .v (.string by_)] (· = siV (replacedP b path by_)) := by
  refine ACall.enter [] (cc := putS 4 Cd.cd18 rest18a) (by rw [show putS 4 Cd.cd18 rest18a = Cd.cd18 from putS_drop 4 _]; exact Cd.fn18) (by simp) ?_
  generalize hR : replacedP b path by_ = R
  unfold replacedP at hR
  simp only [putS, Cd.cd18, Tk.t18, base0, base1, base2, base3, Option.isNone_none, Option.isNone_some, Nat.reduceBEq, true_or, or_true, false_or, or_false, Nat.reduceLT, Nat.reduceMod, Nat.reducePow, rmaps, nsucc, List.flatten_cons, List.flatten_nil, Nat.reduceEqDiff, Nat.reduceLeDiff, Nat.reduceAdd, Nat.reduceMul, Nat.reduceSub, ↓reduceIte, reduceCtorEq, decide_true, decide_false]
  first | refine FCall.go (read14 b) (FZs.one (FZ.v _)) ?_ | refine FCall.go' (read14 b) (FZs.one (FZ.v _)) ?_ | refine FCall.goQ (read14 b) (FZs.one (FZ.v _)) ?_
  by_cases h1 : errOf (readB b) = 0
  rotate_left
  · rw [if_pos h1] at hR
    subst hR
    simp only [putS, refOut_eq, wL, bneT h1, Cd.cd18, Tk.t18, base0, base1, base2, base3, Option.isNone_none, Option.isNone_some, Nat.reduceBEq, true_or, or_true, false_or, or_false, Nat.reduceLT, Nat.reduceMod, Nat.reducePow, rmaps, nsucc, List.flatten_cons, List.flatten_nil, Nat.reduceEqDiff, Nat.reduceLeDiff, Nat.reduceAdd, Nat.reduceMul, Nat.reduceSub, ↓reduceIte, reduceCtorEq, decide_true, decide_false]
    exact fin_si rfl
  · rw [if_neg (fun h => h h1)] at hR
    have hb := errOf_size h1
    obtain ⟨l, hl⟩ := errOf_zero h1
    have hwf := readB_wf hl
    have hok : okL (readB b) = l := by rw [hl]; rfl
    have hlen := (readB_len hl).1
    have hro := refOut_ok h1
    rw [hok] at hR hro
    have hz := FZ.walkV b (flatTs l)
    have hF := find29 hb hwf hlen path (by omega)
    have hzi := FZ.intsV path
    rw [hro]
    simp only [putS, walkV, wL, show ((0 : Int) != 0) = false from rfl, Cd.cd18, Tk.t18, base0, base1, base2, base3, Option.isNone_none, Option.isNone_some, Nat.reduceBEq, true_or, or_true, false_or, or_false, Nat.reduceLT, Nat.reduceMod, Nat.reducePow, rmaps, nsucc, List.flatten_cons, List.flatten_nil, Nat.reduceEqDiff, Nat.reduceLeDiff, Nat.reduceAdd, Nat.reduceMul, Nat.reduceSub, ↓reduceIte, reduceCtorEq, decide_true, decide_false]
    have hfn := findN_findP (path := path) (AtL.all hwf)
    by_cases p0 : path.length = 0
    · have hp0 : path = [] := List.eq_nil_of_length_eq_zero p0
      rw [if_neg (fun h => h.1 hp0)] at hR
      simp only [putS, intsV, List.length_map, show decide ((path.length : Int) > 0) = false from decide_eq_false (by omega), Cd.cd18, Tk.t18, base0, base1, base2, base3, Option.isNone_none, Option.isNone_some, Nat.reduceBEq, true_or, or_true, false_or, or_false, Nat.reduceLT, Nat.reduceMod, Nat.reducePow, rmaps, nsucc, List.flatten_cons, List.flatten_nil, Nat.reduceEqDiff, Nat.reduceLeDiff, Nat.reduceAdd, Nat.reduceMul, Nat.reduceSub, ↓reduceIte, reduceCtorEq, decide_true, decide_false]
      exact tail18a hb hwf hlen path hp by_ (.inl hp0) _ _ rfl rfl rfl rfl _ hR
    · simp only [intsV, walkV, wL] at hF hz hzi
      simp only [putS, intsV, List.length_map, show decide ((path.length : Int) > 0) = true from decide_eq_true (by omega), Cd.cd18, Tk.t18, base0, base1, base2, base3, Option.isNone_none, Option.isNone_some, Nat.reduceBEq, true_or, or_true, false_or, or_false, Nat.reduceLT, Nat.reduceMod, Nat.reducePow, rmaps, nsucc, List.flatten_cons, List.flatten_nil, Nat.reduceEqDiff, Nat.reduceLeDiff, Nat.reduceAdd, Nat.reduceMul, Nat.reduceSub, ↓reduceIte, reduceCtorEq, decide_true, decide_false]
      first | refine FCall.go hF (FZs.cons hz (FZs.one hzi)) ?_ | refine FCall.go' hF (FZs.cons hz (FZs.one hzi)) ?_ | refine FCall.goQ hF (FZs.cons hz (FZs.one hzi)) ?_
      rcases hfn with ⟨q1, q2⟩ | ⟨x, ys, i, E, q1, q2, q3⟩
      · rw [if_pos ⟨fun e => p0 (by rw [e]; rfl), q1⟩] at hR
        subst hR
        rw [q2]
        simp only [putS, ixV, show ((-1 : Int) == -1) = true from rfl, Cd.cd18, Tk.t18, base0, base1, base2, base3, Option.isNone_none, Option.isNone_some, Nat.reduceBEq, true_or, or_true, false_or, or_false, Nat.reduceLT, Nat.reduceMod, Nat.reducePow, rmaps, nsucc, List.flatten_cons, List.flatten_nil, Nat.reduceEqDiff, Nat.reduceLeDiff, Nat.reduceAdd, Nat.reduceMul, Nat.reduceSub, ↓reduceIte, reduceCtorEq, decide_true, decide_false]
        exact fin_si rfl
      · rw [if_neg (fun e => by rw [q1] at e; cases e.2)] at hR
        rw [q2]
        simp only [putS, ixV, iv, show ((i : Int) == -1) = false from beqF (by omega), Cd.cd18, Tk.t18, base0, base1, base2, base3, Option.isNone_none, Option.isNone_some, Nat.reduceBEq, true_or, or_true, false_or, or_false, Nat.reduceLT, Nat.reduceMod, Nat.reducePow, rmaps, nsucc, List.flatten_cons, List.flatten_nil, Nat.reduceEqDiff, Nat.reduceLeDiff, Nat.reduceAdd, Nat.reduceMul, Nat.reduceSub, ↓reduceIte, reduceCtorEq, decide_true, decide_false]
        exact tail18a hb hwf hlen path hp by_ (.inr (by rw [q1]; simp)) _ _ rfl rfl rfl rfl _ hR

set_option maxHeartbeats 1000000 in
theorem law4 (b : ByteArray) (path : List Int) (by_ : ByteArray) : FCall Try.prog 4 [.v (.string b), intsV path, .v (.string by_)] (· = .v (.bool true)) := by
  have hzi := FZ.intsV path
  refine ACall.enter [] Cd.fn4 (by simp) ?_
  simp only [Cd.cd4, Tk.t4, base0, base1, base2, base3, Option.isNone_none, Option.isNone_some, Nat.reduceBEq, true_or, or_true, false_or, or_false, Nat.reduceLT, Nat.reduceMod, Nat.reducePow, rmaps, nsucc, List.flatten_cons, List.flatten_nil, Nat.reduceEqDiff, Nat.reduceLeDiff, Nat.reduceAdd, Nat.reduceMul, Nat.reduceSub, ↓reduceIte, reduceCtorEq, decide_true, decide_false]
  first | refine FCall.go (awake11) (FZs.nil) ?_ | refine FCall.go' (awake11) (FZs.nil) ?_ | refine FCall.goQ (awake11) (FZs.nil) ?_
  simp only [Cd.cd4, Tk.t4, base0, base1, base2, base3, Option.isNone_none, Option.isNone_some, Nat.reduceBEq, true_or, or_true, false_or, or_false, Nat.reduceLT, Nat.reduceMod, Nat.reducePow, rmaps, nsucc, List.flatten_cons, List.flatten_nil, Nat.reduceEqDiff, Nat.reduceLeDiff, Nat.reduceAdd, Nat.reduceMul, Nat.reduceSub, ↓reduceIte, reduceCtorEq, decide_true, decide_false]
  first | refine FCall.go (small12 b) (FZs.one (FZ.v _)) ?_ | refine FCall.go' (small12 b) (FZs.one (FZ.v _)) ?_ | refine FCall.goQ (small12 b) (FZs.one (FZ.v _)) ?_
  cases hs : smallB b
  · simp only [Cd.cd4, Tk.t4, base0, base1, base2, base3, Option.isNone_none, Option.isNone_some, Nat.reduceBEq, true_or, or_true, false_or, or_false, Nat.reduceLT, Nat.reduceMod, Nat.reducePow, rmaps, nsucc, List.flatten_cons, List.flatten_nil, Nat.reduceEqDiff, Nat.reduceLeDiff, Nat.reduceAdd, Nat.reduceMul, Nat.reduceSub, ↓reduceIte, reduceCtorEq, decide_true, decide_false]
    exact fin_v rfl
  · simp only [Cd.cd4, Tk.t4, base0, base1, base2, base3, Option.isNone_none, Option.isNone_some, Nat.reduceBEq, true_or, or_true, false_or, or_false, Nat.reduceLT, Nat.reduceMod, Nat.reducePow, rmaps, nsucc, List.flatten_cons, List.flatten_nil, Nat.reduceEqDiff, Nat.reduceLeDiff, Nat.reduceAdd, Nat.reduceMul, Nat.reduceSub, ↓reduceIte, reduceCtorEq, decide_true, decide_false]
    first | refine FCall.go (small12 by_) (FZs.one (FZ.v _)) ?_ | refine FCall.go' (small12 by_) (FZs.one (FZ.v _)) ?_ | refine FCall.goQ (small12 by_) (FZs.one (FZ.v _)) ?_
    cases hs2 : smallB by_
    · simp only [Cd.cd4, Tk.t4, base0, base1, base2, base3, Option.isNone_none, Option.isNone_some, Nat.reduceBEq, true_or, or_true, false_or, or_false, Nat.reduceLT, Nat.reduceMod, Nat.reducePow, rmaps, nsucc, List.flatten_cons, List.flatten_nil, Nat.reduceEqDiff, Nat.reduceLeDiff, Nat.reduceAdd, Nat.reduceMul, Nat.reduceSub, ↓reduceIte, reduceCtorEq, decide_true, decide_false]
      exact fin_v rfl
    · by_cases hp : path.length ≤ 20
      · have hO := ownInts17 path (by omega)
        have hR := replaced16 b path hp by_
        have hR2 := replaced18 b path hp by_
        simp only [intsV] at hO hR hR2 hzi
        simp only [intsV, List.length_map, show decide ((path.length : Int) > 20) = false from decide_eq_false (by omega), Cd.cd4, Tk.t4, base0, base1, base2, base3, Option.isNone_none, Option.isNone_some, Nat.reduceBEq, true_or, or_true, false_or, or_false, Nat.reduceLT, Nat.reduceMod, Nat.reducePow, rmaps, nsucc, List.flatten_cons, List.flatten_nil, Nat.reduceEqDiff, Nat.reduceLeDiff, Nat.reduceAdd, Nat.reduceMul, Nat.reduceSub, ↓reduceIte, reduceCtorEq, decide_true, decide_false]
        first | refine FCall.go hO (FZs.one hzi) ?_ | refine FCall.go' hO (FZs.one hzi) ?_ | refine FCall.goQ hO (FZs.one hzi) ?_
        simp only [Cd.cd4, Tk.t4, base0, base1, base2, base3, Option.isNone_none, Option.isNone_some, Nat.reduceBEq, true_or, or_true, false_or, or_false, Nat.reduceLT, Nat.reduceMod, Nat.reducePow, rmaps, nsucc, List.flatten_cons, List.flatten_nil, Nat.reduceEqDiff, Nat.reduceLeDiff, Nat.reduceAdd, Nat.reduceMul, Nat.reduceSub, ↓reduceIte, reduceCtorEq, decide_true, decide_false]
        first | refine FCall.go hR (FZs.cons (FZ.v _) (FZs.cons hzi (FZs.one (FZ.v _)))) ?_ | refine FCall.go' hR (FZs.cons (FZ.v _) (FZs.cons hzi (FZs.one (FZ.v _)))) ?_ | refine FCall.goQ hR (FZs.cons (FZ.v _) (FZs.cons hzi (FZs.one (FZ.v _)))) ?_
        simp only [siV, Cd.cd4, Tk.t4, base0, base1, base2, base3, Option.isNone_none, Option.isNone_some, Nat.reduceBEq, true_or, or_true, false_or, or_false, Nat.reduceLT, Nat.reduceMod, Nat.reducePow, rmaps, nsucc, List.flatten_cons, List.flatten_nil, Nat.reduceEqDiff, Nat.reduceLeDiff, Nat.reduceAdd, Nat.reduceMul, Nat.reduceSub, ↓reduceIte, reduceCtorEq, decide_true, decide_false]
        first | refine FCall.go hR2 (FZs.cons (FZ.v _) (FZs.cons hzi (FZs.one (FZ.v _)))) ?_ | refine FCall.go' hR2 (FZs.cons (FZ.v _) (FZs.cons hzi (FZs.one (FZ.v _)))) ?_ | refine FCall.goQ hR2 (FZs.cons (FZ.v _) (FZs.cons hzi (FZs.one (FZ.v _)))) ?_
        simp only [siV, beq_self_eq_true, astr_eqs, Cd.cd4, Tk.t4, base0, base1, base2, base3, Option.isNone_none, Option.isNone_some, Nat.reduceBEq, true_or, or_true, false_or, or_false, Nat.reduceLT, Nat.reduceMod, Nat.reducePow, rmaps, nsucc, List.flatten_cons, List.flatten_nil, Nat.reduceEqDiff, Nat.reduceLeDiff, Nat.reduceAdd, Nat.reduceMul, Nat.reduceSub, ↓reduceIte, reduceCtorEq, decide_true, decide_false]
        exact fin_v rfl
      · simp only [intsV, List.length_map, show decide ((path.length : Int) > 20) = true from decide_eq_true (by omega), Cd.cd4, Tk.t4, base0, base1, base2, base3, Option.isNone_none, Option.isNone_some, Nat.reduceBEq, true_or, or_true, false_or, or_false, Nat.reduceLT, Nat.reduceMod, Nat.reducePow, rmaps, nsucc, List.flatten_cons, List.flatten_nil, Nat.reduceEqDiff, Nat.reduceLeDiff, Nat.reduceAdd, Nat.reduceMul, Nat.reduceSub, ↓reduceIte, reduceCtorEq, decide_true, decide_false]
        exact fin_v rfl
end Go.Proofs.Ytmjjfdppaomcfaa

/- The law holds: for every input it returns true, and each argument reads behind the call as it read before. No condition. -/
namespace Go.Proofs.Ytmjjfdppaomcfaa
open Go Go.Proofs.Ytmjjfdppaomcfaa.Ab Go.ChangeShapes Go.WideShapes Go.ChangeAt Go.RowKit
set_option maxRecDepth 100000

set_option maxHeartbeats 800000 in
theorem lift4 (os : Os) (started : os.Started) (H : Type) (enc : TypeId × Value → H) :
    ReturnsInHanded {} Try.checked os 4 .any (Rows.walkReplacesSpec.pre6 enc Try.prog Try.f4 Rows.walkReplacesRow.domain false) (Rows.walkReplacesSpec.post enc Try.prog Try.f4 false true false false) := by
  refine returnsInHanded_of_change (C := Try.checked) own started (by kernel_rfl) Try.func4
    (ChangeSpec.witness6 (enc := enc) (C := Try.checked) false ⟨#[], #[.string ⟨#[]⟩, .slice none 0 0, .string ⟨#[]⟩], []⟩ 8 (by kernel_rfl) (by kernel_rfl) (by kernel_rfl) (by kernel_rfl)) ?_
  intro W base args ds gs before hval0 hW _ _
  have hval : ∀ (j : Nat) t v, Try.f4.params[j]? = some t → args[j]? = some v → Value.okWide Try.prog W .any base t v := hval0
  have hW' := hW
  obtain ⟨p, q, hA0, hV, rfl, _, _⟩ := hW
  have hA : DataW.TrodAll enc Try.prog W 0 (fun _ => true) true Try.f4.params.toList args.toList ds p := hA0
  rw [Try.params4] at hA hval
  obtain ⟨v0, v1, v2, d0, d1, d2, p0, p1, p2, rfl, rfl, rfl, h0, h1, h2⟩ := trodAll_three hA
  obtain ⟨rfl, rfl⟩ := trodVars_none hV
  obtain ⟨s0, rfl⟩ := okWide_string Try.underlying9 (hval 0 9 v0 rfl rfl)
  obtain ⟨x0, -, hx0⟩ := arg_one rdS h0 rfl
  obtain ⟨a1, len1, cap1, rfl⟩ := okWide_slice Try.underlying33 (hval 1 33 v1 rfl rfl)
  obtain ⟨x1, -, hx1⟩ := arg_one rdInts h1 rfl
  obtain ⟨s2, rfl⟩ := okWide_string Try.underlying9 (hval 2 9 v2 rfl rfl)
  obtain ⟨x2, -, hx2⟩ := arg_one rdS h2 rfl
  clear hA0 hval0
  simp only [List.append_nil] at hW'
  have hlt : ∀ x ∈ p0 ++ p1 ++ p2, x.block < W.heap.size := fun x hx => by simpa using hW'.lt x hx
  refine ((law4 x0 x1 x2).true (xs := #[.string s0, .slice a1 len1 cap1, .string s2]) (W := W) ⟨rfl, fun j hj => ?_⟩).mono fun e W' ⟨he, hb⟩ => ?_
  · match j, hj with
    | 0, _ => exact hx0
    | 1, _ => exact hx1
    | 2, _ => exact hx2
  subst he
  have harg0 : DataW.Trod enc Try.prog W' 0 (fun b => decide (b < W.heap.size)) true 9 (.string s0) d0 p0 :=
    Below.trod laidOut (by kernel_rfl) (of_decide_eq_true (by kernel_rfl)) h0 hb (fun x hx => hlt x (List.mem_append.2 (.inl (List.mem_append.2 (.inl hx)))))
  have harg1 : DataW.Trod enc Try.prog W' 0 (fun b => decide (b < W.heap.size)) true 33 (.slice a1 len1 cap1) d1 p1 :=
    Below.trod laidOut (by kernel_rfl) (of_decide_eq_true (by kernel_rfl)) h1 hb (fun x hx => hlt x (List.mem_append.2 (.inl (List.mem_append.2 (.inr hx)))))
  have harg2 : DataW.Trod enc Try.prog W' 0 (fun b => decide (b < W.heap.size)) true 9 (.string s2) d2 p2 :=
    Below.trod laidOut (by kernel_rfl) (of_decide_eq_true (by kernel_rfl)) h2 hb (fun x hx => hlt x (List.mem_append.2 (.inr hx)))
  refine ⟨_, rfl, _, _, _, [], _, [], hW', ?_, (by have h := trodAll_mk3 harg0 harg1 harg2; rw [← List.append_assoc] at h; exact h), rfl, hb.frame _, fun h => by cases h⟩
  exact trodAll_mk1 (shut_bool Try.underlying4 _)

theorem walkReplaces : Rows.WalkReplacesSaid :=
  OpenClaim.holds_of_wide 4 Try.f4 rfl rfl rfl rfl rfl rfl rfl ⟨rfl, rfl, rfl, rfl, rfl⟩ rfl rfl rfl rfl rfl (by kernel_rfl) Try.func4 (by kernel_rfl)
    (of_decide_eq_true (by kernel_rfl)) (by unfold Func.isWrapper; first | (rw [if_pos (by decide +kernel)]; kernel_rfl) | (rw [if_neg (by decide +kernel)]; exact ⟨rfl, rfl⟩))
    (fun os started H enc _ => lift4 os started H enc)
end Go.Proofs.Ytmjjfdppaomcfaa

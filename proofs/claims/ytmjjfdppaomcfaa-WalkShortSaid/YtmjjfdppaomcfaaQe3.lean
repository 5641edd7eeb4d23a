/- Part 3 of a proof: walkShort holds for every input; no condition. -/
import Derived.Test.YtmjjfdppaomcfaaProg
import Derived.KernelRfl
import Derived.Test.YtmjjfdppaomcfaaRows
import Derived.ProofKit
import Derived.Test.YtmjjfdppaomcfaaAb0
import Derived.Test.YtmjjfdppaomcfaaAb1
import Derived.Test.YtmjjfdppaomcfaaAb2
import Derived.Test.YtmjjfdppaomcfaaAb3
import Derived.Test.YtmjjfdppaomcfaaAb4
import Derived.Test.YtmjjfdppaomcfaaAb5
import Derived.Test.YtmjjfdppaomcfaaAb6
import Derived.Test.YtmjjfdppaomcfaaAb7
import Derived.Test.YtmjjfdppaomcfaaAb8
import Derived.Test.YtmjjfdppaomcfaaAb8a
import Derived.Test.YtmjjfdppaomcfaaAb8b
import Derived.Test.YtmjjfdppaomcfaaAb8c
import Derived.Test.YtmjjfdppaomcfaaAb8d
import Derived.Test.YtmjjfdppaomcfaaAb9
import Derived.Test.YtmjjfdppaomcfaaAb10
import Derived.Test.YtmjjfdppaomcfaaAb11
import Derived.Test.YtmjjfdppaomcfaaAb12
import Derived.Test.YtmjjfdppaomcfaaAb13
import Derived.Test.YtmjjfdppaomcfaaAb14
import Derived.Test.YtmjjfdppaomcfaaAb15
import Derived.Test.YtmjjfdppaomcfaaAb16
import Derived.Test.YtmjjfdppaomcfaaAb17
import Derived.Test.YtmjjfdppaomcfaaAb18
import Derived.Test.YtmjjfdppaomcfaaAb19
import Derived.Test.YtmjjfdppaomcfaaAb20
import Derived.Test.YtmjjfdppaomcfaaAb21
import Derived.Test.YtmjjfdppaomcfaaAb22
import Derived.Test.YtmjjfdppaomcfaaAb23
import Derived.Test.YtmjjfdppaomcfaaAb24
import Derived.Test.YtmjjfdppaomcfaaAb25
import Derived.Test.YtmjjfdppaomcfaaAb26
import Derived.Test.YtmjjfdppaomcfaaBw
import Derived.Test.YtmjjfdppaomcfaaQe2
set_option linter.unusedSimpArgs false
set_option linter.unusedVariables false
set_option linter.defProp false
/- Walks: bytes in the place of a node, with what is around it. -/
namespace Go.Proofs.Ytmjjfdppaomcfaa
open Go Go.Proofs.Ytmjjfdppaomcfaa.Ab
set_option maxRecDepth 100000
set_option linter.unusedSimpArgs false

theorem backward60 (l : List Tree) : FCall Try.prog 60 [treesV l] (· = .fn (.func 68) [] [.box [treesV l]]) := by
  refine ACall.enter [] Cd.fn60 (by simp) ?_
  simp only [treesV, Cd.cd60, Tk.t60, base0, base1, base2, base3, Option.isNone_none, Option.isNone_some, Nat.reduceBEq, true_or, or_true, false_or, or_false, Nat.reduceLT, Nat.reduceMod, Nat.reducePow, rmaps, nsucc, List.flatten_cons, List.flatten_nil, Nat.reduceEqDiff, Nat.reduceLeDiff, Nat.reduceAdd, Nat.reduceMul, Nat.reduceSub, ↓reduceIte, reduceCtorEq, decide_true, decide_false]
  exact ⟨_, _, rfl, (FZ.fn FZs.nil (FZs.one (FZ.box (FZs.one (FZ.rowsOf l))))).view, FZ.fn FZs.nil (FZs.one (FZ.box (FZs.one (FZ.rowsOf l)))), rfl⟩

/-- a node around with another content -/
def replStep (b : ByteArray) (y : Hd) (p q : Nat) (out : ByteArray) : ByteArray :=
  b.extract y.frm y.len ++ (if y.opn then b.extract y.len y.body else lengthB (b.extract y.body p ++ out ++ b.extract q y.stop).size (y.body - y.len)) ++ (b.extract y.body p ++ out ++ b.extract q y.stop) ++ b.extract y.stop y.fin
def replA (b : ByteArray) : List Hd → Nat → Nat → ByteArray → ByteArray
  | [], p, q, out => b.extract 0 p ++ out ++ b.extract q b.size
  | y :: r, p, q, out => replA b r y.frm y.fin (replStep b y p q out)
def Chain (b : ByteArray) : List Hd → Nat → Nat → Prop
  | [], p, q => p ≤ q ∧ q ≤ b.size
  | y :: r, p, q => y.frm ≤ y.len ∧ y.len < y.body ∧ y.body ≤ p ∧ p ≤ q ∧ q ≤ y.stop ∧ y.stop ≤ y.fin ∧ y.fin ≤ b.size ∧ Chain b r y.frm y.fin
theorem lowB_len : ∀ (k n : Nat), n < 256 ^ k → (lowB n).length ≤ k
  | 0, n, h => by
    have : n = 0 := by simpa using h
    subst this; simp [lowB, lowF]
  | k + 1, n, h => by
    rcases Nat.eq_zero_or_pos n with rfl | hp
    · simp [lowB, lowF]
    · rw [lowB_step hp]
      have := lowB_len k (n / 256) (by rw [Nat.pow_succ] at h; omega)
      simp; omega
theorem lengthB_size (n least : Nat) (h : n ≤ 1000000) : (lengthB n least).size ≤ 4 + least := by
  have := lowB_len 3 n (by omega)
  have e : (lengthB n least).size = (lengthL n least).length := by simp [lengthB, ByteArray.size]
  rw [e]
  unfold lengthL
  split
  · simp; omega
  · simp [padB_len]; omega
theorem replStep_size {b : ByteArray} {y : Hd} {p q : Nat} {r : List Hd} {out : ByteArray} (hb : b.size ≤ 4000) (h : Chain b (y :: r) p q) (ho : out.size ≤ 900000) : (replStep b y p q out).size ≤ out.size + 21000 := by
  simp only [Chain] at h
  have h2 := lengthB_size (b.extract y.body p ++ out ++ b.extract q y.stop).size (y.body - y.len) (by simp only [ByteArray.size_append, ByteArray.size_extract]; omega)
  unfold replStep
  split
  · simp only [ByteArray.size_append, ByteArray.size_extract] at h2 ⊢; omega
  · simp only [ByteArray.size_append, ByteArray.size_extract] at h2 ⊢; omega

set_option maxHeartbeats 2000000 in
theorem replaced44 (b : ByteArray) (hb : b.size ≤ 4000) (ys : List Tree) (x : Tree) (by_ : ByteArray) (hn : ys.length ≤ 20) (hby : by_.size ≤ 4050) (hc : Chain b (ys.map Tree.h).reverse x.h.frm x.h.fin) :
    FCall Try.prog 44 [.v (.string b), treesV ys, treeV x, .v (.string by_)] (· = .v (.string (replA b (ys.map Tree.h).reverse x.h.frm x.h.fin by_))) := by
  generalize hR : replA b (ys.map Tree.h).reverse x.h.frm x.h.fin by_ = R
  have hx := treeV_box x
  refine ACall.enterB [9,10,11] back68 (by kernel_rfl) Cd.fn44 (by simp) ?_
  simp only [hx, hdL, KN_normal, List.not_mem_nil, false_imp_iff, implies_true, Cd.cd440, Cd.cd441, Cd.cd442, Cd.cd44G, Cd.cd44D, Cd.cd44C, Tk.t44, base0, base1, base2, base3, Option.isNone_none, Option.isNone_some, Nat.reduceBEq, true_or, or_true, false_or, or_false, Nat.reduceLT, Nat.reduceMod, Nat.reducePow, rmaps, nsucc, List.flatten_cons, List.flatten_nil, Nat.reduceEqDiff, Nat.reduceLeDiff, Nat.reduceAdd, Nat.reduceMul, Nat.reduceSub, ↓reduceIte, reduceCtorEq, decide_true, decide_false]
  first | refine FCall.go (backward60 ys) (FZs.one (FZ.rowsOf ys)) ?_ | refine FCall.go' (backward60 ys) (FZs.one (FZ.rowsOf ys)) ?_ | refine FCall.goQ (backward60 ys) (FZs.one (FZ.rowsOf ys)) ?_
  simp only [KN_normal, Cd.cd440, Cd.cd441, Cd.cd442, Cd.cd44G, Cd.cd44D, Cd.cd44C, Tk.t44, base0, base1, base2, base3, Option.isNone_none, Option.isNone_some, Nat.reduceBEq, true_or, or_true, false_or, or_false, Nat.reduceLT, Nat.reduceMod, Nat.reducePow, rmaps, nsucc, List.flatten_cons, List.flatten_nil, Nat.reduceEqDiff, Nat.reduceLeDiff, Nat.reduceAdd, Nat.reduceMul, Nat.reduceSub, ↓reduceIte, reduceCtorEq, decide_true, decide_false]
  refine ⟨⟨.unk, ys.map treeV, fun k H => ∃ p q out, H.own AH.none.next = some (.cells [iv p]) ∧ H.own (AH.none.next + 1) = some (.cells [iv q]) ∧ H.own (AH.none.next + 1 + 1) = some (.cells [.v (.string out)]) ∧
      Chain b ((ys.take k).map Tree.h).reverse p q ∧ replA b ((ys.take k).map Tree.h).reverse p q out = R ∧ out.size + k * 21000 ≤ 4050 + ys.length * 21000, ?_, by simp; omega, by simp [upd], ?_, ?_, ?_⟩⟩
  · simp only [treesV, Cd.cd440, Cd.cd441, Cd.cd442, Cd.cd44G, Cd.cd44D, Cd.cd44C, Tk.t44, base0, base1, base2, base3, Option.isNone_none, Option.isNone_some, Nat.reduceBEq, true_or, or_true, false_or, or_false, Nat.reduceLT, Nat.reduceMod, Nat.reducePow, rmaps, nsucc, List.flatten_cons, List.flatten_nil, Nat.reduceEqDiff, Nat.reduceLeDiff, Nat.reduceAdd, Nat.reduceMul, Nat.reduceSub, ↓reduceIte, reduceCtorEq, decide_true, decide_false]
    rw [List.map_map]; rfl
  · refine ⟨x.h.frm, x.h.fin, by_, ?_, ?_, ?_, ?_, ?_, ?_⟩
    · simp [iv, show ¬ AH.none.next = AH.none.next + 1 + 1 by omega]
    · simp [iv]
    · simp
    · rw [List.length_map, List.take_length]; exact hc
    · rw [List.length_map, List.take_length]; exact hR
    · simp; exact hby
  · rintro k H2 hk ⟨p, q, out, h1, h2, h3, hch, hrep, hsz⟩
    rw [List.length_map] at hk
    have hget : (ys.map treeV).getD k .any = treeV (ys.getD k default) := by
      rw [List.getD_eq_getElem?_getD, List.getElem?_map, List.getElem?_eq_getElem hk, List.getD_eq_getElem?_getD, List.getElem?_eq_getElem hk]; rfl
    have htk : ((ys.take (k + 1)).map Tree.h).reverse = (ys.getD k default).h :: ((ys.take k).map Tree.h).reverse := by
      rw [List.take_add_one, List.getElem?_eq_getElem hk, List.getD_eq_getElem?_getD, List.getElem?_eq_getElem hk, List.map_append, List.reverse_append]; rfl
    rw [hget]
    rw [htk] at hch hrep
    generalize ys.getD k default = y at hch hrep
    have hy := treeV_box y
    have hch0 := hch
    simp only [Chain] at hch
    obtain ⟨c1, c2, c3, c4, c5, c6, c7, c8⟩ := hch
    simp only [replA] at hrep
    have hss := replStep_size hb hch0 (show out.size ≤ 900000 by omega)
    have zc : ∀ s e, (b.extract s e).size ≤ 4000 := fun s e => by rw [ByteArray.size_extract]; omega
    have z1 := zc y.h.body p
    have z2 := zc q y.h.stop
    have z3 := zc y.h.frm y.h.len
    have z4 := zc y.h.stop y.h.fin
    have z5 := zc y.h.len y.h.body
    have s1 : astr .add (b.extract y.h.body p) out = _ := sadd (by omega)
    have s2 : astr .add (b.extract y.h.body p ++ out) (b.extract q y.h.stop) = _ := sadd (by rw [ByteArray.size_append]; omega)
    have hcs : (b.extract y.h.body p ++ out ++ b.extract q y.h.stop).size ≤ 910000 := by simp only [ByteArray.size_append]; omega
    unfold replStep at hrep hss
    generalize hcc : b.extract y.h.body p ++ out ++ b.extract q y.h.stop = c at s2 hcs hrep hss
    cases ho : y.h.opn with
    | true =>
      simp only [ho, if_true] at hrep hss
      have s3 : astr .add (b.extract y.h.frm y.h.len) (b.extract y.h.len y.h.body) = _ := sadd (by omega)
      have s4 : astr .add (b.extract y.h.frm y.h.len ++ b.extract y.h.len y.h.body) c = _ := sadd (by rw [ByteArray.size_append]; omega)
      have s5 : astr .add (b.extract y.h.frm y.h.len ++ b.extract y.h.len y.h.body ++ c) (b.extract y.h.stop y.h.fin) = _ := sadd (by simp only [ByteArray.size_append]; omega)
      simp (maxSteps := 2000000) only [KN_normal, hy, hdL, h1, h2, h3, iv, ho, leT (show p ≤ b.size by omega), leT c3, leT (show y.h.stop ≤ b.size by omega), leT c5, leT (show y.h.body ≤ b.size by omega), leT (show y.h.len ≤ y.h.body by omega), leT (show y.h.len ≤ b.size by omega), leT c1, leT c7, leT c6, Int.natCast_nonneg, Int.toNat_natCast, s1, s2, s3, s4, s5, Cd.cd440, Cd.cd441, Cd.cd442, Cd.cd44G, Cd.cd44D, Cd.cd44C, Tk.t44, base0, base1, base2, base3, Option.isNone_none, Option.isNone_some, Nat.reduceBEq, true_or, or_true, false_or, or_false, Nat.reduceLT, Nat.reduceMod, Nat.reducePow, rmaps, nsucc, List.flatten_cons, List.flatten_nil, Nat.reduceEqDiff, Nat.reduceLeDiff, Nat.reduceAdd, Nat.reduceMul, Nat.reduceSub, ↓reduceIte, reduceCtorEq, decide_true, decide_false]
      exact ⟨fun n hn => by simp at hn, y.h.frm, y.h.fin, _, rfl, rfl, rfl, c8, hrep, by omega⟩
    | false =>
      simp only [ho, Bool.false_eq_true, if_false] at hrep hss
      have hlb := lengthB_size c.size (y.h.body - y.h.len) (by omega)
      have hL := length48 c.size (y.h.body - y.h.len) (by omega) (by omega) (by omega)
      generalize lengthB c.size (y.h.body - y.h.len) = w at hrep hss hlb hL
      have s3 : astr .add (b.extract y.h.frm y.h.len) w = _ := sadd (by omega)
      have s4 : astr .add (b.extract y.h.frm y.h.len ++ w) c = _ := sadd (by rw [ByteArray.size_append]; omega)
      have s5 : astr .add (b.extract y.h.frm y.h.len ++ w ++ c) (b.extract y.h.stop y.h.fin) = _ := sadd (by simp only [ByteArray.size_append]; omega)
      have wl : IntKind.i64.wrap ((y.h.body : Int) - (y.h.len : Int)) = ((y.h.body - y.h.len : Nat) : Int) := by rw [wrapI (by omega) (by omega)]; omega
      simp (maxSteps := 2000000) only [KN_normal, hy, hdL, h1, h2, h3, iv, ho, leT (show p ≤ b.size by omega), leT c3, leT (show y.h.stop ≤ b.size by omega), leT c5, leT (show y.h.body ≤ b.size by omega), leT (show y.h.len ≤ y.h.body by omega), leT (show y.h.len ≤ b.size by omega), leT c1, leT c7, leT c6, Int.natCast_nonneg, Int.toNat_natCast, s1, s2, wl, Cd.cd440, Cd.cd441, Cd.cd442, Cd.cd44G, Cd.cd44D, Cd.cd44C, Tk.t44, base0, base1, base2, base3, Option.isNone_none, Option.isNone_some, Nat.reduceBEq, true_or, or_true, false_or, or_false, Nat.reduceLT, Nat.reduceMod, Nat.reducePow, rmaps, nsucc, List.flatten_cons, List.flatten_nil, Nat.reduceEqDiff, Nat.reduceLeDiff, Nat.reduceAdd, Nat.reduceMul, Nat.reduceSub, ↓reduceIte, reduceCtorEq, decide_true, decide_false]
      first | refine FCall.go hL (FZs.cons (FZ.v _) (FZs.one (FZ.v _))) ?_ | refine FCall.go' hL (FZs.cons (FZ.v _) (FZs.one (FZ.v _))) ?_ | refine FCall.goQ hL (FZs.cons (FZ.v _) (FZs.one (FZ.v _))) ?_
      simp (maxSteps := 2000000) only [KN_normal, hy, hdL, h1, h2, h3, iv, ho, leT (show p ≤ b.size by omega), leT c3, leT (show y.h.stop ≤ b.size by omega), leT c5, leT (show y.h.body ≤ b.size by omega), leT (show y.h.len ≤ y.h.body by omega), leT (show y.h.len ≤ b.size by omega), leT c1, leT c7, leT c6, Int.natCast_nonneg, Int.toNat_natCast, s3, s4, s5, Cd.cd440, Cd.cd441, Cd.cd442, Cd.cd44G, Cd.cd44D, Cd.cd44C, Tk.t44, base0, base1, base2, base3, Option.isNone_none, Option.isNone_some, Nat.reduceBEq, true_or, or_true, false_or, or_false, Nat.reduceLT, Nat.reduceMod, Nat.reducePow, rmaps, nsucc, List.flatten_cons, List.flatten_nil, Nat.reduceEqDiff, Nat.reduceLeDiff, Nat.reduceAdd, Nat.reduceMul, Nat.reduceSub, ↓reduceIte, reduceCtorEq, decide_true, decide_false]
      exact ⟨fun n hn => by simp at hn, y.h.frm, y.h.fin, _, rfl, rfl, rfl, c8, hrep, by omega⟩
  · rintro H2 ⟨p, q, out, h1, h2, h3, hch, hrep, hsz⟩
    simp only [List.take_zero, List.map_nil, List.reverse_nil, replA, Chain] at hrep hch
    have z1 : (b.extract 0 p).size ≤ 4000 := by rw [ByteArray.size_extract]; omega
    have z2 : (b.extract q b.size).size ≤ 4000 := by rw [ByteArray.size_extract]; omega
    have s1 : astr .add (b.extract 0 p) out = _ := sadd (by omega)
    have s2 : astr .add (b.extract 0 p ++ out) (b.extract q b.size) = _ := sadd (by rw [ByteArray.size_append]; omega)
    simp only [h1, h2, h3, iv, Int.natCast_nonneg, Int.toNat_natCast, leT (Nat.le_trans hch.1 hch.2), leT hch.2, leT (Nat.le_refl b.size), s1, s2, Cd.cd440, Cd.cd441, Cd.cd442, Cd.cd44G, Cd.cd44D, Cd.cd44C, Tk.t44, base0, base1, base2, base3, Option.isNone_none, Option.isNone_some, Nat.reduceBEq, true_or, or_true, false_or, or_false, Nat.reduceLT, Nat.reduceMod, Nat.reducePow, rmaps, nsucc, List.flatten_cons, List.flatten_nil, Nat.reduceEqDiff, Nat.reduceLeDiff, Nat.reduceAdd, Nat.reduceMul, Nat.reduceSub, ↓reduceIte, reduceCtorEq, decide_true, decide_false]
    exact fin_v (by rw [hrep])
end Go.Proofs.Ytmjjfdppaomcfaa

/- Plain: how the nodes of right bytes lie within one another. -/
namespace Go.Proofs.Ytmjjfdppaomcfaa
open Go Go.Proofs.Ytmjjfdppaomcfaa.Ab

theorem tagL_lim {b : ByteArray} {lim lim' : Nat} (hl : lim ≤ lim') : ∀ {k k' p num m q : Nat}, tagL b lim k p num = .ok (m, q) → k ≤ k' → tagL b lim' k' p num = .ok (m, q)
  | 0, _, p, num, m, q, h, _ => by simp [tagL] at h
  | k + 1, 0, p, num, m, q, h, hk => by omega
  | k + 1, k' + 1, p, num, m, q, h, hk => by
    simp only [tagL] at h ⊢
    split at h
    · rename_i hp
      rw [if_pos (by omega)]
      split at h
      · cases h
      · rename_i h1
        rw [if_neg h1]
        split at h
        · rename_i h2; rw [if_pos h2]; exact h
        · rename_i h2; rw [if_neg h2]; exact tagL_lim hl h (by omega)
    · cases h
theorem ident_lim {b : ByteArray} {lim lim' a : Nat} {x : Nat × Nat × Bool × Nat} (hl : lim ≤ lim') (h : ident b a lim = .ok x) : ident b a lim' = .ok x := by
  unfold ident at h ⊢
  split at h
  · rw [if_pos (by omega)]
    split at h
    · rename_i h1; rw [if_pos h1]; exact h
    · rename_i h1
      rw [if_neg h1]
      split at h
      · rename_i m q hq; rw [tagL_lim hl hq (by omega)]; exact h
      · cases h
  · cases h
theorem lenL_lim {b : ByteArray} {lim lim' : Nat} (hl : lim ≤ lim') : ∀ {k p n m : Nat}, lenL b lim k p n = .ok m → lenL b lim' k p n = .ok m
  | 0, p, n, m, h => h
  | k + 1, p, n, m, h => by
    simp only [lenL] at h ⊢
    split at h
    · rw [if_pos (by omega)]
      split at h
      · cases h
      · rename_i h1; rw [if_neg h1]; exact lenL_lim hl h
    · cases h
theorem lenOf_lim {b : ByteArray} {lim lim' a : Nat} {bl : Bool} {x : Option Nat × Nat} (hl : lim ≤ lim') (h : lenOf b a lim bl = .ok x) : lenOf b a lim' bl = .ok x := by
  unfold lenOf at h ⊢
  split at h
  · rw [if_pos (by omega)]
    split at h
    · rename_i h1; rw [if_pos h1]; exact h
    · rename_i h1
      rw [if_neg h1]
      split at h
      · cases h
      · rename_i h2
        rw [if_neg h2]
        split at h
        · rename_i h3; rw [if_pos h3]; exact h
        · rename_i h3
          rw [if_neg h3]
          split at h
          · rename_i n hn; rw [lenL_lim hl hn]; exact h
          · cases h
  · cases h

theorem Tree.h_mk (h : Hd) (k : List Tree) : (Tree.mk h k).h = h := rfl
theorem Tree.kids_mk (h : Hd) (k : List Tree) : (Tree.mk h k).kids = k := rfl
mutual
/-- a node as bytes have it, so deep -/
def okT (b : ByteArray) (D : Nat) : Tree → Prop
  | .mk h k => (h.deep = D ∧ D ≤ 15) ∧ h.frm < h.len ∧ h.len < h.body ∧ h.body ≤ h.stop ∧ h.fin = h.stop + (if h.opn then 2 else 0) ∧ h.fin ≤ b.size ∧
      ident b h.frm b.size = .ok (h.cls, h.num, h.built, h.len) ∧ lenOf b h.len b.size h.built = .ok (if h.opn then none else some (h.stop - h.body), h.body) ∧
      (h.opn = true → bt b h.stop = 0 ∧ bt b (h.stop + 1) = 0 ∧ h.built = true) ∧ (h.built = false → k = []) ∧ (h.built = true → okTs b (D + 1) h.body h.stop k)
/-- nodes side by side, from a place to a place -/
def okTs (b : ByteArray) (D p q : Nat) : List Tree → Prop
  | [] => p = q
  | t :: l => t.h.frm = p ∧ okT b D t ∧ okTs b D t.h.fin q l
end
theorem okTs_append {b : ByteArray} {D q r : Nat} : ∀ {p : Nat} {l m : List Tree}, okTs b D p q l → okTs b D q r m → okTs b D p r (l ++ m)
  | p, [], m, h, h' => by simp only [okTs] at h; subst h; exact h'
  | p, t :: l, m, h, h' => by
    simp only [okTs, List.cons_append] at h ⊢
    exact ⟨h.1, h.2.1, okTs_append h.2.2 h'⟩
theorem okTs_one {b : ByteArray} {D : Nat} {t : Tree} (h : okT b D t) : okTs b D t.h.frm t.h.fin [t] := by
  simp only [okTs]; exact ⟨trivial, h, trivial⟩
theorem okT_lt {b : ByteArray} {D : Nat} {t : Tree} (h : okT b D t) : t.h.frm < t.h.fin ∧ t.h.fin ≤ b.size := by
  obtain ⟨h', k⟩ := t
  simp only [okT] at h
  simp only [Tree.h]
  have := h.2.2.2.2.1
  omega
theorem okTs_le {b : ByteArray} {D q : Nat} : ∀ {p : Nat} {l : List Tree}, okTs b D p q l → p ≤ q
  | p, [], h => by simp only [okTs] at h; omega
  | p, t :: l, h => by
    simp only [okTs] at h
    have := okTs_le h.2.2
    have := okT_lt h.2.1
    omega

def NodeWf (b : ByteArray) (D : Nat) (node : Nat → Nat → Except Flt (Tree × Nat)) : Prop := ∀ a c t c', node a c = .ok (t, c') → okT b D t ∧ t.h.frm = a
theorem kidsC_wf {b : ByteArray} {D stop : Nat} {node : Nat → Nat → Except Flt (Tree × Nat)} (hn : NodeWf b D node) (hs : NodeOk stop node) : ∀ {n p c : Nat} {acc l : List Tree} {c' p0 : Nat}, kidsC node stop n p c acc = .ok (l, c') → stop - p ≤ n → p ≤ stop → okTs b D p0 p acc → okTs b D p0 stop l
  | 0, p, c, acc, l, c', p0, h, hk, hp, ha => by
    simp only [kidsC] at h; cases h
    have : p = stop := by omega
    subst this; exact ha
  | n + 1, p, c, acc, l, c', p0, h, hk, hp, ha => by
    simp only [kidsC] at h
    split at h
    · split at h
      · cases h
      · rename_i t c1 h1
        have q := hn _ _ _ _ h1
        have q2 := hs _ _ _ _ h1
        refine kidsC_wf hn hs h (by omega) (by omega) (okTs_append ha ?_)
        rw [← q.2]; exact okTs_one q.1
    · cases h
      have : p = stop := by omega
      subst this; exact ha
theorem openC_wf {b : ByteArray} {D lim : Nat} {node : Nat → Nat → Except Flt (Tree × Nat)} (hn : NodeWf b D node) : ∀ {n p c : Nat} {acc l : List Tree} {s c' p0 : Nat}, openC node b lim n p c acc = .ok (l, s, c') → okTs b D p0 p acc → okTs b D p0 s l ∧ s + 1 < lim ∧ bt b s = 0 ∧ bt b (s + 1) = 0
  | 0, p, c, acc, l, s, c', p0, h, ha => by simp only [openC] at h; cases h
  | n + 1, p, c, acc, l, s, c', p0, h, ha => by
    simp only [openC] at h
    split at h
    · rename_i hz; cases h; exact ⟨ha, hz⟩
    · split at h
      · cases h
      · split at h
        · cases h
        · rename_i t c1 h1
          have q := hn _ _ _ _ h1
          refine openC_wf hn h (okTs_append ha ?_)
          rw [← q.2]; exact okTs_one q.1
theorem lenOf_opn {b : ByteArray} {a lim p : Nat} {bl : Bool} (h : lenOf b a lim bl = .ok (none, p)) : bl = true := by
  unfold lenOf at h
  split at h
  · split at h
    · cases h
    · split at h
      · cases h
      · rename_i h2
        split at h
        · rename_i h3
          cases bl
          · exact absurd (.inr ⟨h3, rfl⟩) h2
          · rfl
        · split at h
          · cases h
          · cases h
  · cases h
theorem rd_wf (b : ByteArray) : ∀ (d lim : Nat), lim ≤ b.size → d ≤ 16 → NodeWf b (16 - d) (fun a c => rd b d a lim c)
  | d, lim, hlim, hd, a, c, t, c', h => by
    simp only at h
    cases hid : ident b a lim with
    | error e => rw [rd_e1 hid] at h; cases h
    | ok x =>
      obtain ⟨cls, num, bl, p1⟩ := x
      have q1 := ident_ok hid
      cases hlen : lenOf b p1 lim bl with
      | error e => rw [rd_e2 hid hlen] at h; cases h
      | ok x =>
        obtain ⟨on, p2⟩ := x
        have q2 := lenOf_ok hlen
        cases hany : on.any (fun n => decide (lim - p2 < n)) with
        | true => rw [rd_e3 hid hlen hany] at h; cases h
        | false =>
          by_cases hcnt : 300 < c + 1
          · rw [rd_e4 hid hlen hany hcnt] at h; cases h
          · cases d with
            | zero => rw [rd_e5 hid hlen hany hcnt] at h; cases h
            | succ d =>
              have hd1 : 16 - (d + 1) = 15 - d := by omega
              have hd2 : 16 - d = 15 - d + 1 := by omega
              cases on with
              | none =>
                rw [rd_open hid hlen hcnt] at h
                cases ho : openC (fun a c => rd b d a lim c) b lim (lim - p2 + 1) p2 (c + 1) [] with
                | error e => rw [ho] at h; cases h
                | ok x =>
                  obtain ⟨l, s, c1⟩ := x
                  rw [ho] at h; cases h
                  have w := openC_wf (p0 := p2) (rd_wf b d lim hlim (by omega)) ho (by simp only [okTs])
                  have hb := lenOf_opn hlen
                  have k := openC_ok (rd_ok b d lim) ho (by omega)
                  subst hb
                  rw [hd2] at w
                  refine ⟨?_, rfl⟩
                  rw [hd1]
                  simp only [okT, if_true]
                  exact ⟨⟨trivial, by omega⟩, q1.1, q2.1, by omega, trivial, by omega, ident_lim hlim hid, lenOf_lim hlim hlen, fun _ => ⟨w.2.2.1, w.2.2.2, trivial⟩, fun e => (by cases e), fun _ => w.1⟩
              | some n =>
                have hn : ¬ lim - p2 < n := by simpa using hany
                cases bl with
                | false =>
                  rw [rd_leaf hid hlen hn hcnt] at h; cases h
                  refine ⟨?_, rfl⟩
                  rw [hd1]
                  simp only [okT]
                  exact ⟨⟨trivial, by omega⟩, q1.1, q2.1, by omega, by simp, by omega, ident_lim hlim hid, by rw [lenOf_lim hlim hlen]; simp, fun e => (by cases e), fun _ => trivial, fun e => (by cases e)⟩
                | true =>
                  rw [rd_kids hid hlen hn hcnt] at h
                  cases ho : kidsC (fun a c => rd b d a (p2 + n) c) (p2 + n) n p2 (c + 1) [] with
                  | error e => rw [ho] at h; cases h
                  | ok x =>
                    obtain ⟨l, c1⟩ := x
                    rw [ho] at h; cases h
                    have w := kidsC_wf (p0 := p2) (rd_wf b d (p2 + n) (by omega) (by omega)) (rd_ok b d (p2 + n)) ho (by omega) (by omega) (by simp only [okTs])
                    rw [hd2] at w
                    refine ⟨?_, rfl⟩
                    rw [hd1]
                    simp only [okT]
                    exact ⟨⟨trivial, by omega⟩, q1.1, q2.1, by omega, by simp, by omega, ident_lim hlim hid, by rw [lenOf_lim hlim hlen]; simp, fun e => (by cases e), fun e => (by cases e), fun _ => w⟩
theorem readB_wf {b : ByteArray} {l : List Tree} (h : readB b = .ok l) : okTs b 0 0 b.size l := by
  unfold readB at h
  split at h
  · cases h
  · split at h
    · cases h
    · split at h
      · cases h
      · rename_i l' c hk
        cases h
        exact kidsC_wf (rd_wf b 16 b.size (Nat.le_refl _) (Nat.le_refl _)) (rd_ok b 16 b.size) hk (by omega) (by omega) (by simp only [okTs])

/-! places in the list of all nodes -/
mutual
def subT : Tree → List Tree
  | .mk h k => .mk h k :: subTs k
def subTs : List Tree → List Tree
  | [] => []
  | t :: l => subT t ++ subTs l
end
mutual
theorem subT_map : ∀ t : Tree, (subT t).map Tree.h = flatT t
  | .mk h k => by simp only [subT, List.map_cons, flatT, subTs_map k, Tree.h]
theorem subTs_map : ∀ l : List Tree, (subTs l).map Tree.h = flatTs l
  | [] => rfl
  | t :: l => by simp only [subTs, List.map_append, flatTs, subT_map t, subTs_map l]
end
theorem subT_cons (t : Tree) : subT t = t :: subTs t.kids := by cases t; rfl
def headFrm (q : Nat) (l : List Tree) : Prop := ∀ x, l.head? = some x → q ≤ x.h.frm
/-- a node that stands at a place of the list -/
def AtT (b : ByteArray) (S : List Tree) (i D : Nat) (t : Tree) : Prop := ∃ rest, S.drop i = subT t ++ rest ∧ okT b D t ∧ headFrm t.h.fin rest
def AtL (b : ByteArray) (S : List Tree) (i D p q : Nat) (l : List Tree) : Prop := ∃ rest, S.drop i = subTs l ++ rest ∧ okTs b D p q l ∧ headFrm q rest
def sizeT (t : Tree) : Nat := (subT t).length
/-- the places of nodes side by side -/
def kidIx : Nat → List Tree → List Nat
  | _, [] => []
  | s, t :: l => s :: kidIx (s + sizeT t) l
theorem kidIx_length : ∀ (s : Nat) (l : List Tree), (kidIx s l).length = l.length
  | _, [] => rfl
  | s, t :: l => by simp [kidIx, kidIx_length _ l]
theorem AtL.head {b : ByteArray} {S : List Tree} {i D p q : Nat} {t : Tree} {l : List Tree} (h : AtL b S i D p q (t :: l)) : AtT b S i D t ∧ AtL b S (i + sizeT t) D t.h.fin q l := by
  obtain ⟨rest, h1, h2, h3⟩ := h
  simp only [okTs] at h2
  simp only [subTs, List.append_assoc] at h1
  refine ⟨⟨_, h1, h2.2.1, fun x hx => ?_⟩, ⟨rest, ?_, h2.2.2, h3⟩⟩
  · cases l with
    | nil =>
      simp only [subTs, List.nil_append] at hx
      have := h3 x hx
      simp only [okTs] at h2; omega
    | cons t' l =>
      have h4 := h2.2.2
      simp only [okTs] at h4
      simp only [subTs, subT_cons t', List.cons_append, List.head?_cons, Option.some.injEq] at hx
      subst hx; omega
  · rw [← List.drop_drop, h1, sizeT, List.drop_left]
theorem AtT.kids {b : ByteArray} {S : List Tree} {i D : Nat} {t : Tree} (h : AtT b S i D t) (hb : t.h.built = true) : AtL b S (i + 1) (D + 1) t.h.body t.h.stop t.kids := by
  obtain ⟨rest, h1, h2, h3⟩ := h
  obtain ⟨h, k⟩ := t
  simp only [okT] at h2
  simp only [Tree.h_mk] at hb h3
  refine ⟨rest, ?_, h2.2.2.2.2.2.2.2.2.2.2 hb, fun x hx => ?_⟩
  · rw [← List.drop_drop, h1, subT_cons]; rfl
  · have := h3 x hx
    have := h2.2.2.2.2.1
    simp only [Tree.h_mk]; omega
theorem AtL.all {b : ByteArray} {l : List Tree} (h : okTs b 0 0 b.size l) : AtL b (subTs l) 0 0 0 b.size l := ⟨[], by simp, h, fun x hx => by simp at hx⟩
theorem AtL.get {b : ByteArray} {S : List Tree} {q D : Nat} : ∀ {l : List Tree} {i p : Nat}, AtL b S i D p q l → ∀ j, j < l.length → AtT b S ((kidIx i l).getD j 0) D (l.getD j default)
  | [], i, p, h, j, hj => by simp at hj
  | t :: l, i, p, h, 0, hj => by simpa [kidIx] using h.head.1
  | t :: l, i, p, h, j + 1, hj => by
    have := AtL.get h.head.2 j (by simpa using hj)
    simpa [kidIx] using this
theorem AtT.get {b : ByteArray} {S : List Tree} {i D : Nat} {t : Tree} (h : AtT b S i D t) : i < S.length ∧ S.getD i default = t := by
  obtain ⟨rest, h1, _, _⟩ := h
  rw [subT_cons, List.cons_append] at h1
  have hl : i < S.length := by
    apply Classical.byContradiction
    intro hn
    rw [List.drop_of_length_le (by omega)] at h1; cases h1
  refine ⟨hl, ?_⟩
  rw [List.drop_eq_getElem_cons hl] at h1
  rw [List.getD_eq_getElem?_getD, List.getElem?_eq_getElem hl]
  exact (List.cons.inj h1).1
theorem AtT.ok {b : ByteArray} {S : List Tree} {i D : Nat} {t : Tree} (h : AtT b S i D t) : okT b D t := by obtain ⟨_, _, h, _⟩ := h; exact h

/-! looking for the nodes directly within one -/
def kidScan (D frm to : Nat) : Nat → List Hd → List Nat
  | _, [] => []
  | i, x :: l => if to ≤ x.frm then [] else if x.deep = D ∧ frm ≤ x.frm then i :: kidScan D frm to (i + 1) l else kidScan D frm to (i + 1) l
theorem kidScan_end {D frm to i : Nat} {rest : List Tree} (h : headFrm to rest) : kidScan D frm to i (rest.map Tree.h) = [] := by
  cases rest with
  | nil => rfl
  | cons x l =>
    have := h x rfl
    simp only [List.map_cons, kidScan]
    rw [if_pos this]
mutual
theorem kidScan_T {b : ByteArray} {D E frm to : Nat} (hD : D < E) : ∀ (t : Tree) (i : Nat) (rest : List Hd), okT b E t → t.h.fin ≤ to → kidScan D frm to i (flatT t ++ rest) = kidScan D frm to (i + sizeT t) rest
  | .mk h k, i, rest, ho, hf => by
    simp only [okT] at ho
    simp only [Tree.h_mk] at hf
    have h5 := ho.2.2.2.2.1
    simp only [flatT, List.cons_append, kidScan]
    rw [if_neg (by omega), if_neg (by omega)]
    have hs : sizeT (.mk h k) = 1 + (subTs k).length := by simp [sizeT, subT]; omega
    cases hb : h.built with
    | false =>
      have := ho.2.2.2.2.2.2.2.2.2.1 hb
      subst this
      simp [hs, flatTs, subTs]
    | true =>
      have hk := ho.2.2.2.2.2.2.2.2.2.2 hb
      have := kidScan_L (frm := frm) (to := to) (show D < E + 1 by omega) k (i + 1) rest hk (show h.stop ≤ to by omega)
      rw [this, hs, ← Nat.add_assoc]
theorem kidScan_L {b : ByteArray} {D E frm to : Nat} (hD : D < E) : ∀ (l : List Tree) (i : Nat) (rest : List Hd) {p q : Nat}, okTs b E p q l → q ≤ to → kidScan D frm to i (flatTs l ++ rest) = kidScan D frm to (i + (subTs l).length) rest
  | [], i, rest, p, q, _, _ => by simp [flatTs, subTs]
  | t :: l, i, rest, p, q, ho, hq => by
    simp only [okTs] at ho
    have := okTs_le ho.2.2
    simp only [flatTs, List.append_assoc, subTs, List.length_append]
    rw [kidScan_T hD t i _ ho.2.1 (by omega), kidScan_L hD l _ rest ho.2.2 hq, sizeT, Nat.add_assoc]
end
theorem kidScan_kids {b : ByteArray} {D frm to : Nat} {rest : List Tree} (hr : headFrm to rest) : ∀ (l : List Tree) (i : Nat) {p : Nat}, okTs b D p to l → frm ≤ p → kidScan D frm to i (flatTs l ++ rest.map Tree.h) = kidIx i l
  | [], i, p, _, _ => by simpa [flatTs, kidIx] using kidScan_end hr
  | .mk h k :: l, i, p, ho, hp => by
    simp only [okTs] at ho
    obtain ⟨o1, o2, o3⟩ := ho
    have o4 := okT_lt o2
    have o5 := okTs_le o3
    simp only [Tree.h_mk] at o1 o3 o4 o5
    have o2' := o2
    simp only [okT] at o2
    have h5 := o2.2.2.2.2.1
    simp only [flatTs, flatT, List.cons_append, kidScan, List.append_assoc]
    rw [if_neg (by omega), if_pos ⟨o2.1.1, by omega⟩]
    have hs : sizeT (.mk h k) = 1 + (subTs k).length := by simp [sizeT, subT]; omega
    have ih := kidScan_kids hr l (i + sizeT (.mk h k)) o3 (show frm ≤ h.fin by omega)
    rw [kidIx]
    congr 1
    rw [← ih, hs]
    cases hb : h.built with
    | false =>
      have := o2.2.2.2.2.2.2.2.2.2.1 hb
      subst this
      simp [flatTs, subTs]
    | true =>
      have hk := o2.2.2.2.2.2.2.2.2.2.2 hb
      rw [kidScan_L (frm := frm) (to := to) (show D < D + 1 by omega) k (i + 1) _ hk (show h.stop ≤ to by omega), Nat.add_assoc]
/-- the nodes within a node -/
theorem AtT.scan {b : ByteArray} {S : List Tree} {i D : Nat} {t : Tree} (h : AtT b S i D t) : kidScan (t.h.deep + 1) t.h.body t.h.stop (i + 1) ((S.drop (i + 1)).map Tree.h) = kidIx (i + 1) t.kids := by
  have h0 := h
  obtain ⟨rest, h1, h2, h3⟩ := h
  have hd : S.drop (i + 1) = subTs t.kids ++ rest := by rw [← List.drop_drop, h1, subT_cons]; rfl
  have hd2 : (S.drop (i + 1)).map Tree.h = flatTs t.kids ++ rest.map Tree.h := by rw [hd, List.map_append, subTs_map]
  have hr : headFrm t.h.stop rest := fun x hx => by
    have := h3 x hx
    obtain ⟨h, k⟩ := t
    simp only [okT] at h2
    simp only [Tree.h_mk] at this ⊢
    have := h2.2.2.2.2.1
    omega
  rw [hd2]
  cases hb : t.h.built with
  | true =>
    obtain ⟨rest', _, h5, _⟩ := h0.kids hb
    have hD : t.h.deep = D := by obtain ⟨h, k⟩ := t; simp only [okT] at h2; exact h2.1.1
    rw [hD]
    exact kidScan_kids hr t.kids (i + 1) h5 (Nat.le_refl _)
  | false =>
    obtain ⟨h, k⟩ := t
    simp only [okT] at h2
    simp only [Tree.h_mk] at hb
    have := h2.2.2.2.2.2.2.2.2.2.1 hb
    subst this
    simp only [Tree.kids_mk, flatTs, List.nil_append, kidIx]
    exact kidScan_end hr
theorem scan_top {b : ByteArray} {l : List Tree} (h : okTs b 0 0 b.size l) : kidScan 0 0 b.size 0 (flatTs l) = kidIx 0 l := by
  have := kidScan_kids (rest := []) (fun x hx => by simp at hx) l 0 h (Nat.le_refl _)
  simpa using this
end Go.Proofs.Ytmjjfdppaomcfaa

/- Plain: the node at a path, and bytes in its place. -/
namespace Go.Proofs.Ytmjjfdppaomcfaa
open Go Go.Proofs.Ytmjjfdppaomcfaa.Ab

def findP : List Tree → List Int → Option (Tree × List Tree)
  | _, [] => none
  | l, p :: r => if 0 ≤ p ∧ p < (l.length : Int) then (if r = [] then some (l.getD p.toNat default, []) else
      match findP (l.getD p.toNat default).kids r with
      | some (x, ys) => some (x, l.getD p.toNat default :: ys)
      | none => none) else none
theorem findT_eq : ∀ (path : List Int) (l acc : List Tree), findT l path acc = match findP l path with | some (x, ys) => some (x, acc ++ ys) | none => none
  | [], l, acc => rfl
  | p :: r, l, acc => by
    simp only [findT, findP]
    split
    · split
      · simp
      · rw [findT_eq r]
        cases findP (l.getD p.toNat default).kids r with
        | none => rfl
        | some x => obtain ⟨x, ys⟩ := x; simp
    · rfl
theorem findP_len : ∀ {path : List Int} {l : List Tree} {x : Tree} {ys : List Tree}, findP l path = some (x, ys) → ys.length + 1 = path.length
  | [], l, x, ys, h => by cases h
  | p :: r, l, x, ys, h => by
    simp only [findP] at h
    split at h
    · split at h
      · rename_i hr; subst hr; cases h; rfl
      · split at h
        · rename_i x' ys' he
          cases h
          have := findP_len he
          simp; omega
        · cases h
    · cases h

/-- nodes one within the other, the innermost first -/
def ChainI (n lo hi : Nat) : List Hd → Nat → Nat → Prop
  | [], p, q => lo ≤ p ∧ p ≤ q ∧ q ≤ hi
  | y :: r, p, q => y.frm ≤ y.len ∧ y.len < y.body ∧ y.body ≤ p ∧ p ≤ q ∧ q ≤ y.stop ∧ y.stop ≤ y.fin ∧ y.fin ≤ n ∧ ChainI n lo hi r y.frm y.fin
theorem ChainI.snoc {n lo hi : Nat} {y : Hd} (hy : y.frm ≤ y.len ∧ y.len < y.body ∧ y.body ≤ y.stop ∧ y.stop ≤ y.fin ∧ y.fin ≤ n) (hl : lo ≤ y.frm) (hh : y.fin ≤ hi) : ∀ {m : List Hd} {p q : Nat}, ChainI n y.body y.stop m p q → ChainI n lo hi (m ++ [y]) p q
  | [], p, q, h => by
    simp only [ChainI, List.nil_append] at h ⊢
    omega
  | z :: m, p, q, h => by
    simp only [ChainI, List.cons_append] at h ⊢
    exact ⟨h.1, h.2.1, h.2.2.1, h.2.2.2.1, h.2.2.2.2.1, h.2.2.2.2.2.1, h.2.2.2.2.2.2.1, ChainI.snoc hy hl hh h.2.2.2.2.2.2.2⟩
theorem ChainI.chain {b : ByteArray} : ∀ {m : List Hd} {p q : Nat}, ChainI b.size 0 b.size m p q → Chain b m p q
  | [], p, q, h => by simp only [ChainI, Chain] at h ⊢; omega
  | z :: m, p, q, h => by
    simp only [ChainI, Chain] at h ⊢
    exact ⟨h.1, h.2.1, h.2.2.1, h.2.2.2.1, h.2.2.2.2.1, h.2.2.2.2.2.1, h.2.2.2.2.2.2.1, h.2.2.2.2.2.2.2.chain⟩
theorem okT_in {b : ByteArray} {D : Nat} {t : Tree} (h : okT b D t) : t.h.frm ≤ t.h.len ∧ t.h.len < t.h.body ∧ t.h.body ≤ t.h.stop ∧ t.h.stop ≤ t.h.fin ∧ t.h.fin ≤ b.size := by
  obtain ⟨h', k⟩ := t
  simp only [okT] at h
  simp only [Tree.h_mk]
  have := h.2.2.2.2.1
  omega
theorem okTs_get {b : ByteArray} {D q : Nat} : ∀ {l : List Tree} {p : Nat}, okTs b D p q l → ∀ j, j < l.length → okT b D (l.getD j default) ∧ p ≤ (l.getD j default).h.frm ∧ (l.getD j default).h.fin ≤ q
  | [], p, h, j, hj => by simp at hj
  | t :: l, p, h, 0, hj => by
    simp only [okTs] at h
    have := okTs_le h.2.2
    simp only [List.getD_cons_zero]
    exact ⟨h.2.1, by omega, this⟩
  | t :: l, p, h, j + 1, hj => by
    simp only [okTs] at h
    have h1 := okT_lt h.2.1
    have := okTs_get h.2.2 j (by simpa using hj)
    simp only [List.getD_cons_succ]
    exact ⟨this.1, by omega, this.2.2⟩
theorem okT_kids {b : ByteArray} {D : Nat} {t : Tree} (h : okT b D t) (hk : t.kids ≠ []) : okTs b (D + 1) t.h.body t.h.stop t.kids := by
  obtain ⟨h', k⟩ := t
  simp only [okT] at h
  simp only [Tree.h_mk, Tree.kids_mk] at hk ⊢
  cases hb : h'.built with
  | true => exact h.2.2.2.2.2.2.2.2.2.2 hb
  | false => exact absurd (h.2.2.2.2.2.2.2.2.2.1 hb) hk
theorem findP_kids {l : List Tree} {path : List Int} {x : Tree} {ys : List Tree} (h : findP l path = some (x, ys)) : l ≠ [] := by
  rintro rfl
  cases path with
  | nil => cases h
  | cons p r => simp only [findP] at h; rw [if_neg (by simp <;> omega)] at h; cases h
theorem findP_chain {b : ByteArray} : ∀ {path : List Int} {l : List Tree} {D lo hi : Nat} {x : Tree} {ys : List Tree}, okTs b D lo hi l → findP l path = some (x, ys) → ChainI b.size lo hi (ys.map Tree.h).reverse x.h.frm x.h.fin ∧ ∃ E, okT b E x
  | [], l, D, lo, hi, x, ys, ho, h => by cases h
  | p :: r, l, D, lo, hi, x, ys, ho, h => by
    simp only [findP] at h
    split at h
    · rename_i hp
      have hg := okTs_get ho p.toNat (by omega)
      split at h
      · cases h
        have := okT_in hg.1
        refine ⟨?_, _, hg.1⟩
        simp only [List.map_nil, List.reverse_nil, ChainI]; omega
      · split at h
        · rename_i x' ys' he
          cases h
          have hk := okT_kids hg.1 (findP_kids he)
          have ih := findP_chain hk he
          refine ⟨?_, ih.2⟩
          rw [List.map_cons, List.reverse_cons]
          exact ChainI.snoc (okT_in hg.1) hg.2.1 hg.2.2 ih.1
        · cases h
    · cases h

def errOf : Except Flt (List Tree) → Int
  | .ok _ => 0
  | .error e => e.2
def okL : Except Flt (List Tree) → List Tree
  | .ok l => l
  | .error _ => []
def atOf (b : ByteArray) : Except Flt (List Tree) → Nat
  | .ok _ => b.size
  | .error e => e.1
theorem readOut_eq (b : ByteArray) (r : Except Flt (List Tree)) : readOut b r = .tup [treesV (okL r), .v (.int .i64 (atOf b r : Int)), .v (.int .i64 (errOf r))] := by cases r <;> rfl
theorem errOf_zero {b : ByteArray} (h : errOf (readB b) = 0) : ∃ l, readB b = .ok l := by
  cases hr : readB b with
  | ok l => exact ⟨l, rfl⟩
  | error e => rw [hr] at h; exact absurd h (readB_err hr)
theorem errOf_size {b : ByteArray} (h : errOf (readB b) = 0) : b.size ≤ 4000 := by
  obtain ⟨l, hl⟩ := errOf_zero h
  exact (readB_len hl).2

/-- bytes in which a node is other bytes, and the error -/
def replacedP (b : ByteArray) (path : List Int) (by_ : ByteArray) : ByteArray × Int :=
  if errOf (readB b) ≠ 0 then (⟨#[]⟩, errOf (readB b)) else
  if path ≠ [] ∧ findP (okL (readB b)) path = none then (⟨#[]⟩, 11) else
  if (by_.size ≠ 0 ∨ path.length = 0 ∨ (path.length = 1 ∧ (okL (readB b)).length = 1)) ∧ errOf (readB by_) ≠ 0 then (⟨#[]⟩, errOf (readB by_)) else
  let out := match findP (okL (readB b)) path with
    | none => by_
    | some (x, ys) => replA b (ys.map Tree.h).reverse x.h.frm x.h.fin by_
  if 4000 < out.size then (⟨#[]⟩, 2) else if errOf (readB out) ≠ 0 then (⟨#[]⟩, errOf (readB out)) else (out, 0)
end Go.Proofs.Ytmjjfdppaomcfaa

/- Walks: bytes in which a node is other bytes; the chapter's example. -/
namespace Go.Proofs.Ytmjjfdppaomcfaa
open Go Go.Proofs.Ytmjjfdppaomcfaa.Ab
set_option maxRecDepth 100000
set_option linter.unusedSimpArgs false

theorem astr_nnil (b : ByteArray) : astr .neq b ⟨#[]⟩ = some (.bool (decide (b.size ≠ 0))) := by
  have h := astr_nil b
  simp only [astr, Option.some.injEq, Value.bool.injEq] at h ⊢
  rw [h]; simp
theorem FZ.strInt (s : ByteArray) (e : Int) : FZ (.tup [.v (.string s), .v (.int .i64 e)]) := FZ.tup (FZs.cons (FZ.v _) (FZs.one (FZ.v _)))
theorem fin_si {H' : AH} {s : ByteArray} {e : Int} {w : AV} (hw : w = .tup [.v (.string s), .v (.int .i64 e)]) : ∃ v v', AOut.ret (.tup [.v (.string s), .v (.int .i64 e)]) = .ret v ∧ View H' v v' ∧ FZ v' ∧ v' = w := by
  subst hw; exact ⟨_, _, rfl, (FZ.strInt s e).view, FZ.strInt s e, rfl⟩
def siV (x : ByteArray × Int) : AV := .tup [.v (.string x.1), .v (.int .i64 x.2)]
theorem bneF {x y : Int} (h : x = y) : (x != y) = false := by subst h; simp
theorem bneT {x y : Int} (h : x ≠ y) : (x != y) = true := by simp [h]
theorem beqT {x y : Int} (h : x = y) : (x == y) = true := by subst h; simp
theorem beqF {x y : Int} (h : x ≠ y) : (x == y) = false := by simp [h]
theorem FZ.intsV (l : List Int) : FZ (intsV l) := FZ.lst rfl fun r hr => by
  obtain ⟨x, _, rfl⟩ := List.mem_map.mp hr; exact FZs.one (FZ.v _)

def ResSI (R : ByteArray × Int) : AOut → AH → Prop := fun out H' => ∃ v v', out = .ret v ∧ View H' v v' ∧ FZ v' ∧ v' = siV R
def endP (out : ByteArray) : ByteArray × Int := if 4000 < out.size then (⟨#[]⟩, 2) else if errOf (readB out) ≠ 0 then (⟨#[]⟩, errOf (readB out)) else (out, 0)
def outP (b by_ : ByteArray) : Option (Tree × List Tree) → ByteArray
  | none => by_
  | some (x, ys) => replA b (ys.map Tree.h).reverse x.h.frm x.h.fin by_
def xV : Option (Tree × List Tree) → AV
  | some (t, _) => treeV t
  | none => .v (.pointer none)
def arV : Option (Tree × List Tree) → AV
  | some (_, a) => treesV a
  | none => treesV []
def rest16c : CC := dropS 9 Cd.cd16
set_option maxHeartbeats 2000000 in
theorem tail16c (out : ByteArray) (f : AF) (H : AH) (f17 : f.t 17 = .v (.string out)) (hds : f.ds = []) :
    cwp Try.prog [] 91 rest16c (Kont.fin Try.prog [ResultVar.tmp 6, ResultVar.tmp 7] (ResSI (endP out))) f H := by
  unfold endP
  by_cases h1 : 4000 < out.size
  · rw [if_pos h1]
    simp only [rest16c, dropS, f17, hds, show decide ((out.size : Int) > 4000) = true from decide_eq_true (by omega), Cd.cd16, Tk.t16, base0, base1, base2, base3, Option.isNone_none, Option.isNone_some, Nat.reduceBEq, true_or, or_true, false_or, or_false, Nat.reduceLT, Nat.reduceMod, Nat.reducePow, rmaps, nsucc, List.flatten_cons, List.flatten_nil, Nat.reduceEqDiff, Nat.reduceLeDiff, Nat.reduceAdd, Nat.reduceMul, Nat.reduceSub, ↓reduceIte, reduceCtorEq, decide_true, decide_false]
    exact fin_si rfl
  · rw [if_neg h1]
    simp only [rest16c, dropS, f17, hds, show decide ((out.size : Int) > 4000) = false from decide_eq_false (by omega), Cd.cd16, Tk.t16, base0, base1, base2, base3, Option.isNone_none, Option.isNone_some, Nat.reduceBEq, true_or, or_true, false_or, or_false, Nat.reduceLT, Nat.reduceMod, Nat.reducePow, rmaps, nsucc, List.flatten_cons, List.flatten_nil, Nat.reduceEqDiff, Nat.reduceLeDiff, Nat.reduceAdd, Nat.reduceMul, Nat.reduceSub, ↓reduceIte, reduceCtorEq, decide_true, decide_false]
    first | refine FCall.go (read37 out) (FZs.one (FZ.v _)) ?_ | refine FCall.go' (read37 out) (FZs.one (FZ.v _)) ?_ | refine FCall.goQ (read37 out) (FZs.one (FZ.v _)) ?_
    by_cases h2 : errOf (readB out) = 0
    · rw [if_neg (fun h => h h2)]
      simp only [f17, hds, readOut_eq, bneF h2, Cd.cd16, Tk.t16, base0, base1, base2, base3, Option.isNone_none, Option.isNone_some, Nat.reduceBEq, true_or, or_true, false_or, or_false, Nat.reduceLT, Nat.reduceMod, Nat.reducePow, rmaps, nsucc, List.flatten_cons, List.flatten_nil, Nat.reduceEqDiff, Nat.reduceLeDiff, Nat.reduceAdd, Nat.reduceMul, Nat.reduceSub, ↓reduceIte, reduceCtorEq, decide_true, decide_false]
      exact fin_si rfl
    · rw [if_pos h2]
      simp only [f17, hds, readOut_eq, bneT h2, Cd.cd16, Tk.t16, base0, base1, base2, base3, Option.isNone_none, Option.isNone_some, Nat.reduceBEq, true_or, or_true, false_or, or_false, Nat.reduceLT, Nat.reduceMod, Nat.reducePow, rmaps, nsucc, List.flatten_cons, List.flatten_nil, Nat.reduceEqDiff, Nat.reduceLeDiff, Nat.reduceAdd, Nat.reduceMul, Nat.reduceSub, ↓reduceIte, reduceCtorEq, decide_true, decide_false]
      exact fin_si rfl

def rest16b : CC := dropS 7 Cd.cd16
theorem rest16b_eq : rest16b = putS 2 (dropS 7 Cd.cd16) rest16c := (putS_drop 2 (dropS 7 Cd.cd16)).symm
set_option maxHeartbeats 2000000 in
theorem tail16b (b : ByteArray) (hb : b.size ≤ 4000) (by_ : ByteArray) (hby : by_.size ≤ 4050) (fo : Option (Tree × List Tree)) (hfo : ∀ x ys, fo = some (x, ys) → ys.length ≤ 20 ∧ Chain b (ys.map Tree.h).reverse x.h.frm x.h.fin)
    (f : AF) (H : AH) (f0 : f.t 0 = .v (.string b)) (f2 : f.t 2 = .v (.string by_)) (f11 : f.t 11 = xV fo) (f12 : f.t 12 = arV fo) (hds : f.ds = []) :
    cwp Try.prog [] 91 rest16b (Kont.fin Try.prog [ResultVar.tmp 6, ResultVar.tmp 7] (ResSI (endP (outP b by_ fo)))) f H := by
  rw [rest16b_eq]
  cases fo with
  | none =>
    simp only [xV, arV] at f11 f12
    simp only [dropS, putS, f0, f2, f11, f12, hds, Cd.cd16, Tk.t16, base0, base1, base2, base3, Option.isNone_none, Option.isNone_some, Nat.reduceBEq, true_or, or_true, false_or, or_false, Nat.reduceLT, Nat.reduceMod, Nat.reducePow, rmaps, nsucc, List.flatten_cons, List.flatten_nil, Nat.reduceEqDiff, Nat.reduceLeDiff, Nat.reduceAdd, Nat.reduceMul, Nat.reduceSub, ↓reduceIte, reduceCtorEq, decide_true, decide_false]
    exact tail16c _ _ _ (by simp [upd, outP]) (by simp [upd, hds])
  | some xy =>
    obtain ⟨x, ys⟩ := xy
    obtain ⟨g1, g2⟩ := hfo x ys rfl
    simp only [xV, arV] at f11 f12
    have hx := treeV_box x
    have hR := replaced44 b hb ys x by_ g1 hby g2
    have hz := FZ.treeV x
    rw [hx] at hR f11 hz
    simp only [dropS, putS, f0, f2, f11, f12, hds, Cd.cd16, Tk.t16, base0, base1, base2, base3, Option.isNone_none, Option.isNone_some, Nat.reduceBEq, true_or, or_true, false_or, or_false, Nat.reduceLT, Nat.reduceMod, Nat.reducePow, rmaps, nsucc, List.flatten_cons, List.flatten_nil, Nat.reduceEqDiff, Nat.reduceLeDiff, Nat.reduceAdd, Nat.reduceMul, Nat.reduceSub, ↓reduceIte, reduceCtorEq, decide_true, decide_false]
    first | refine FCall.go hR (FZs.cons (FZ.v _) (FZs.cons (FZ.rowsOf ys) (FZs.cons hz (FZs.one (FZ.v _))))) ?_ | refine FCall.go' hR (FZs.cons (FZ.v _) (FZs.cons (FZ.rowsOf ys) (FZs.cons hz (FZs.one (FZ.v _))))) ?_ | refine FCall.goQ hR (FZs.cons (FZ.v _) (FZs.cons (FZ.rowsOf ys) (FZs.cons hz (FZs.one (FZ.v _))))) ?_
    simp only [dropS, putS, Cd.cd16, Tk.t16, base0, base1, base2, base3, Option.isNone_none, Option.isNone_some, Nat.reduceBEq, true_or, or_true, false_or, or_false, Nat.reduceLT, Nat.reduceMod, Nat.reducePow, rmaps, nsucc, List.flatten_cons, List.flatten_nil, Nat.reduceEqDiff, Nat.reduceLeDiff, Nat.reduceAdd, Nat.reduceMul, Nat.reduceSub, ↓reduceIte, reduceCtorEq, decide_true, decide_false]
    exact tail16c _ _ _ (by simp [upd, outP]) (by simp [upd, hds])

def rest16a : CC := dropS 6 Cd.cd16
theorem rest16a_eq : rest16a = putS 1 (dropS 6 Cd.cd16) rest16b := (putS_drop 1 (dropS 6 Cd.cd16)).symm
set_option maxHeartbeats 2000000 in
theorem tail16a (b : ByteArray) (hb : b.size ≤ 4000) (by_ : ByteArray) (al : Bool) (fo : Option (Tree × List Tree)) (hfo : ∀ x ys, fo = some (x, ys) → ys.length ≤ 20 ∧ Chain b (ys.map Tree.h).reverse x.h.frm x.h.fin)
    (f : AF) (H : AH) (f0 : f.t 0 = .v (.string b)) (f2 : f.t 2 = .v (.string by_)) (f11 : f.t 11 = xV fo) (f12 : f.t 12 = arV fo) (f13 : f.t 13 = .v (.bool al)) (hds : f.ds = []) (R : ByteArray × Int) (hR : (if (by_.size ≠ 0 ∨ al = true) ∧ errOf (readB by_) ≠ 0 then (⟨#[]⟩, errOf (readB by_)) else endP (outP b by_ fo)) = R) :
    cwp Try.prog [] 91 rest16a (Kont.fin Try.prog [ResultVar.tmp 6, ResultVar.tmp 7] (ResSI R)) f H := by
  rw [rest16a_eq]
  by_cases h0 : by_.size = 0
  · cases al with
    | false =>
      rw [if_neg (by simp [h0])] at hR
      subst hR
      simp only [dropS, putS, f0, f2, f13, hds, astr_nnil, h0, ne_eq, not_true_eq_false, Cd.cd16, Tk.t16, base0, base1, base2, base3, Option.isNone_none, Option.isNone_some, Nat.reduceBEq, true_or, or_true, false_or, or_false, Nat.reduceLT, Nat.reduceMod, Nat.reducePow, rmaps, nsucc, List.flatten_cons, List.flatten_nil, Nat.reduceEqDiff, Nat.reduceLeDiff, Nat.reduceAdd, Nat.reduceMul, Nat.reduceSub, ↓reduceIte, reduceCtorEq, decide_true, decide_false]
      exact tail16b b hb by_ (by omega) fo hfo _ _ (by simp [upd, f0]) (by simp [upd, f2]) (by simp [upd, f11]) (by simp [upd, f12]) (by simp [upd, hds])
    | true =>
      simp only [dropS, putS, f0, f2, f13, hds, astr_nnil, h0, ne_eq, not_true_eq_false, Cd.cd16, Tk.t16, base0, base1, base2, base3, Option.isNone_none, Option.isNone_some, Nat.reduceBEq, true_or, or_true, false_or, or_false, Nat.reduceLT, Nat.reduceMod, Nat.reducePow, rmaps, nsucc, List.flatten_cons, List.flatten_nil, Nat.reduceEqDiff, Nat.reduceLeDiff, Nat.reduceAdd, Nat.reduceMul, Nat.reduceSub, ↓reduceIte, reduceCtorEq, decide_true, decide_false]
      first | refine FCall.go (read37 by_) (FZs.one (FZ.v _)) ?_ | refine FCall.go' (read37 by_) (FZs.one (FZ.v _)) ?_ | refine FCall.goQ (read37 by_) (FZs.one (FZ.v _)) ?_
      by_cases h2 : errOf (readB by_) = 0
      · rw [if_neg (fun h => h.2 h2)] at hR
        subst hR
        simp only [dropS, putS, readOut_eq, bneF h2, Cd.cd16, Tk.t16, base0, base1, base2, base3, Option.isNone_none, Option.isNone_some, Nat.reduceBEq, true_or, or_true, false_or, or_false, Nat.reduceLT, Nat.reduceMod, Nat.reducePow, rmaps, nsucc, List.flatten_cons, List.flatten_nil, Nat.reduceEqDiff, Nat.reduceLeDiff, Nat.reduceAdd, Nat.reduceMul, Nat.reduceSub, ↓reduceIte, reduceCtorEq, decide_true, decide_false]
        exact tail16b b hb by_ (by omega) fo hfo _ _ (by simp [upd, f0]) (by simp [upd, f2]) (by simp [upd, f11]) (by simp [upd, f12]) (by simp [upd, hds])
      · rw [if_pos ⟨.inr rfl, h2⟩] at hR
        subst hR
        simp only [dropS, putS, readOut_eq, bneT h2, hds, Cd.cd16, Tk.t16, base0, base1, base2, base3, Option.isNone_none, Option.isNone_some, Nat.reduceBEq, true_or, or_true, false_or, or_false, Nat.reduceLT, Nat.reduceMod, Nat.reducePow, rmaps, nsucc, List.flatten_cons, List.flatten_nil, Nat.reduceEqDiff, Nat.reduceLeDiff, Nat.reduceAdd, Nat.reduceMul, Nat.reduceSub, ↓reduceIte, reduceCtorEq, decide_true, decide_false]
        exact fin_si rfl
  · simp only [dropS, putS, f0, f2, f13, hds, astr_nnil, h0, ne_eq, not_false_eq_true, Cd.cd16, Tk.t16, base0, base1, base2, base3, Option.isNone_none, Option.isNone_some, Nat.reduceBEq, true_or, or_true, false_or, or_false, Nat.reduceLT, Nat.reduceMod, Nat.reducePow, rmaps, nsucc, List.flatten_cons, List.flatten_nil, Nat.reduceEqDiff, Nat.reduceLeDiff, Nat.reduceAdd, Nat.reduceMul, Nat.reduceSub, ↓reduceIte, reduceCtorEq, decide_true, decide_false]
    first | refine FCall.go (read37 by_) (FZs.one (FZ.v _)) ?_ | refine FCall.go' (read37 by_) (FZs.one (FZ.v _)) ?_ | refine FCall.goQ (read37 by_) (FZs.one (FZ.v _)) ?_
    by_cases h2 : errOf (readB by_) = 0
    · rw [if_neg (fun h => h.2 h2)] at hR
      subst hR
      have := errOf_size h2
      simp only [dropS, putS, readOut_eq, bneF h2, Cd.cd16, Tk.t16, base0, base1, base2, base3, Option.isNone_none, Option.isNone_some, Nat.reduceBEq, true_or, or_true, false_or, or_false, Nat.reduceLT, Nat.reduceMod, Nat.reducePow, rmaps, nsucc, List.flatten_cons, List.flatten_nil, Nat.reduceEqDiff, Nat.reduceLeDiff, Nat.reduceAdd, Nat.reduceMul, Nat.reduceSub, ↓reduceIte, reduceCtorEq, decide_true, decide_false]
      exact tail16b b hb by_ (by omega) fo hfo _ _ (by simp [upd, f0]) (by simp [upd, f2]) (by simp [upd, f11]) (by simp [upd, f12]) (by simp [upd, hds])
    · rw [if_pos ⟨.inl h0, h2⟩] at hR
      subst hR
      simp only [dropS, putS, readOut_eq, bneT h2, hds, Cd.cd16, Tk.t16, base0, base1, base2, base3, Option.isNone_none, Option.isNone_some, Nat.reduceBEq, true_or, or_true, false_or, or_false, Nat.reduceLT, Nat.reduceMod, Nat.reducePow, rmaps, nsucc, List.flatten_cons, List.flatten_nil, Nat.reduceEqDiff, Nat.reduceLeDiff, Nat.reduceAdd, Nat.reduceMul, Nat.reduceSub, ↓reduceIte, reduceCtorEq, decide_true, decide_false]
      exact fin_si rfl

set_option maxHeartbeats 2000000 in
theorem replaced16 (b : ByteArray) (path : List Int) (hp : path.length ≤ 20) (by_ : ByteArray) : FCall Try.prog 16 [.v (.string b), intsV path, .v (.string by_)] (· = siV (replacedP b path by_)) := by
  refine ACall.enter [] (cc := putS 6 Cd.cd16 rest16a) (by rw [show putS 6 Cd.cd16 rest16a = Cd.cd16 from putS_drop 6 _]; exact Cd.fn16) (by simp) ?_
  generalize hR : replacedP b path by_ = R
  unfold replacedP at hR
  simp only [putS, Cd.cd16, Tk.t16, base0, base1, base2, base3, Option.isNone_none, Option.isNone_some, Nat.reduceBEq, true_or, or_true, false_or, or_false, Nat.reduceLT, Nat.reduceMod, Nat.reducePow, rmaps, nsucc, List.flatten_cons, List.flatten_nil, Nat.reduceEqDiff, Nat.reduceLeDiff, Nat.reduceAdd, Nat.reduceMul, Nat.reduceSub, ↓reduceIte, reduceCtorEq, decide_true, decide_false]
  first | refine FCall.go (read37 b) (FZs.one (FZ.v _)) ?_ | refine FCall.go' (read37 b) (FZs.one (FZ.v _)) ?_ | refine FCall.goQ (read37 b) (FZs.one (FZ.v _)) ?_
  by_cases h1 : errOf (readB b) = 0
  rotate_left
  · rw [if_pos h1] at hR
    subst hR
    simp only [putS, readOut_eq, bneT h1, Cd.cd16, Tk.t16, base0, base1, base2, base3, Option.isNone_none, Option.isNone_some, Nat.reduceBEq, true_or, or_true, false_or, or_false, Nat.reduceLT, Nat.reduceMod, Nat.reducePow, rmaps, nsucc, List.flatten_cons, List.flatten_nil, Nat.reduceEqDiff, Nat.reduceLeDiff, Nat.reduceAdd, Nat.reduceMul, Nat.reduceSub, ↓reduceIte, reduceCtorEq, decide_true, decide_false]
    exact fin_si rfl
  · rw [if_neg (fun h => h h1)] at hR
    have hb := errOf_size h1
    obtain ⟨l, hl⟩ := errOf_zero h1
    have hwf := readB_wf hl
    have hok : okL (readB b) = l := by rw [hl]; rfl
    rw [hok] at hR
    simp only [putS, readOut_eq, bneF h1, hok, Cd.cd16, Tk.t16, base0, base1, base2, base3, Option.isNone_none, Option.isNone_some, Nat.reduceBEq, true_or, or_true, false_or, or_false, Nat.reduceLT, Nat.reduceMod, Nat.reducePow, rmaps, nsucc, List.flatten_cons, List.flatten_nil, Nat.reduceEqDiff, Nat.reduceLeDiff, Nat.reduceAdd, Nat.reduceMul, Nat.reduceSub, ↓reduceIte, reduceCtorEq, decide_true, decide_false]
    first | refine FCall.go (find43 l path (by omega)) (FZs.cons (FZ.rowsOf l) (FZs.one (FZ.intsV path))) ?_ | refine FCall.go' (find43 l path (by omega)) (FZs.cons (FZ.rowsOf l) (FZs.one (FZ.intsV path))) ?_ | refine FCall.goQ (find43 l path (by omega)) (FZs.cons (FZ.rowsOf l) (FZs.one (FZ.intsV path))) ?_
    have hfl := findT_eq path l []
    have hch : ∀ x ys, findP l path = some (x, ys) → ys.length ≤ 20 ∧ Chain b (ys.map Tree.h).reverse x.h.frm x.h.fin := fun x ys e => by
      have e1 := findP_len e
      exact ⟨by omega, (findP_chain hwf e).1.chain⟩
    cases hfo : findP l path with
    | none =>
      rw [hfo] at hfl hch hR
      rw [hfl]
      cases path with
      | nil =>
        rw [if_neg (fun h => h.1 rfl)] at hR
        simp only [putS, findOut, intsV, List.map_nil, show decide (((0 : Nat) : Int) > 0) = false from rfl, show (((0 : Nat) : Int) == 0) = true from rfl, show (((0 : Nat) : Int) == 1) = false from rfl, Cd.cd16, Tk.t16, base0, base1, base2, base3, Option.isNone_none, Option.isNone_some, Nat.reduceBEq, true_or, or_true, false_or, or_false, Nat.reduceLT, Nat.reduceMod, Nat.reducePow, rmaps, nsucc, List.flatten_cons, List.flatten_nil, Nat.reduceEqDiff, Nat.reduceLeDiff, Nat.reduceAdd, Nat.reduceMul, Nat.reduceSub, ↓reduceIte, reduceCtorEq, decide_true, decide_false]
        refine tail16a b hb by_ true none hch _ _ ?_ ?_ ?_ ?_ ?_ ?_ _ (Eq.trans ?_ hR)
        · simp [upd, enterA]
        · simp [upd, enterA]
        · simp [upd, xV]
        · simp [upd, arV]
        · simp [upd]
        · rfl
        · simp only [List.length_nil, true_or, or_true, true_and]; rfl
      | cons p r =>
        rw [if_pos ⟨by simp, rfl⟩] at hR
        subst hR
        simp only [putS, findOut, intsV, List.map_cons, List.length_map, show decide (((r.length + 1 : Nat) : Int) > 0) = true from decide_eq_true (by omega), Cd.cd16, Tk.t16, base0, base1, base2, base3, Option.isNone_none, Option.isNone_some, Nat.reduceBEq, true_or, or_true, false_or, or_false, Nat.reduceLT, Nat.reduceMod, Nat.reducePow, rmaps, nsucc, List.flatten_cons, List.flatten_nil, Nat.reduceEqDiff, Nat.reduceLeDiff, Nat.reduceAdd, Nat.reduceMul, Nat.reduceSub, ↓reduceIte, reduceCtorEq, decide_true, decide_false]
        exact fin_si rfl
    | some xy =>
      obtain ⟨x, ys⟩ := xy
      rw [hfo] at hfl hch hR
      rw [hfl]
      rw [if_neg (fun h => by cases h.2)] at hR
      have hx := treeV_box x
      have hp0 : path.length ≠ 0 := by have := findP_len hfo; omega
      have e0 : ((path.length : Int) == 0) = false := beqF (by omega)
      by_cases a1 : path.length = 1
      · have e1 : ((path.length : Int) == 1) = true := beqT (by omega)
        by_cases a2 : l.length = 1
        · simp only [putS, findOut, intsV, treesV, hx, List.length_map, e0, e1, show ((l.length : Int) == 1) = true from beqT (by omega), Cd.cd16, Tk.t16, base0, base1, base2, base3, Option.isNone_none, Option.isNone_some, Nat.reduceBEq, true_or, or_true, false_or, or_false, Nat.reduceLT, Nat.reduceMod, Nat.reducePow, rmaps, nsucc, List.flatten_cons, List.flatten_nil, Nat.reduceEqDiff, Nat.reduceLeDiff, Nat.reduceAdd, Nat.reduceMul, Nat.reduceSub, ↓reduceIte, reduceCtorEq, decide_true, decide_false]
          refine tail16a b hb by_ true (some (x, ys)) hch _ _ (by simp [upd, enterA]) (by simp [upd, enterA]) (by simp [upd, hx, xV, treesV]) (by simp [upd, treesV, arV]) (by simp [upd]) rfl _ (Eq.trans ?_ hR)
          simp only [a1, a2, and_self, or_true]; rfl
        · simp only [putS, findOut, intsV, treesV, hx, List.length_map, e0, e1, show ((l.length : Int) == 1) = false from beqF (by omega), Cd.cd16, Tk.t16, base0, base1, base2, base3, Option.isNone_none, Option.isNone_some, Nat.reduceBEq, true_or, or_true, false_or, or_false, Nat.reduceLT, Nat.reduceMod, Nat.reducePow, rmaps, nsucc, List.flatten_cons, List.flatten_nil, Nat.reduceEqDiff, Nat.reduceLeDiff, Nat.reduceAdd, Nat.reduceMul, Nat.reduceSub, ↓reduceIte, reduceCtorEq, decide_true, decide_false]
          refine tail16a b hb by_ false (some (x, ys)) hch _ _ (by simp [upd, enterA]) (by simp [upd, enterA]) (by simp [upd, hx, xV, treesV]) (by simp [upd, treesV, arV]) (by simp [upd]) rfl _ (Eq.trans ?_ hR)
          simp only [hp0, a2, and_false, false_and, or_false, Bool.false_eq_true]; rfl
      · have e1 : ((path.length : Int) == 1) = false := beqF (by omega)
        simp only [putS, findOut, intsV, treesV, hx, List.length_map, e0, e1, Cd.cd16, Tk.t16, base0, base1, base2, base3, Option.isNone_none, Option.isNone_some, Nat.reduceBEq, true_or, or_true, false_or, or_false, Nat.reduceLT, Nat.reduceMod, Nat.reducePow, rmaps, nsucc, List.flatten_cons, List.flatten_nil, Nat.reduceEqDiff, Nat.reduceLeDiff, Nat.reduceAdd, Nat.reduceMul, Nat.reduceSub, ↓reduceIte, reduceCtorEq, decide_true, decide_false]
        refine tail16a b hb by_ false (some (x, ys)) hch _ _ (by simp [upd, enterA]) (by simp [upd, enterA]) (by simp [upd, hx, xV, treesV]) (by simp [upd, treesV, arV]) (by simp [upd]) rfl _ (Eq.trans ?_ hR)
        simp only [hp0, a1, and_false, false_and, or_false, Bool.false_eq_true]; rfl

/-- the chapter's example -/
def exB : ByteArray := ⟨#[48, 6, 2, 1, 5, 1, 1, 255]⟩
theorem example36 : FCall Try.prog 36 [] (· = .v (.string exB)) := by
  refine ACall.enter [] Cd.fn36 (by simp) ?_
  simp only [Cd.cd36, Tk.t36, base0, base1, base2, base3, Option.isNone_none, Option.isNone_some, Nat.reduceBEq, true_or, or_true, false_or, or_false, Nat.reduceLT, Nat.reduceMod, Nat.reducePow, rmaps, nsucc, List.flatten_cons, List.flatten_nil, Nat.reduceEqDiff, Nat.reduceLeDiff, Nat.reduceAdd, Nat.reduceMul, Nat.reduceSub, ↓reduceIte, reduceCtorEq, decide_true, decide_false]
  exact fin_v rfl
def exL : List Hd := [⟨0, 16, true, false, 0, 1, 2, 8, 8, 0⟩, ⟨0, 2, false, false, 2, 3, 4, 5, 5, 1⟩, ⟨0, 1, false, false, 5, 6, 7, 8, 8, 1⟩]
theorem ex_walked : walkedOut (readB exB) = .tup [nodesV exL, .v (.int .i64 0), .v (.int .i64 0)] := by rfl
theorem ex_repl : replacedP exB [0, 1] ⟨#[5, 0]⟩ = (⟨#[48, 5, 2, 1, 5, 5, 0]⟩, 0) := by decide +kernel
theorem awake11 : FCall Try.prog 11 [] (· = .v (.bool true)) := by
  refine ACall.enter [] Cd.fn11 (by simp) ?_
  simp only [Cd.cd11, Tk.t11, base0, base1, base2, base3, Option.isNone_none, Option.isNone_some, Nat.reduceBEq, true_or, or_true, false_or, or_false, Nat.reduceLT, Nat.reduceMod, Nat.reducePow, rmaps, nsucc, List.flatten_cons, List.flatten_nil, Nat.reduceEqDiff, Nat.reduceLeDiff, Nat.reduceAdd, Nat.reduceMul, Nat.reduceSub, ↓reduceIte, reduceCtorEq, decide_true, decide_false]
  first | refine FCall.go (example36) (FZs.nil) ?_ | refine FCall.go' (example36) (FZs.nil) ?_ | refine FCall.goQ (example36) (FZs.nil) ?_
  simp only [Cd.cd11, Tk.t11, base0, base1, base2, base3, Option.isNone_none, Option.isNone_some, Nat.reduceBEq, true_or, or_true, false_or, or_false, Nat.reduceLT, Nat.reduceMod, Nat.reducePow, rmaps, nsucc, List.flatten_cons, List.flatten_nil, Nat.reduceEqDiff, Nat.reduceLeDiff, Nat.reduceAdd, Nat.reduceMul, Nat.reduceSub, ↓reduceIte, reduceCtorEq, decide_true, decide_false]
  first | refine FCall.go (walked13 exB) (FZs.one (FZ.v _)) ?_ | refine FCall.go' (walked13 exB) (FZs.one (FZ.v _)) ?_ | refine FCall.goQ (walked13 exB) (FZs.one (FZ.v _)) ?_
  rw [ex_walked]
  simp only [nodesV, exL, Cd.cd11, Tk.t11, base0, base1, base2, base3, Option.isNone_none, Option.isNone_some, Nat.reduceBEq, true_or, or_true, false_or, or_false, Nat.reduceLT, Nat.reduceMod, Nat.reducePow, rmaps, nsucc, List.flatten_cons, List.flatten_nil, Nat.reduceEqDiff, Nat.reduceLeDiff, Nat.reduceAdd, Nat.reduceMul, Nat.reduceSub, ↓reduceIte, reduceCtorEq, decide_true, decide_false]
  first | refine FCall.go (example36) (FZs.nil) ?_ | refine FCall.go' (example36) (FZs.nil) ?_ | refine FCall.goQ (example36) (FZs.nil) ?_
  simp only [Cd.cd11, Tk.t11, base0, base1, base2, base3, Option.isNone_none, Option.isNone_some, Nat.reduceBEq, true_or, or_true, false_or, or_false, Nat.reduceLT, Nat.reduceMod, Nat.reducePow, rmaps, nsucc, List.flatten_cons, List.flatten_nil, Nat.reduceEqDiff, Nat.reduceLeDiff, Nat.reduceAdd, Nat.reduceMul, Nat.reduceSub, ↓reduceIte, reduceCtorEq, decide_true, decide_false]
  refine FCall.bgo (replaced16 exB [0, 1] (by decide) ⟨#[5, 0]⟩) (Views.cons (FZ.v _).view (Views.cons (View.tip fun r hr => ?_) (Views.cons (FZ.v _).view Views.nil))) (Ground.tup fun c hc => ?_) ?_
  · simp only [List.mem_cons, List.not_mem_nil, or_false] at hr
    rcases hr with rfl | rfl <;> exact FZs.one (FZ.v _)
  · simp only [List.mem_cons, List.not_mem_nil, or_false] at hc
    rcases hc with rfl | rfl <;> exact Ground.v _
  rw [ex_repl]
  simp only [siV, nodeL, Cd.cd11, Tk.t11, base0, base1, base2, base3, Option.isNone_none, Option.isNone_some, Nat.reduceBEq, true_or, or_true, false_or, or_false, Nat.reduceLT, Nat.reduceMod, Nat.reducePow, rmaps, nsucc, List.flatten_cons, List.flatten_nil, Nat.reduceEqDiff, Nat.reduceLeDiff, Nat.reduceAdd, Nat.reduceMul, Nat.reduceSub, ↓reduceIte, reduceCtorEq, decide_true, decide_false]
  exact fin_v (by rw [beq_self_eq_true])
end Go.Proofs.Ytmjjfdppaomcfaa

/- Walks: the nodes directly within a node. -/
namespace Go.Proofs.Ytmjjfdppaomcfaa
open Go Go.Proofs.Ytmjjfdppaomcfaa.Ab
set_option maxRecDepth 100000
set_option linter.unusedSimpArgs false

def natR (n : Nat) : List AV := [.v (.int .i64 (n : Int))]
def natsV (l : List Nat) : AV := .lst 1 (l.map natR) .unk
theorem FZs.natR (n : Nat) : FZs (natR n) := FZs.one (FZ.v _)
theorem FZ.natsV (l : List Nat) : FZ (natsV l) := FZ.lst rfl fun r hr => by
  obtain ⟨x, _, rfl⟩ := List.mem_map.mp hr; exact FZs.natR x
theorem fin_grow {α : Type} {enc : α → List AV} {k : Nat} {H H' : AH} {a : AV} {l : List α} (h : GrowE enc k H a l) (hz : ∀ x, FZs (enc x)) {w : AV} (hw : w = .lst k (l.map enc) .unk) : ∃ v v', AOut.ret a = .ret v ∧ View H' v v' ∧ FZ v' ∧ v' = w := by
  subst hw
  exact ⟨_, _, rfl, h.view hz, FZ.lst rfl fun r hr => by obtain ⟨x, _, rfl⟩ := List.mem_map.mp hr; exact hz x, rfl⟩
def walkV (b : ByteArray) (L : List Hd) : AV := .box (wL b (nodesV L) 0 0)
theorem FZ.walkV (b : ByteArray) (L : List Hd) : FZ (walkV b L) := FZ.box fun x hx => by
  simp only [wL, List.mem_cons, List.not_mem_nil, or_false] at hx
  rcases hx with rfl | rfl | rfl | rfl <;> first | exact FZ.v _ | exact FZ.nodesV L

def rest45 : CC := dropS 4 Cd.cd45
set_option maxHeartbeats 1000000 in
theorem tail45 (b : ByteArray) (L : List Hd) (hl : L.length ≤ 1000) (D frm to i0 : Nat) (R : List Nat) (hR : kidScan D frm to i0 (L.drop i0) = R) (f : AF) (H : AH) (f0 : f.t 0 = walkV b L) (f5 : f.t 5 = iv frm) (f6 : f.t 6 = iv to) (f7 : f.t 7 = iv D) (f8 : f.t 8 = iv i0) (hi0 : i0 ≤ L.length) (hds : f.ds = []) :
    cwp Try.prog [] 72 rest45 (Kont.fin Try.prog [ResultVar.tmp 4] (fun out H' => ∃ v v', out = .ret v ∧ View H' v v' ∧ FZ v' ∧ v' = natsV R)) f H := by
  simp only [rest45, dropS, f0, f5, f6, f7, f8, hds, Cd.cd45, Tk.t45, base0, base1, base2, base3, Option.isNone_none, Option.isNone_some, Nat.reduceBEq, true_or, or_true, false_or, or_false, Nat.reduceLT, Nat.reduceMod, Nat.reducePow, rmaps, nsucc, List.flatten_cons, List.flatten_nil, Nat.reduceEqDiff, Nat.reduceLeDiff, Nat.reduceAdd, Nat.reduceMul, Nat.reduceSub, ↓reduceIte, reduceCtorEq, decide_true, decide_false]
  refine LWP.loop [] (fun m f H' => ∃ i acc, m = L.length - i ∧ (i ≤ L.length) ∧ (acc ++ kidScan D frm to i (L.drop i) = R) ∧ (acc.length ≤ i) ∧ f.t 0 = walkV b L ∧ f.t 5 = iv frm ∧ f.t 6 = iv to ∧ f.t 7 = iv D ∧ f.t 11 = iv i ∧ f.ds = [] ∧ GrowE natR 1 H' (f.t 10) acc) ?_ ?_ (m := L.length - (i0))
  · exact ⟨i0, [], rfl, (hi0), (by simpa using hR), (by simp), by simp [upd, f0], by simp [upd, f5], by simp [upd, f6], by simp [upd, f7], by simp [upd, iv], rfl, .inl ⟨rfl, by simp [upd]⟩⟩
  · rintro m f H' ⟨i, acc, rfl, hi, hT, hacc, f0, f5, f6, f7, f11, hds, hg⟩
    by_cases hlt : i < L.length
    · have hrow := getDmap nodeL L i hlt
      have hd : L.drop i = L.getD i default :: L.drop (i + 1) := by
        rw [List.drop_eq_getElem_cons hlt, List.getD_eq_getElem?_getD, List.getElem?_eq_getElem hlt]; rfl
      generalize L.getD i default = x at hrow hd
      rw [hd] at hT
      simp only [kidScan] at hT
      by_cases h1 : to ≤ x.frm
      · rw [if_pos h1, List.append_nil] at hT
        simp only [iv, walkV, wL, nodesV, List.length_map, show decide ((i : Int) < (L.length : Int)) = true from decide_eq_true (by omega), ltT hlt, Int.natCast_nonneg, Int.toNat_natCast, hrow, nodeL, show decide ((x.frm : Int) ≥ (to : Int)) = true from decide_eq_true (by omega), f0, f5, f6, f7, f11, hds, Cd.cd45, Tk.t45, base0, base1, base2, base3, Option.isNone_none, Option.isNone_some, Nat.reduceBEq, true_or, or_true, false_or, or_false, Nat.reduceLT, Nat.reduceMod, Nat.reducePow, rmaps, nsucc, List.flatten_cons, List.flatten_nil, Nat.reduceEqDiff, Nat.reduceLeDiff, Nat.reduceAdd, Nat.reduceMul, Nat.reduceSub, ↓reduceIte, reduceCtorEq, decide_true, decide_false]
        subst hT; exact fin_grow hg FZs.natR rfl
      · rw [if_neg h1] at hT
        by_cases h2 : x.deep = D
        · by_cases h3 : frm ≤ x.frm
          · rw [if_pos ⟨h2, h3⟩] at hT
            rcases hg with ⟨rfl, h10⟩ | ⟨tp, h10, htp⟩
            · simp only [iv, walkV, wL, nodesV, List.length_map, show decide ((i : Int) < (L.length : Int)) = true from decide_eq_true (by omega), ltT hlt, Int.natCast_nonneg, Int.toNat_natCast, hrow, nodeL, show decide ((x.frm : Int) ≥ (to : Int)) = false from decide_eq_false (by omega), show ((x.deep : Int) == (D : Int)) = true from by rw [beq_iff_eq]; omega, show decide ((x.frm : Int) ≥ (frm : Int)) = true from decide_eq_true (by omega), h10, nilS, show roomA 8 1 = true from rfl, wrapS (show i < 2 ^ 62 by omega), f0, f5, f6, f7, f11, hds, Cd.cd45, Tk.t45, base0, base1, base2, base3, Option.isNone_none, Option.isNone_some, Nat.reduceBEq, true_or, or_true, false_or, or_false, Nat.reduceLT, Nat.reduceMod, Nat.reducePow, rmaps, nsucc, List.flatten_cons, List.flatten_nil, Nat.reduceEqDiff, Nat.reduceLeDiff, Nat.reduceAdd, Nat.reduceMul, Nat.reduceSub, ↓reduceIte, reduceCtorEq, decide_true, decide_false]
              refine ⟨_, by omega, i + 1, [i], rfl, by omega, by simpa using hT, by simp, ?_⟩
              (repeat' apply And.intro) <;> first | rfl | exact GrowE.live (by simp [natR]) (by simp)
            · simp only [iv, walkV, wL, nodesV, List.length_map, show decide ((i : Int) < (L.length : Int)) = true from decide_eq_true (by omega), ltT hlt, Int.natCast_nonneg, Int.toNat_natCast, hrow, nodeL, show decide ((x.frm : Int) ≥ (to : Int)) = false from decide_eq_false (by omega), show ((x.deep : Int) == (D : Int)) = true from by rw [beq_iff_eq]; omega, show decide ((x.frm : Int) ≥ (frm : Int)) = true from decide_eq_true (by omega), h10, htp, room1 (b := 8) (n := acc.length) (by omega) (by omega), wrapS (show i < 2 ^ 62 by omega), f0, f5, f6, f7, f11, hds, Cd.cd45, Tk.t45, base0, base1, base2, base3, Option.isNone_none, Option.isNone_some, Nat.reduceBEq, true_or, or_true, false_or, or_false, Nat.reduceLT, Nat.reduceMod, Nat.reducePow, rmaps, nsucc, List.flatten_cons, List.flatten_nil, Nat.reduceEqDiff, Nat.reduceLeDiff, Nat.reduceAdd, Nat.reduceMul, Nat.reduceSub, ↓reduceIte, reduceCtorEq, decide_true, decide_false]
              refine ⟨_, by omega, i + 1, acc ++ [i], rfl, by omega, by simpa using hT, by simp; omega, ?_⟩
              (repeat' apply And.intro) <;> first | rfl | exact GrowE.live (by simp [natR]) (by simp)
          · rw [if_neg (fun h => h3 h.2)] at hT
            simp only [iv, walkV, wL, nodesV, List.length_map, show decide ((i : Int) < (L.length : Int)) = true from decide_eq_true (by omega), ltT hlt, Int.natCast_nonneg, Int.toNat_natCast, hrow, nodeL, show decide ((x.frm : Int) ≥ (to : Int)) = false from decide_eq_false (by omega), show ((x.deep : Int) == (D : Int)) = true from by rw [beq_iff_eq]; omega, show decide ((x.frm : Int) ≥ (frm : Int)) = false from decide_eq_false (by omega), wrapS (show i < 2 ^ 62 by omega), f0, f5, f6, f7, f11, hds, Cd.cd45, Tk.t45, base0, base1, base2, base3, Option.isNone_none, Option.isNone_some, Nat.reduceBEq, true_or, or_true, false_or, or_false, Nat.reduceLT, Nat.reduceMod, Nat.reducePow, rmaps, nsucc, List.flatten_cons, List.flatten_nil, Nat.reduceEqDiff, Nat.reduceLeDiff, Nat.reduceAdd, Nat.reduceMul, Nat.reduceSub, ↓reduceIte, reduceCtorEq, decide_true, decide_false]
            refine ⟨_, by omega, i + 1, acc, rfl, by omega, hT, by omega, ?_⟩
            (repeat' apply And.intro) <;> first | rfl | exact hg
        · rw [if_neg (fun h => h2 h.1)] at hT
          simp only [iv, walkV, wL, nodesV, List.length_map, show decide ((i : Int) < (L.length : Int)) = true from decide_eq_true (by omega), ltT hlt, Int.natCast_nonneg, Int.toNat_natCast, hrow, nodeL, show decide ((x.frm : Int) ≥ (to : Int)) = false from decide_eq_false (by omega), show ((x.deep : Int) == (D : Int)) = false from beq_eq_false_iff_ne.mpr (by omega), wrapS (show i < 2 ^ 62 by omega), f0, f5, f6, f7, f11, hds, Cd.cd45, Tk.t45, base0, base1, base2, base3, Option.isNone_none, Option.isNone_some, Nat.reduceBEq, true_or, or_true, false_or, or_false, Nat.reduceLT, Nat.reduceMod, Nat.reducePow, rmaps, nsucc, List.flatten_cons, List.flatten_nil, Nat.reduceEqDiff, Nat.reduceLeDiff, Nat.reduceAdd, Nat.reduceMul, Nat.reduceSub, ↓reduceIte, reduceCtorEq, decide_true, decide_false]
          refine ⟨_, by omega, i + 1, acc, rfl, by omega, hT, by omega, ?_⟩
          (repeat' apply And.intro) <;> first | rfl | exact hg
    · simp only [iv, walkV, wL, nodesV, List.length_map, show decide ((i : Int) < (L.length : Int)) = false from decide_eq_false (by omega), f0, f5, f6, f7, f11, hds, Cd.cd45, Tk.t45, base0, base1, base2, base3, Option.isNone_none, Option.isNone_some, Nat.reduceBEq, true_or, or_true, false_or, or_false, Nat.reduceLT, Nat.reduceMod, Nat.reducePow, rmaps, nsucc, List.flatten_cons, List.flatten_nil, Nat.reduceEqDiff, Nat.reduceLeDiff, Nat.reduceAdd, Nat.reduceMul, Nat.reduceSub, ↓reduceIte, reduceCtorEq, decide_true, decide_false]
      rw [List.drop_of_length_le (by omega)] at hT
      exact fin_grow hg FZs.natR (by rw [← hT]; simp [kidScan, natsV])

theorem kids45 (b : ByteArray) (hb : b.size ≤ 4000) (L : List Hd) (hl : L.length ≤ 1000) (i : Nat) (hi : i < L.length) (hD : (L.getD i default).deep ≤ 1000) : FCall Try.prog 45 [walkV b L, iv i] (· = natsV (kidScan ((L.getD i default).deep + 1) (L.getD i default).body (L.getD i default).stop (i + 1) (L.drop (i + 1)))) := by
  refine ACall.enter [] (cc := putS 4 Cd.cd45 rest45) (by rw [show putS 4 Cd.cd45 rest45 = Cd.cd45 from putS_drop 4 _]; exact Cd.fn45) (by simp) ?_
  have hrow := getDmap nodeL L i hi
  generalize L.getD i default = x at hrow hD
  simp only [putS, iv, walkV, wL, nodesV, List.length_map, ltT hi, Int.natCast_nonneg, Int.toNat_natCast, hrow, nodeL, show ((i : Int) != -1) = true from by simp, wrapS (show i < 2 ^ 62 by omega), wrapS (show x.deep < 2 ^ 62 by omega), Cd.cd45, Tk.t45, base0, base1, base2, base3, Option.isNone_none, Option.isNone_some, Nat.reduceBEq, true_or, or_true, false_or, or_false, Nat.reduceLT, Nat.reduceMod, Nat.reducePow, rmaps, nsucc, List.flatten_cons, List.flatten_nil, Nat.reduceEqDiff, Nat.reduceLeDiff, Nat.reduceAdd, Nat.reduceMul, Nat.reduceSub, ↓reduceIte, reduceCtorEq, decide_true, decide_false]
  exact tail45 b L hl _ _ _ _ _ rfl _ _ rfl rfl rfl rfl rfl (by omega) rfl
theorem kids45n (b : ByteArray) (hb : b.size ≤ 4000) (L : List Hd) (hl : L.length ≤ 1000) : FCall Try.prog 45 [walkV b L, .v (.int .i64 (-1))] (· = natsV (kidScan 0 0 b.size 0 L)) := by
  refine ACall.enter [] (cc := putS 4 Cd.cd45 rest45) (by rw [show putS 4 Cd.cd45 rest45 = Cd.cd45 from putS_drop 4 _]; exact Cd.fn45) (by simp) ?_
  simp only [putS, iv, walkV, wL, nodesV, List.length_map, show ((-1 : Int) != -1) = false from rfl, Cd.cd45, Tk.t45, base0, base1, base2, base3, Option.isNone_none, Option.isNone_some, Nat.reduceBEq, true_or, or_true, false_or, or_false, Nat.reduceLT, Nat.reduceMod, Nat.reducePow, rmaps, nsucc, List.flatten_cons, List.flatten_nil, Nat.reduceEqDiff, Nat.reduceLeDiff, Nat.reduceAdd, Nat.reduceMul, Nat.reduceSub, ↓reduceIte, reduceCtorEq, decide_true, decide_false]
  exact tail45 b L hl 0 0 b.size 0 _ rfl _ _ rfl rfl rfl rfl rfl (by omega) rfl
end Go.Proofs.Ytmjjfdppaomcfaa

/- Walks: the octets of identifiers and lengths, as the reference writes them. -/
namespace Go.Proofs.Ytmjjfdppaomcfaa
open Go Go.Proofs.Ytmjjfdppaomcfaa.Ab
set_option maxRecDepth 100000
set_option linter.unusedSimpArgs false

/-- the first octet of an identifier, without the number -/
def hdN (cls : Nat) (bl : Bool) : Nat := cls * 64 + (if bl then 32 else 0)
def lowCF : Nat → Nat → List UInt8
  | 0, _ => []
  | m + 1, k => if k = 0 then [] else UInt8.ofNat (128 + k % 128) :: lowCF m (k / 128)
theorem lowCF_zero (m : Nat) : lowCF m 0 = [] := by cases m <;> simp [lowCF]
theorem lowCF_fuel : ∀ (m m' k : Nat), k ≤ m → k ≤ m' → lowCF m k = lowCF m' k
  | 0, m', k, h, _ => by
    have : k = 0 := by omega
    subst this; rw [lowCF_zero, lowCF_zero]
  | m + 1, 0, k, _, h => by
    have : k = 0 := by omega
    subst this; rw [lowCF_zero, lowCF_zero]
  | m + 1, m' + 1, k, h, h' => by
    simp only [lowCF]
    by_cases hk : k = 0
    · rw [if_pos hk, if_pos hk]
    · rw [if_neg hk, if_neg hk, lowCF_fuel m m' (k / 128) (by omega) (by omega)]
def lowC (n : Nat) : List UInt8 := lowCF n n
theorem lowC_step {k : Nat} (h : 0 < k) : lowC k = UInt8.ofNat (128 + k % 128) :: lowC (k / 128) := by
  unfold lowC
  obtain ⟨m, rfl⟩ : ∃ m, k = m + 1 := ⟨k - 1, by omega⟩
  rw [lowCF, if_neg (by omega), lowCF_fuel m ((m + 1) / 128) ((m + 1) / 128) (by omega) (by omega)]
theorem lowC_len : ∀ (k n : Nat), n < 128 ^ k → (lowC n).length ≤ k
  | 0, n, h => by
    have : n = 0 := by simpa using h
    subst this; simp [lowC, lowCF]
  | k + 1, n, h => by
    rcases Nat.eq_zero_or_pos n with rfl | hp
    · simp [lowC, lowCF]
    · rw [lowC_step hp]
      have := lowC_len k (n / 128) (by rw [Nat.pow_succ] at h; omega)
      simp; omega
/-- the octets of an identifier -/
def identL (cls num : Nat) (bl : Bool) : List UInt8 := if num < 31 then [UInt8.ofNat (hdN cls bl + num)] else
  UInt8.ofNat (hdN cls bl + 31) :: (UInt8.ofNat (num % 128) :: lowC (num / 128)).reverse
def identB (cls num : Nat) (bl : Bool) : ByteArray := ⟨(identL cls num bl).toArray⟩

theorem shl6 : ∀ {c : Nat}, c < 4 → IntKind.i64.wrap ((c : Int) * 2 ^ min (6 : Int).toNat IntKind.i64.bits) = ((c * 64 : Nat) : Int) := by decide +kernel
theorem and127n {n : Nat} (h : n < 2 ^ 62) : IntKind.i64.wrap ((BitVec.ofInt IntKind.i64.bits (n : Int) &&& BitVec.ofInt IntKind.i64.bits 127).toNat : Nat) = ((n % 128 : Nat) : Int) := by
  have e : (BitVec.ofInt IntKind.i64.bits (n : Int) &&& BitVec.ofInt IntKind.i64.bits 127).toNat = n % 128 := by
    rw [BitVec.toNat_and]
    have h1 : (BitVec.ofInt IntKind.i64.bits 127).toNat = 2 ^ 7 - 1 := by decide
    have h2 : (BitVec.ofInt IntKind.i64.bits (n : Int)).toNat = n := by
      rw [BitVec.ofInt_natCast, BitVec.toNat_ofNat]
      exact Nat.mod_eq_of_lt (Nat.lt_trans h (by decide))
    rw [h1, h2, Nat.and_two_pow_sub_one_eq_mod]
  rw [e]
  exact wrapN (by omega)
theorem shr7n (k : Nat) : Int.fdiv (k : Int) (2 ^ min (7 : Int).toNat IntKind.i64.bits) = ((k / 128 : Nat) : Int) := by
  rw [show (2 : Int) ^ min (7 : Int).toNat IntKind.i64.bits = 128 from by decide, Int.fdiv_eq_ediv_of_nonneg _ (by omega)]; omega
theorem or128 : ∀ {x : Nat}, x < 128 → IntKind.u8.wrap ((BitVec.ofInt IntKind.u8.bits ((UInt8.ofNat x).toNat : Int) ||| BitVec.ofInt IntKind.u8.bits 128).toNat : Nat) = ((UInt8.ofNat (128 + x)).toNat : Int) := by decide +kernel
theorem orN : ∀ {c : Nat}, c < 4 → ∀ bl : Bool, ∀ {n : Nat}, n < 32 → IntKind.i64.wrap ((BitVec.ofInt IntKind.i64.bits ((hdN c bl : Nat) : Int) ||| BitVec.ofInt IntKind.i64.bits (n : Int)).toNat : Nat) = ((hdN c bl + n : Nat) : Int) := by decide +kernel

/-- bytes as a frozen list, or nil -/
def RowsB (v : AV) (L : List UInt8) : Prop := (L = [] ∧ v = nilS) ∨ ∃ tip, v = .lst 1 (L.map byR) tip ∧ (L.length = 0) = False
theorem room2 {n : Nat} (h : n ≤ 1000000) : roomA 1 (1 + n) = true := by simp [roomA]; omega

theorem count32 (x : Bool) : FCall Try.prog 32 [.v (.bool x)] (· = .v (.int .i64 (if x then 1 else 0))) := by
  cases x
  · refine ACall.enter [] Cd.fn32 (by simp) ?_
    simp only [Cd.cd32, Tk.t32, base0, base1, base2, base3, Option.isNone_none, Option.isNone_some, Nat.reduceBEq, true_or, or_true, false_or, or_false, Nat.reduceLT, Nat.reduceMod, Nat.reducePow, rmaps, nsucc, List.flatten_cons, List.flatten_nil, Nat.reduceEqDiff, Nat.reduceLeDiff, Nat.reduceAdd, Nat.reduceMul, Nat.reduceSub, ↓reduceIte, reduceCtorEq, decide_true, decide_false]
    exact fin_v rfl
  · refine ACall.enter [] Cd.fn32 (by simp) ?_
    simp only [Cd.cd32, Tk.t32, base0, base1, base2, base3, Option.isNone_none, Option.isNone_some, Nat.reduceBEq, true_or, or_true, false_or, or_false, Nat.reduceLT, Nat.reduceMod, Nat.reducePow, rmaps, nsucc, List.flatten_cons, List.flatten_nil, Nat.reduceEqDiff, Nat.reduceLeDiff, Nat.reduceAdd, Nat.reduceMul, Nat.reduceSub, ↓reduceIte, reduceCtorEq, decide_true, decide_false]
    exact fin_v rfl
set_option maxHeartbeats 1000000 in
theorem length23 (n : Nat) (hn : n ≤ 1000000) : FCall Try.prog 23 [iv n] (· = .v (.string (lengthB n 1))) := by
  generalize hR : lengthB n 1 = R
  unfold lengthB lengthL at hR
  refine ACall.enter [] Cd.fn23 (by simp) ?_
  by_cases h1 : n < 128
  · rw [if_pos ⟨h1, rfl⟩] at hR
    have hB : bytesA [[byV (UInt8.ofNat n)]] = some [UInt8.ofNat n] := bytesA_map [UInt8.ofNat n]
    simp only [iv, show decide ((n : Int) < 128) = true from decide_eq_true (by omega), wrapU8, byV_ofNat, byV_cells, hB, isB84, Cd.cd23, Tk.t23, base0, base1, base2, base3, Option.isNone_none, Option.isNone_some, Nat.reduceBEq, true_or, or_true, false_or, or_false, Nat.reduceLT, Nat.reduceMod, Nat.reducePow, rmaps, nsucc, List.flatten_cons, List.flatten_nil, Nat.reduceEqDiff, Nat.reduceLeDiff, Nat.reduceAdd, Nat.reduceMul, Nat.reduceSub, ↓reduceIte, reduceCtorEq, decide_true, decide_false]
    exact fin_v (by rw [hR])
  · rw [if_neg (fun h => h1 h.1)] at hR
    have hlow : (lowB n).length ≤ 3 := lowB_len 3 n (by omega)
    have hlow0 : 1 ≤ (lowB n).length := by rw [lowB_step (by omega)]; simp
    rw [padB_done (by omega)] at hR
    simp only [iv, show decide ((n : Int) < 128) = false from decide_eq_false (by omega), Cd.cd23, Tk.t23, base0, base1, base2, base3, Option.isNone_none, Option.isNone_some, Nat.reduceBEq, true_or, or_true, false_or, or_false, Nat.reduceLT, Nat.reduceMod, Nat.reducePow, rmaps, nsucc, List.flatten_cons, List.flatten_nil, Nat.reduceEqDiff, Nat.reduceLeDiff, Nat.reduceAdd, Nat.reduceMul, Nat.reduceSub, ↓reduceIte, reduceCtorEq, decide_true, decide_false]
    refine LWP.loop [] (fun m f H' => ∃ k L, m = k + 1 ∧ (k ≤ n) ∧ ((lowB k).reverse ++ L = (lowB n).reverse) ∧ f.t 4 = iv k ∧ f.ds = [] ∧ RowsB (f.t 3) L) ?_ ?_ (m := (n) + 1)
    · exact ⟨n, [], rfl, (Nat.le_refl n), (by simp), rfl, rfl, .inl ⟨rfl, rfl⟩⟩
    · rintro m f H' ⟨k, L, rfl, hk, hL, f4, hds, hA⟩
      have hLl : L.length ≤ 3 := by have := congrArg List.length hL; simp at this; omega
      by_cases hk0 : 0 < k
      · have hst : (lowB (k / 256)).reverse ++ (UInt8.ofNat k :: L) = (lowB n).reverse := by rw [← hL, lowB_step hk0]; simp
        rcases hA with ⟨rfl, h3⟩ | ⟨tip, h3, hz⟩
        · simp only [h3, nilS, iv, show decide ((k : Int) > 0) = true from decide_eq_true (by omega), wrapU8, byV_ofNat, byV_cells, shr8n, f4, hds, Cd.cd23, Tk.t23, base0, base1, base2, base3, Option.isNone_none, Option.isNone_some, Nat.reduceBEq, true_or, or_true, false_or, or_false, Nat.reduceLT, Nat.reduceMod, Nat.reducePow, rmaps, nsucc, List.flatten_cons, List.flatten_nil, Nat.reduceEqDiff, Nat.reduceLeDiff, Nat.reduceAdd, Nat.reduceMul, Nat.reduceSub, ↓reduceIte, reduceCtorEq, decide_true, decide_false]
          refine ⟨_, by omega, k / 256, [UInt8.ofNat k], rfl, by omega, hst, ?_⟩
          (repeat' apply And.intro) <;> first | rfl | exact .inr ⟨_, rfl, by simp⟩
        · simp only [h3, iv, show decide ((k : Int) > 0) = true from decide_eq_true (by omega), wrapU8, byV_ofNat, byV_cells, shr8n, List.length_map, hz, room2 (show L.length ≤ 1000000 by omega), f4, hds, Cd.cd23, Tk.t23, base0, base1, base2, base3, Option.isNone_none, Option.isNone_some, Nat.reduceBEq, true_or, or_true, false_or, or_false, Nat.reduceLT, Nat.reduceMod, Nat.reducePow, rmaps, nsucc, List.flatten_cons, List.flatten_nil, Nat.reduceEqDiff, Nat.reduceLeDiff, Nat.reduceAdd, Nat.reduceMul, Nat.reduceSub, ↓reduceIte, reduceCtorEq, decide_true, decide_false]
          refine ⟨_, by omega, k / 256, UInt8.ofNat k :: L, rfl, by omega, hst, ?_⟩
          (repeat' apply And.intro) <;> first | rfl | exact .inr ⟨_, rfl, by simp⟩
      · obtain rfl : k = 0 := by omega
        have hL' : L = (lowB n).reverse := by rw [← hL]; rfl
        rcases hA with ⟨rfl, h3⟩ | ⟨tip, h3, hz⟩
        · have h0 := congrArg List.length hL'
          simp only [List.length_nil, List.length_reverse] at h0; omega
        · have hB : bytesA ([byV (UInt8.ofNat (128 + L.length))] :: L.map byR) = some (UInt8.ofNat (128 + L.length) :: L) := bytesA_map (UInt8.ofNat (128 + L.length) :: L)
          have h128 : IntKind.u8.wrap (IntKind.i64.wrap (128 + (L.length : Int))) = ((UInt8.ofNat (128 + L.length)).toNat : Int) := by rw [wrapI (by omega) (by omega), ← wrapU8]; congr 1
          simp only [h3, iv, show decide (((0 : Nat) : Int) > 0) = false from rfl, List.length_map, h128, byV_ofNat, byV_cells, hB, isB84, hz, room2 (show L.length ≤ 1000000 by omega), f4, hds, Cd.cd23, Tk.t23, base0, base1, base2, base3, Option.isNone_none, Option.isNone_some, Nat.reduceBEq, true_or, or_true, false_or, or_false, Nat.reduceLT, Nat.reduceMod, Nat.reducePow, rmaps, nsucc, List.flatten_cons, List.flatten_nil, Nat.reduceEqDiff, Nat.reduceLeDiff, Nat.reduceAdd, Nat.reduceMul, Nat.reduceSub, ↓reduceIte, reduceCtorEq, decide_true, decide_false]
          refine fin_v ?_
          rw [← hR, ← hL', hL', List.length_reverse]

theorem orC0 : ∀ {c : Nat}, c < 4 → IntKind.i64.wrap ((BitVec.ofInt IntKind.i64.bits ((c * 64 : Nat) : Int) ||| BitVec.ofInt IntKind.i64.bits 0).toNat : Nat) = ((hdN c false : Nat) : Int) := by decide +kernel
theorem orC1 : ∀ {c : Nat}, c < 4 → IntKind.i64.wrap ((BitVec.ofInt IntKind.i64.bits ((c * 64 : Nat) : Int) ||| BitVec.ofInt IntKind.i64.bits 32).toNat : Nat) = ((hdN c true : Nat) : Int) := by decide +kernel
theorem orN31 : ∀ {c : Nat}, c < 4 → ∀ bl : Bool, IntKind.i64.wrap ((BitVec.ofInt IntKind.i64.bits ((hdN c bl : Nat) : Int) ||| BitVec.ofInt IntKind.i64.bits 31).toNat : Nat) = ((hdN c bl + 31 : Nat) : Int) := by decide +kernel
theorem hdN_le {c : Nat} (h : c < 4) (bl : Bool) : hdN c bl ≤ 224 := by unfold hdN; split <;> omega
def tagV (c n : Nat) : AV := .agg [iv c, iv n]

def rest21 : CC := dropS 2 Cd.cd21
set_option maxHeartbeats 1000000 in
theorem tail21 (c num : Nat) (bl : Bool) (hc : c < 4) (hn : num ≤ 268435456) (f : AF) (H : AH) (f2 : f.t 2 = .box [iv c, iv num]) (f5 : f.t 5 = iv (hdN c bl)) (hds : f.ds = []) :
    cwp Try.prog [] 51 rest21 (Kont.fin Try.prog [ResultVar.tmp 4] (fun out H' => ∃ v v', out = .ret v ∧ View H' v v' ∧ FZ v' ∧ v' = .v (.string (identB c num bl)))) f H := by
  generalize hR : identB c num bl = R
  unfold identB identL at hR
  have hh := hdN_le hc bl
  by_cases h1 : num < 31
  · rw [if_pos h1] at hR
    have hB : bytesA [[byV (UInt8.ofNat (hdN c bl + num))]] = some [UInt8.ofNat (hdN c bl + num)] := bytesA_map [UInt8.ofNat (hdN c bl + num)]
    simp only [rest21, dropS, f2, f5, iv, hds, show decide ((num : Int) < 31) = true from decide_eq_true (by omega), orN hc bl (n := num) (by omega), wrapU8, byV_ofNat, byV_cells, hB, isB84, Cd.cd21, Tk.t21, base0, base1, base2, base3, Option.isNone_none, Option.isNone_some, Nat.reduceBEq, true_or, or_true, false_or, or_false, Nat.reduceLT, Nat.reduceMod, Nat.reducePow, rmaps, nsucc, List.flatten_cons, List.flatten_nil, Nat.reduceEqDiff, Nat.reduceLeDiff, Nat.reduceAdd, Nat.reduceMul, Nat.reduceSub, ↓reduceIte, reduceCtorEq, decide_true, decide_false]
    exact fin_v (by rw [hR])
  · rw [if_neg h1] at hR
    have hlow : (lowC (num / 128)).length ≤ 4 := lowC_len 4 _ (by omega)
    simp only [rest21, dropS, f2, f5, iv, hds, show decide ((num : Int) < 31) = false from decide_eq_false (by omega), Cd.cd21, Tk.t21, base0, base1, base2, base3, Option.isNone_none, Option.isNone_some, Nat.reduceBEq, true_or, or_true, false_or, or_false, Nat.reduceLT, Nat.reduceMod, Nat.reducePow, rmaps, nsucc, List.flatten_cons, List.flatten_nil, Nat.reduceEqDiff, Nat.reduceLeDiff, Nat.reduceAdd, Nat.reduceMul, Nat.reduceSub, ↓reduceIte, reduceCtorEq, decide_true, decide_false]
    refine LWP.loop [] (fun m f H' => ∃ k L, m = k + 1 ∧ (k ≤ num) ∧ ((L = [] ∧ k = num) ∨ (0 < L.length ∧ (lowC k).reverse ++ L = (UInt8.ofNat (num % 128) :: lowC (num / 128)).reverse)) ∧ f.t 5 = iv (hdN c bl) ∧ f.t 7 = iv k ∧ f.ds = [] ∧ RowsB (f.t 6) L) ?_ ?_ (m := (num) + 1)
    · exact ⟨num, [], rfl, (Nat.le_refl num), (.inl ⟨rfl, rfl⟩), by simp [upd, f5], by simp [upd, iv], rfl, .inl ⟨rfl, by simp [upd, nilS]⟩⟩
    · rintro m f H' ⟨k, L, rfl, hk, hL, f5, f7, hds, hA⟩
      rcases hL with ⟨rfl, rfl⟩ | ⟨hL0, hL⟩
      · rcases hA with ⟨-, h3⟩ | ⟨tip, h3, hz⟩
        · simp only [h3, nilS, iv, show decide ((k : Int) > 0) = true from decide_eq_true (by omega), and127n (show k < 2 ^ 62 by omega), wrapU8, byV_ofNat, byV_cells, shr7n, show decide ((0 : Int) > 0) = false from rfl, f5, f7, hds, Cd.cd21, Tk.t21, base0, base1, base2, base3, Option.isNone_none, Option.isNone_some, Nat.reduceBEq, true_or, or_true, false_or, or_false, Nat.reduceLT, Nat.reduceMod, Nat.reducePow, rmaps, nsucc, List.flatten_cons, List.flatten_nil, Nat.reduceEqDiff, Nat.reduceLeDiff, Nat.reduceAdd, Nat.reduceMul, Nat.reduceSub, ↓reduceIte, reduceCtorEq, decide_true, decide_false]
          refine ⟨_, by omega, k / 128, [UInt8.ofNat (k % 128)], rfl, by omega, .inr ⟨by simp, by simp⟩, ?_⟩
          (repeat' apply And.intro) <;> first | rfl | exact .inr ⟨_, rfl, by simp⟩
        · simp at hz
      · have hLl : L.length ≤ 5 := by have := congrArg List.length hL; simp at this; omega
        rcases hA with ⟨rfl, h3⟩ | ⟨tip, h3, hz⟩
        · simp at hL0
        · by_cases hk0 : 0 < k
          · have hst : (lowC (k / 128)).reverse ++ (UInt8.ofNat (128 + k % 128) :: L) = (UInt8.ofNat (num % 128) :: lowC (num / 128)).reverse := by rw [← hL, lowC_step hk0]; simp
            simp only [h3, iv, show decide ((k : Int) > 0) = true from decide_eq_true (by omega), and127n (show k < 2 ^ 62 by omega), wrapU8, or128 (show k % 128 < 128 by omega), shr7n, List.length_map, show decide ((L.length : Int) > 0) = true from decide_eq_true (by omega), hz, room2 (show L.length ≤ 1000000 by omega), f5, f7, hds, Cd.cd21, Tk.t21, base0, base1, base2, base3, Option.isNone_none, Option.isNone_some, Nat.reduceBEq, true_or, or_true, false_or, or_false, Nat.reduceLT, Nat.reduceMod, Nat.reducePow, rmaps, nsucc, List.flatten_cons, List.flatten_nil, Nat.reduceEqDiff, Nat.reduceLeDiff, Nat.reduceAdd, Nat.reduceMul, Nat.reduceSub, ↓reduceIte, reduceCtorEq, decide_true, decide_false]
            refine ⟨_, by omega, k / 128, UInt8.ofNat (128 + k % 128) :: L, rfl, by omega, .inr ⟨by simp, hst⟩, ?_⟩
            (repeat' apply And.intro) <;> first | rfl | exact .inr ⟨_, rfl, by simp⟩
          · obtain rfl : k = 0 := by omega
            have hL' : L = (UInt8.ofNat (num % 128) :: lowC (num / 128)).reverse := by rw [← hL]; rfl
            have hB : bytesA ([byV (UInt8.ofNat (hdN c bl + 31))] :: L.map byR) = some (UInt8.ofNat (hdN c bl + 31) :: L) := bytesA_map (UInt8.ofNat (hdN c bl + 31) :: L)
            simp only [h3, iv, show decide (((0 : Nat) : Int) > 0) = false from rfl, orN31 hc bl, wrapU8, List.length_map, byV_ofNat, byV_cells, hB, isB84, hz, room2 (show L.length ≤ 1000000 by omega), f5, f7, hds, Cd.cd21, Tk.t21, base0, base1, base2, base3, Option.isNone_none, Option.isNone_some, Nat.reduceBEq, true_or, or_true, false_or, or_false, Nat.reduceLT, Nat.reduceMod, Nat.reducePow, rmaps, nsucc, List.flatten_cons, List.flatten_nil, Nat.reduceEqDiff, Nat.reduceLeDiff, Nat.reduceAdd, Nat.reduceMul, Nat.reduceSub, ↓reduceIte, reduceCtorEq, decide_true, decide_false]
            refine fin_v ?_
            rw [← hR, ← hL']
theorem identifier21 (c num : Nat) (bl : Bool) (hc : c < 4) (hn : num ≤ 268435456) : FCall Try.prog 21 [tagV c num, .v (.bool bl)] (· = .v (.string (identB c num bl))) := by
  refine ACall.enter [] (cc := putS 2 Cd.cd21 rest21) (by rw [show putS 2 Cd.cd21 rest21 = Cd.cd21 from putS_drop 2 _]; exact Cd.fn21) (by simp) ?_
  cases bl
  · simp only [putS, tagV, iv, shl6 hc, Cd.cd21, Tk.t21, base0, base1, base2, base3, Option.isNone_none, Option.isNone_some, Nat.reduceBEq, true_or, or_true, false_or, or_false, Nat.reduceLT, Nat.reduceMod, Nat.reducePow, rmaps, nsucc, List.flatten_cons, List.flatten_nil, Nat.reduceEqDiff, Nat.reduceLeDiff, Nat.reduceAdd, Nat.reduceMul, Nat.reduceSub, ↓reduceIte, reduceCtorEq, decide_true, decide_false]
    first | refine FCall.go (count32 false) (FZs.one (FZ.v _)) ?_ | refine FCall.go' (count32 false) (FZs.one (FZ.v _)) ?_ | refine FCall.goQ (count32 false) (FZs.one (FZ.v _)) ?_
    simp only [putS, show IntKind.i64.wrap (32 * 0) = 0 from by decide, orC0 hc, Cd.cd21, Tk.t21, base0, base1, base2, base3, Option.isNone_none, Option.isNone_some, Nat.reduceBEq, true_or, or_true, false_or, or_false, Nat.reduceLT, Nat.reduceMod, Nat.reducePow, rmaps, nsucc, List.flatten_cons, List.flatten_nil, Nat.reduceEqDiff, Nat.reduceLeDiff, Nat.reduceAdd, Nat.reduceMul, Nat.reduceSub, ↓reduceIte, reduceCtorEq, decide_true, decide_false]
    exact tail21 c num false hc hn _ _ (by simp [upd, iv]) (by simp [upd, iv]) (by simp [upd])
  · simp only [putS, tagV, iv, shl6 hc, Cd.cd21, Tk.t21, base0, base1, base2, base3, Option.isNone_none, Option.isNone_some, Nat.reduceBEq, true_or, or_true, false_or, or_false, Nat.reduceLT, Nat.reduceMod, Nat.reducePow, rmaps, nsucc, List.flatten_cons, List.flatten_nil, Nat.reduceEqDiff, Nat.reduceLeDiff, Nat.reduceAdd, Nat.reduceMul, Nat.reduceSub, ↓reduceIte, reduceCtorEq, decide_true, decide_false]
    first | refine FCall.go (count32 true) (FZs.one (FZ.v _)) ?_ | refine FCall.go' (count32 true) (FZs.one (FZ.v _)) ?_ | refine FCall.goQ (count32 true) (FZs.one (FZ.v _)) ?_
    simp only [putS, show IntKind.i64.wrap (32 * 1) = 32 from by decide, orC1 hc, Cd.cd21, Tk.t21, base0, base1, base2, base3, Option.isNone_none, Option.isNone_some, Nat.reduceBEq, true_or, or_true, false_or, or_false, Nat.reduceLT, Nat.reduceMod, Nat.reducePow, rmaps, nsucc, List.flatten_cons, List.flatten_nil, Nat.reduceEqDiff, Nat.reduceLeDiff, Nat.reduceAdd, Nat.reduceMul, Nat.reduceSub, ↓reduceIte, reduceCtorEq, decide_true, decide_false]
    exact tail21 c num true hc hn _ _ (by simp [upd, iv]) (by simp [upd, iv]) (by simp [upd])
end Go.Proofs.Ytmjjfdppaomcfaa

/- Walks: lengths in at least so many octets; the program's identifiers; the law of writing. -/
namespace Go.Proofs.Ytmjjfdppaomcfaa
open Go Go.Proofs.Ytmjjfdppaomcfaa.Ab
set_option maxRecDepth 100000
set_option linter.unusedSimpArgs false

theorem size_mk (l : List UInt8) : (⟨l.toArray⟩ : ByteArray).size = l.length := by simp [ByteArray.size]
theorem lenL_pos (n o : Nat) : 1 ≤ (lengthL n o).length := by unfold lengthL; split <;> simp
def rest69 : CC := dropS 2 Cd.cd69
end Go.Proofs.Ytmjjfdppaomcfaa

/- Walks: the program's identifiers and lengths; the law of writing. -/
namespace Go.Proofs.Ytmjjfdppaomcfaa
open Go Go.Proofs.Ytmjjfdppaomcfaa.Ab
set_option maxRecDepth 100000
set_option linter.unusedSimpArgs false

theorem shl6u : ∀ {c : Nat}, c < 4 → IntKind.u8.wrap ((c * 64 : Nat) : Int) = ((UInt8.ofNat (hdN c false)).toNat : Int) := by decide +kernel
theorem or32u : ∀ {c : Nat}, c < 4 → IntKind.u8.wrap ((BitVec.ofInt IntKind.u8.bits ((UInt8.ofNat (hdN c false)).toNat : Int) ||| BitVec.ofInt IntKind.u8.bits 32).toNat : Nat) = ((UInt8.ofNat (hdN c true)).toNat : Int) := by decide +kernel
theorem orNu : ∀ {c : Nat}, c < 4 → ∀ bl : Bool, ∀ {n : Nat}, n < 32 → IntKind.u8.wrap ((BitVec.ofInt IntKind.u8.bits ((UInt8.ofNat (hdN c bl)).toNat : Int) ||| BitVec.ofInt IntKind.u8.bits ((UInt8.ofNat n).toNat : Int)).toNat : Nat) = ((UInt8.ofNat (hdN c bl + n)).toNat : Int) := by decide +kernel
theorem or31u : ∀ {c : Nat}, c < 4 → ∀ bl : Bool, IntKind.u8.wrap ((BitVec.ofInt IntKind.u8.bits ((UInt8.ofNat (hdN c bl)).toNat : Int) ||| BitVec.ofInt IntKind.u8.bits 31).toNat : Nat) = ((UInt8.ofNat (hdN c bl + 31)).toNat : Int) := by decide +kernel

def rest47 : CC := dropS 3 Cd.cd47
set_option maxHeartbeats 2000000 in
theorem tail47 (c num : Nat) (bl : Bool) (hc : c < 4) (hn : num ≤ 268435456) (f : AF) (f2 : f.t 2 = .box [iv c, iv num]) (f5 : f.t 5 = .v (.int .u8 ((UInt8.ofNat (hdN c bl)).toNat : Int))) (hds : f.ds = []) :
    cwp Try.prog [29,43] 53 rest47 (Kont.fin Try.prog [ResultVar.tmp 4] (fun out H' => ∃ v v', out = .ret v ∧ View H' v v' ∧ FZ v' ∧ v' = .v (.string (identB c num bl)))) f AH.none := by
  generalize hR : identB c num bl = R
  unfold identB identL at hR
  have hh := hdN_le hc bl
  by_cases h1 : num < 31
  · rw [if_pos h1] at hR
    have hB : bytesA [[.v (.int .u8 ((UInt8.ofNat (hdN c bl + num)).toNat : Int))]] = some [UInt8.ofNat (hdN c bl + num)] := bytesA_map [UInt8.ofNat (hdN c bl + num)]
    simp only [rest47, dropS, f2, f5, iv, hds, show decide ((num : Int) < 31) = true from decide_eq_true (by omega), wrapU8, orNu hc bl (n := num) (by omega), hB, isB84, Cd.cd47, Tk.t47, base0, base1, base2, base3, Option.isNone_none, Option.isNone_some, Nat.reduceBEq, true_or, or_true, false_or, or_false, Nat.reduceLT, Nat.reduceMod, Nat.reducePow, rmaps, nsucc, List.flatten_cons, List.flatten_nil, Nat.reduceEqDiff, Nat.reduceLeDiff, Nat.reduceAdd, Nat.reduceMul, Nat.reduceSub, ↓reduceIte, reduceCtorEq, decide_true, decide_false]
    exact fin_v (by rw [hR])
  · rw [if_neg h1] at hR
    have hlow : (lowC (num / 128)).length ≤ 4 := lowC_len 4 _ (by omega)
    simp only [rest47, dropS, f2, f5, iv, hds, show decide ((num : Int) < 31) = false from decide_eq_false (by omega), and127n (show num < 2 ^ 62 by omega), wrapU8, shr7n, Cd.cd47, Tk.t47, base0, base1, base2, base3, Option.isNone_none, Option.isNone_some, Nat.reduceBEq, true_or, or_true, false_or, or_false, Nat.reduceLT, Nat.reduceMod, Nat.reducePow, rmaps, nsucc, List.flatten_cons, List.flatten_nil, Nat.reduceEqDiff, Nat.reduceLeDiff, Nat.reduceAdd, Nat.reduceMul, Nat.reduceSub, ↓reduceIte, reduceCtorEq, decide_true, decide_false]
    refine LWP.loop [29,43] (fun m f H' => ∃ k L, m = k + 1 ∧ (k ≤ num) ∧ (L ++ lowC k = UInt8.ofNat (num % 128) :: lowC (num / 128)) ∧ f.t 5 = .v (.int .u8 ((UInt8.ofNat (hdN c bl)).toNat : Int)) ∧ f.t 7 = iv k ∧ f.ds = [] ∧ ∃ q rest, f.t 6 = .sl 1 q 0 L.length ∧ q < H'.next ∧ H'.own q = some (.cells (flatE byR L ++ rest))) ?_ ?_ (m := (num / 128) + 1)
    · exact ⟨num / 128, [UInt8.ofNat (num % 128)], rfl, (by omega), (rfl), by simp [upd, f5], by simp [upd, iv], rfl, ⟨_, [], by simp [upd]; rfl, by simp, by simp [flatE, byR, byV]⟩⟩
    · rintro m f H' ⟨k, L, rfl, hk, hL, f5, f7, hds, ⟨q,rest,h6,hq,hown⟩⟩
      have hLl : L.length ≤ 5 := by have := congrArg List.length hL; simp at this; omega
      by_cases hk0 : 0 < k
      · have hst : (L ++ [UInt8.ofNat (128 + k % 128)]) ++ lowC (k / 128) = UInt8.ofNat (num % 128) :: lowC (num / 128) := by rw [← hL, lowC_step hk0]; simp
        have e1 : L.length * 1 ≤ (flatE byR L ++ rest).length := by rw [List.length_append, flatE_len byR_len]; omega
        have e2 : List.take (L.length * 1) (flatE byR L ++ rest) ++ [AV.v (.int .u8 ((UInt8.ofNat (128 + k % 128)).toNat : Int))] = flatE byR (L ++ [UInt8.ofNat (128 + k % 128)]) := by
          rw [show L.length * 1 = (flatE byR L).length from (flatE_len byR_len L).symm, List.take_left, flatE_append]; rfl
        simp only [h6, hown, iv, show decide ((k : Int) > 0) = true from decide_eq_true (by omega), and127n (show k < 2 ^ 62 by omega), wrapU8, or128 (show k % 128 < 128 by omega), shr7n, room1 (b := 1) (n := L.length) (by omega) (by omega), e1, e2, f5, f7, hds, Cd.cd47, Tk.t47, base0, base1, base2, base3, Option.isNone_none, Option.isNone_some, Nat.reduceBEq, true_or, or_true, false_or, or_false, Nat.reduceLT, Nat.reduceMod, Nat.reducePow, rmaps, nsucc, List.flatten_cons, List.flatten_nil, Nat.reduceEqDiff, Nat.reduceLeDiff, Nat.reduceAdd, Nat.reduceMul, Nat.reduceSub, ↓reduceIte, reduceCtorEq, decide_true, decide_false]
        refine ⟨_, by omega, k / 128, L ++ [UInt8.ofNat (128 + k % 128)], rfl, by omega, hst, rfl, H'.next, [], by simp, by simp, ?_⟩
        simp [show ¬ H'.next = q by omega]
      · obtain rfl : k = 0 := by omega
        have hL' : L = UInt8.ofNat (num % 128) :: lowC (num / 128) := by rw [← hL]; simp [lowC, lowCF]
        simp only [h6, iv, show decide (((0 : Nat) : Int) > 0) = false from rfl, f5, f7, hds, Cd.cd47, Tk.t47, base0, base1, base2, base3, Option.isNone_none, Option.isNone_some, Nat.reduceBEq, true_or, or_true, false_or, or_false, Nat.reduceLT, Nat.reduceMod, Nat.reducePow, rmaps, nsucc, List.flatten_cons, List.flatten_nil, Nat.reduceEqDiff, Nat.reduceLeDiff, Nat.reduceAdd, Nat.reduceMul, Nat.reduceSub, ↓reduceIte, reduceCtorEq, decide_true, decide_false]
        refine ACall.mono (reverse62 q L rest _ hown (by omega)) ?_
        rintro _ H1 ⟨rfl, k1, k2, k3, k4⟩
        simp only [callK]
        have hcv : bytesA ((List.take L.length (flatE byR L.reverse ++ rest)).map fun a => [a]) = some L.reverse := by
          have := bytes_flat L.reverse rest; rwa [List.length_reverse] at this
        have hcl : L.length ≤ (flatE byR L.reverse ++ rest).length := by rw [List.length_append, flatE_len byR_len, List.length_reverse]; omega
        have hB : bytesA [[.v (.int .u8 ((UInt8.ofNat (hdN c bl + 31)).toNat : Int))]] = some [UInt8.ofNat (hdN c bl + 31)] := bytesA_map [UInt8.ofNat (hdN c bl + 31)]
        have hcat : astr .add ⟨#[UInt8.ofNat (hdN c bl + 31)]⟩ ⟨L.reverse.toArray⟩ = some (.string ⟨(UInt8.ofNat (hdN c bl + 31) :: L.reverse).toArray⟩) := by
          rw [sadd (by rw [size_mk]; simp [ByteArray.size]; omega)]
          exact congrArg (fun x => some (Value.string x)) (bcat [UInt8.ofNat (hdN c bl + 31)] L.reverse)
        simp only [h6, k4, iv, f5, or31u hc bl, hcv, hcl, hB, isB84, hcat, f5, f7, hds, Cd.cd47, Tk.t47, base0, base1, base2, base3, Option.isNone_none, Option.isNone_some, Nat.reduceBEq, true_or, or_true, false_or, or_false, Nat.reduceLT, Nat.reduceMod, Nat.reducePow, rmaps, nsucc, List.flatten_cons, List.flatten_nil, Nat.reduceEqDiff, Nat.reduceLeDiff, Nat.reduceAdd, Nat.reduceMul, Nat.reduceSub, ↓reduceIte, reduceCtorEq, decide_true, decide_false]
        refine fin_v ?_
        rw [← hR, ← hL']
theorem identifier47 (c num : Nat) (bl : Bool) (hc : c < 4) (hn : num ≤ 268435456) : FCall Try.prog 47 [tagV c num, .v (.bool bl)] (· = .v (.string (identB c num bl))) := by
  refine ACall.enter [29,43] (cc := putS 3 Cd.cd47 rest47) (by rw [show putS 3 Cd.cd47 rest47 = Cd.cd47 from putS_drop 3 _]; exact Cd.fn47) (by simp) ?_
  cases bl
  · simp only [putS, tagV, iv, shl6 hc, shl6u hc, Cd.cd47, Tk.t47, base0, base1, base2, base3, Option.isNone_none, Option.isNone_some, Nat.reduceBEq, true_or, or_true, false_or, or_false, Nat.reduceLT, Nat.reduceMod, Nat.reducePow, rmaps, nsucc, List.flatten_cons, List.flatten_nil, Nat.reduceEqDiff, Nat.reduceLeDiff, Nat.reduceAdd, Nat.reduceMul, Nat.reduceSub, ↓reduceIte, reduceCtorEq, decide_true, decide_false]
    exact tail47 c num false hc hn _ rfl rfl rfl
  · simp only [putS, tagV, iv, shl6 hc, shl6u hc, or32u hc, Cd.cd47, Tk.t47, base0, base1, base2, base3, Option.isNone_none, Option.isNone_some, Nat.reduceBEq, true_or, or_true, false_or, or_false, Nat.reduceLT, Nat.reduceMod, Nat.reducePow, rmaps, nsucc, List.flatten_cons, List.flatten_nil, Nat.reduceEqDiff, Nat.reduceLeDiff, Nat.reduceAdd, Nat.reduceMul, Nat.reduceSub, ↓reduceIte, reduceCtorEq, decide_true, decide_false]
    refine tail47 c num true hc hn _ rfl ?_ rfl
    show AV.v (Value.int IntKind.u8 (IntKind.u8.wrap ((BitVec.ofInt IntKind.u8.bits (IntKind.u8.wrap ((c * 64 : Nat) : Int)) ||| BitVec.ofInt IntKind.u8.bits 32).toNat : Nat))) = _
    rw [shl6u hc, or32u hc]

/-- the shortest octets of an identifier, or the error -/
def identOf (c n : Int) (bl : Bool) : ByteArray × Int := if 0 ≤ c ∧ c < 4 ∧ 0 ≤ n ∧ n ≤ 268435456 then (identB c.toNat n.toNat bl, 0) else (⟨#[]⟩, 3)
def lengthOf (n : Int) : ByteArray × Int := if 0 ≤ n ∧ n ≤ 4000 then (lengthB n.toNat 1, 0) else (⟨#[]⟩, 3)
theorem astr_eqs (x : ByteArray) : astr .eql x x = some (.bool true) := by simp [astr]
theorem FZ.tag (c n : Int) : FZ (.agg [.v (.int .i64 c), .v (.int .i64 n)]) := FZ.agg (FZs.cons (FZ.v _) (FZs.one (FZ.v _)))

end Go.Proofs.Ytmjjfdppaomcfaa

/- Walks: the law of writing. -/
namespace Go.Proofs.Ytmjjfdppaomcfaa
open Go Go.Proofs.Ytmjjfdppaomcfaa.Ab
set_option maxRecDepth 100000
set_option linter.unusedSimpArgs false

def rest5 : CC := dropS 4 Cd.cd5
end Go.Proofs.Ytmjjfdppaomcfaa

/- Plain: the node at a path by its index; bytes around a node. -/
namespace Go.Proofs.Ytmjjfdppaomcfaa
open Go Go.Proofs.Ytmjjfdppaomcfaa.Ab

theorem okT_deep {b : ByteArray} {D : Nat} {t : Tree} (h : okT b D t) : t.h.deep = D ∧ D ≤ 15 := by
  obtain ⟨h', k⟩ := t
  simp only [okT] at h
  exact h.1
theorem okT_ident {b : ByteArray} {D : Nat} {t : Tree} (h : okT b D t) : ident b t.h.frm b.size = .ok (t.h.cls, t.h.num, t.h.built, t.h.len) := by
  obtain ⟨h', k⟩ := t
  simp only [okT] at h
  exact h.2.2.2.2.2.2.1
def findN : Nat → List Tree → List Int → Option Nat
  | _, _, [] => none
  | s, l, p :: r => if 0 ≤ p ∧ p < (l.length : Int) then (if r = [] then some ((kidIx s l).getD p.toNat 0) else findN ((kidIx s l).getD p.toNat 0 + 1) (l.getD p.toNat default).kids r) else none
/-- a constructed node with another content -/
def againB (b : ByteArray) (x : Hd) (c : ByteArray) : ByteArray :=
  if x.opn then b.extract x.frm x.body ++ c ++ b.extract x.stop x.fin else b.extract x.frm x.len ++ lengthB c.size (x.body - x.len) ++ c
def partA (b : ByteArray) (p : Int) (mid : Tree → ByteArray) : Nat → List Tree → ByteArray
  | _, [] => ⟨#[]⟩
  | i, t :: l => (if (i : Int) ≠ p then b.extract t.h.frm t.h.fin else mid t) ++ partA b p mid (i + 1) l
def aroundT (b by_ : ByteArray) : List Int → List Tree → ByteArray
  | [], _ => ⟨#[]⟩
  | p :: r, l => partA b p (fun t => if r = [] then by_ else againB b t.h (aroundT b by_ r t.kids)) 0 l

theorem app_nil (x : ByteArray) : x ++ ⟨#[]⟩ = x := by apply ByteArray.ext; simp
theorem nil_app (x : ByteArray) : ⟨#[]⟩ ++ x = x := by apply ByteArray.ext; simp
def replF (b : ByteArray) : List Hd → Nat → Nat → ByteArray → Nat × Nat × ByteArray
  | [], p, q, out => (p, q, out)
  | y :: r, p, q, out => replF b r y.frm y.fin (replStep b y p q out)
end Go.Proofs.Ytmjjfdppaomcfaa

/- Walks: the reference looks for a node, and puts bytes in its place. -/
namespace Go.Proofs.Ytmjjfdppaomcfaa
open Go Go.Proofs.Ytmjjfdppaomcfaa.Ab
set_option maxRecDepth 100000
set_option linter.unusedSimpArgs false

section
variable {b : ByteArray} {l : List Tree} (hb : b.size ≤ 4000) (hwf : okTs b 0 0 b.size l) (hlen : (flatTs l).length ≤ 300)
theorem AtT.node {i D : Nat} {t : Tree} (h : AtT b (subTs l) i D t) : i < (flatTs l).length ∧ (flatTs l).getD i default = t.h := by
  obtain ⟨h1, h2⟩ := h.get
  rw [← subTs_map]
  refine ⟨by simpa using h1, ?_⟩
  rw [List.getD_eq_getElem?_getD, List.getElem?_map, List.getElem?_eq_getElem h1]
  rw [List.getD_eq_getElem?_getD, List.getElem?_eq_getElem h1] at h2
  simp only [Option.getD_some] at h2
  simp [h2]
include hb hlen in
theorem kidsAt {i D : Nat} {t : Tree} (h : AtT b (subTs l) i D t) : FCall Try.prog 45 [walkV b (flatTs l), iv i] (· = natsV (kidIx (i + 1) t.kids)) := by
  obtain ⟨h1, h2⟩ := h.node
  have hd := okT_deep h.ok
  have := kids45 b hb (flatTs l) (by omega) i h1 (by rw [h2]; omega)
  rw [h2] at this
  have hs := h.scan
  rw [List.map_drop, subTs_map] at hs
  rw [hs] at this
  exact this
include hb hwf hlen in
theorem kidsTop : FCall Try.prog 45 [walkV b (flatTs l), .v (.int .i64 (-1))] (· = natsV (kidIx 0 l)) := by
  have := kids45n b hb (flatTs l) (by omega)
  rw [scan_top hwf] at this
  exact this
end
def ixV : Option Nat → AV
  | some i => iv i
  | none => .v (.int .i64 (-1))
end Go.Proofs.Ytmjjfdppaomcfaa

/- Walks: the reference looks for a node at a path; constructed nodes again. -/
namespace Go.Proofs.Ytmjjfdppaomcfaa
open Go Go.Proofs.Ytmjjfdppaomcfaa.Ab
set_option maxRecDepth 100000
set_option linter.unusedSimpArgs false

/-- a node, or the whole: its number, where its kids begin, and they -/
def AtK (b : ByteArray) (l : List Tree) (a : Int) (s : Nat) (l' : List Tree) : Prop := (a = -1 ∧ s = 0 ∧ l' = l) ∨ ∃ (n D : Nat) (t : Tree), a = (n : Int) ∧ AtT b (subTs l) n D t ∧ t.h.built = true ∧ s = n + 1 ∧ l' = t.kids
section
variable {b : ByteArray} {l : List Tree} (hb : b.size ≤ 4000) (hwf : okTs b 0 0 b.size l) (hlen : (flatTs l).length ≤ 300)
theorem kidIx_le {b : ByteArray} {S : List Tree} {s D p q : Nat} {l : List Tree} (h : AtL b S s D p q l) (hS : S.length ≤ 300) : l.length ≤ 300 := by
  rcases Nat.eq_zero_or_pos l.length with h0 | h0
  · omega
  · obtain ⟨rest, h1, _, _⟩ := h
    have h2 := congrArg List.length h1
    have h3 := len_flatTs l
    have h4 := congrArg List.length (subTs_map l)
    simp only [List.length_drop, List.length_append, List.length_map] at h2 h4
    omega
theorem kidRow (s : Nat) (l : List Tree) (i : Nat) (h : i < l.length) : ((kidIx s l).map natR).getD i [] = [.v (.int .i64 (((kidIx s l).getD i 0 : Nat) : Int))] := by
  have := getDmap natR (kidIx s l) i (by rw [kidIx_length]; exact h)
  rw [this]; rfl
end
end Go.Proofs.Ytmjjfdppaomcfaa

/- Walks: the reference puts bytes in the place of a node; the law of replacing. -/
namespace Go.Proofs.Ytmjjfdppaomcfaa
open Go Go.Proofs.Ytmjjfdppaomcfaa.Ab
set_option maxRecDepth 100000
set_option linter.unusedSimpArgs false

section
variable {b : ByteArray} {l : List Tree} (hb : b.size ≤ 4000) (hwf : okTs b 0 0 b.size l) (hlen : (flatTs l).length ≤ 300)
include hb in
theorem ext_le (i j : Nat) : (b.extract i j).size ≤ 4000 := by rw [ByteArray.size_extract]; omega
end

end Go.Proofs.Ytmjjfdppaomcfaa

/- Walks: the reference's Replaced; the law of replacing. -/
namespace Go.Proofs.Ytmjjfdppaomcfaa
open Go Go.Proofs.Ytmjjfdppaomcfaa.Ab
set_option maxRecDepth 100000
set_option linter.unusedSimpArgs false

theorem FZs.intR (l : List Int) : ∀ r ∈ l.map intR, FZs r := fun r hr => by
  obtain ⟨x, _, rfl⟩ := List.mem_map.mp hr; exact FZs.one (FZ.v _)
def atE : Except Flt (List Tree) → Nat
  | .ok _ => 0
  | .error e => e.1
theorem refOut_eq (b : ByteArray) (r : Except Flt (List Tree)) : refOut b r = .box (wL b (nodesV (flatTs (okL r))) (atE r) (errOf r)) := by cases r <;> rfl
theorem refOut_ok {b : ByteArray} (h : errOf (readB b) = 0) : refOut b (readB b) = walkV b (flatTs (okL (readB b))) := by
  obtain ⟨l, hl⟩ := errOf_zero h
  rw [hl]; rfl

def rest18c : CC := dropS 7 Cd.cd18
def rest18b : CC := dropS 5 Cd.cd18
def rest18a : CC := dropS 4 Cd.cd18
end Go.Proofs.Ytmjjfdppaomcfaa

/- Plain: the path of the first node that is another one. -/
namespace Go.Proofs.Ytmjjfdppaomcfaa
open Go Go.Proofs.Ytmjjfdppaomcfaa.Ab

/-- two nodes are not the same, but for those within -/
def difB (a b : ByteArray) (x y : Hd) : Bool := !(x.cls == y.cls && x.num == y.num) || (x.built != y.built || (!x.built && !decide (a.extract x.body x.stop = b.extract y.body y.stop)))
def apartL (a b : ByteArray) (rec : List Tree → List Tree → Option (List Nat)) : Nat → List Tree → List Tree → Option (List Nat)
  | i, x :: l, y :: m => if difB a b x.h y.h = true then some [i] else match rec x.kids y.kids with
    | some p => some (i :: p)
    | none => apartL a b rec (i + 1) l m
  | _, [], [] => none
  | i, _ :: _, [] => some [i]
  | i, [], _ :: _ => some [i]
def apartD (a b : ByteArray) : Nat → List Tree → List Tree → Option (List Nat)
  | 0 => fun _ _ => none
  | d + 1 => apartL a b (apartD a b d) 0
theorem okT_built {b : ByteArray} {D : Nat} {t : Tree} (h : okT b D t) (hb : t.h.built = true) : okTs b (D + 1) t.h.body t.h.stop t.kids := by
  obtain ⟨h', k⟩ := t
  simp only [okT] at h
  exact h.2.2.2.2.2.2.2.2.2.2 hb
theorem flat_kids : ∀ {l : List Tree} {i : Nat}, i < l.length → (flatTs (l.getD i default).kids).length < (flatTs l).length
  | [], i, h => by simp at h
  | .mk hd k :: l, 0, h => by simp [flatTs, flatT, Tree.kids_mk]; omega
  | .mk hd k :: l, i + 1, h => by
    have := flat_kids (l := l) (i := i) (by simpa using h)
    simp only [List.getD_cons_succ, flatTs, flatT, List.length_append, List.length_cons]; omega
end Go.Proofs.Ytmjjfdppaomcfaa

/- Walks: words for finding the first node that is another one. -/
namespace Go.Proofs.Ytmjjfdppaomcfaa
open Go Go.Proofs.Ytmjjfdppaomcfaa.Ab
set_option maxRecDepth 100000
set_option linter.unusedSimpArgs false

theorem astr_ned {x y : ByteArray} (h : x ≠ y) : astr .neq x y = some (.bool true) := by
  show some (Value.bool !(x.toList == y.toList)) = _
  rw [← beq_toListBytes]
  congr 2
  obtain ⟨d⟩ := x
  obtain ⟨e⟩ := y
  show (!(d == e)) = true
  rw [Bool.not_eq_true', beq_eq_false_iff_ne]
  exact fun hh => h (by rw [hh])
def apV : Option (List Nat) → AV
  | some p => .tup [natsV p, .v (.bool true)]
  | none => .tup [natsV [], .v (.bool false)]
theorem FZ.apV (o : Option (List Nat)) : FZ (apV o) := by
  cases o
  · exact FZ.tup (FZs.cons (FZ.natsV []) (FZs.one (FZ.v _)))
  · rename_i p
    exact FZ.tup (FZs.cons (FZ.natsV p) (FZs.one (FZ.v _)))
end Go.Proofs.Ytmjjfdppaomcfaa

/- Walks: whether two are alike; the law of it. -/
namespace Go.Proofs.Ytmjjfdppaomcfaa
open Go Go.Proofs.Ytmjjfdppaomcfaa.Ab
set_option maxRecDepth 100000
set_option linter.unusedSimpArgs false

/-- whether they are alike, the path of the first difference, the error -/
def alikeP (a b : ByteArray) : Bool × List Nat × Int :=
  if errOf (readB a) ≠ 0 then (false, [], errOf (readB a)) else if errOf (readB b) ≠ 0 then (false, [], errOf (readB b)) else
    match apartD a b 17 (okL (readB a)) (okL (readB b)) with
    | some p => (false, p, 0)
    | none => (true, [], 0)
def bleV (x : Bool × List Nat × Int) : AV := .tup [.v (.bool x.1), natsV x.2.1, .v (.int .i64 x.2.2)]
end Go.Proofs.Ytmjjfdppaomcfaa

/- Plain: the short form, and that it is no longer. -/
namespace Go.Proofs.Ytmjjfdppaomcfaa
open Go Go.Proofs.Ytmjjfdppaomcfaa.Ab

mutual
/-- the short form of a node -/
def shortT (b : ByteArray) : Tree → ByteArray
  | .mk h k => identB h.cls h.num h.built ++ lengthB (if h.built then shortTs b k else b.extract h.body h.stop).size 1 ++ (if h.built then shortTs b k else b.extract h.body h.stop)
def shortTs (b : ByteArray) : List Tree → ByteArray
  | [] => ⟨#[]⟩
  | t :: l => shortT b t ++ shortTs b l
end
theorem tagL_lt {b : ByteArray} {lim : Nat} : ∀ {k p num m q : Nat}, tagL b lim k p num = .ok (m, q) → m < (num + 1) * 128 ^ (q - p)
  | 0, p, num, m, q, h => by simp [tagL] at h
  | k + 1, p, num, m, q, h => by
    simp only [tagL] at h
    split at h
    · split at h
      · cases h
      · split at h
        · cases h
          rw [show p + 1 - p = 1 from by omega]
          have := Nat.mod_lt (bt b p) (show 0 < 128 by omega)
          omega
        · have h1 := tagL_lt h
          have h2 := tagL_ok h
          have h3 := Nat.mod_lt (bt b p) (show 0 < 128 by omega)
          rw [show q - p = (q - (p + 1)) + 1 from by omega, Nat.pow_succ, Nat.mul_comm (128 ^ _) 128, ← Nat.mul_assoc]
          exact Nat.lt_of_lt_of_le h1 (Nat.mul_le_mul_right _ (by omega))
    · cases h
theorem identB_size (c n : Nat) (bl : Bool) : (identB c n bl).size = (identL c n bl).length := by simp [identB, ByteArray.size]
theorem lengthB_sz (n o : Nat) : (lengthB n o).size = (lengthL n o).length := by simp [lengthB, ByteArray.size]
theorem ident_min {b : ByteArray} {a lim c n p : Nat} {bl : Bool} (h : ident b a lim = .ok (c, n, bl, p)) : (identB c n bl).size ≤ p - a := by
  rw [identB_size]
  have ho := ident_ok h
  unfold ident at h
  split at h
  · split at h
    · rename_i h1 h2
      cases h
      unfold identL; rw [if_pos h2]; simp
    · split at h
      · rename_i m q hq
        cases h
        have h1 := tagL_lt hq
        have h2 := tagL_ok hq
        unfold identL
        split
        · simp; omega
        · obtain ⟨j, hj⟩ : ∃ j, p - (a + 1) = j + 1 := ⟨p - (a + 1) - 1, by omega⟩
          rw [hj, Nat.zero_add, Nat.one_mul, Nat.pow_succ] at h1
          have := lowC_len j (n / 128) (by omega)
          simp; omega
      · cases h
  · cases h
theorem lenL_lt {b : ByteArray} {lim : Nat} : ∀ {k p n m : Nat}, lenL b lim k p n = .ok m → m < (n + 1) * 256 ^ k
  | 0, p, n, m, h => by simp only [lenL] at h; cases h; omega
  | k + 1, p, n, m, h => by
    simp only [lenL] at h
    split at h
    · split at h
      · cases h
      · have h1 := lenL_lt h
        have h3 := bt_lt b p
        rw [Nat.pow_succ, Nat.mul_comm (256 ^ _) 256, ← Nat.mul_assoc]
        exact Nat.lt_of_lt_of_le h1 (Nat.mul_le_mul_right _ (by omega))
    · cases h
theorem lenOf_min {b : ByteArray} {a lim n p : Nat} {bl : Bool} (h : lenOf b a lim bl = .ok (some n, p)) : (lengthB n 1).size ≤ p - a := by
  rw [lengthB_sz]
  have hc := bt_lt b a
  unfold lenOf at h
  split at h
  · split at h
    · rename_i h1
      cases h
      unfold lengthL; rw [if_pos ⟨h1, rfl⟩]; simp
    · split at h
      · cases h
      · split at h
        · cases h
        · split at h
          · rename_i n' hn
            cases h
            have h1 := lenL_lt hn
            rw [Nat.zero_add, Nat.one_mul] at h1
            have h2 := lowB_len _ _ h1
            unfold lengthL
            split
            · simp; omega
            · simp [padB_len]; omega
          · cases h
  · cases h
theorem lenOf_none {b : ByteArray} {a lim p : Nat} {bl : Bool} (h : lenOf b a lim bl = .ok (none, p)) : p = a + 1 := by
  unfold lenOf at h
  split at h
  · split at h
    · cases h
    · split at h
      · cases h
      · split at h
        · cases h; rfl
        · split at h <;> cases h
  · cases h
theorem lowB_lt : ∀ (k n : Nat), (lowB n).length ≤ k → n < 256 ^ k
  | 0, n, h => by
    rcases Nat.eq_zero_or_pos n with rfl | hp
    · simp
    · rw [lowB_step hp] at h; simp at h
  | k + 1, n, h => by
    rcases Nat.eq_zero_or_pos n with rfl | hp
    · exact Nat.pow_pos (by omega)
    · rw [lowB_step hp] at h
      have := lowB_lt k (n / 256) (by simpa using h)
      rw [Nat.pow_succ]; omega
theorem lengthB_mono {m n : Nat} (h : m ≤ n) : (lengthB m 1).size ≤ (lengthB n 1).size := by
  rw [lengthB_sz, lengthB_sz]
  by_cases hm : m < 128
  · have := lenL_pos n 1
    unfold lengthL at this ⊢
    rw [if_pos ⟨hm, rfl⟩]
    simpa using this
  · have h1 := lowB_lt _ n (Nat.le_refl _)
    have h2 := lowB_len _ m (Nat.lt_of_le_of_lt h h1)
    unfold lengthL
    rw [if_neg (fun e => hm e.1), if_neg (fun e => by omega)]
    simp [padB_len]; omega
theorem lengthB_le3 {n : Nat} (h : n ≤ 60000) : (lengthB n 1).size ≤ 3 := by
  rw [lengthB_sz]
  have := lowB_len 2 n (by omega)
  unfold lengthL
  split
  · simp
  · simp [padB_len]; omega
mutual
theorem shortT_size {b : ByteArray} (hb : b.size ≤ 4000) {D : Nat} : ∀ {t : Tree}, okT b D t → (shortT b t).size + t.h.frm ≤ t.h.fin
  | .mk h k, ho => by
    simp only [okT] at ho
    obtain ⟨o1, o2, o3, o4, o5, o6, o7, o8, o9, o10, o11⟩ := ho
    have hi := ident_min o7
    have hcs : (if h.built then shortTs b k else b.extract h.body h.stop).size + h.body ≤ h.stop := by
      cases hbt : h.built with
      | true => have := shortTs_size hb (o11 hbt); simpa using this
      | false => simp only [Bool.false_eq_true, if_false, ByteArray.size_extract]; omega
    rw [shortT]
    generalize (if h.built then shortTs b k else b.extract h.body h.stop) = c at hcs
    simp only [ByteArray.size_append, Tree.h_mk]
    cases hop : h.opn with
    | true =>
      rw [hop] at o5 o8
      simp only [if_true] at o5 o8
      have := lenOf_none o8
      have := lengthB_le3 (n := c.size) (by omega)
      omega
    | false =>
      rw [hop] at o5 o8
      simp only [Bool.false_eq_true, if_false] at o5 o8
      have h1 := lenOf_min o8
      have h2 := lengthB_mono (show c.size ≤ h.stop - h.body by omega)
      omega
theorem shortTs_size {b : ByteArray} (hb : b.size ≤ 4000) {D : Nat} : ∀ {l : List Tree} {p q : Nat}, okTs b D p q l → (shortTs b l).size + p ≤ q
  | [], p, q, h => by simp only [okTs] at h; subst h; simp [shortTs, ByteArray.size]
  | t :: l, p, q, h => by
    simp only [okTs] at h
    have h1 := shortT_size hb h.2.1
    have h2 := shortTs_size hb h.2.2
    rw [shortTs, ByteArray.size_append]; omega
end
end Go.Proofs.Ytmjjfdppaomcfaa

/- Walks: the short form, program and reference; the law of it. -/
namespace Go.Proofs.Ytmjjfdppaomcfaa
open Go Go.Proofs.Ytmjjfdppaomcfaa.Ab
set_option maxRecDepth 100000
set_option linter.unusedSimpArgs false

theorem shortTs_snoc (b : ByteArray) : ∀ (l m : List Tree), shortTs b (l ++ m) = shortTs b l ++ shortTs b m
  | [], m => by simp only [List.nil_append, shortTs, nil_app]
  | t :: l, m => by simp only [List.cons_append, shortTs, shortTs_snoc b l m, ByteArray.append_assoc]
theorem shortTs_take {b : ByteArray} {l : List Tree} {i : Nat} (hi : i < l.length) : shortTs b (l.take (i + 1)) = shortTs b (l.take i) ++ shortT b (l.getD i default) := by
  rw [List.take_add_one, shortTs_snoc, List.getD_eq_getElem?_getD, List.getElem?_eq_getElem hi]
  simp only [Option.toList_some, Option.getD_some, shortTs, app_nil]
theorem okTs_take {b : ByteArray} {D q : Nat} : ∀ {l : List Tree} {p : Nat} (i : Nat), okTs b D p q l → ∃ q', q' ≤ q ∧ okTs b D p q' (l.take i)
  | l, p, 0, h => ⟨p, okTs_le h, by simp only [List.take_zero, okTs]⟩
  | [], p, i + 1, h => ⟨q, Nat.le_refl _, by simpa using h⟩
  | t :: l, p, i + 1, h => by
    simp only [okTs] at h
    obtain ⟨q', h1, h2⟩ := okTs_take i h.2.2
    refine ⟨q', h1, ?_⟩
    simp only [List.take_succ_cons, okTs]
    exact ⟨h.1, h.2.1, h2⟩

section
variable {b : ByteArray} (hb : b.size ≤ 4000)
include hb
set_option maxHeartbeats 2000000 in
theorem shortest63 {D : Nat} {t : Tree} (ho : okT b D t) (hk : t.h.built = true → FCall Try.prog 53 [.v (.string b), treesV t.kids] (· = .v (.string (shortTs b t.kids)))) : FCall Try.prog 63 [.v (.string b), treeV t] (· = .v (.string (shortT b t))) := by
  have hsz := shortT_size hb ho
  obtain ⟨o1, o2, o3, o4, o5⟩ := okT_in ho
  have hid := ident_ok (okT_ident ho)
  have hI := identifier47 t.h.cls t.h.num t.h.built (by omega) (by omega)
  have ht := treeV_box t
  have hzk := FZ.rowsOf t.kids
  have hst : shortT b t = identB t.h.cls t.h.num t.h.built ++ lengthB (if t.h.built then shortTs b t.kids else b.extract t.h.body t.h.stop).size 1 ++ (if t.h.built then shortTs b t.kids else b.extract t.h.body t.h.stop) := by cases t; rfl
  generalize hR : shortT b t = R at hsz
  rw [hst] at hR
  simp only [tagV, iv] at hI
  refine ACall.enter [] Cd.fn63 (by simp) ?_
  cases hbt : t.h.built with
  | true =>
    have hk := hk hbt
    simp only [treesV] at hk hzk
    rw [hbt] at hR hI
    simp only [if_true] at hR
    have hL := length48 (shortTs b t.kids).size 1 (by rw [← hR] at hsz; simp only [ByteArray.size_append] at hsz; omega) (by omega) (by omega)
    simp only [iv] at hL
    generalize shortTs b t.kids = c at hk hR hL
    have z1 := congrArg ByteArray.size hR
    simp only [ByteArray.size_append] at z1
    have s1 : astr .add (identB t.h.cls t.h.num true) (lengthB c.size 1) = _ := sadd (by omega)
    have s2 : astr .add (identB t.h.cls t.h.num true ++ lengthB c.size 1) c = _ := sadd (by rw [ByteArray.size_append]; omega)
    simp only [ht, hdL, treesV, hbt, leT (show t.h.stop ≤ b.size by omega), leT o3, Int.natCast_nonneg, Int.toNat_natCast, Cd.cd63, Tk.t63, base0, base1, base2, base3, Option.isNone_none, Option.isNone_some, Nat.reduceBEq, true_or, or_true, false_or, or_false, Nat.reduceLT, Nat.reduceMod, Nat.reducePow, rmaps, nsucc, List.flatten_cons, List.flatten_nil, Nat.reduceEqDiff, Nat.reduceLeDiff, Nat.reduceAdd, Nat.reduceMul, Nat.reduceSub, ↓reduceIte, reduceCtorEq, decide_true, decide_false]
    first | refine FCall.go hk (FZs.cons (FZ.v _) (FZs.one hzk)) ?_ | refine FCall.go' hk (FZs.cons (FZ.v _) (FZs.one hzk)) ?_ | refine FCall.goQ hk (FZs.cons (FZ.v _) (FZs.one hzk)) ?_
    simp only [ht, hdL, treesV, hbt, Cd.cd63, Tk.t63, base0, base1, base2, base3, Option.isNone_none, Option.isNone_some, Nat.reduceBEq, true_or, or_true, false_or, or_false, Nat.reduceLT, Nat.reduceMod, Nat.reducePow, rmaps, nsucc, List.flatten_cons, List.flatten_nil, Nat.reduceEqDiff, Nat.reduceLeDiff, Nat.reduceAdd, Nat.reduceMul, Nat.reduceSub, ↓reduceIte, reduceCtorEq, decide_true, decide_false]
    first | refine FCall.go hI (FZs.cons (FZ.tag _ _) (FZs.one (FZ.v _))) ?_ | refine FCall.go' hI (FZs.cons (FZ.tag _ _) (FZs.one (FZ.v _))) ?_ | refine FCall.goQ hI (FZs.cons (FZ.tag _ _) (FZs.one (FZ.v _))) ?_
    simp only [List.not_mem_nil, false_imp_iff, implies_true, Cd.cd63, Tk.t63, base0, base1, base2, base3, Option.isNone_none, Option.isNone_some, Nat.reduceBEq, true_or, or_true, false_or, or_false, Nat.reduceLT, Nat.reduceMod, Nat.reducePow, rmaps, nsucc, List.flatten_cons, List.flatten_nil, Nat.reduceEqDiff, Nat.reduceLeDiff, Nat.reduceAdd, Nat.reduceMul, Nat.reduceSub, ↓reduceIte, reduceCtorEq, decide_true, decide_false]
    first | refine FCall.go hL (FZs.cons (FZ.v _) (FZs.one (FZ.v _))) ?_ | refine FCall.go' hL (FZs.cons (FZ.v _) (FZs.one (FZ.v _))) ?_ | refine FCall.goQ hL (FZs.cons (FZ.v _) (FZs.one (FZ.v _))) ?_
    simp only [List.not_mem_nil, false_imp_iff, implies_true, s1, s2, Cd.cd63, Tk.t63, base0, base1, base2, base3, Option.isNone_none, Option.isNone_some, Nat.reduceBEq, true_or, or_true, false_or, or_false, Nat.reduceLT, Nat.reduceMod, Nat.reducePow, rmaps, nsucc, List.flatten_cons, List.flatten_nil, Nat.reduceEqDiff, Nat.reduceLeDiff, Nat.reduceAdd, Nat.reduceMul, Nat.reduceSub, ↓reduceIte, reduceCtorEq, decide_true, decide_false]
    exact fin_v (by rw [← hR])
  | false =>
    rw [hbt] at hR hI
    simp only [Bool.false_eq_true, if_false] at hR
    have zc := ext_le hb t.h.body t.h.stop
    have hL := length48 (b.extract t.h.body t.h.stop).size 1 (by omega) (by omega) (by omega)
    simp only [iv] at hL
    generalize hcc : b.extract t.h.body t.h.stop = c at zc hR hL
    have z1 := congrArg ByteArray.size hR
    simp only [ByteArray.size_append] at z1
    have s1 : astr .add (identB t.h.cls t.h.num false) (lengthB c.size 1) = _ := sadd (by omega)
    have s2 : astr .add (identB t.h.cls t.h.num false ++ lengthB c.size 1) c = _ := sadd (by rw [ByteArray.size_append]; omega)
    simp only [ht, hdL, treesV, hbt, leT (show t.h.stop ≤ b.size by omega), leT o3, Int.natCast_nonneg, Int.toNat_natCast, hcc, Cd.cd63, Tk.t63, base0, base1, base2, base3, Option.isNone_none, Option.isNone_some, Nat.reduceBEq, true_or, or_true, false_or, or_false, Nat.reduceLT, Nat.reduceMod, Nat.reducePow, rmaps, nsucc, List.flatten_cons, List.flatten_nil, Nat.reduceEqDiff, Nat.reduceLeDiff, Nat.reduceAdd, Nat.reduceMul, Nat.reduceSub, ↓reduceIte, reduceCtorEq, decide_true, decide_false]
    first | refine FCall.go hI (FZs.cons (FZ.tag _ _) (FZs.one (FZ.v _))) ?_ | refine FCall.go' hI (FZs.cons (FZ.tag _ _) (FZs.one (FZ.v _))) ?_ | refine FCall.goQ hI (FZs.cons (FZ.tag _ _) (FZs.one (FZ.v _))) ?_
    simp only [List.not_mem_nil, false_imp_iff, implies_true, Cd.cd63, Tk.t63, base0, base1, base2, base3, Option.isNone_none, Option.isNone_some, Nat.reduceBEq, true_or, or_true, false_or, or_false, Nat.reduceLT, Nat.reduceMod, Nat.reducePow, rmaps, nsucc, List.flatten_cons, List.flatten_nil, Nat.reduceEqDiff, Nat.reduceLeDiff, Nat.reduceAdd, Nat.reduceMul, Nat.reduceSub, ↓reduceIte, reduceCtorEq, decide_true, decide_false]
    first | refine FCall.go hL (FZs.cons (FZ.v _) (FZs.one (FZ.v _))) ?_ | refine FCall.go' hL (FZs.cons (FZ.v _) (FZs.one (FZ.v _))) ?_ | refine FCall.goQ hL (FZs.cons (FZ.v _) (FZs.one (FZ.v _))) ?_
    simp only [List.not_mem_nil, false_imp_iff, implies_true, s1, s2, Cd.cd63, Tk.t63, base0, base1, base2, base3, Option.isNone_none, Option.isNone_some, Nat.reduceBEq, true_or, or_true, false_or, or_false, Nat.reduceLT, Nat.reduceMod, Nat.reducePow, rmaps, nsucc, List.flatten_cons, List.flatten_nil, Nat.reduceEqDiff, Nat.reduceLeDiff, Nat.reduceAdd, Nat.reduceMul, Nat.reduceSub, ↓reduceIte, reduceCtorEq, decide_true, decide_false]
    exact fin_v (by rw [← hR])
set_option maxHeartbeats 2000000 in
theorem short53 (n : Nat) : ∀ (D p q : Nat) (l : List Tree), (flatTs l).length ≤ n → (flatTs l).length ≤ 300 → okTs b D p q l → q ≤ b.size → FCall Try.prog 53 [.v (.string b), treesV l] (· = .v (.string (shortTs b l))) := by
  induction n using Nat.strongRecOn with
  | _ n ih =>
    intro D p q l hn h300 ho hq
    have hll := len_flatTs l
    have hz := shortTs_size hb ho
    generalize hR : shortTs b l = R at hz
    refine ACall.enter [] Cd.fn53 (by simp) ?_
    simp only [treesV, List.length_map, Cd.cd53, Tk.t53, base0, base1, base2, base3, Option.isNone_none, Option.isNone_some, Nat.reduceBEq, true_or, or_true, false_or, or_false, Nat.reduceLT, Nat.reduceMod, Nat.reducePow, rmaps, nsucc, List.flatten_cons, List.flatten_nil, Nat.reduceEqDiff, Nat.reduceLeDiff, Nat.reduceAdd, Nat.reduceMul, Nat.reduceSub, ↓reduceIte, reduceCtorEq, decide_true, decide_false]
    refine LWP.loop [] (fun m f H' => ∃ i, m = l.length - i ∧ (i ≤ l.length) ∧ f.t 0 = .v (.string b) ∧ f.t 5 = .v (.string (shortTs b (l.take i))) ∧ f.t 8 = treesV l ∧ f.t 9 = .v (.int .i64 (l.length : Nat)) ∧ f.t 10 = .v (.int .i64 (i : Nat)) ∧ f.ds = [] ∧ H' = AH.none) ?_ ?_ (m := l.length - (0))
    · exact ⟨0, rfl, (by omega), rfl, rfl, rfl, rfl, rfl, rfl, rfl⟩
    · rintro m f H' ⟨i, rfl, hi, f0, f5, f8, f9, f10, hds, rfl⟩
      by_cases hlt : i < l.length
      · have hrow := treesR_get l i hlt
        have hg := okTs_get ho i hlt
        have hf := flat_kids hlt
        have htk := shortTs_take (b := b) hlt
        obtain ⟨q', e1, e2⟩ := okTs_take i ho
        have z1 := shortTs_size hb e2
        generalize l.getD i default = t at hrow hg hf htk
        have z2 := shortT_size hb hg.1
        have hS := shortest63 hb hg.1 (fun hbt => ih _ (by omega) (D + 1) _ _ t.kids (Nat.le_refl _) (by omega) (okT_built hg.1 hbt) (by have := okT_in hg.1; omega))
        have s1 : astr .add (shortTs b (l.take i)) (shortT b t) = _ := sadd (by omega)
        simp only [treesV, List.length_map, show decide ((i : Int) < (l.length : Int)) = true from decide_eq_true (by omega), ltT hlt, Int.natCast_nonneg, Int.toNat_natCast, hrow, f0, f5, f8, f9, f10, hds, Cd.cd53, Tk.t53, base0, base1, base2, base3, Option.isNone_none, Option.isNone_some, Nat.reduceBEq, true_or, or_true, false_or, or_false, Nat.reduceLT, Nat.reduceMod, Nat.reducePow, rmaps, nsucc, List.flatten_cons, List.flatten_nil, Nat.reduceEqDiff, Nat.reduceLeDiff, Nat.reduceAdd, Nat.reduceMul, Nat.reduceSub, ↓reduceIte, reduceCtorEq, decide_true, decide_false]
        first | refine FCall.go hS (FZs.cons (FZ.v _) (FZs.one (FZ.treeV t))) ?_ | refine FCall.go' hS (FZs.cons (FZ.v _) (FZs.one (FZ.treeV t))) ?_ | refine FCall.goQ hS (FZs.cons (FZ.v _) (FZs.one (FZ.treeV t))) ?_
        simp only [s1, wrapS (show i < 2 ^ 62 by omega), f0, f5, f8, f9, f10, hds, Cd.cd53, Tk.t53, base0, base1, base2, base3, Option.isNone_none, Option.isNone_some, Nat.reduceBEq, true_or, or_true, false_or, or_false, Nat.reduceLT, Nat.reduceMod, Nat.reducePow, rmaps, nsucc, List.flatten_cons, List.flatten_nil, Nat.reduceEqDiff, Nat.reduceLeDiff, Nat.reduceAdd, Nat.reduceMul, Nat.reduceSub, ↓reduceIte, reduceCtorEq, decide_true, decide_false]
        refine ⟨_, by omega, i + 1, rfl, by omega, ?_⟩
        rw [htk]
        (repeat' apply And.intro) <;> first | rfl | (rw [wrapS (by omega)]) | trivial
      · simp only [show decide ((i : Int) < (l.length : Int)) = false from decide_eq_false (by omega), f0, f5, f8, f9, f10, hds, Cd.cd53, Tk.t53, base0, base1, base2, base3, Option.isNone_none, Option.isNone_some, Nat.reduceBEq, true_or, or_true, false_or, or_false, Nat.reduceLT, Nat.reduceMod, Nat.reducePow, rmaps, nsucc, List.flatten_cons, List.flatten_nil, Nat.reduceEqDiff, Nat.reduceLeDiff, Nat.reduceAdd, Nat.reduceMul, Nat.reduceSub, ↓reduceIte, reduceCtorEq, decide_true, decide_false]
        rw [List.take_of_length_le (by omega), hR]
        exact fin_v rfl
end
end Go.Proofs.Ytmjjfdppaomcfaa

/- Walks: the short form by the reference; the law of it. -/
namespace Go.Proofs.Ytmjjfdppaomcfaa
open Go Go.Proofs.Ytmjjfdppaomcfaa.Ab
set_option maxRecDepth 100000
set_option linter.unusedSimpArgs false

/-- the short form of bytes, or the error -/
def shortP (b : ByteArray) : ByteArray × Int := if errOf (readB b) ≠ 0 then (⟨#[]⟩, errOf (readB b)) else (shortTs b (okL (readB b)), 0)
theorem short33 (b : ByteArray) : FCall Try.prog 33 [.v (.string b)] (· = siV (shortP b)) := by
  generalize hR : shortP b = R
  unfold shortP at hR
  refine ACall.enter [] Cd.fn33 (by simp) ?_
  simp only [Cd.cd33, Tk.t33, base0, base1, base2, base3, Option.isNone_none, Option.isNone_some, Nat.reduceBEq, true_or, or_true, false_or, or_false, Nat.reduceLT, Nat.reduceMod, Nat.reducePow, rmaps, nsucc, List.flatten_cons, List.flatten_nil, Nat.reduceEqDiff, Nat.reduceLeDiff, Nat.reduceAdd, Nat.reduceMul, Nat.reduceSub, ↓reduceIte, reduceCtorEq, decide_true, decide_false]
  first | refine FCall.go (read37 b) (FZs.one (FZ.v _)) ?_ | refine FCall.go' (read37 b) (FZs.one (FZ.v _)) ?_ | refine FCall.goQ (read37 b) (FZs.one (FZ.v _)) ?_
  by_cases h1 : errOf (readB b) = 0
  rotate_left
  · rw [if_pos h1] at hR
    subst hR
    simp only [readOut_eq, bneT h1, Cd.cd33, Tk.t33, base0, base1, base2, base3, Option.isNone_none, Option.isNone_some, Nat.reduceBEq, true_or, or_true, false_or, or_false, Nat.reduceLT, Nat.reduceMod, Nat.reducePow, rmaps, nsucc, List.flatten_cons, List.flatten_nil, Nat.reduceEqDiff, Nat.reduceLeDiff, Nat.reduceAdd, Nat.reduceMul, Nat.reduceSub, ↓reduceIte, reduceCtorEq, decide_true, decide_false]
    exact fin_si rfl
  rw [if_neg (fun h => h h1)] at hR
  obtain ⟨l, hl⟩ := errOf_zero h1
  rw [hl] at hR
  simp only [okL] at hR
  have hb := readB_len hl
  simp only [readOut_eq, bneF h1, Cd.cd33, Tk.t33, base0, base1, base2, base3, Option.isNone_none, Option.isNone_some, Nat.reduceBEq, true_or, or_true, false_or, or_false, Nat.reduceLT, Nat.reduceMod, Nat.reducePow, rmaps, nsucc, List.flatten_cons, List.flatten_nil, Nat.reduceEqDiff, Nat.reduceLeDiff, Nat.reduceAdd, Nat.reduceMul, Nat.reduceSub, ↓reduceIte, reduceCtorEq, decide_true, decide_false]
  rw [hl]
  simp only [okL]
  first | refine FCall.go (short53 hb.2 _ 0 _ _ l (Nat.le_refl _) hb.1 (readB_wf hl) (Nat.le_refl _)) (FZs.cons (FZ.v _) (FZs.one (FZ.rowsOf l))) ?_ | refine FCall.go' (short53 hb.2 _ 0 _ _ l (Nat.le_refl _) hb.1 (readB_wf hl) (Nat.le_refl _)) (FZs.cons (FZ.v _) (FZs.one (FZ.rowsOf l))) ?_ | refine FCall.goQ (short53 hb.2 _ 0 _ _ l (Nat.le_refl _) hb.1 (readB_wf hl) (Nat.le_refl _)) (FZs.cons (FZ.v _) (FZs.one (FZ.rowsOf l))) ?_
  simp only [Cd.cd33, Tk.t33, base0, base1, base2, base3, Option.isNone_none, Option.isNone_some, Nat.reduceBEq, true_or, or_true, false_or, or_false, Nat.reduceLT, Nat.reduceMod, Nat.reducePow, rmaps, nsucc, List.flatten_cons, List.flatten_nil, Nat.reduceEqDiff, Nat.reduceLeDiff, Nat.reduceAdd, Nat.reduceMul, Nat.reduceSub, ↓reduceIte, reduceCtorEq, decide_true, decide_false]
  exact fin_si (by rw [← hR]; rfl)
theorem astr_eqD (x y : ByteArray) : astr .eql x y = some (.bool (decide (x = y))) := by
  by_cases h : x = y
  · subst h; rw [astr_eqs]; simp
  · have := astr_ned h
    simp only [astr, Option.some.injEq, Value.bool.injEq] at this ⊢
    rw [decide_eq_false h]
    simpa using this
def isShortP (b : ByteArray) : Bool × Int := (decide ((shortP b).2 = 0) && decide ((shortP b).1 = b), (shortP b).2)
theorem fin_bi {H' : AH} {t : Bool} {e : Int} {w : AV} (hw : w = .tup [.v (.bool t), .v (.int .i64 e)]) : ∃ v v', AOut.ret (.tup [.v (.bool t), .v (.int .i64 e)]) = .ret v ∧ View H' v v' ∧ FZ v' ∧ v' = w := by
  have hz : FZ (.tup [.v (.bool t), .v (.int .i64 e)]) := FZ.tup (FZs.cons (FZ.v _) (FZs.one (FZ.v _)))
  subst hw; exact ⟨_, _, rfl, hz.view, hz, rfl⟩
def biV (x : Bool × Int) : AV := .tup [.v (.bool x.1), .v (.int .i64 x.2)]
theorem isShort34 (b : ByteArray) : FCall Try.prog 34 [.v (.string b)] (· = biV (isShortP b)) := by
  generalize hR : isShortP b = R
  unfold isShortP at hR
  refine ACall.enter [] Cd.fn34 (by simp) ?_
  simp only [Cd.cd34, Tk.t34, base0, base1, base2, base3, Option.isNone_none, Option.isNone_some, Nat.reduceBEq, true_or, or_true, false_or, or_false, Nat.reduceLT, Nat.reduceMod, Nat.reducePow, rmaps, nsucc, List.flatten_cons, List.flatten_nil, Nat.reduceEqDiff, Nat.reduceLeDiff, Nat.reduceAdd, Nat.reduceMul, Nat.reduceSub, ↓reduceIte, reduceCtorEq, decide_true, decide_false]
  first | refine FCall.go (short33 b) (FZs.one (FZ.v _)) ?_ | refine FCall.go' (short33 b) (FZs.one (FZ.v _)) ?_ | refine FCall.goQ (short33 b) (FZs.one (FZ.v _)) ?_
  generalize shortP b = x at hR
  by_cases h : x.2 = 0
  · simp only [siV, beqT h, astr_eqD, Cd.cd34, Tk.t34, base0, base1, base2, base3, Option.isNone_none, Option.isNone_some, Nat.reduceBEq, true_or, or_true, false_or, or_false, Nat.reduceLT, Nat.reduceMod, Nat.reducePow, rmaps, nsucc, List.flatten_cons, List.flatten_nil, Nat.reduceEqDiff, Nat.reduceLeDiff, Nat.reduceAdd, Nat.reduceMul, Nat.reduceSub, ↓reduceIte, reduceCtorEq, decide_true, decide_false]
    exact fin_bi (by rw [← hR]; simp [biV, h])
  · simp only [siV, beqF h, Cd.cd34, Tk.t34, base0, base1, base2, base3, Option.isNone_none, Option.isNone_some, Nat.reduceBEq, true_or, or_true, false_or, or_false, Nat.reduceLT, Nat.reduceMod, Nat.reducePow, rmaps, nsucc, List.flatten_cons, List.flatten_nil, Nat.reduceEqDiff, Nat.reduceLeDiff, Nat.reduceAdd, Nat.reduceMul, Nat.reduceSub, ↓reduceIte, reduceCtorEq, decide_true, decide_false]
    exact fin_bi (by rw [← hR]; simp [biV, h])

section
variable {b : ByteArray} {l0 : List Tree} (hb : b.size ≤ 4000) (hwf : okTs b 0 0 b.size l0) (hlen : (flatTs l0).length ≤ 300)
theorem flatT_get {l : List Tree} {i : Nat} (h : i < l.length) : (flatT (l.getD i default)).length ≤ (flatTs l).length := by
  have h1 := flatTs_take h
  have h2 := flatTs_take_le l (i + 1)
  rw [h1, List.length_append] at h2; omega
include hb hlen in
set_option maxHeartbeats 2000000 in
theorem short54 (n : Nat) : ∀ (k D : Nat) (t : Tree), (flatT t).length ≤ n → AtT b (subTs l0) k D t → FCall Try.prog 54 [walkV b (flatTs l0), iv k] (· = .v (.string (shortT b t))) := by
  induction n using Nat.strongRecOn with
  | _ n ih =>
    intro k D t hn hA
    have ho := hA.ok
    have hsl : (subTs l0).length ≤ 300 := by have := congrArg List.length (subTs_map l0); simp only [List.length_map] at this; omega
    have hsz := shortT_size hb ho
    obtain ⟨o1, o2, o3, o4, o5⟩ := okT_in ho
    have hid := ident_ok (okT_ident ho)
    obtain ⟨n1, n2⟩ := hA.node
    have hrn := getDmap nodeL (flatTs l0) k n1
    rw [n2] at hrn
    have hI := identifier21 t.h.cls t.h.num t.h.built (by omega) (by omega)
    have hst : shortT b t = identB t.h.cls t.h.num t.h.built ++ lengthB (if t.h.built then shortTs b t.kids else b.extract t.h.body t.h.stop).size 1 ++ (if t.h.built then shortTs b t.kids else b.extract t.h.body t.h.stop) := by cases t; rfl
    generalize hR : shortT b t = R at hsz
    rw [hst] at hR
    have hzw := FZ.walkV b (flatTs l0)
    have hkk := kidsAt hb hlen hA
    simp only [tagV, iv, walkV, wL, nodesV] at hI hzw hkk
    cases hbt : t.h.built with
    | false =>
      rw [hbt] at hR hI
      simp only [Bool.false_eq_true, if_false] at hR
      have zc := ext_le hb t.h.body t.h.stop
      have hL := length23 (b.extract t.h.body t.h.stop).size (by omega)
      simp only [iv] at hL
      generalize hcc : b.extract t.h.body t.h.stop = c at zc hR hL
      have z1 := congrArg ByteArray.size hR
      simp only [ByteArray.size_append] at z1
      have s1 : astr .add (identB t.h.cls t.h.num false) (lengthB c.size 1) = _ := sadd (by omega)
      have s2 : astr .add (identB t.h.cls t.h.num false ++ lengthB c.size 1) c = _ := sadd (by rw [ByteArray.size_append]; omega)
      refine ACall.enter [] Cd.fn54 (by simp) ?_
      simp only [walkV, wL, nodesV, iv, List.length_map, ltT n1, Int.natCast_nonneg, Int.toNat_natCast, hrn, nodeL, hbt, leT (show t.h.stop ≤ b.size by omega), leT o3, hcc, Cd.cd54, Tk.t54, base0, base1, base2, base3, Option.isNone_none, Option.isNone_some, Nat.reduceBEq, true_or, or_true, false_or, or_false, Nat.reduceLT, Nat.reduceMod, Nat.reducePow, rmaps, nsucc, List.flatten_cons, List.flatten_nil, Nat.reduceEqDiff, Nat.reduceLeDiff, Nat.reduceAdd, Nat.reduceMul, Nat.reduceSub, ↓reduceIte, reduceCtorEq, decide_true, decide_false]
      first | refine FCall.go hI (FZs.cons (FZ.tag _ _) (FZs.one (FZ.v _))) ?_ | refine FCall.go' hI (FZs.cons (FZ.tag _ _) (FZs.one (FZ.v _))) ?_ | refine FCall.goQ hI (FZs.cons (FZ.tag _ _) (FZs.one (FZ.v _))) ?_
      simp only [Cd.cd54, Tk.t54, base0, base1, base2, base3, Option.isNone_none, Option.isNone_some, Nat.reduceBEq, true_or, or_true, false_or, or_false, Nat.reduceLT, Nat.reduceMod, Nat.reducePow, rmaps, nsucc, List.flatten_cons, List.flatten_nil, Nat.reduceEqDiff, Nat.reduceLeDiff, Nat.reduceAdd, Nat.reduceMul, Nat.reduceSub, ↓reduceIte, reduceCtorEq, decide_true, decide_false]
      first | refine FCall.go hL (FZs.one (FZ.v _)) ?_ | refine FCall.go' hL (FZs.one (FZ.v _)) ?_ | refine FCall.goQ hL (FZs.one (FZ.v _)) ?_
      simp only [s1, s2, Cd.cd54, Tk.t54, base0, base1, base2, base3, Option.isNone_none, Option.isNone_some, Nat.reduceBEq, true_or, or_true, false_or, or_false, Nat.reduceLT, Nat.reduceMod, Nat.reducePow, rmaps, nsucc, List.flatten_cons, List.flatten_nil, Nat.reduceEqDiff, Nat.reduceLeDiff, Nat.reduceAdd, Nat.reduceMul, Nat.reduceSub, ↓reduceIte, reduceCtorEq, decide_true, decide_false]
      exact fin_v (by rw [← hR])
    | true =>
      rw [hbt] at hR hI
      simp only [if_true] at hR
      have hAL := hA.kids hbt
      have hoks := okT_built ho hbt
      have zk := shortTs_size hb hoks
      have hle := kidIx_le hAL hsl
      have hL := length23 (shortTs b t.kids).size (by omega)
      simp only [iv] at hL
      have z1 := congrArg ByteArray.size hR
      simp only [ByteArray.size_append] at z1
      have s1 : astr .add (identB t.h.cls t.h.num true) (lengthB (shortTs b t.kids).size 1) = _ := sadd (by omega)
      have s2 : astr .add (identB t.h.cls t.h.num true ++ lengthB (shortTs b t.kids).size 1) (shortTs b t.kids) = _ := sadd (by rw [ByteArray.size_append]; omega)
      have hfk : (flatTs t.kids).length < (flatT t).length := by obtain ⟨h, k⟩ := t; simp [flatT, Tree.kids_mk]
      refine ACall.enter [] Cd.fn54 (by simp) ?_
      simp only [walkV, wL, nodesV, iv, List.length_map, ltT n1, Int.natCast_nonneg, Int.toNat_natCast, hrn, nodeL, hbt, leT (show t.h.stop ≤ b.size by omega), leT o3, Cd.cd54, Tk.t54, base0, base1, base2, base3, Option.isNone_none, Option.isNone_some, Nat.reduceBEq, true_or, or_true, false_or, or_false, Nat.reduceLT, Nat.reduceMod, Nat.reducePow, rmaps, nsucc, List.flatten_cons, List.flatten_nil, Nat.reduceEqDiff, Nat.reduceLeDiff, Nat.reduceAdd, Nat.reduceMul, Nat.reduceSub, ↓reduceIte, reduceCtorEq, decide_true, decide_false]
      first | refine FCall.go hkk (FZs.cons hzw (FZs.one (FZ.v _))) ?_ | refine FCall.go' hkk (FZs.cons hzw (FZs.one (FZ.v _))) ?_ | refine FCall.goQ hkk (FZs.cons hzw (FZs.one (FZ.v _))) ?_
      simp only [Cd.cd54, Tk.t54, base0, base1, base2, base3, Option.isNone_none, Option.isNone_some, Nat.reduceBEq, true_or, or_true, false_or, or_false, Nat.reduceLT, Nat.reduceMod, Nat.reducePow, rmaps, nsucc, List.flatten_cons, List.flatten_nil, Nat.reduceEqDiff, Nat.reduceLeDiff, Nat.reduceAdd, Nat.reduceMul, Nat.reduceSub, ↓reduceIte, reduceCtorEq, decide_true, decide_false]
      obtain ⟨n5, hn5⟩ : ∃ n5, n5 = AH.none.next := ⟨_, rfl⟩
      refine LWP.loop [] (fun m f H' => ∃ i, m = t.kids.length - i ∧ (i ≤ t.kids.length) ∧ f.t 0 = walkV b (flatTs l0) ∧ f.t 5 = .ptr n5 0 ∧ f.t 6 = .v (.string (shortTs b (t.kids.take i))) ∧ f.t 7 = natsV (kidIx (k + 1) t.kids) ∧ f.t 8 = iv i ∧ f.ds = [] ∧ H'.own n5 = some (.cells (nodeL t.h))) ?_ ?_ (m := t.kids.length - (0))
      · exact ⟨0, rfl, (by omega), rfl, by rw [hn5]; rfl, rfl, rfl, rfl, rfl, by simp [hn5, nodeL, hbt]⟩
      · rintro m f H' ⟨i, rfl, hi, f0, f5, f6, f7, f8, hds, hown⟩
        by_cases hlt : i < t.kids.length
        · have hg := hAL.get i hlt
          have hrow := kidRow (k + 1) t.kids i hlt
          have hf := flatT_get hlt
          have htk := shortTs_take (b := b) hlt
          obtain ⟨q', e1, e2⟩ := okTs_take i hoks
          have z3 := shortTs_size hb e2
          generalize (kidIx (k + 1) t.kids).getD i 0 = kn at hg hrow
          generalize t.kids.getD i default = x at hg hf htk
          have z2 := shortT_size hb hg.ok
          have := okT_in hg.ok
          have hS := ih (flatT x).length (by omega) kn (D + 1) x (Nat.le_refl _) hg
          simp only [walkV, wL, nodesV, iv] at hS
          have s3 : astr .add (shortTs b (t.kids.take i)) (shortT b x) = _ := sadd (by omega)
          simp only [walkV, wL, nodesV, natsV, iv, List.length_map, kidIx_length, show decide ((i : Int) < (t.kids.length : Int)) = true from decide_eq_true (by omega), ltT hlt, Int.natCast_nonneg, Int.toNat_natCast, hrow, f0, f5, f6, f7, f8, hds, Cd.cd54, Tk.t54, base0, base1, base2, base3, Option.isNone_none, Option.isNone_some, Nat.reduceBEq, true_or, or_true, false_or, or_false, Nat.reduceLT, Nat.reduceMod, Nat.reducePow, rmaps, nsucc, List.flatten_cons, List.flatten_nil, Nat.reduceEqDiff, Nat.reduceLeDiff, Nat.reduceAdd, Nat.reduceMul, Nat.reduceSub, ↓reduceIte, reduceCtorEq, decide_true, decide_false]
          first | refine FCall.go hS (FZs.cons hzw (FZs.one (FZ.v _))) ?_ | refine FCall.go' hS (FZs.cons hzw (FZs.one (FZ.v _))) ?_ | refine FCall.goQ hS (FZs.cons hzw (FZs.one (FZ.v _))) ?_
          simp only [iv, s3, wrapS (show i < 2 ^ 62 by omega), f0, f5, f6, f7, f8, hds, Cd.cd54, Tk.t54, base0, base1, base2, base3, Option.isNone_none, Option.isNone_some, Nat.reduceBEq, true_or, or_true, false_or, or_false, Nat.reduceLT, Nat.reduceMod, Nat.reducePow, rmaps, nsucc, List.flatten_cons, List.flatten_nil, Nat.reduceEqDiff, Nat.reduceLeDiff, Nat.reduceAdd, Nat.reduceMul, Nat.reduceSub, ↓reduceIte, reduceCtorEq, decide_true, decide_false]
          refine ⟨_, by omega, i + 1, rfl, by omega, ?_⟩
          rw [htk]
          (repeat' apply And.intro) <;> first | rfl | exact hown | trivial
        · rw [List.take_of_length_le (show t.kids.length ≤ i by omega)] at f6
          simp only [natsV, iv, List.length_map, kidIx_length, show decide ((i : Int) < (t.kids.length : Int)) = false from decide_eq_false (by omega), hown, nodeL, hbt, f0, f5, f6, f7, f8, hds, Cd.cd54, Tk.t54, base0, base1, base2, base3, Option.isNone_none, Option.isNone_some, Nat.reduceBEq, true_or, or_true, false_or, or_false, Nat.reduceLT, Nat.reduceMod, Nat.reducePow, rmaps, nsucc, List.flatten_cons, List.flatten_nil, Nat.reduceEqDiff, Nat.reduceLeDiff, Nat.reduceAdd, Nat.reduceMul, Nat.reduceSub, ↓reduceIte, reduceCtorEq, decide_true, decide_false]
          first | refine FCall.go hI (FZs.cons (FZ.tag _ _) (FZs.one (FZ.v _))) ?_ | refine FCall.go' hI (FZs.cons (FZ.tag _ _) (FZs.one (FZ.v _))) ?_ | refine FCall.goQ hI (FZs.cons (FZ.tag _ _) (FZs.one (FZ.v _))) ?_
          simp only [f0, f5, f6, f7, f8, hds, Cd.cd54, Tk.t54, base0, base1, base2, base3, Option.isNone_none, Option.isNone_some, Nat.reduceBEq, true_or, or_true, false_or, or_false, Nat.reduceLT, Nat.reduceMod, Nat.reducePow, rmaps, nsucc, List.flatten_cons, List.flatten_nil, Nat.reduceEqDiff, Nat.reduceLeDiff, Nat.reduceAdd, Nat.reduceMul, Nat.reduceSub, ↓reduceIte, reduceCtorEq, decide_true, decide_false]
          first | refine FCall.go hL (FZs.one (FZ.v _)) ?_ | refine FCall.go' hL (FZs.one (FZ.v _)) ?_ | refine FCall.goQ hL (FZs.one (FZ.v _)) ?_
          simp only [s1, s2, f0, f5, f6, f7, f8, hds, Cd.cd54, Tk.t54, base0, base1, base2, base3, Option.isNone_none, Option.isNone_some, Nat.reduceBEq, true_or, or_true, false_or, or_false, Nat.reduceLT, Nat.reduceMod, Nat.reducePow, rmaps, nsucc, List.flatten_cons, List.flatten_nil, Nat.reduceEqDiff, Nat.reduceLeDiff, Nat.reduceAdd, Nat.reduceMul, Nat.reduceSub, ↓reduceIte, reduceCtorEq, decide_true, decide_false]
          exact fin_v (by rw [← hR])
include hb hwf hlen in
set_option maxHeartbeats 2000000 in
theorem short35 : FCall Try.prog 35 [walkV b (flatTs l0)] (· = .v (.string (shortTs b l0))) := by
  have hsl : (subTs l0).length ≤ 300 := by have := congrArg List.length (subTs_map l0); simp only [List.length_map] at this; omega
  have hzw := FZ.walkV b (flatTs l0)
  have hAL := AtL.all hwf
  have hle := kidIx_le hAL hsl
  have hz := shortTs_size hb hwf
  generalize hR : shortTs b l0 = R at hz
  refine ACall.enter [] Cd.fn35 (by simp) ?_
  simp only [Cd.cd35, Tk.t35, base0, base1, base2, base3, Option.isNone_none, Option.isNone_some, Nat.reduceBEq, true_or, or_true, false_or, or_false, Nat.reduceLT, Nat.reduceMod, Nat.reducePow, rmaps, nsucc, List.flatten_cons, List.flatten_nil, Nat.reduceEqDiff, Nat.reduceLeDiff, Nat.reduceAdd, Nat.reduceMul, Nat.reduceSub, ↓reduceIte, reduceCtorEq, decide_true, decide_false]
  first | refine FCall.go (kidsTop hb hwf hlen) (FZs.cons hzw (FZs.one (FZ.v _))) ?_ | refine FCall.go' (kidsTop hb hwf hlen) (FZs.cons hzw (FZs.one (FZ.v _))) ?_ | refine FCall.goQ (kidsTop hb hwf hlen) (FZs.cons hzw (FZs.one (FZ.v _))) ?_
  simp only [Cd.cd35, Tk.t35, base0, base1, base2, base3, Option.isNone_none, Option.isNone_some, Nat.reduceBEq, true_or, or_true, false_or, or_false, Nat.reduceLT, Nat.reduceMod, Nat.reducePow, rmaps, nsucc, List.flatten_cons, List.flatten_nil, Nat.reduceEqDiff, Nat.reduceLeDiff, Nat.reduceAdd, Nat.reduceMul, Nat.reduceSub, ↓reduceIte, reduceCtorEq, decide_true, decide_false]
  refine LWP.loop [] (fun m f H' => ∃ i, m = l0.length - i ∧ (i ≤ l0.length) ∧ f.t 0 = walkV b (flatTs l0) ∧ f.t 3 = .v (.string (shortTs b (l0.take i))) ∧ f.t 4 = natsV (kidIx 0 l0) ∧ f.t 5 = iv i ∧ f.ds = [] ∧ H' = AH.none) ?_ ?_ (m := l0.length - (0))
  · exact ⟨0, rfl, (by omega), rfl, rfl, rfl, rfl, rfl, rfl⟩
  · rintro m f H' ⟨i, rfl, hi, f0, f3, f4, f5, hds, rfl⟩
    by_cases hlt : i < l0.length
    · have hg := hAL.get i hlt
      have hrow := kidRow 0 l0 i hlt
      have htk := shortTs_take (b := b) hlt
      obtain ⟨q', e1, e2⟩ := okTs_take i hwf
      have z3 := shortTs_size hb e2
      generalize (kidIx 0 l0).getD i 0 = kn at hg hrow
      generalize l0.getD i default = x at hg htk
      have z2 := shortT_size hb hg.ok
      have := okT_in hg.ok
      have hS := short54 hb hlen (flatT x).length kn 0 x (Nat.le_refl _) hg
      have s3 : astr .add (shortTs b (l0.take i)) (shortT b x) = _ := sadd (by omega)
      simp only [iv] at hS
      simp only [natsV, iv, List.length_map, kidIx_length, show decide ((i : Int) < (l0.length : Int)) = true from decide_eq_true (by omega), ltT hlt, Int.natCast_nonneg, Int.toNat_natCast, hrow, f0, f3, f4, f5, hds, Cd.cd35, Tk.t35, base0, base1, base2, base3, Option.isNone_none, Option.isNone_some, Nat.reduceBEq, true_or, or_true, false_or, or_false, Nat.reduceLT, Nat.reduceMod, Nat.reducePow, rmaps, nsucc, List.flatten_cons, List.flatten_nil, Nat.reduceEqDiff, Nat.reduceLeDiff, Nat.reduceAdd, Nat.reduceMul, Nat.reduceSub, ↓reduceIte, reduceCtorEq, decide_true, decide_false]
      first | refine FCall.go hS (FZs.cons hzw (FZs.one (FZ.v _))) ?_ | refine FCall.go' hS (FZs.cons hzw (FZs.one (FZ.v _))) ?_ | refine FCall.goQ hS (FZs.cons hzw (FZs.one (FZ.v _))) ?_
      simp only [iv, s3, wrapS (show i < 2 ^ 62 by omega), f0, f3, f4, f5, hds, Cd.cd35, Tk.t35, base0, base1, base2, base3, Option.isNone_none, Option.isNone_some, Nat.reduceBEq, true_or, or_true, false_or, or_false, Nat.reduceLT, Nat.reduceMod, Nat.reducePow, rmaps, nsucc, List.flatten_cons, List.flatten_nil, Nat.reduceEqDiff, Nat.reduceLeDiff, Nat.reduceAdd, Nat.reduceMul, Nat.reduceSub, ↓reduceIte, reduceCtorEq, decide_true, decide_false]
      refine ⟨_, by omega, i + 1, rfl, by omega, ?_⟩
      rw [htk]
      (repeat' apply And.intro) <;> first | rfl | trivial
    · simp only [natsV, iv, List.length_map, kidIx_length, show decide ((i : Int) < (l0.length : Int)) = false from decide_eq_false (by omega), f0, f3, f4, f5, hds, Cd.cd35, Tk.t35, base0, base1, base2, base3, Option.isNone_none, Option.isNone_some, Nat.reduceBEq, true_or, or_true, false_or, or_false, Nat.reduceLT, Nat.reduceMod, Nat.reducePow, rmaps, nsucc, List.flatten_cons, List.flatten_nil, Nat.reduceEqDiff, Nat.reduceLeDiff, Nat.reduceAdd, Nat.reduceMul, Nat.reduceSub, ↓reduceIte, reduceCtorEq, decide_true, decide_false]
      rw [List.take_of_length_le (by omega), hR]
      exact fin_v rfl
end
end Go.Proofs.Ytmjjfdppaomcfaa

/- Walks: the law of the short form. -/
namespace Go.Proofs.Ytmjjfdppaomcfaa
open Go Go.Proofs.Ytmjjfdppaomcfaa.Ab
set_option maxRecDepth 100000
set_option linter.unusedSimpArgs false

set_option maxHeartbeats 2000000 in
theorem law9 (b : ByteArray) : FCall Try.prog 9 [.v (.string b)] (· = .v (.bool true)) := by
  refine ACall.enter [] Cd.fn9 (by simp) ?_
  simp only [Cd.cd9, Tk.t9, base0, base1, base2, base3, Option.isNone_none, Option.isNone_some, Nat.reduceBEq, true_or, or_true, false_or, or_false, Nat.reduceLT, Nat.reduceMod, Nat.reducePow, rmaps, nsucc, List.flatten_cons, List.flatten_nil, Nat.reduceEqDiff, Nat.reduceLeDiff, Nat.reduceAdd, Nat.reduceMul, Nat.reduceSub, ↓reduceIte, reduceCtorEq, decide_true, decide_false]
  first | refine FCall.go (awake11) (FZs.nil) ?_ | refine FCall.go' (awake11) (FZs.nil) ?_ | refine FCall.goQ (awake11) (FZs.nil) ?_
  simp only [Cd.cd9, Tk.t9, base0, base1, base2, base3, Option.isNone_none, Option.isNone_some, Nat.reduceBEq, true_or, or_true, false_or, or_false, Nat.reduceLT, Nat.reduceMod, Nat.reducePow, rmaps, nsucc, List.flatten_cons, List.flatten_nil, Nat.reduceEqDiff, Nat.reduceLeDiff, Nat.reduceAdd, Nat.reduceMul, Nat.reduceSub, ↓reduceIte, reduceCtorEq, decide_true, decide_false]
  first | refine FCall.go (small12 b) (FZs.one (FZ.v _)) ?_ | refine FCall.go' (small12 b) (FZs.one (FZ.v _)) ?_ | refine FCall.goQ (small12 b) (FZs.one (FZ.v _)) ?_
  cases hs : smallB b
  · simp only [Cd.cd9, Tk.t9, base0, base1, base2, base3, Option.isNone_none, Option.isNone_some, Nat.reduceBEq, true_or, or_true, false_or, or_false, Nat.reduceLT, Nat.reduceMod, Nat.reducePow, rmaps, nsucc, List.flatten_cons, List.flatten_nil, Nat.reduceEqDiff, Nat.reduceLeDiff, Nat.reduceAdd, Nat.reduceMul, Nat.reduceSub, ↓reduceIte, reduceCtorEq, decide_true, decide_false]
    exact fin_v rfl
  simp only [Cd.cd9, Tk.t9, base0, base1, base2, base3, Option.isNone_none, Option.isNone_some, Nat.reduceBEq, true_or, or_true, false_or, or_false, Nat.reduceLT, Nat.reduceMod, Nat.reducePow, rmaps, nsucc, List.flatten_cons, List.flatten_nil, Nat.reduceEqDiff, Nat.reduceLeDiff, Nat.reduceAdd, Nat.reduceMul, Nat.reduceSub, ↓reduceIte, reduceCtorEq, decide_true, decide_false]
  first | refine FCall.go (short33 b) (FZs.one (FZ.v _)) ?_ | refine FCall.go' (short33 b) (FZs.one (FZ.v _)) ?_ | refine FCall.goQ (short33 b) (FZs.one (FZ.v _)) ?_
  simp only [siV, Cd.cd9, Tk.t9, base0, base1, base2, base3, Option.isNone_none, Option.isNone_some, Nat.reduceBEq, true_or, or_true, false_or, or_false, Nat.reduceLT, Nat.reduceMod, Nat.reducePow, rmaps, nsucc, List.flatten_cons, List.flatten_nil, Nat.reduceEqDiff, Nat.reduceLeDiff, Nat.reduceAdd, Nat.reduceMul, Nat.reduceSub, ↓reduceIte, reduceCtorEq, decide_true, decide_false]
  first | refine FCall.go (isShort34 b) (FZs.one (FZ.v _)) ?_ | refine FCall.go' (isShort34 b) (FZs.one (FZ.v _)) ?_ | refine FCall.goQ (isShort34 b) (FZs.one (FZ.v _)) ?_
  simp only [biV, Cd.cd9, Tk.t9, base0, base1, base2, base3, Option.isNone_none, Option.isNone_some, Nat.reduceBEq, true_or, or_true, false_or, or_false, Nat.reduceLT, Nat.reduceMod, Nat.reducePow, rmaps, nsucc, List.flatten_cons, List.flatten_nil, Nat.reduceEqDiff, Nat.reduceLeDiff, Nat.reduceAdd, Nat.reduceMul, Nat.reduceSub, ↓reduceIte, reduceCtorEq, decide_true, decide_false]
  first | refine FCall.go (read14 b) (FZs.one (FZ.v _)) ?_ | refine FCall.go' (read14 b) (FZs.one (FZ.v _)) ?_ | refine FCall.goQ (read14 b) (FZs.one (FZ.v _)) ?_
  by_cases h1 : errOf (readB b) = 0
  rotate_left
  · have hp : shortP b = (⟨#[]⟩, errOf (readB b)) := if_pos h1
    have hq : isShortP b = (false, errOf (readB b)) := by unfold isShortP; rw [hp]; simp [h1]
    rw [hp, hq]
    simp only [refOut_eq, wL, bneT h1, beq_self_eq_true, astr_eqs, Cd.cd9, Tk.t9, base0, base1, base2, base3, Option.isNone_none, Option.isNone_some, Nat.reduceBEq, true_or, or_true, false_or, or_false, Nat.reduceLT, Nat.reduceMod, Nat.reducePow, rmaps, nsucc, List.flatten_cons, List.flatten_nil, Nat.reduceEqDiff, Nat.reduceLeDiff, Nat.reduceAdd, Nat.reduceMul, Nat.reduceSub, ↓reduceIte, reduceCtorEq, decide_true, decide_false]
    exact fin_v rfl
  obtain ⟨l, hl⟩ := errOf_zero h1
  have hb := readB_len hl
  have hwf := readB_wf hl
  have hp : shortP b = (shortTs b l, 0) := by unfold shortP; rw [if_neg (fun h => h h1), hl]; rfl
  have hq : isShortP b = (decide (shortTs b l = b), 0) := by unfold isShortP; rw [hp]; simp
  have hS := short35 hb.2 hwf hb.1
  have hzw := FZ.walkV b (flatTs l)
  rw [refOut_ok h1, hp, hq, hl]
  simp only [walkV, wL, okL] at hS hzw ⊢
  simp only [show ((0 : Int) == 0) = true from rfl, show ((0 : Int) != 0) = false from rfl, Cd.cd9, Tk.t9, base0, base1, base2, base3, Option.isNone_none, Option.isNone_some, Nat.reduceBEq, true_or, or_true, false_or, or_false, Nat.reduceLT, Nat.reduceMod, Nat.reducePow, rmaps, nsucc, List.flatten_cons, List.flatten_nil, Nat.reduceEqDiff, Nat.reduceLeDiff, Nat.reduceAdd, Nat.reduceMul, Nat.reduceSub, ↓reduceIte, reduceCtorEq, decide_true, decide_false]
  first | refine FCall.go hS (FZs.one hzw) ?_ | refine FCall.go' hS (FZs.one hzw) ?_ | refine FCall.goQ hS (FZs.one hzw) ?_
  simp only [show ((0 : Int) == 0) = true from rfl, astr_eqD, Cd.cd9, Tk.t9, base0, base1, base2, base3, Option.isNone_none, Option.isNone_some, Nat.reduceBEq, true_or, or_true, false_or, or_false, Nat.reduceLT, Nat.reduceMod, Nat.reducePow, rmaps, nsucc, List.flatten_cons, List.flatten_nil, Nat.reduceEqDiff, Nat.reduceLeDiff, Nat.reduceAdd, Nat.reduceMul, Nat.reduceSub, ↓reduceIte, reduceCtorEq, decide_true, decide_false]
  exact fin_v (by simp)
end Go.Proofs.Ytmjjfdppaomcfaa

/- The law holds: for every input it returns true, and each argument reads behind the call as it read before. No condition. -/
namespace Go.Proofs.Ytmjjfdppaomcfaa
open Go Go.Proofs.Ytmjjfdppaomcfaa.Ab Go.ChangeShapes Go.WideShapes Go.ChangeAt Go.RowKit
set_option maxRecDepth 100000

set_option maxHeartbeats 800000 in
theorem lift9 (os : Os) (started : os.Started) (H : Type) (enc : TypeId × Value → H) :
    ReturnsInHanded {} Try.checked os 9 .any (Rows.walkShortSpec.pre6 enc Try.prog Try.f9 Rows.walkShortRow.domain false) (Rows.walkShortSpec.post enc Try.prog Try.f9 false true false false) := by
  refine returnsInHanded_of_change (C := Try.checked) own started (by kernel_rfl) Try.func9
    (ChangeSpec.witness6 (enc := enc) (C := Try.checked) false ⟨#[], #[.string ⟨#[]⟩], []⟩ 8 (by kernel_rfl) (by kernel_rfl) (by kernel_rfl) (by kernel_rfl)) ?_
  intro W base args ds gs before hval0 hW _ _
  have hval : ∀ (j : Nat) t v, Try.f9.params[j]? = some t → args[j]? = some v → Value.okWide Try.prog W .any base t v := hval0
  have hW' := hW
  obtain ⟨p, q, hA0, hV, rfl, _, _⟩ := hW
  have hA : DataW.TrodAll enc Try.prog W 0 (fun _ => true) true Try.f9.params.toList args.toList ds p := hA0
  rw [Try.params9] at hA hval
  obtain ⟨v0, d0, rfl, rfl, h0⟩ := trodAll_one hA
  obtain ⟨rfl, rfl⟩ := trodVars_none hV
  obtain ⟨s0, rfl⟩ := okWide_string Try.underlying9 (hval 0 9 v0 rfl rfl)
  obtain ⟨x0, -, hx0⟩ := arg_one rdS h0 rfl
  clear hA0 hval0
  simp only [List.append_nil] at hW'
  have hlt : ∀ x ∈ p, x.block < W.heap.size := fun x hx => by simpa using hW'.lt x hx
  refine ((law9 x0).true (xs := #[.string s0]) (W := W) ⟨rfl, fun j hj => ?_⟩).mono fun e W' ⟨he, hb⟩ => ?_
  · match j, hj with
    | 0, _ => exact hx0
  subst he
  have harg0 : DataW.Trod enc Try.prog W' 0 (fun b => decide (b < W.heap.size)) true 9 (.string s0) d0 p :=
    Below.trod laidOut (by kernel_rfl) (of_decide_eq_true (by kernel_rfl)) h0 hb (fun x hx => hlt x hx)
  refine ⟨_, rfl, _, _, _, [], _, [], hW', ?_, trodAll_mk1 harg0, rfl, hb.frame _, fun h => by cases h⟩
  exact trodAll_mk1 (shut_bool Try.underlying4 _)

theorem walkShort : Rows.WalkShortSaid :=
  OpenClaim.holds_of_wide 9 Try.f9 rfl rfl rfl rfl rfl rfl rfl ⟨rfl, rfl, rfl, rfl, rfl⟩ rfl rfl rfl rfl rfl (by kernel_rfl) Try.func9 (by kernel_rfl)
    (of_decide_eq_true (by kernel_rfl)) (by unfold Func.isWrapper; first | (rw [if_pos (by decide +kernel)]; kernel_rfl) | (rw [if_neg (by decide +kernel)]; exact ⟨rfl, rfl⟩))
    (fun os started H enc _ => lift9 os started H enc)
end Go.Proofs.Ytmjjfdppaomcfaa

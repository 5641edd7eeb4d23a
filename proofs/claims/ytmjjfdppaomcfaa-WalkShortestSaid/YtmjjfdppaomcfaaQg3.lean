/- Part 3 of a proof: walkShortest holds for every input; no condition. -/
import Derived.Test.YtmjjfdppaomcfaaProg
import Derived.KernelRfl
import Derived.Test.YtmjjfdppaomcfaaRows
import Derived.ProofKit
import Derived.Test.YtmjjfdppaomcfaaAb0
import Derived.Test.YtmjjfdppaomcfaaAb1
import Derived.Test.YtmjjfdppaomcfaaAb2
import Derived.Test.YtmjjfdppaomcfaaAb3
import Derived.Test.YtmjjfdppaomcfaaAb4
import Derived.Test.YtmjjfdppaomcfaaAb5
import Derived.Test.YtmjjfdppaomcfaaAb6
import Derived.Test.YtmjjfdppaomcfaaAb7
import Derived.Test.YtmjjfdppaomcfaaAb8
import Derived.Test.YtmjjfdppaomcfaaAb8a
import Derived.Test.YtmjjfdppaomcfaaAb8b
import Derived.Test.YtmjjfdppaomcfaaAb8c
import Derived.Test.YtmjjfdppaomcfaaAb8d
import Derived.Test.YtmjjfdppaomcfaaAb9
import Derived.Test.YtmjjfdppaomcfaaAb10
import Derived.Test.YtmjjfdppaomcfaaAb11
import Derived.Test.YtmjjfdppaomcfaaAb12
import Derived.Test.YtmjjfdppaomcfaaAb13
import Derived.Test.YtmjjfdppaomcfaaAb14
import Derived.Test.YtmjjfdppaomcfaaAb15
import Derived.Test.YtmjjfdppaomcfaaAb16
import Derived.Test.YtmjjfdppaomcfaaAb17
import Derived.Test.YtmjjfdppaomcfaaAb18
import Derived.Test.YtmjjfdppaomcfaaAb19
import Derived.Test.YtmjjfdppaomcfaaAb20
import Derived.Test.YtmjjfdppaomcfaaAb21
import Derived.Test.YtmjjfdppaomcfaaAb22
import Derived.Test.YtmjjfdppaomcfaaAb23
import Derived.Test.YtmjjfdppaomcfaaAb24
import Derived.Test.YtmjjfdppaomcfaaAb25
import Derived.Test.YtmjjfdppaomcfaaAb26
import Derived.Test.YtmjjfdppaomcfaaBw
import Derived.Test.YtmjjfdppaomcfaaQg2
set_option linter.unusedSimpArgs false
set_option linter.unusedVariables false
set_option linter.defProp false
/- Walks: the short form by the reference; the law of it. -/
namespace Go.Proofs.Ytmjjfdppaomcfaa
open Go Go.Proofs.Ytmjjfdppaomcfaa.Ab
set_option maxRecDepth 100000
set_option linter.unusedSimpArgs false

/-- the short form of bytes, or the error -/
def shortP (b : ByteArray) : ByteArray × Int := if errOf (readB b) ≠ 0 then (⟨#[]⟩, errOf (readB b)) else (shortTs b (okL (readB b)), 0)
theorem short33 (b : ByteArray) : FCall Try.prog 33 [.v (.string b)] (· = siV (shortP b)) := by
  generalize hR : shortP b = R
  unfold shortP at hR
  refine ACall.enter [] Cd.fn33 (by simp) ?_
  simp only [Cd.cd33, Tk.t33, base0, base1, base2, base3, Option.isNone_none, Option.isNone_some, Nat.reduceBEq, true_or, or_true, false_or, or_false, Nat.reduceLT, Nat.reduceMod, Nat.reducePow, rmaps, nsucc, List.flatten_cons, List.flatten_nil, Nat.reduceEqDiff, Nat.reduceLeDiff, Nat.reduceAdd, Nat.reduceMul, Nat.reduceSub, ↓reduceIte, reduceCtorEq, decide_true, decide_false]
  first | refine FCall.go (read37 b) (FZs.one (FZ.v _)) ?_ | refine FCall.go' (read37 b) (FZs.one (FZ.v _)) ?_ | refine FCall.goQ (read37 b) (FZs.one (FZ.v _)) ?_
  by_cases h1 : errOf (readB b) = 0
  rotate_left
  · rw [if_pos h1] at hR
    subst hR
    simp only [readOut_eq, bneT h1, Cd.cd33, Tk.t33, base0, base1, base2, base3, Option.isNone_none, Option.isNone_some, Nat.reduceBEq, true_or, or_true, false_or, or_false, Nat.reduceLT, Nat.reduceMod, Nat.reducePow, rmaps, nsucc, List.flatten_cons, List.flatten_nil, Nat.reduceEqDiff, Nat.reduceLeDiff, Nat.reduceAdd, Nat.reduceMul, Nat.reduceSub, ↓reduceIte, reduceCtorEq, decide_true, decide_false]
    exact fin_si rfl
  rw [if_neg (fun h => h h1)] at hR
  obtain ⟨l, hl⟩ := errOf_zero h1
  rw [hl] at hR
  simp only [okL] at hR
  have hb := readB_len hl
  simp only [readOut_eq, bneF h1, Cd.cd33, Tk.t33, base0, base1, base2, base3, Option.isNone_none, Option.isNone_some, Nat.reduceBEq, true_or, or_true, false_or, or_false, Nat.reduceLT, Nat.reduceMod, Nat.reducePow, rmaps, nsucc, List.flatten_cons, List.flatten_nil, Nat.reduceEqDiff, Nat.reduceLeDiff, Nat.reduceAdd, Nat.reduceMul, Nat.reduceSub, ↓reduceIte, reduceCtorEq, decide_true, decide_false]
  rw [hl]
  simp only [okL]
  first | refine FCall.go (short53 hb.2 _ 0 _ _ l (Nat.le_refl _) hb.1 (readB_wf hl) (Nat.le_refl _)) (FZs.cons (FZ.v _) (FZs.one (FZ.rowsOf l))) ?_ | refine FCall.go' (short53 hb.2 _ 0 _ _ l (Nat.le_refl _) hb.1 (readB_wf hl) (Nat.le_refl _)) (FZs.cons (FZ.v _) (FZs.one (FZ.rowsOf l))) ?_ | refine FCall.goQ (short53 hb.2 _ 0 _ _ l (Nat.le_refl _) hb.1 (readB_wf hl) (Nat.le_refl _)) (FZs.cons (FZ.v _) (FZs.one (FZ.rowsOf l))) ?_
  simp only [Cd.cd33, Tk.t33, base0, base1, base2, base3, Option.isNone_none, Option.isNone_some, Nat.reduceBEq, true_or, or_true, false_or, or_false, Nat.reduceLT, Nat.reduceMod, Nat.reducePow, rmaps, nsucc, List.flatten_cons, List.flatten_nil, Nat.reduceEqDiff, Nat.reduceLeDiff, Nat.reduceAdd, Nat.reduceMul, Nat.reduceSub, ↓reduceIte, reduceCtorEq, decide_true, decide_false]
  exact fin_si (by rw [← hR]; rfl)
theorem astr_eqD (x y : ByteArray) : astr .eql x y = some (.bool (decide (x = y))) := by
  by_cases h : x = y
  · subst h; rw [astr_eqs]; simp
  · have := astr_ned h
    simp only [astr, Option.some.injEq, Value.bool.injEq] at this ⊢
    rw [decide_eq_false h]
    simpa using this
def isShortP (b : ByteArray) : Bool × Int := (decide ((shortP b).2 = 0) && decide ((shortP b).1 = b), (shortP b).2)
theorem fin_bi {H' : AH} {t : Bool} {e : Int} {w : AV} (hw : w = .tup [.v (.bool t), .v (.int .i64 e)]) : ∃ v v', AOut.ret (.tup [.v (.bool t), .v (.int .i64 e)]) = .ret v ∧ View H' v v' ∧ FZ v' ∧ v' = w := by
  have hz : FZ (.tup [.v (.bool t), .v (.int .i64 e)]) := FZ.tup (FZs.cons (FZ.v _) (FZs.one (FZ.v _)))
  subst hw; exact ⟨_, _, rfl, hz.view, hz, rfl⟩
def biV (x : Bool × Int) : AV := .tup [.v (.bool x.1), .v (.int .i64 x.2)]
theorem isShort34 (b : ByteArray) : FCall Try.prog 34 [.v (.string b)] (· = biV (isShortP b)) := by
  generalize hR : isShortP b = R
  unfold isShortP at hR
  refine ACall.enter [] Cd.fn34 (by simp) ?_
  simp only [Cd.cd34, Tk.t34, base0, base1, base2, base3, Option.isNone_none, Option.isNone_some, Nat.reduceBEq, true_or, or_true, false_or, or_false, Nat.reduceLT, Nat.reduceMod, Nat.reducePow, rmaps, nsucc, List.flatten_cons, List.flatten_nil, Nat.reduceEqDiff, Nat.reduceLeDiff, Nat.reduceAdd, Nat.reduceMul, Nat.reduceSub, ↓reduceIte, reduceCtorEq, decide_true, decide_false]
  first | refine FCall.go (short33 b) (FZs.one (FZ.v _)) ?_ | refine FCall.go' (short33 b) (FZs.one (FZ.v _)) ?_ | refine FCall.goQ (short33 b) (FZs.one (FZ.v _)) ?_
  generalize shortP b = x at hR
  by_cases h : x.2 = 0
  · simp only [siV, beqT h, astr_eqD, Cd.cd34, Tk.t34, base0, base1, base2, base3, Option.isNone_none, Option.isNone_some, Nat.reduceBEq, true_or, or_true, false_or, or_false, Nat.reduceLT, Nat.reduceMod, Nat.reducePow, rmaps, nsucc, List.flatten_cons, List.flatten_nil, Nat.reduceEqDiff, Nat.reduceLeDiff, Nat.reduceAdd, Nat.reduceMul, Nat.reduceSub, ↓reduceIte, reduceCtorEq, decide_true, decide_false]
    exact fin_bi (by rw [← hR]; simp [biV, h])
  · simp only [siV, beqF h, Cd.cd34, Tk.t34, base0, base1, base2, base3, Option.isNone_none, Option.isNone_some, Nat.reduceBEq, true_or, or_true, false_or, or_false, Nat.reduceLT, Nat.reduceMod, Nat.reducePow, rmaps, nsucc, List.flatten_cons, List.flatten_nil, Nat.reduceEqDiff, Nat.reduceLeDiff, Nat.reduceAdd, Nat.reduceMul, Nat.reduceSub, ↓reduceIte, reduceCtorEq, decide_true, decide_false]
    exact fin_bi (by rw [← hR]; simp [biV, h])

section
variable {b : ByteArray} {l0 : List Tree} (hb : b.size ≤ 4000) (hwf : okTs b 0 0 b.size l0) (hlen : (flatTs l0).length ≤ 300)
end
end Go.Proofs.Ytmjjfdppaomcfaa

/- Plain: what the short form is read as. -/
namespace Go.Proofs.Ytmjjfdppaomcfaa
open Go Go.Proofs.Ytmjjfdppaomcfaa.Ab

/-- what a node means: its tag, and its content or the nodes within -/
inductive Sh where
  | mk (cls num : Nat) (built : Bool) (cont : List UInt8) (kids : List Sh)
def cnt (b : ByteArray) (p q : Nat) : List UInt8 := (b.extract p q).data.toList
mutual
def shp (b : ByteArray) : Tree → Sh
  | .mk h k => .mk h.cls h.num h.built (if h.built then [] else cnt b h.body h.stop) (shps b k)
def shps (b : ByteArray) : List Tree → List Sh
  | [] => []
  | t :: l => shp b t :: shps b l
end
mutual
def encL : Sh → List UInt8
  | .mk c n bl ct k => identL c n bl ++ (lengthL (if bl then encLs k else ct).length 1 ++ (if bl then encLs k else ct))
def encLs : List Sh → List UInt8
  | [] => []
  | t :: l => encL t ++ encLs l
end
mutual
def cntS : Sh → Nat
  | .mk _ _ _ _ k => 1 + cntSs k
def cntSs : List Sh → Nat
  | [] => 0
  | t :: l => cntS t + cntSs l
end
mutual
/-- shapes that can be written, so deep -/
def okS (d : Nat) : Sh → Prop
  | .mk c n bl ct k => c < 4 ∧ n ≤ 268435456 ∧ (bl = true → ct = []) ∧ (bl = false → k = []) ∧ ∃ e, d = e + 1 ∧ okSs e k
def okSs (d : Nat) : List Sh → Prop
  | [] => True
  | t :: l => okS d t ∧ okSs d l
end
def mkB (l : List UInt8) : ByteArray := ⟨l.toArray⟩
theorem mkB_app (l m : List UInt8) : mkB l ++ mkB m = mkB (l ++ m) := bcat l m
theorem mkB_cnt (b : ByteArray) (p q : Nat) : mkB (cnt b p q) = b.extract p q := by
  apply ByteArray.ext
  show (b.extract p q).data.toList.toArray = (b.extract p q).data
  rw [Array.toArray_toList]
theorem mkB_size (l : List UInt8) : (mkB l).size = l.length := size_mk l
mutual
theorem shortT_enc (b : ByteArray) {D : Nat} : ∀ {t : Tree}, okT b D t → shortT b t = mkB (encL (shp b t))
  | .mk h k, ho => by
    simp only [okT] at ho
    have hc : (if h.built then shortTs b k else b.extract h.body h.stop) = mkB (if h.built then encLs (shps b k) else (if h.built then [] else cnt b h.body h.stop)) := by
      cases hb : h.built with
      | true => simp only [if_true]; exact shortTs_enc b (ho.2.2.2.2.2.2.2.2.2.2 hb)
      | false => simp only [Bool.false_eq_true, if_false]; rw [mkB_cnt]
    rw [shortT, hc, mkB_size, shp, encL]
    show mkB (identL h.cls h.num h.built) ++ mkB (lengthL _ 1) ++ mkB _ = _
    rw [mkB_app, mkB_app, List.append_assoc]
theorem shortTs_enc (b : ByteArray) {D : Nat} : ∀ {l : List Tree} {p q : Nat}, okTs b D p q l → shortTs b l = mkB (encLs (shps b l))
  | [], p, q, _ => rfl
  | t :: l, p, q, ho => by
    simp only [okTs] at ho
    rw [shortTs, shortT_enc b ho.2.1, shortTs_enc b ho.2.2, mkB_app, shps, encLs]
end
mutual
theorem shp_ok (b : ByteArray) {D : Nat} : ∀ {t : Tree}, okT b D t → okS (16 - D) (shp b t)
  | .mk h k, ho => by
    have ho' := ho
    simp only [okT] at ho
    obtain ⟨o1, o2, o3, o4, o5, o6, o7, o8, o9, o10, o11⟩ := ho
    have hid := ident_ok o7
    rw [shp, okS]
    refine ⟨hid.2.2.2, hid.2.2.1, fun e => by rw [if_pos e], fun e => by rw [o10 e]; rfl, 16 - (D + 1), by omega, ?_⟩
    cases hb : h.built with
    | true => exact shps_ok b (o11 hb)
    | false => rw [o10 hb]; simp only [shps, okSs]
theorem shps_ok (b : ByteArray) {D : Nat} : ∀ {l : List Tree} {p q : Nat}, okTs b D p q l → okSs (16 - D) (shps b l)
  | [], p, q, _ => by simp only [shps, okSs]
  | t :: l, p, q, ho => by
    simp only [okTs] at ho
    rw [shps, okSs]
    exact ⟨shp_ok b ho.2.1, shps_ok b ho.2.2⟩
end
mutual
theorem cntS_flat (b : ByteArray) : ∀ t : Tree, cntS (shp b t) = (flatT t).length
  | .mk h k => by rw [shp, cntS, cntSs_flat b k]; simp [flatT]; omega
theorem cntSs_flat (b : ByteArray) : ∀ l : List Tree, cntSs (shps b l) = (flatTs l).length
  | [] => rfl
  | t :: l => by rw [shps, cntSs, cntS_flat b t, cntSs_flat b l]; simp [flatTs]
end

/-! reading -/
/-- bytes stand at a place -/
def hasL (s : ByteArray) (p : Nat) (L : List UInt8) : Prop := ∀ i, i < L.length → bt s (p + i) = (L.getD i 0).toNat
theorem hasL.left {s : ByteArray} {p : Nat} {L M : List UInt8} (h : hasL s p (L ++ M)) : hasL s p L := fun i hi => by
  rw [h i (by simp; omega), List.getD_eq_getElem?_getD, List.getElem?_append_left hi, ← List.getD_eq_getElem?_getD]
theorem hasL.right {s : ByteArray} {p : Nat} {L M : List UInt8} (h : hasL s p (L ++ M)) : hasL s (p + L.length) M := fun i hi => by
  rw [Nat.add_assoc, h (L.length + i) (by simp; omega), List.getD_eq_getElem?_getD, List.getElem?_append_right (by omega), ← List.getD_eq_getElem?_getD]
  congr 2; omega
theorem hasL.head {s : ByteArray} {p : Nat} {x : UInt8} {L : List UInt8} (h : hasL s p (x :: L)) : bt s p = x.toNat ∧ hasL s (p + 1) L :=
  ⟨by simpa using h 0 (by simp), fun i hi => by
    have := h (i + 1) (by simpa using hi)
    rw [show p + (i + 1) = p + 1 + i from by omega] at this
    simpa using this⟩
theorem hasL_mk (L : List UInt8) : hasL (mkB L) 0 L := fun i hi => by
  unfold bt
  rw [Nat.zero_add, getElem?_pos (mkB L) i (by rw [mkB_size]; exact hi)]
  simp only [List.getD_eq_getElem?_getD, List.getElem?_eq_getElem hi, Option.getD_some]
  rfl
theorem cnt_has {s : ByteArray} {p : Nat} {L : List UInt8} (h : hasL s p L) (hs : p + L.length ≤ s.size) : cnt s p (p + L.length) = L := by
  unfold cnt
  apply List.ext_getElem
  · have : (s.extract p (p + L.length)).data.size = L.length := by
      show (s.extract p (p + L.length)).size = _
      rw [ByteArray.size_extract]; omega
    rw [Array.length_toList]; exact this
  · intro i h1 h2
    have e := h i h2
    unfold bt at e
    rw [getElem?_pos s (p + i) (by omega)] at e
    simp only [List.getD_eq_getElem?_getD, List.getElem?_eq_getElem h2, Option.getD_some] at e
    have e2 := UInt8.toNat_inj.mp e
    rw [← e2]
    simp [ByteArray.getElem_eq_getElem_data]
theorem ofN {k : Nat} (h : k < 256) : (UInt8.ofNat k).toNat = k := by simp; omega

theorem tagL_run {s : ByteArray} {lim : Nat} : ∀ (h : Nat) {q k : Nat}, h ≤ 268435456 → hasL s q (lowC h).reverse → q + (lowC h).length + k ≤ lim → tagL s lim (k + (lowC h).length) q 0 = tagL s lim k (q + (lowC h).length) h := by
  intro h
  induction h using Nat.strongRecOn with
  | _ h ih =>
    intro q k hh hs hl
    rcases Nat.eq_zero_or_pos h with rfl | hp
    · simp [lowC, lowCF]
    · rw [lowC_step hp] at hs hl ⊢
      simp only [List.reverse_cons, List.length_cons] at hs hl ⊢
      have h1 := hs.left
      have h2 := hs.right
      rw [List.length_reverse] at h2
      have h3 := h2.head.1
      rw [ofN (by omega)] at h3
      have := ih (h / 128) (by omega) (q := q) (k := k + 1) (by omega) h1 (by omega)
      rw [show k + ((lowC (h / 128)).length + 1) = k + 1 + (lowC (h / 128)).length from by omega, this, tagL, if_pos (by omega), h3, if_neg (by omega), if_neg (by omega)]
      congr 1; omega
theorem ident_enc {s : ByteArray} {c n p lim : Nat} {bl : Bool} (hc : c < 4) (hn : n ≤ 268435456) (h : hasL s p (identL c n bl)) (hl : p + (identL c n bl).length ≤ lim) : ident s p lim = .ok (c, n, bl, p + (identL c n bl).length) := by
  have hh := hdN_le hc bl
  have hd : hdN c bl = c * 64 + (if bl then 32 else 0) := rfl
  unfold ident
  by_cases h1 : n < 31
  · have hL : identL c n bl = [UInt8.ofNat (hdN c bl + n)] := by unfold identL; rw [if_pos h1]
    rw [hL] at h hl ⊢
    have hb := h.head.1
    rw [ofN (by omega)] at hb
    simp only [List.length_cons, List.length_nil, Nat.zero_add] at hl ⊢
    rw [if_pos (by omega), hb]
    cases bl with
    | false =>
      simp only [Bool.false_eq_true, if_false] at hd
      rw [if_pos (by omega)]
      simp only [Except.ok.injEq, Prod.mk.injEq, beq_eq_false_iff_ne, ne_eq, and_true]
      omega
    | true =>
      simp only [if_true] at hd
      rw [if_pos (by omega)]
      simp only [Except.ok.injEq, Prod.mk.injEq, beq_iff_eq, and_true]
      omega
  · have hL : identL c n bl = UInt8.ofNat (hdN c bl + 31) :: (UInt8.ofNat (n % 128) :: lowC (n / 128)).reverse := by unfold identL; rw [if_neg h1]
    rw [hL] at h hl ⊢
    obtain ⟨hb, ht⟩ := h.head
    rw [ofN (by omega)] at hb
    simp only [List.reverse_cons, List.length_cons, List.length_append, List.length_reverse, List.length_nil] at ht hl ⊢
    have h5 := ht.right.head.1
    rw [List.length_reverse, ofN (by omega)] at h5
    have hrun := tagL_run (lim := lim) (n / 128) (q := p + 1) (k := (lim - (p + 1)) - (lowC (n / 128)).length) (by omega) ht.left (by omega)
    rw [show lim - (p + 1) - (lowC (n / 128)).length + (lowC (n / 128)).length = lim - (p + 1) from by omega] at hrun
    obtain ⟨k, hk⟩ : ∃ k, lim - (p + 1) - (lowC (n / 128)).length = k + 1 := ⟨lim - (p + 1) - (lowC (n / 128)).length - 1, by omega⟩
    rw [hk, tagL, if_pos (show p + 1 + (lowC (n / 128)).length < lim by omega), h5, if_neg (show ¬ (n / 128 * 128 + n % 128 % 128 > 268435456) by omega), if_pos (show n % 128 < 128 by omega)] at hrun
    rw [if_pos (by omega), hb, if_neg (by cases bl <;> simp at hd <;> omega), hrun]
    cases bl with
    | false =>
      simp only [Bool.false_eq_true, if_false] at hd
      simp only [Except.ok.injEq, Prod.mk.injEq, beq_eq_false_iff_ne, ne_eq]
      omega
    | true =>
      simp only [if_true] at hd
      simp only [Except.ok.injEq, Prod.mk.injEq, beq_iff_eq]
      omega
theorem lenL_run {s : ByteArray} {lim : Nat} : ∀ (h : Nat) {q k : Nat}, h ≤ 4000 → hasL s q (lowB h).reverse → q + (lowB h).length + k ≤ lim → lenL s lim (k + (lowB h).length) q 0 = lenL s lim k (q + (lowB h).length) h := by
  intro h
  induction h using Nat.strongRecOn with
  | _ h ih =>
    intro q k hh hs hl
    rcases Nat.eq_zero_or_pos h with rfl | hp
    · simp [lowB, lowF]
    · rw [lowB_step hp] at hs hl ⊢
      simp only [List.reverse_cons, List.length_cons] at hs hl ⊢
      have h1 := hs.left
      have h2 := hs.right
      rw [List.length_reverse] at h2
      have h3 := h2.head.1
      rw [show (UInt8.ofNat h).toNat = h % 256 from by simp] at h3
      have := ih (h / 256) (by omega) (q := q) (k := k + 1) (by omega) h1 (by omega)
      rw [show k + ((lowB (h / 256)).length + 1) = k + 1 + (lowB (h / 256)).length from by omega, this, lenL, if_pos (by omega), h3, if_neg (by omega)]
      congr 1; omega
theorem lenOf_enc {s : ByteArray} {n p lim : Nat} {bl : Bool} (hn : n ≤ 4000) (h : hasL s p (lengthL n 1)) (hl : p + (lengthL n 1).length ≤ lim) : lenOf s p lim bl = .ok (some n, p + (lengthL n 1).length) := by
  unfold lenOf
  by_cases h1 : n < 128
  · have hL : lengthL n 1 = [UInt8.ofNat n] := by unfold lengthL; rw [if_pos ⟨h1, rfl⟩]
    rw [hL] at h hl ⊢
    have hb := h.head.1
    rw [ofN (by omega)] at hb
    simp only [List.length_cons, List.length_nil, Nat.zero_add] at hl ⊢
    rw [if_pos (by omega), hb, if_pos h1]
  · have h0 : 1 ≤ (lowB n).length := by rw [lowB_step (by omega)]; simp
    have h3 := lowB_len 2 n (by omega)
    have hL : lengthL n 1 = UInt8.ofNat (128 + (lowB n).length) :: (lowB n).reverse := by
      unfold lengthL
      rw [if_neg (fun e => h1 e.1), padB_done (show max 1 (1 - 1) ≤ (lowB n).length by omega)]
    rw [hL] at h hl ⊢
    obtain ⟨hb, ht⟩ := h.head
    rw [ofN (by omega)] at hb
    simp only [List.length_cons, List.length_reverse] at hl ⊢
    have hrun := lenL_run (lim := lim) n (q := p + 1) (k := 0) hn ht (by omega)
    rw [Nat.zero_add, lenL] at hrun
    rw [if_pos (by omega), hb, if_neg (by omega), if_neg (by omega), if_neg (by omega), show 128 + (lowB n).length - 128 = (lowB n).length from by omega, hrun]
    simp only [Except.ok.injEq, Prod.mk.injEq, true_and]; omega
theorem encL_pos : ∀ S : Sh, 0 < (encL S).length
  | .mk c n bl ct k => by
    rw [encL]
    have : 0 < (identL c n bl).length := by unfold identL; split <;> simp
    simp; omega
mutual
theorem rd_enc {s : ByteArray} : ∀ (S : Sh) {d p lim c : Nat}, okS d S → d ≤ 16 → hasL s p (encL S) → p + (encL S).length ≤ lim → lim ≤ s.size → s.size ≤ 4000 → c + cntS S ≤ 300 →
    ∃ t, rd s d p lim c = .ok (t, c + cntS S) ∧ t.h.fin = p + (encL S).length ∧ shp s t = S
  | .mk cl n bl ct k, d, p, lim, c, ho, hd, hh, hl, hls, hs, hc => by
    rw [okS] at ho
    obtain ⟨o1, o2, o3, o4, e, rfl, o5⟩ := ho
    rw [encL] at hh hl ⊢
    rw [cntS] at hc ⊢
    generalize hC : (if bl = true then encLs k else ct) = C at hh hl ⊢
    simp only [List.length_append] at hl ⊢
    have hid := ident_enc (lim := lim) o1 o2 hh.left (by omega)
    have hln := lenOf_enc (lim := lim) (bl := bl) (show C.length ≤ 4000 by omega) hh.right.left (by omega)
    have hcc := hh.right.right
    generalize hp1 : p + (identL cl n bl).length = p1 at hid hln hcc
    generalize hp2 : p1 + (lengthL C.length 1).length = p2 at hln hcc
    cases bl with
    | false =>
      simp only [Bool.false_eq_true, if_false] at hC
      subst hC
      have hk := o4 rfl
      subst hk
      rw [rd_leaf hid hln (by omega) (by omega)]
      rw [show c + (1 + cntSs []) = c + 1 from rfl]
      refine ⟨_, rfl, by simp only [Tree.h_mk]; omega, ?_⟩
      rw [shp, cnt_has hcc (by omega)]; rfl
    | true =>
      simp only [if_true] at hC
      subst hC
      rw [rd_kids hid hln (by omega) (by omega)]
      obtain ⟨l', h1, h2⟩ := kidsC_enc k (s := s) (d := e) (lim := p2 + (encLs k).length) (n := (encLs k).length) (q := p2) (c := c + 1) (acc := []) o5 (by omega) hcc rfl (by omega) (by omega) hs (by omega)
      rw [h1, ← Nat.add_assoc]
      refine ⟨_, rfl, by simp only [Tree.h_mk]; omega, ?_⟩
      rw [List.nil_append, shp, h2, o3 rfl]; rfl
theorem kidsC_enc {s : ByteArray} : ∀ (Ss : List Sh) {d lim n q c : Nat} {acc : List Tree}, okSs d Ss → d ≤ 16 → hasL s q (encLs Ss) → lim = q + (encLs Ss).length → (encLs Ss).length ≤ n → lim ≤ s.size → s.size ≤ 4000 → c + cntSs Ss ≤ 300 →
    ∃ l', kidsC (fun a c => rd s d a lim c) lim n q c acc = .ok (acc ++ l', c + cntSs Ss) ∧ shps s l' = Ss
  | [], d, lim, n, q, c, acc, ho, hd, hh, hl, hn, hls, hs, hc => by
    simp only [encLs, List.length_nil, Nat.add_zero] at hl
    refine ⟨[], ?_, rfl⟩
    cases n with
    | zero => simp [kidsC, cntSs]
    | succ n => rw [kidsC, if_neg (by omega)]; simp [cntSs]
  | S :: Ss, d, lim, n, q, c, acc, ho, hd, hh, hl, hn, hls, hs, hc => by
    rw [okSs] at ho
    rw [encLs] at hh hl hn
    rw [cntSs] at hc ⊢
    rw [List.length_append] at hl hn
    have hp := encL_pos S
    obtain ⟨t, h1, h2, h3⟩ := rd_enc S (lim := lim) (c := c) ho.1 hd hh.left (by omega) hls hs (by omega)
    obtain ⟨n, rfl⟩ : ∃ n', n = n' + 1 := ⟨n - 1, by omega⟩
    obtain ⟨l', h4, h5⟩ := kidsC_enc Ss (lim := lim) (n := n) (c := c + cntS S) (acc := acc ++ [t]) ho.2 hd hh.right (by omega) (by omega) hls hs (by omega)
    refine ⟨t :: l', ?_, by rw [shps, h3, h5]⟩
    rw [kidsC, if_pos (by omega), h1]
    simp only [h2]
    rw [h4, List.append_assoc, Nat.add_assoc]; rfl
end
/-- the short form is read as what it was made of -/
theorem read_enc {Ss : List Sh} (ho : okSs 16 Ss) (hs : (encLs Ss).length ≤ 4000) (hc : cntSs Ss ≤ 300) (hn : Ss ≠ []) : ∃ l', readB (mkB (encLs Ss)) = .ok l' ∧ shps (mkB (encLs Ss)) l' = Ss := by
  have h0 : 0 < (encLs Ss).length := by
    cases Ss with
    | nil => exact absurd rfl hn
    | cons S Ss => have := encL_pos S; rw [encLs]; simp; omega
  obtain ⟨l', h1, h2⟩ := kidsC_enc Ss (s := mkB (encLs Ss)) (lim := (mkB (encLs Ss)).size) (n := (mkB (encLs Ss)).size) (q := 0) (c := 0) (acc := []) ho (Nat.le_refl _) (hasL_mk _) (by rw [mkB_size]; omega) (by rw [mkB_size]; omega) (Nat.le_refl _) (by rw [mkB_size]; exact hs) (by omega)
  refine ⟨l', ?_, h2⟩
  unfold readB
  rw [if_neg (by rw [mkB_size]; omega), if_neg (by rw [mkB_size]; omega), h1]; rfl
end Go.Proofs.Ytmjjfdppaomcfaa

/- Plain: alike are those of the same short form. -/
namespace Go.Proofs.Ytmjjfdppaomcfaa
open Go Go.Proofs.Ytmjjfdppaomcfaa.Ab

theorem apartL_ne {a b : ByteArray} {rec : List Tree → List Tree → Option (List Nat)} : ∀ {l m : List Tree} {i : Nat} {p : List Nat}, apartL a b rec i l m = some p → p ≠ []
  | [], [], i, p, h => by cases h
  | _ :: _, [], i, p, h => by simp only [apartL] at h; cases h; simp
  | [], _ :: _, i, p, h => by simp only [apartL] at h; cases h; simp
  | x :: l, y :: m, i, p, h => by
    simp only [apartL] at h
    split at h
    · cases h; simp
    · split at h
      · cases h; simp
      · exact apartL_ne h
theorem apartD_ne {a b : ByteArray} {d : Nat} {l m : List Tree} {p : List Nat} (h : apartD a b d l m = some p) : p.length ≠ 0 := by
  cases d with
  | zero => cases h
  | succ d => have := apartL_ne h; exact fun e => this (List.eq_nil_of_length_eq_zero e)
theorem difB_false {a b : ByteArray} {x y : Hd} : difB a b x y = false ↔ x.cls = y.cls ∧ x.num = y.num ∧ x.built = y.built ∧ (x.built = false → a.extract x.body x.stop = b.extract y.body y.stop) := by
  unfold difB
  cases hx : x.built <;> cases hy : y.built <;> simp [hx, hy, and_assoc]
theorem shp_eq {a b : ByteArray} {x y : Tree} : shp a x = shp b y ↔ difB a b x.h y.h = false ∧ shps a x.kids = shps b y.kids := by
  obtain ⟨h, k⟩ := x
  obtain ⟨h', k'⟩ := y
  rw [shp, shp, difB_false]
  simp only [Sh.mk.injEq, Tree.h_mk, Tree.kids_mk]
  constructor
  · rintro ⟨h1, h2, h3, h4, h5⟩
    refine ⟨⟨h1, h2, h3, fun e => ?_⟩, h5⟩
    rw [if_neg (by simp [e]), if_neg (by simp [← h3, e])] at h4
    rw [← mkB_cnt, ← mkB_cnt, h4]
  · rintro ⟨⟨h1, h2, h3, h4⟩, h5⟩
    refine ⟨h1, h2, h3, ?_, h5⟩
    cases hb : h.built with
    | true => rw [if_pos rfl, if_pos (by rw [← h3, hb])]
    | false =>
      rw [if_neg (by simp), if_neg (by simp [← h3, hb])]
      unfold cnt; rw [h4 hb]
theorem okT_sub' {b : ByteArray} {D : Nat} {t : Tree} (h : okT b D t) : ∃ p q, q ≤ b.size ∧ okTs b (D + 1) p q t.kids := by
  by_cases hk : t.kids = []
  · rw [hk]; exact ⟨0, 0, by omega, by simp only [okTs]⟩
  · have := okT_in h
    exact ⟨_, _, by omega, okT_kids h hk⟩
theorem apart_iff {a b : ByteArray} : ∀ (d D : Nat) (l m : List Tree) (p q p' q' : Nat), D + d = 17 → okTs a D p q l → okTs b D p' q' m → (apartD a b d l m = none ↔ shps a l = shps b m)
  | 0, D, l, m, p, q, p', q', hd, ol, om => by
    rw [okTs_deep ol (by omega), okTs_deep om (by omega)]
    simp [apartD, shps]
  | d + 1, D, l, m, p, q, p', q', hd, ol, om => by
    rw [apartD]
    have key : ∀ (l m : List Tree) (i p q p' q' : Nat), okTs a D p q l → okTs b D p' q' m → (apartL a b (apartD a b d) i l m = none ↔ shps a l = shps b m) := by
      intro l
      induction l with
      | nil =>
        intro m i p q p' q' ol om
        cases m with
        | nil => simp [apartL, shps]
        | cons y m => simp [apartL, shps]
      | cons x l ih =>
        intro m i p q p' q' ol om
        cases m with
        | nil => simp [apartL, shps]
        | cons y m =>
          simp only [okTs] at ol om
          obtain ⟨_, _, _, kl⟩ := okT_sub' ol.2.1
          obtain ⟨_, _, _, km⟩ := okT_sub' om.2.1
          have hk := apart_iff d (D + 1) _ _ _ _ _ _ (by omega) kl km
          have hi := ih m (i + 1) _ _ _ _ ol.2.2 om.2.2
          rw [apartL, shps, shps, List.cons.injEq, shp_eq]
          cases hdif : difB a b x.h y.h with
          | true => simp
          | false =>
            simp only [Bool.false_eq_true, if_false, true_and]
            cases hap : apartD a b d x.kids y.kids with
            | none =>
              rw [hap] at hk
              simp only [true_iff] at hk
              simp only [hk, true_and]
              exact hi
            | some p =>
              rw [hap] at hk
              simp only [reduceCtorEq, false_iff] at hk
              simp only [hk, false_and, reduceCtorEq]
    exact key l m 0 p q p' q' ol om

theorem readB_ne {b : ByteArray} {l : List Tree} (h : readB b = .ok l) : l ≠ [] := by
  have hw := readB_wf h
  rintro rfl
  simp only [okTs] at hw
  unfold readB at h
  rw [if_neg (by omega), if_pos (by omega)] at h
  cases h
/-- the short form is read again -/
theorem reread {a : ByteArray} {la : List Tree} (h : readB a = .ok la) : ∃ l', readB (shortTs a la) = .ok l' ∧ shps (shortTs a la) l' = shps a la ∧ (shortTs a la).size ≤ a.size := by
  have hw := readB_wf h
  have hl := readB_len h
  have hz := shortTs_size hl.2 hw
  have he := shortTs_enc a hw
  have hsz : (shortTs a la).size = (encLs (shps a la)).length := by rw [he, mkB_size]
  obtain ⟨l', h1, h2⟩ := read_enc (Ss := shps a la) (shps_ok a hw) (by omega) (by rw [cntSs_flat]; exact hl.1) (fun e => by
    have := readB_ne h
    cases la with
    | nil => exact this rfl
    | cons t l => rw [shps] at e; cases e)
  rw [← he] at h1 h2
  exact ⟨l', h1, h2, by omega⟩
theorem short_same {a b : ByteArray} {la lb : List Tree} (ha : readB a = .ok la) (hb : readB b = .ok lb) : shortTs a la = shortTs b lb ↔ shps a la = shps b lb := by
  constructor
  · intro h
    obtain ⟨l1, e1, e2, -⟩ := reread ha
    obtain ⟨l2, e3, e4, -⟩ := reread hb
    rw [← h, e1] at e3
    cases e3
    rw [← e2, ← e4, h]
  · intro h
    rw [shortTs_enc a (readB_wf ha), shortTs_enc b (readB_wf hb), h]
theorem apart_short {a b : ByteArray} {la lb : List Tree} (ha : readB a = .ok la) (hb : readB b = .ok lb) : apartD a b 17 la lb = none ↔ shortTs a la = shortTs b lb := by
  rw [short_same ha hb]
  exact apart_iff 17 0 la lb _ _ _ _ rfl (readB_wf ha) (readB_wf hb)
theorem short_again {a : ByteArray} {la : List Tree} (h : readB a = .ok la) : ∃ l', readB (shortTs a la) = .ok l' ∧ shortTs (shortTs a la) l' = shortTs a la ∧ (shortTs a la).size ≤ a.size := by
  obtain ⟨l', h1, h2, h3⟩ := reread h
  exact ⟨l', h1, ((short_same h1 h).mpr h2), h3⟩
end Go.Proofs.Ytmjjfdppaomcfaa

/- Walks: the law of the shortest form. -/
namespace Go.Proofs.Ytmjjfdppaomcfaa
open Go Go.Proofs.Ytmjjfdppaomcfaa.Ab
set_option maxRecDepth 100000
set_option linter.unusedSimpArgs false

theorem shortP_ok {b : ByteArray} {l : List Tree} (h : readB b = .ok l) : shortP b = (shortTs b l, 0) := by
  unfold shortP; rw [h]; rfl
theorem isShortP_ok {b : ByteArray} {l : List Tree} (h : readB b = .ok l) : isShortP b = (decide (shortTs b l = b), 0) := by
  unfold isShortP; rw [shortP_ok h]; simp
theorem alikeP_same {a b : ByteArray} {la lb : List Tree} (ha : readB a = .ok la) (hb : readB b = .ok lb) (h : shortTs a la = shortTs b lb) : alikeP a b = (true, [], 0) := by
  have := (apart_short ha hb).mpr h
  unfold alikeP
  rw [ha, hb, if_neg (fun h => h rfl), if_neg (fun h => h rfl)]
  simp only [okL, this]
theorem alikeP_not {a b : ByteArray} {la lb : List Tree} (ha : readB a = .ok la) (hb : readB b = .ok lb) (h : shortTs a la ≠ shortTs b lb) : ∃ p, alikeP a b = (false, p, 0) ∧ p.length ≠ 0 := by
  cases hap : apartD a b 17 la lb with
  | none => exact absurd ((apart_short ha hb).mp hap) h
  | some p =>
    refine ⟨p, ?_, apartD_ne hap⟩
    unfold alikeP
    rw [ha, hb, if_neg (fun h => h rfl), if_neg (fun h => h rfl)]
    simp only [okL, hap]
set_option maxHeartbeats 4000000 in
theorem law10 (a b : ByteArray) : FCall Try.prog 10 [.v (.string a), .v (.string b)] (· = .v (.bool true)) := by
  have z2 := FZs.cons (FZ.v (.string a)) (FZs.one (FZ.v (.string b)))
  refine ACall.enter [] Cd.fn10 (by simp) ?_
  simp only [Cd.cd10, Tk.t10, base0, base1, base2, base3, Option.isNone_none, Option.isNone_some, Nat.reduceBEq, true_or, or_true, false_or, or_false, Nat.reduceLT, Nat.reduceMod, Nat.reducePow, rmaps, nsucc, List.flatten_cons, List.flatten_nil, Nat.reduceEqDiff, Nat.reduceLeDiff, Nat.reduceAdd, Nat.reduceMul, Nat.reduceSub, ↓reduceIte, reduceCtorEq, decide_true, decide_false]
  first | refine FCall.go (awake11) (FZs.nil) ?_ | refine FCall.go' (awake11) (FZs.nil) ?_ | refine FCall.goQ (awake11) (FZs.nil) ?_
  simp only [Cd.cd10, Tk.t10, base0, base1, base2, base3, Option.isNone_none, Option.isNone_some, Nat.reduceBEq, true_or, or_true, false_or, or_false, Nat.reduceLT, Nat.reduceMod, Nat.reducePow, rmaps, nsucc, List.flatten_cons, List.flatten_nil, Nat.reduceEqDiff, Nat.reduceLeDiff, Nat.reduceAdd, Nat.reduceMul, Nat.reduceSub, ↓reduceIte, reduceCtorEq, decide_true, decide_false]
  first | refine FCall.go (small12 a) (FZs.one (FZ.v _)) ?_ | refine FCall.go' (small12 a) (FZs.one (FZ.v _)) ?_ | refine FCall.goQ (small12 a) (FZs.one (FZ.v _)) ?_
  cases hs : smallB a
  · simp only [Cd.cd10, Tk.t10, base0, base1, base2, base3, Option.isNone_none, Option.isNone_some, Nat.reduceBEq, true_or, or_true, false_or, or_false, Nat.reduceLT, Nat.reduceMod, Nat.reducePow, rmaps, nsucc, List.flatten_cons, List.flatten_nil, Nat.reduceEqDiff, Nat.reduceLeDiff, Nat.reduceAdd, Nat.reduceMul, Nat.reduceSub, ↓reduceIte, reduceCtorEq, decide_true, decide_false]
    exact fin_v rfl
  simp only [Cd.cd10, Tk.t10, base0, base1, base2, base3, Option.isNone_none, Option.isNone_some, Nat.reduceBEq, true_or, or_true, false_or, or_false, Nat.reduceLT, Nat.reduceMod, Nat.reducePow, rmaps, nsucc, List.flatten_cons, List.flatten_nil, Nat.reduceEqDiff, Nat.reduceLeDiff, Nat.reduceAdd, Nat.reduceMul, Nat.reduceSub, ↓reduceIte, reduceCtorEq, decide_true, decide_false]
  first | refine FCall.go (small12 b) (FZs.one (FZ.v _)) ?_ | refine FCall.go' (small12 b) (FZs.one (FZ.v _)) ?_ | refine FCall.goQ (small12 b) (FZs.one (FZ.v _)) ?_
  cases hs2 : smallB b
  · simp only [Cd.cd10, Tk.t10, base0, base1, base2, base3, Option.isNone_none, Option.isNone_some, Nat.reduceBEq, true_or, or_true, false_or, or_false, Nat.reduceLT, Nat.reduceMod, Nat.reducePow, rmaps, nsucc, List.flatten_cons, List.flatten_nil, Nat.reduceEqDiff, Nat.reduceLeDiff, Nat.reduceAdd, Nat.reduceMul, Nat.reduceSub, ↓reduceIte, reduceCtorEq, decide_true, decide_false]
    exact fin_v rfl
  simp only [Cd.cd10, Tk.t10, base0, base1, base2, base3, Option.isNone_none, Option.isNone_some, Nat.reduceBEq, true_or, or_true, false_or, or_false, Nat.reduceLT, Nat.reduceMod, Nat.reducePow, rmaps, nsucc, List.flatten_cons, List.flatten_nil, Nat.reduceEqDiff, Nat.reduceLeDiff, Nat.reduceAdd, Nat.reduceMul, Nat.reduceSub, ↓reduceIte, reduceCtorEq, decide_true, decide_false]
  first | refine FCall.go (short33 a) (FZs.one (FZ.v _)) ?_ | refine FCall.go' (short33 a) (FZs.one (FZ.v _)) ?_ | refine FCall.goQ (short33 a) (FZs.one (FZ.v _)) ?_
  by_cases h1 : errOf (readB a) = 0
  rotate_left
  · have hp : shortP a = (⟨#[]⟩, errOf (readB a)) := if_pos h1
    rw [hp]
    simp only [siV, bneT h1, astr_eqs, Cd.cd10, Tk.t10, base0, base1, base2, base3, Option.isNone_none, Option.isNone_some, Nat.reduceBEq, true_or, or_true, false_or, or_false, Nat.reduceLT, Nat.reduceMod, Nat.reducePow, rmaps, nsucc, List.flatten_cons, List.flatten_nil, Nat.reduceEqDiff, Nat.reduceLeDiff, Nat.reduceAdd, Nat.reduceMul, Nat.reduceSub, ↓reduceIte, reduceCtorEq, decide_true, decide_false]
    exact fin_v rfl
  obtain ⟨la, ha⟩ := errOf_zero h1
  obtain ⟨l', hr, hss, hsz⟩ := short_again ha
  have q1 := shortP_ok ha
  have q2 := isShortP_ok hr
  have q3 := shortP_ok hr
  have q4 := alikeP_same ha hr hss.symm
  rw [hss] at q2 q3
  generalize hsa : shortTs a la = s at hr hss hsz q1 q2 q3 q4
  rw [q1]
  simp only [siV, show ((0 : Int) != 0) = false from rfl, Cd.cd10, Tk.t10, base0, base1, base2, base3, Option.isNone_none, Option.isNone_some, Nat.reduceBEq, true_or, or_true, false_or, or_false, Nat.reduceLT, Nat.reduceMod, Nat.reducePow, rmaps, nsucc, List.flatten_cons, List.flatten_nil, Nat.reduceEqDiff, Nat.reduceLeDiff, Nat.reduceAdd, Nat.reduceMul, Nat.reduceSub, ↓reduceIte, reduceCtorEq, decide_true, decide_false]
  first | refine FCall.go (isShort34 s) (FZs.one (FZ.v _)) ?_ | refine FCall.go' (isShort34 s) (FZs.one (FZ.v _)) ?_ | refine FCall.goQ (isShort34 s) (FZs.one (FZ.v _)) ?_
  rw [q2]
  simp only [biV, Cd.cd10, Tk.t10, base0, base1, base2, base3, Option.isNone_none, Option.isNone_some, Nat.reduceBEq, true_or, or_true, false_or, or_false, Nat.reduceLT, Nat.reduceMod, Nat.reducePow, rmaps, nsucc, List.flatten_cons, List.flatten_nil, Nat.reduceEqDiff, Nat.reduceLeDiff, Nat.reduceAdd, Nat.reduceMul, Nat.reduceSub, ↓reduceIte, reduceCtorEq, decide_true, decide_false]
  first | refine FCall.go (short33 s) (FZs.one (FZ.v _)) ?_ | refine FCall.go' (short33 s) (FZs.one (FZ.v _)) ?_ | refine FCall.goQ (short33 s) (FZs.one (FZ.v _)) ?_
  rw [q3]
  simp only [siV, Cd.cd10, Tk.t10, base0, base1, base2, base3, Option.isNone_none, Option.isNone_some, Nat.reduceBEq, true_or, or_true, false_or, or_false, Nat.reduceLT, Nat.reduceMod, Nat.reducePow, rmaps, nsucc, List.flatten_cons, List.flatten_nil, Nat.reduceEqDiff, Nat.reduceLeDiff, Nat.reduceAdd, Nat.reduceMul, Nat.reduceSub, ↓reduceIte, reduceCtorEq, decide_true, decide_false]
  first | refine FCall.go (areAlike24 a s) (FZs.cons (FZ.v _) (FZs.one (FZ.v _))) ?_ | refine FCall.go' (areAlike24 a s) (FZs.cons (FZ.v _) (FZs.one (FZ.v _))) ?_ | refine FCall.goQ (areAlike24 a s) (FZs.cons (FZ.v _) (FZs.one (FZ.v _))) ?_
  rw [q4]
  simp only [bleV, show decide ((s.size : Int) > (a.size : Int)) = false from decide_eq_false (by omega), show ((0 : Int) != 0) = false from rfl, astr_nes, Cd.cd10, Tk.t10, base0, base1, base2, base3, Option.isNone_none, Option.isNone_some, Nat.reduceBEq, true_or, or_true, false_or, or_false, Nat.reduceLT, Nat.reduceMod, Nat.reducePow, rmaps, nsucc, List.flatten_cons, List.flatten_nil, Nat.reduceEqDiff, Nat.reduceLeDiff, Nat.reduceAdd, Nat.reduceMul, Nat.reduceSub, ↓reduceIte, reduceCtorEq, decide_true, decide_false]
  first | refine FCall.go (short33 b) (FZs.one (FZ.v _)) ?_ | refine FCall.go' (short33 b) (FZs.one (FZ.v _)) ?_ | refine FCall.goQ (short33 b) (FZs.one (FZ.v _)) ?_
  simp only [siV, Cd.cd10, Tk.t10, base0, base1, base2, base3, Option.isNone_none, Option.isNone_some, Nat.reduceBEq, true_or, or_true, false_or, or_false, Nat.reduceLT, Nat.reduceMod, Nat.reducePow, rmaps, nsucc, List.flatten_cons, List.flatten_nil, Nat.reduceEqDiff, Nat.reduceLeDiff, Nat.reduceAdd, Nat.reduceMul, Nat.reduceSub, ↓reduceIte, reduceCtorEq, decide_true, decide_false]
  first | refine FCall.go (areAlike24 a b) (FZs.cons (FZ.v _) (FZs.one (FZ.v _))) ?_ | refine FCall.go' (areAlike24 a b) (FZs.cons (FZ.v _) (FZs.one (FZ.v _))) ?_ | refine FCall.goQ (areAlike24 a b) (FZs.cons (FZ.v _) (FZs.one (FZ.v _))) ?_
  by_cases h2 : errOf (readB b) = 0
  rotate_left
  · have hp : shortP b = (⟨#[]⟩, errOf (readB b)) := if_pos h2
    have hq : alikeP a b = (false, [], errOf (readB b)) := by
      unfold alikeP
      rw [ha, if_neg (fun h => h rfl), if_pos h2]
    rw [hp, hq]
    simp only [siV, bleV, bneT h2, beq_self_eq_true, Cd.cd10, Tk.t10, base0, base1, base2, base3, Option.isNone_none, Option.isNone_some, Nat.reduceBEq, true_or, or_true, false_or, or_false, Nat.reduceLT, Nat.reduceMod, Nat.reducePow, rmaps, nsucc, List.flatten_cons, List.flatten_nil, Nat.reduceEqDiff, Nat.reduceLeDiff, Nat.reduceAdd, Nat.reduceMul, Nat.reduceSub, ↓reduceIte, reduceCtorEq, decide_true, decide_false]
    exact fin_v rfl
  obtain ⟨lb, hb⟩ := errOf_zero h2
  have r1 := shortP_ok hb
  by_cases hsu : s = shortTs b lb
  · have hq := alikeP_same ha hb (by rw [hsa]; exact hsu)
    rw [← hsu] at r1
    rw [r1, hq]
    simp only [siV, bleV, natsV, List.map_nil, show ((0 : Int) != 0) = false from rfl, show ((0 : Int) == 0) = true from rfl, show (((0 : Nat) : Int) == 0) = true from rfl, astr_eqs, beq_self_eq_true, Cd.cd10, Tk.t10, base0, base1, base2, base3, Option.isNone_none, Option.isNone_some, Nat.reduceBEq, true_or, or_true, false_or, or_false, Nat.reduceLT, Nat.reduceMod, Nat.reducePow, rmaps, nsucc, List.flatten_cons, List.flatten_nil, Nat.reduceEqDiff, Nat.reduceLeDiff, Nat.reduceAdd, Nat.reduceMul, Nat.reduceSub, ↓reduceIte, reduceCtorEq, decide_true, decide_false]
    exact fin_v rfl
  · obtain ⟨p, hq, hpl⟩ := alikeP_not ha hb (by rw [hsa]; exact hsu)
    rw [r1, hq]
    simp only [siV, bleV, natsV, List.length_map, show ((0 : Int) != 0) = false from rfl, show ((0 : Int) == 0) = true from rfl, beqF (show (p.length : Int) ≠ 0 by omega), astr_eqD, decide_eq_false hsu, beq_self_eq_true, Cd.cd10, Tk.t10, base0, base1, base2, base3, Option.isNone_none, Option.isNone_some, Nat.reduceBEq, true_or, or_true, false_or, or_false, Nat.reduceLT, Nat.reduceMod, Nat.reducePow, rmaps, nsucc, List.flatten_cons, List.flatten_nil, Nat.reduceEqDiff, Nat.reduceLeDiff, Nat.reduceAdd, Nat.reduceMul, Nat.reduceSub, ↓reduceIte, reduceCtorEq, decide_true, decide_false]
    exact fin_v rfl
end Go.Proofs.Ytmjjfdppaomcfaa

/- The law holds: for every input it returns true, and each argument reads behind the call as it read before. No condition. -/
namespace Go.Proofs.Ytmjjfdppaomcfaa
open Go Go.Proofs.Ytmjjfdppaomcfaa.Ab Go.ChangeShapes Go.WideShapes Go.ChangeAt Go.RowKit
set_option maxRecDepth 100000

set_option maxHeartbeats 800000 in
theorem lift10 (os : Os) (started : os.Started) (H : Type) (enc : TypeId × Value → H) :
    ReturnsInHanded {} Try.checked os 10 .any (Rows.walkShortestSpec.pre6 enc Try.prog Try.f10 Rows.walkShortestRow.domain false) (Rows.walkShortestSpec.post enc Try.prog Try.f10 false true false false) := by
  refine returnsInHanded_of_change (C := Try.checked) own started (by kernel_rfl) Try.func10
    (ChangeSpec.witness6 (enc := enc) (C := Try.checked) false ⟨#[], #[.string ⟨#[]⟩, .string ⟨#[]⟩], []⟩ 8 (by kernel_rfl) (by kernel_rfl) (by kernel_rfl) (by kernel_rfl)) ?_
  intro W base args ds gs before hval0 hW _ _
  have hval : ∀ (j : Nat) t v, Try.f10.params[j]? = some t → args[j]? = some v → Value.okWide Try.prog W .any base t v := hval0
  have hW' := hW
  obtain ⟨p, q, hA0, hV, rfl, _, _⟩ := hW
  have hA : DataW.TrodAll enc Try.prog W 0 (fun _ => true) true Try.f10.params.toList args.toList ds p := hA0
  rw [Try.params10] at hA hval
  obtain ⟨v0, v1, d0, d1, p0, p1, rfl, rfl, rfl, h0, h1⟩ := trodAll_two hA
  obtain ⟨rfl, rfl⟩ := trodVars_none hV
  obtain ⟨s0, rfl⟩ := okWide_string Try.underlying9 (hval 0 9 v0 rfl rfl)
  obtain ⟨x0, -, hx0⟩ := arg_one rdS h0 rfl
  obtain ⟨s1, rfl⟩ := okWide_string Try.underlying9 (hval 1 9 v1 rfl rfl)
  obtain ⟨x1, -, hx1⟩ := arg_one rdS h1 rfl
  clear hA0 hval0
  simp only [List.append_nil] at hW'
  have hlt : ∀ x ∈ p0 ++ p1, x.block < W.heap.size := fun x hx => by simpa using hW'.lt x hx
  refine ((law10 x0 x1).true (xs := #[.string s0, .string s1]) (W := W) ⟨rfl, fun j hj => ?_⟩).mono fun e W' ⟨he, hb⟩ => ?_
  · match j, hj with
    | 0, _ => exact hx0
    | 1, _ => exact hx1
  subst he
  have harg0 : DataW.Trod enc Try.prog W' 0 (fun b => decide (b < W.heap.size)) true 9 (.string s0) d0 p0 :=
    Below.trod laidOut (by kernel_rfl) (of_decide_eq_true (by kernel_rfl)) h0 hb (fun x hx => hlt x (List.mem_append.2 (.inl hx)))
  have harg1 : DataW.Trod enc Try.prog W' 0 (fun b => decide (b < W.heap.size)) true 9 (.string s1) d1 p1 :=
    Below.trod laidOut (by kernel_rfl) (of_decide_eq_true (by kernel_rfl)) h1 hb (fun x hx => hlt x (List.mem_append.2 (.inr hx)))
  refine ⟨_, rfl, _, _, _, [], _, [], hW', ?_, trodAll_mk2 harg0 harg1, rfl, hb.frame _, fun h => by cases h⟩
  exact trodAll_mk1 (shut_bool Try.underlying4 _)

theorem walkShortest : Rows.WalkShortestSaid :=
  OpenClaim.holds_of_wide 10 Try.f10 rfl rfl rfl rfl rfl rfl rfl ⟨rfl, rfl, rfl, rfl, rfl⟩ rfl rfl rfl rfl rfl (by kernel_rfl) Try.func10 (by kernel_rfl)
    (of_decide_eq_true (by kernel_rfl)) (by unfold Func.isWrapper; first | (rw [if_pos (by decide +kernel)]; kernel_rfl) | (rw [if_neg (by decide +kernel)]; exact ⟨rfl, rfl⟩))
    (fun os started H enc _ => lift10 os started H enc)
end Go.Proofs.Ytmjjfdppaomcfaa

/- Part 2 of a proof: walkWhole holds for every input; no condition. -/
import Derived.Test.YtmjjfdppaomcfaaProg
import Derived.KernelRfl
import Derived.ProofKit
import Derived.Test.YtmjjfdppaomcfaaAb0
import Derived.Test.YtmjjfdppaomcfaaAb1
import Derived.Test.YtmjjfdppaomcfaaAb2
import Derived.Test.YtmjjfdppaomcfaaAb3
import Derived.Test.YtmjjfdppaomcfaaAb4
import Derived.Test.YtmjjfdppaomcfaaAb5
import Derived.Test.YtmjjfdppaomcfaaAb6
import Derived.Test.YtmjjfdppaomcfaaAb7
import Derived.Test.YtmjjfdppaomcfaaAb8
import Derived.Test.YtmjjfdppaomcfaaAb8a
import Derived.Test.YtmjjfdppaomcfaaAb8b
import Derived.Test.YtmjjfdppaomcfaaAb8c
import Derived.Test.YtmjjfdppaomcfaaAb8d
import Derived.Test.YtmjjfdppaomcfaaAb9
import Derived.Test.YtmjjfdppaomcfaaAb10
import Derived.Test.YtmjjfdppaomcfaaAb11
import Derived.Test.YtmjjfdppaomcfaaAb12
import Derived.Test.YtmjjfdppaomcfaaAb13
import Derived.Test.YtmjjfdppaomcfaaAb14
import Derived.Test.YtmjjfdppaomcfaaAb15
import Derived.Test.YtmjjfdppaomcfaaAb16
import Derived.Test.YtmjjfdppaomcfaaAb17
import Derived.Test.YtmjjfdppaomcfaaAb18
import Derived.Test.YtmjjfdppaomcfaaAb19
import Derived.Test.YtmjjfdppaomcfaaAb20
import Derived.Test.YtmjjfdppaomcfaaAb21
import Derived.Test.YtmjjfdppaomcfaaAb22
import Derived.Test.YtmjjfdppaomcfaaAb23
import Derived.Test.YtmjjfdppaomcfaaAb24
import Derived.Test.YtmjjfdppaomcfaaAb25
import Derived.Test.YtmjjfdppaomcfaaAb26
import Derived.Test.YtmjjfdppaomcfaaBw
import Derived.Test.YtmjjfdppaomcfaaQh1
set_option linter.unusedSimpArgs false
set_option linter.unusedVariables false
set_option linter.defProp false
/- Walks: the program reads lengths. -/
namespace Go.Proofs.Ytmjjfdppaomcfaa
open Go Go.Proofs.Ytmjjfdppaomcfaa.Ab
set_option maxRecDepth 100000
set_option linter.unusedSimpArgs false

def lenOut : Except Flt (Option Nat × Nat) → AOut
  | .ok (some n, p) => .ret (.tup [.v (.int .i64 (n : Int)), .v (.bool false), .v (.int .i64 (p : Int))])
  | .ok (none, p) => .ret (.tup [.v (.int .i64 0), .v (.bool true), .v (.int .i64 (p : Int))])
  | .error e => .pan (fltV e)
theorem shl8 {n : Nat} (h : n ≤ 4000) : IntKind.i64.wrap ((n : Int) * 2 ^ min (8 : Int).toNat IntKind.i64.bits) = ((n * 256 : Nat) : Int) := by
  rw [show (2 : Int) ^ min (8 : Int).toNat IntKind.i64.bits = 256 from by decide, wrapI (by omega) (by omega)]; omega
set_option maxHeartbeats 1000000 in
theorem len65 (b : ByteArray) (hb : b.size ≤ 4000) (r at_ lim : Nat) (bl : Bool) (cnt : AV) (hl : lim ≤ b.size) (H : AH) (hro : H.own r = some (.cells [.v (.string b), cnt])) :
    ACall Try.prog 65 [.ptr r 0, .v (.int .i64 (at_ : Int)), .v (.int .i64 (lim : Int)), .v (.bool bl)] H (fun out H' => out = lenOut (lenOf b at_ lim bl) ∧ H' = H) := by
  refine ACall.enter [] Cd.fn65 (by simp) ?_
  simp only [Cd.cd65, Tk.t65, base0, base1, base2, base3, Option.isNone_none, Option.isNone_some, Nat.reduceBEq, true_or, or_true, false_or, or_false, Nat.reduceLT, Nat.reduceMod, Nat.reducePow, rmaps, nsucc, List.flatten_cons, List.flatten_nil, Nat.reduceEqDiff, Nat.reduceLeDiff, Nat.reduceAdd, Nat.reduceMul, Nat.reduceSub, ↓reduceIte, reduceCtorEq, decide_true, decide_false]
  by_cases h : at_ < lim
  rotate_left
  · refine (need_no h).pan ?_
    simp only [Cd.cd65, Tk.t65, base0, base1, base2, base3, Option.isNone_none, Option.isNone_some, Nat.reduceBEq, true_or, or_true, false_or, or_false, Nat.reduceLT, Nat.reduceMod, Nat.reducePow, rmaps, nsucc, List.flatten_cons, List.flatten_nil, Nat.reduceEqDiff, Nat.reduceLeDiff, Nat.reduceAdd, Nat.reduceMul, Nat.reduceSub, ↓reduceIte, reduceCtorEq, decide_true, decide_false]
    unfold lenOf; rw [if_neg h]
    first | rfl | exact ⟨rfl, rfl⟩
  · refine (need_ok h).one ?_
    have hc := bt_lt b at_
    generalize hcc : bt b at_ = c at hc
    have hg := sget (s := b) (i := at_) (by omega)
    rw [hcc] at hg
    simp only [hro, Int.toNat_natCast, hg, Int.natCast_nonneg, wrapN (show c < 2 ^ 62 by omega), Cd.cd65, Tk.t65, base0, base1, base2, base3, Option.isNone_none, Option.isNone_some, Nat.reduceBEq, true_or, or_true, false_or, or_false, Nat.reduceLT, Nat.reduceMod, Nat.reducePow, rmaps, nsucc, List.flatten_cons, List.flatten_nil, Nat.reduceEqDiff, Nat.reduceLeDiff, Nat.reduceAdd, Nat.reduceMul, Nat.reduceSub, ↓reduceIte, reduceCtorEq, decide_true, decide_false]
    by_cases h1 : c < 128
    · simp only [show decide ((c : Int) < 128) = true from decide_eq_true (by omega), wrapS (show at_ < 2 ^ 62 by omega), Cd.cd65, Tk.t65, base0, base1, base2, base3, Option.isNone_none, Option.isNone_some, Nat.reduceBEq, true_or, or_true, false_or, or_false, Nat.reduceLT, Nat.reduceMod, Nat.reducePow, rmaps, nsucc, List.flatten_cons, List.flatten_nil, Nat.reduceEqDiff, Nat.reduceLeDiff, Nat.reduceAdd, Nat.reduceMul, Nat.reduceSub, ↓reduceIte, reduceCtorEq, decide_true, decide_false]
      unfold lenOf; rw [if_pos h, hcc, if_pos h1]
      first | rfl | exact ⟨rfl, rfl⟩
    simp only [show decide ((c : Int) < 128) = false from decide_eq_false (by omega), Cd.cd65, Tk.t65, base0, base1, base2, base3, Option.isNone_none, Option.isNone_some, Nat.reduceBEq, true_or, or_true, false_or, or_false, Nat.reduceLT, Nat.reduceMod, Nat.reducePow, rmaps, nsucc, List.flatten_cons, List.flatten_nil, Nat.reduceEqDiff, Nat.reduceLeDiff, Nat.reduceAdd, Nat.reduceMul, Nat.reduceSub, ↓reduceIte, reduceCtorEq, decide_true, decide_false]
    by_cases h2 : c = 255 ∨ (c = 128 ∧ bl = false)
    · have hpan : lenOf b at_ lim bl = .error (at_, 19) := by unfold lenOf; rw [if_pos h, hcc, if_neg h1, if_pos h2]
      rw [hpan]
      by_cases h3 : c = 255
      · simp only [show ((c : Int) == 255) = true from by simp; omega, Cd.cd65, Tk.t65, base0, base1, base2, base3, Option.isNone_none, Option.isNone_some, Nat.reduceBEq, true_or, or_true, false_or, or_false, Nat.reduceLT, Nat.reduceMod, Nat.reducePow, rmaps, nsucc, List.flatten_cons, List.flatten_nil, Nat.reduceEqDiff, Nat.reduceLeDiff, Nat.reduceAdd, Nat.reduceMul, Nat.reduceSub, ↓reduceIte, reduceCtorEq, decide_true, decide_false]
        refine (fail66 _ _ _).pan ?_
        simp only [Cd.cd65, Tk.t65, base0, base1, base2, base3, Option.isNone_none, Option.isNone_some, Nat.reduceBEq, true_or, or_true, false_or, or_false, Nat.reduceLT, Nat.reduceMod, Nat.reducePow, rmaps, nsucc, List.flatten_cons, List.flatten_nil, Nat.reduceEqDiff, Nat.reduceLeDiff, Nat.reduceAdd, Nat.reduceMul, Nat.reduceSub, ↓reduceIte, reduceCtorEq, decide_true, decide_false]
        first | rfl | exact ⟨rfl, rfl⟩
      · obtain ⟨h4, rfl⟩ : c = 128 ∧ bl = false := h2.resolve_left h3
        simp only [show ((c : Int) == 255) = false from by simp; omega, show ((c : Int) == 128) = true from by simp; omega, Cd.cd65, Tk.t65, base0, base1, base2, base3, Option.isNone_none, Option.isNone_some, Nat.reduceBEq, true_or, or_true, false_or, or_false, Nat.reduceLT, Nat.reduceMod, Nat.reducePow, rmaps, nsucc, List.flatten_cons, List.flatten_nil, Nat.reduceEqDiff, Nat.reduceLeDiff, Nat.reduceAdd, Nat.reduceMul, Nat.reduceSub, ↓reduceIte, reduceCtorEq, decide_true, decide_false]
        refine (fail66 _ _ _).pan ?_
        simp only [Cd.cd65, Tk.t65, base0, base1, base2, base3, Option.isNone_none, Option.isNone_some, Nat.reduceBEq, true_or, or_true, false_or, or_false, Nat.reduceLT, Nat.reduceMod, Nat.reducePow, rmaps, nsucc, List.flatten_cons, List.flatten_nil, Nat.reduceEqDiff, Nat.reduceLeDiff, Nat.reduceAdd, Nat.reduceMul, Nat.reduceSub, ↓reduceIte, reduceCtorEq, decide_true, decide_false]
        first | rfl | exact ⟨rfl, rfl⟩
    have e255 : ((c : Int) == 255) = false := by simp; omega
    by_cases h3 : c = 128
    · have hbl : bl = true := by cases bl <;> simp_all
      subst hbl
      simp only [e255, show ((c : Int) == 128) = true from by simp; omega, wrapS (show at_ < 2 ^ 62 by omega), Cd.cd65, Tk.t65, base0, base1, base2, base3, Option.isNone_none, Option.isNone_some, Nat.reduceBEq, true_or, or_true, false_or, or_false, Nat.reduceLT, Nat.reduceMod, Nat.reducePow, rmaps, nsucc, List.flatten_cons, List.flatten_nil, Nat.reduceEqDiff, Nat.reduceLeDiff, Nat.reduceAdd, Nat.reduceMul, Nat.reduceSub, ↓reduceIte, reduceCtorEq, decide_true, decide_false]
      unfold lenOf; rw [if_pos h, hcc, if_neg h1, if_neg h2, if_pos h3]
      first | rfl | exact ⟨rfl, rfl⟩
    have hres : lenOf b at_ lim bl = match lenL b lim (c - 128) (at_ + 1) 0 with
      | .ok n => .ok (some n, at_ + 1 + (c - 128))
      | .error e => .error e := by unfold lenOf; rw [if_pos h, hcc, if_neg h1, if_neg h2, if_neg h3] <;> rfl
    rw [hres]
    generalize hT : lenL b lim (c - 128) (at_ + 1) 0 = T
    simp only [e255, show ((c : Int) == 128) = false from by simp; omega, show IntKind.i64.wrap ((c : Int) - 128) = ((c - 128 : Nat) : Int) from by rw [wrapI (by omega) (by omega)]; omega, Cd.cd65, Tk.t65, base0, base1, base2, base3, Option.isNone_none, Option.isNone_some, Nat.reduceBEq, true_or, or_true, false_or, or_false, Nat.reduceLT, Nat.reduceMod, Nat.reducePow, rmaps, nsucc, List.flatten_cons, List.flatten_nil, Nat.reduceEqDiff, Nat.reduceLeDiff, Nat.reduceAdd, Nat.reduceMul, Nat.reduceSub, ↓reduceIte, reduceCtorEq, decide_true, decide_false]
    refine LWP.loop [] (fun m f H' => ∃ i n, m = c - 128 - i ∧ (i ≤ c - 128) ∧ (n ≤ 4000) ∧ (lenL b lim (c - 128 - i) (at_ + 1 + i) n = T) ∧ f.t 0 = .ptr r 0 ∧ f.t 1 = .v (.int .i64 (at_ : Nat)) ∧ f.t 2 = .v (.int .i64 (lim : Nat)) ∧ f.t 11 = .v (.int .i64 (c : Nat)) ∧ f.t 12 = .v (.int .i64 (n : Nat)) ∧ f.t 47 = .v (.int .i64 (c - 128 : Nat)) ∧ f.t 48 = .v (.int .i64 (i : Nat)) ∧ f.ds = [] ∧ H' = H) ?_ ?_ (m := c - 128 - (0))
    · exact ⟨0, 0, rfl, (by omega), (by omega), (hT), rfl, rfl, rfl, rfl, rfl, rfl, rfl, rfl, rfl⟩
    · rintro m f H' ⟨i, n, rfl, hi, hn, hT, f0, f1, f2, f11, f12, f47, f48, hds, hH⟩
      subst hH
      by_cases hlt : i < c - 128
      · have ep : IntKind.i64.wrap (IntKind.i64.wrap ((at_ : Int) + 1) + (i : Int)) = ((at_ + 1 + i : Nat) : Int) := by rw [wrapI (x := (at_ : Int) + 1) (by omega) (by omega), wrapI (by omega) (by omega)]; omega
        simp only [show decide ((i : Int) < ((c - 128 : Nat) : Int)) = true from decide_eq_true (by omega), ep, f0, f1, f2, f11, f12, f47, f48, hds, Cd.cd65, Tk.t65, base0, base1, base2, base3, Option.isNone_none, Option.isNone_some, Nat.reduceBEq, true_or, or_true, false_or, or_false, Nat.reduceLT, Nat.reduceMod, Nat.reducePow, rmaps, nsucc, List.flatten_cons, List.flatten_nil, Nat.reduceEqDiff, Nat.reduceLeDiff, Nat.reduceAdd, Nat.reduceMul, Nat.reduceSub, ↓reduceIte, reduceCtorEq, decide_true, decide_false]
        obtain ⟨k, hk⟩ : ∃ k, c - 128 - i = k + 1 := ⟨c - 128 - i - 1, by omega⟩
        rw [hk] at hT
        by_cases hpl : at_ + 1 + i < lim
        rotate_left
        · refine (need_no hpl).pan ?_
          simp only [lenL, if_neg hpl] at hT
          simp only [f0, f1, f2, f11, f12, f47, f48, hds, Cd.cd65, Tk.t65, base0, base1, base2, base3, Option.isNone_none, Option.isNone_some, Nat.reduceBEq, true_or, or_true, false_or, or_false, Nat.reduceLT, Nat.reduceMod, Nat.reducePow, rmaps, nsucc, List.flatten_cons, List.flatten_nil, Nat.reduceEqDiff, Nat.reduceLeDiff, Nat.reduceAdd, Nat.reduceMul, Nat.reduceSub, ↓reduceIte, reduceCtorEq, decide_true, decide_false]
          rw [← hT]
          first | rfl | exact ⟨rfl, rfl⟩
        · refine (need_ok hpl).one ?_
          simp only [lenL, if_pos hpl] at hT
          have hcp := bt_lt b (at_ + 1 + i)
          simp only [hro, ep, lt80, Int.toNat_natCast, sget (s := b) (i := at_ + 1 + i) (by omega), Int.natCast_nonneg, wrapN (show bt b (at_ + 1 + i) < 2 ^ 62 by omega), shl8 hn, f0, f1, f2, f11, f12, f47, f48, hds, Cd.cd65, Tk.t65, base0, base1, base2, base3, Option.isNone_none, Option.isNone_some, Nat.reduceBEq, true_or, or_true, false_or, or_false, Nat.reduceLT, Nat.reduceMod, Nat.reducePow, rmaps, nsucc, List.flatten_cons, List.flatten_nil, Nat.reduceEqDiff, Nat.reduceLeDiff, Nat.reduceAdd, Nat.reduceMul, Nat.reduceSub, ↓reduceIte, reduceCtorEq, decide_true, decide_false]
          generalize hM : n * 256 + bt b (at_ + 1 + i) = M at hT
          have eM : IntKind.i64.wrap (((n * 256 : Nat) : Int) + ((bt b (at_ + 1 + i) : Nat) : Int)) = (M : Int) := by rw [wrapI (by omega) (by omega)]; omega
          by_cases hov : 4000 < M
          · simp only [eM, show decide (((M : Nat) : Int) > 4000) = true from decide_eq_true (by omega), ep, f0, f1, f2, f11, f12, f47, f48, hds, Cd.cd65, Tk.t65, base0, base1, base2, base3, Option.isNone_none, Option.isNone_some, Nat.reduceBEq, true_or, or_true, false_or, or_false, Nat.reduceLT, Nat.reduceMod, Nat.reducePow, rmaps, nsucc, List.flatten_cons, List.flatten_nil, Nat.reduceEqDiff, Nat.reduceLeDiff, Nat.reduceAdd, Nat.reduceMul, Nat.reduceSub, ↓reduceIte, reduceCtorEq, decide_true, decide_false]
            refine (fail66 _ _ _).pan ?_
            rw [if_pos hov] at hT
            simp only [f0, f1, f2, f11, f12, f47, f48, hds, Cd.cd65, Tk.t65, base0, base1, base2, base3, Option.isNone_none, Option.isNone_some, Nat.reduceBEq, true_or, or_true, false_or, or_false, Nat.reduceLT, Nat.reduceMod, Nat.reducePow, rmaps, nsucc, List.flatten_cons, List.flatten_nil, Nat.reduceEqDiff, Nat.reduceLeDiff, Nat.reduceAdd, Nat.reduceMul, Nat.reduceSub, ↓reduceIte, reduceCtorEq, decide_true, decide_false]
            rw [← hT]
            first | rfl | exact ⟨rfl, rfl⟩
          · rw [if_neg hov] at hT
            simp only [eM, show decide (((M : Nat) : Int) > 4000) = false from decide_eq_false (by omega), wrapS (show i < 2 ^ 62 by omega), f0, f1, f2, f11, f12, f47, f48, hds, Cd.cd65, Tk.t65, base0, base1, base2, base3, Option.isNone_none, Option.isNone_some, Nat.reduceBEq, true_or, or_true, false_or, or_false, Nat.reduceLT, Nat.reduceMod, Nat.reducePow, rmaps, nsucc, List.flatten_cons, List.flatten_nil, Nat.reduceEqDiff, Nat.reduceLeDiff, Nat.reduceAdd, Nat.reduceMul, Nat.reduceSub, ↓reduceIte, reduceCtorEq, decide_true, decide_false]
            refine ⟨_, by omega, i + 1, M, rfl, by omega, by omega, ?_, rfl, rfl⟩
            rw [← hT]; congr 1; omega
      · simp only [show decide ((i : Int) < ((c - 128 : Nat) : Int)) = false from decide_eq_false (by omega), f0, f1, f2, f11, f12, f47, f48, hds, Cd.cd65, Tk.t65, base0, base1, base2, base3, Option.isNone_none, Option.isNone_some, Nat.reduceBEq, true_or, or_true, false_or, or_false, Nat.reduceLT, Nat.reduceMod, Nat.reducePow, rmaps, nsucc, List.flatten_cons, List.flatten_nil, Nat.reduceEqDiff, Nat.reduceLeDiff, Nat.reduceAdd, Nat.reduceMul, Nat.reduceSub, ↓reduceIte, reduceCtorEq, decide_true, decide_false]
        have h0 : c - 128 - i = 0 := by omega
        rw [h0] at hT
        simp only [lenL] at hT
        rw [← hT]
        have ee : IntKind.i64.wrap (IntKind.i64.wrap (IntKind.i64.wrap ((at_ : Int) + 1) + (c : Int)) - 128) = ((at_ + 1 + (c - 128) : Nat) : Int) := by rw [wrapI (x := (at_ : Int) + 1) (by omega) (by omega), wrapI (x := (at_ : Int) + 1 + c) (by omega) (by omega), wrapI (by omega) (by omega)]; omega
        simp only [ee, f0, f1, f2, f11, f12, f47, f48, hds, Cd.cd65, Tk.t65, base0, base1, base2, base3, Option.isNone_none, Option.isNone_some, Nat.reduceBEq, true_or, or_true, false_or, or_false, Nat.reduceLT, Nat.reduceMod, Nat.reducePow, rmaps, nsucc, List.flatten_cons, List.flatten_nil, Nat.reduceEqDiff, Nat.reduceLeDiff, Nat.reduceAdd, Nat.reduceMul, Nat.reduceSub, ↓reduceIte, reduceCtorEq, decide_true, decide_false]
        first | rfl | exact ⟨rfl, rfl⟩
end Go.Proofs.Ytmjjfdppaomcfaa

/- Walks: the program reads nodes. -/
namespace Go.Proofs.Ytmjjfdppaomcfaa
open Go Go.Proofs.Ytmjjfdppaomcfaa.Ab
set_option maxRecDepth 100000
set_option linter.unusedSimpArgs false

def hdL (h : Hd) (kids : AV) : List AV := [.v (.int .i64 (h.cls : Int)), .v (.int .i64 (h.num : Int)), .v (.bool h.built), .v (.bool h.opn), .v (.int .i64 (h.frm : Int)), .v (.int .i64 (h.len : Int)), .v (.int .i64 (h.body : Int)), .v (.int .i64 (h.stop : Int)), .v (.int .i64 (h.fin : Int)), .v (.int .i64 (h.deep : Int)), kids]
mutual
def treeV : Tree → AV
  | .mk h kids => .box (hdL h (.lst 1 (treesR kids) .unk))
def treesR : List Tree → List (List AV)
  | [] => []
  | t :: l => [treeV t] :: treesR l
end
def encT (t : Tree) : List AV := [treeV t]
theorem treesR_eq : ∀ l : List Tree, treesR l = l.map encT
  | [] => rfl
  | t :: l => by simp only [treesR, List.map_cons, treesR_eq l, encT]
def treesV (l : List Tree) : AV := .lst 1 (l.map encT) .unk
theorem FZs.one {a : AV} (h : FZ a) : FZs [a] := FZs.cons h FZs.nil
theorem FZs.hdL {h : Hd} {k : AV} (hk : FZ k) : FZs (hdL h k) := by
  intro a ha
  simp only [Proofs.Ytmjjfdppaomcfaa.hdL, List.mem_cons, List.not_mem_nil, or_false] at ha
  rcases ha with rfl | rfl | rfl | rfl | rfl | rfl | rfl | rfl | rfl | rfl | rfl <;> first | exact FZ.v _ | exact hk
mutual
theorem FZ.treeV : ∀ t : Tree, FZ (treeV t)
  | .mk h kids => by
    rw [Proofs.Ytmjjfdppaomcfaa.treeV]
    exact FZ.box (FZs.hdL (FZ.lst rfl (FZs.treesR kids)))
theorem FZs.treesR : ∀ l : List Tree, ∀ r ∈ treesR l, FZs r
  | [], r, h => by simp [Proofs.Ytmjjfdppaomcfaa.treesR] at h
  | t :: l, r, h => by
    rw [Proofs.Ytmjjfdppaomcfaa.treesR] at h
    rcases List.mem_cons.mp h with h | h
    · rw [h]; exact FZs.one (FZ.treeV t)
    · exact FZs.treesR l r h
end
theorem FZs.encT (t : Tree) : FZs (encT t) := FZs.one (FZ.treeV t)
theorem treeV_eq (h : Hd) (kids : List Tree) : treeV (.mk h kids) = .box (hdL h (treesV kids)) := by rw [treeV, treesR_eq]; rfl

def rdL (b : ByteArray) (c : Nat) : List AV := [.v (.string b), .v (.int .i64 (c : Int))]
/-- what a node's reading leaves -/
def NodeR (b : ByteArray) (r : Nat) (H : AH) (x : Except Flt (Tree × Nat)) : AOut → AH → Prop := fun out H' =>
  Kp H H' (· = r) ∧ match x with
    | .ok (t, c) => out = .ret (treeV t) ∧ H'.own r = some (.cells (rdL b c))
    | .error e => out = .pan (fltV e)
theorem NodeR.go {P : Program} {mu : List Nat} {K : Kont} {f : AF} {H : AH} {m : FuncId} {args : List AV} {dst : Option Nat} {os : List COp} {b : ByteArray} {r : Nat} {x : Except Flt (Tree × Nat)} (h : ACall P m args H (NodeR b r H x))
    (hp : ∀ e H1, x = .error e → Kp H H1 (· = r) → K.run (.panic (fltV e)) f H1)
    (hr : ∀ t c H1, x = .ok (t, c) → Kp H H1 (· = r) → H1.own r = some (.cells (rdL b c)) → cops P mu K os (f.put dst (treeV t)) H1) : ACall P m args H (callK P mu K dst os f) :=
  h.mono fun out H1 hq => by
    obtain ⟨hk, hx⟩ := hq
    cases x with
    | error e => subst hx; exact hp e H1 rfl hk
    | ok y => obtain ⟨t, c⟩ := y; obtain ⟨rfl, ho⟩ := hx; exact hr t c H1 rfl hk ho

theorem Kp.trans {H H1 H2 : AH} {r : Nat → Prop} (h : Kp H H1 r) (h' : Kp H1 H2 r) : Kp H H2 r :=
  ⟨Nat.le_trans h.next h'.next, fun n hn hr => (h'.own n (Nat.lt_of_lt_of_le hn h.next) hr).trans (h.own n hn hr), fun t ht => (h'.tip t (Nat.lt_of_lt_of_le ht h.next)).trans (h.tip t ht)⟩
theorem Kp.weak {H H1 : AH} {r r' : Nat → Prop} (h : Kp H H1 r) (hr : ∀ n, r n → r' n) : Kp H H1 r' := ⟨h.next, fun n hn hx => h.own n hn fun e => hx (hr n e), h.tip⟩

def GrowT {α : Type} (N : Nat) (enc : α → List AV) (k : Nat) (H : AH) (a : AV) (l : List α) : Prop :=
  (l = [] ∧ a = nilS) ∨ ∃ t, a = .lst k (l.map enc) (.live t) ∧ H.tip t = some l.length ∧ N ≤ t ∧ t < H.next
theorem GrowT.kp {α : Type} {N : Nat} {enc : α → List AV} {k : Nat} {H H' : AH} {a : AV} {l : List α} {r : Nat → Prop} (h : GrowT N enc k H a l) (hk : Kp H H' r) : GrowT N enc k H' a l := by
  rcases h with h | ⟨t, h1, h2, h3⟩
  · exact .inl h
  · exact .inr ⟨t, h1, (hk.tip t h3.2).trans h2, h3.1, Nat.lt_of_lt_of_le h3.2 hk.next⟩
theorem GrowT.view {α : Type} {N : Nat} {enc : α → List AV} {k : Nat} {H H' : AH} {a : AV} {l : List α} (h : GrowT N enc k H a l) (hz : ∀ x, FZs (enc x)) : View H' a (.lst k (l.map enc) .unk) := by
  rcases h with h | ⟨t, h1, h2, _⟩
  · exact (show GrowE enc k H a l from .inl h).view hz
  · exact (show GrowE enc k H a l from .inr ⟨t, h1, h2⟩).view hz
theorem GrowT.live {α : Type} {N : Nat} {enc : α → List AV} {k : Nat} {H : AH} {rows : List (List AV)} {t : Nat} {l : List α} (hr : rows = l.map enc) (ht : H.tip t = some l.length) (hn : N ≤ t ∧ t < H.next) : GrowT N enc k H (.lst k rows (.live t)) l := .inr ⟨t, by rw [hr], ht, hn⟩
theorem room1 {b n : Nat} (h : b * (n + 1) ≤ 140737488355328) (h' : n + 1 ≤ 140737488355328) : roomA b (n + 1) = true := by
  rw [Nat.mul_comm] at h; simp [roomA, h, h']
def untilOut (b : ByteArray) (r x : Nat) (cs : List AV) (H : AH) (y : Except Flt (List Tree × Nat × Nat)) : AOut → AH → Prop := fun out H' =>
  Kp H H' (fun n => n = r ∨ n = x) ∧ match y with
    | .ok (l, s, c) => out = .ret (.v (.int .i64 (s : Int))) ∧ H'.own r = some (.cells (rdL b c)) ∧ ∃ v, H'.own x = some (.cells (cs ++ [v])) ∧ GrowT H.next encT 1 H' v l
    | .error e => out = .pan (fltV e)
set_option maxHeartbeats 2000000 in
theorem until67 (b : ByteArray) (hb : b.size ≤ 4000) (r x lim c0 p0 d D : Nat) (hl : lim ≤ b.size) (hc0 : c0 ≤ 300) (hp0 : p0 ≤ lim) (hD : D < 20) (a0 a1 a2 a3 a4 a5 a7 a8 : AV) (hrx : r ≠ x) (H : AH) (hr : r < H.next) (hx : x < H.next)
    (hro : H.own r = some (.cells (rdL b c0))) (hxo : H.own x = some (.cells [a0, a1, a2, a3, a4, a5, .v (.int .i64 (p0 : Int)), a7, a8, .v (.int .i64 (D : Int)), nilS]))
    (ho : AV.one a0 = true ∧ AV.one a1 = true ∧ AV.one a2 = true ∧ AV.one a3 = true ∧ AV.one a4 = true ∧ AV.one a5 = true ∧ AV.one a7 = true ∧ AV.one a8 = true)
    (hN : ∀ p c H1, c ≤ 300 → r < H1.next → H1.own r = some (.cells (rdL b c)) → ACall Try.prog 56 [.ptr r 0, .v (.int .i64 (p : Nat)), .v (.int .i64 (lim : Nat)), .v (.int .i64 ((D + 1 : Nat) : Int))] H1 (NodeR b r H1 (rd b d p lim c))) :
    ACall Try.prog 67 [.ptr r 0, .ptr x 0, .v (.int .i64 (lim : Int))] H (untilOut b r x [a0, a1, a2, a3, a4, a5, .v (.int .i64 (p0 : Int)), a7, a8, .v (.int .i64 (D : Int))] H (openC (fun a c => rd b d a lim c) b lim (lim - p0 + 1) p0 c0 [])) := by
  obtain ⟨o0, o1, o2, o3, o4, o5, o7, o8⟩ := ho
  generalize hT : openC (fun a c => rd b d a lim c) b lim (lim - p0 + 1) p0 c0 [] = T
  refine ACall.enter [] Cd.fn67 (by simp) ?_
  simp only [hxo, o0, o1, o2, o3, o4, o5, o7, o8, Cd.cd67, Tk.t67, base0, base1, base2, base3, Option.isNone_none, Option.isNone_some, Nat.reduceBEq, true_or, or_true, false_or, or_false, Nat.reduceLT, Nat.reduceMod, Nat.reducePow, rmaps, nsucc, List.flatten_cons, List.flatten_nil, Nat.reduceEqDiff, Nat.reduceLeDiff, Nat.reduceAdd, Nat.reduceMul, Nat.reduceSub, ↓reduceIte, reduceCtorEq, decide_true, decide_false]
  refine LWP.loop [] (fun m f H' => ∃ p n c acc, m = lim - p ∧ (lim - p + 1 ≤ n) ∧ (p ≤ lim) ∧ (c ≤ 300) ∧ (acc.length ≤ c) ∧ (openC (fun a c => rd b d a lim c) b lim n p c acc = T) ∧ f.t 0 = .ptr r 0 ∧ f.t 1 = .ptr x 0 ∧ f.t 2 = .v (.int .i64 (lim : Nat)) ∧ f.t 7 = .v (.int .i64 (p : Nat)) ∧ f.ds = [] ∧ Kp H H' (fun n => n = r ∨ n = x) ∧ H'.own r = some (.cells (rdL b c)) ∧ ∃ v, H'.own x = some (.cells [a0, a1, a2, a3, a4, a5, .v (.int .i64 (p0 : Int)), a7, a8, .v (.int .i64 (D : Int)), v]) ∧ GrowT H.next encT 1 H' v acc) ?_ ?_ (m := lim - (p0))
  · exact ⟨p0, lim - p0 + 1, c0, [], rfl, (by omega), (by omega), (by omega), (by simp), (hT), rfl, rfl, rfl, rfl, rfl, ⟨Kp.refl _ _, hro, nilS, hxo, .inl ⟨rfl, rfl⟩⟩⟩
  · rintro m f H' ⟨p, n, c, acc, rfl, hn, hp, hc, hal, hT, f0, f1, f2, f7, hds, ⟨hk,hro,v,hxo,hg⟩⟩
    simp only [rdL] at hro
    have hkn := hk.next
    obtain ⟨n, rfl⟩ : ∃ n', n = n' + 1 := ⟨n - 1, by omega⟩
    simp only [openC] at hT
    have ep : IntKind.i64.wrap ((p : Int) + 1) = ((p + 1 : Nat) : Int) := wrapS (by omega)
    by_cases hz : p + 1 < lim ∧ bt b p = 0 ∧ bt b (p + 1) = 0
    · rw [if_pos hz] at hT
      obtain ⟨z1, z2, z3⟩ := hz
      simp only [ep, show decide (((p + 1 : Nat) : Int) < (lim : Int)) = true from decide_eq_true (by omega), hro, Int.toNat_natCast, Int.natCast_nonneg, sget (s := b) (i := p) (by omega), sget (s := b) (i := p + 1) (by omega), z2, z3, show (((0 : Nat) : Int) == 0) = true from rfl, f0, f1, f2, f7, hds, Cd.cd67, Tk.t67, base0, base1, base2, base3, Option.isNone_none, Option.isNone_some, Nat.reduceBEq, true_or, or_true, false_or, or_false, Nat.reduceLT, Nat.reduceMod, Nat.reducePow, rmaps, nsucc, List.flatten_cons, List.flatten_nil, Nat.reduceEqDiff, Nat.reduceLeDiff, Nat.reduceAdd, Nat.reduceMul, Nat.reduceSub, ↓reduceIte, reduceCtorEq, decide_true, decide_false]
      rw [← hT]
      exact ⟨hk, rfl, hro, v, hxo, hg⟩
    · rw [if_neg hz] at hT
      have hz' : (¬ p + 1 < lim) ∨ (p + 1 < lim ∧ bt b p ≠ 0) ∨ (p + 1 < lim ∧ bt b p = 0 ∧ bt b (p + 1) ≠ 0) := by omega
      rcases hz' with z1 | ⟨z1, z2⟩ | ⟨z1, z2, z3⟩
      · simp only [ep, show decide (((p + 1 : Nat) : Int) < (lim : Int)) = false from decide_eq_false (by omega), f0, f1, f2, f7, hds, Cd.cd67, Tk.t67, base0, base1, base2, base3, Option.isNone_none, Option.isNone_some, Nat.reduceBEq, true_or, or_true, false_or, or_false, Nat.reduceLT, Nat.reduceMod, Nat.reducePow, rmaps, nsucc, List.flatten_cons, List.flatten_nil, Nat.reduceEqDiff, Nat.reduceLeDiff, Nat.reduceAdd, Nat.reduceMul, Nat.reduceSub, ↓reduceIte, reduceCtorEq, decide_true, decide_false]
        by_cases hpl : p < lim
        rotate_left
        · simp only [show decide ((p : Int) ≥ (lim : Int)) = true from decide_eq_true (by omega), f0, f1, f2, f7, hds, Cd.cd67, Tk.t67, base0, base1, base2, base3, Option.isNone_none, Option.isNone_some, Nat.reduceBEq, true_or, or_true, false_or, or_false, Nat.reduceLT, Nat.reduceMod, Nat.reducePow, rmaps, nsucc, List.flatten_cons, List.flatten_nil, Nat.reduceEqDiff, Nat.reduceLeDiff, Nat.reduceAdd, Nat.reduceMul, Nat.reduceSub, ↓reduceIte, reduceCtorEq, decide_true, decide_false]
          refine (fail66 _ _ _).pan ?_
          simp only [f0, f1, f2, f7, hds, Cd.cd67, Tk.t67, base0, base1, base2, base3, Option.isNone_none, Option.isNone_some, Nat.reduceBEq, true_or, or_true, false_or, or_false, Nat.reduceLT, Nat.reduceMod, Nat.reducePow, rmaps, nsucc, List.flatten_cons, List.flatten_nil, Nat.reduceEqDiff, Nat.reduceLeDiff, Nat.reduceAdd, Nat.reduceMul, Nat.reduceSub, ↓reduceIte, reduceCtorEq, decide_true, decide_false]
          rw [if_pos (by omega)] at hT
          rw [← hT]
          exact ⟨hk, rfl⟩
        · rw [if_neg (by omega)] at hT
          simp only [show decide ((p : Int) ≥ (lim : Int)) = false from decide_eq_false (by omega), hxo, wrapS (show D < 2 ^ 62 by omega), f0, f1, f2, f7, hds, Cd.cd67, Tk.t67, base0, base1, base2, base3, Option.isNone_none, Option.isNone_some, Nat.reduceBEq, true_or, or_true, false_or, or_false, Nat.reduceLT, Nat.reduceMod, Nat.reducePow, rmaps, nsucc, List.flatten_cons, List.flatten_nil, Nat.reduceEqDiff, Nat.reduceLeDiff, Nat.reduceAdd, Nat.reduceMul, Nat.reduceSub, ↓reduceIte, reduceCtorEq, decide_true, decide_false]
          refine NodeR.go (hN p c H' hc (by omega) hro) (fun e H1 he hk1 => ?_) (fun t c' H1 he hk1 hro1 => ?_)
          · rw [he] at hT
            simp only [f0, f1, f2, f7, hds, Cd.cd67, Tk.t67, base0, base1, base2, base3, Option.isNone_none, Option.isNone_some, Nat.reduceBEq, true_or, or_true, false_or, or_false, Nat.reduceLT, Nat.reduceMod, Nat.reducePow, rmaps, nsucc, List.flatten_cons, List.flatten_nil, Nat.reduceEqDiff, Nat.reduceLeDiff, Nat.reduceAdd, Nat.reduceMul, Nat.reduceSub, ↓reduceIte, reduceCtorEq, decide_true, decide_false]
            rw [← hT]
            exact ⟨hk.trans (hk1.weak fun _ e => .inl e), rfl⟩
          · rw [he] at hT
            have hok := rd_ok b d lim p c t c' he
            have hkn1 := hk1.next
            have hxo1 := (hk1.own x (by omega) (Ne.symm hrx)).trans hxo
            have hg1 := hg.kp hk1
            obtain ⟨h, kids⟩ := t
            simp only [Tree.h] at hok hT
            have hkk := hk.trans (hk1.weak (r' := fun n => n = r ∨ n = x) fun _ e => .inl e)
            have htv := treeV_eq h kids
            have hxn : (r = x) = False := eq_false hrx
            rcases hg1 with ⟨rfl, rfl⟩ | ⟨t, rfl, ht1, ht2, ht3⟩
            · simp only [htv, hdL, hxo1, hxn, nilS, show roomA 8 1 = true from rfl, f0, f1, f2, f7, hds, Cd.cd67, Tk.t67, base0, base1, base2, base3, Option.isNone_none, Option.isNone_some, Nat.reduceBEq, true_or, or_true, false_or, or_false, Nat.reduceLT, Nat.reduceMod, Nat.reducePow, rmaps, nsucc, List.flatten_cons, List.flatten_nil, Nat.reduceEqDiff, Nat.reduceLeDiff, Nat.reduceAdd, Nat.reduceMul, Nat.reduceSub, ↓reduceIte, reduceCtorEq, decide_true, decide_false]
              refine ⟨fun _ _ => trivial, lim - h.fin, by omega, h.fin, n, c', [.mk h kids], rfl, by omega, by omega, by omega, by simp; omega, by rw [← hT]; rfl, rfl, ⟨by simp; omega, fun m hm hne => ?_, fun s hs => ?_⟩, hro1, _, rfl, GrowT.live (by simp [encT, htv, hdL]) (by simp) ⟨by omega, by simp⟩⟩
              · simp [show m ≠ x from fun e => hne (.inr e)]; exact hkk.own m hm hne
              · simp [show s ≠ H1.next by omega]; exact hkk.tip s hs
            · simp only [htv, hdL, hxo1, hxn, ht1, List.length_map, room1 (b := 8) (n := acc.length) (by omega) (by omega), f0, f1, f2, f7, hds, Cd.cd67, Tk.t67, base0, base1, base2, base3, Option.isNone_none, Option.isNone_some, Nat.reduceBEq, true_or, or_true, false_or, or_false, Nat.reduceLT, Nat.reduceMod, Nat.reducePow, rmaps, nsucc, List.flatten_cons, List.flatten_nil, Nat.reduceEqDiff, Nat.reduceLeDiff, Nat.reduceAdd, Nat.reduceMul, Nat.reduceSub, ↓reduceIte, reduceCtorEq, decide_true, decide_false]
              refine ⟨fun _ _ => trivial, lim - h.fin, by omega, h.fin, n, c', acc ++ [.mk h kids], rfl, by omega, by omega, by omega, by simp; omega, hT, rfl, ⟨hkk.next, fun m hm hne => ?_, fun s hs => ?_⟩, hro1, _, rfl, GrowT.live (by simp [encT, htv, hdL]) (by simp) ⟨ht2, ht3⟩⟩
              · simp [show m ≠ x from fun e => hne (.inr e)]; exact hkk.own m hm hne
              · simp [show s ≠ t by omega]; exact hkk.tip s hs
      · simp only [ep, show decide (((p + 1 : Nat) : Int) < (lim : Int)) = true from decide_eq_true (by omega), hro, Int.toNat_natCast, Int.natCast_nonneg, sget (s := b) (i := p) (by omega), show (((bt b p : Nat) : Int) == 0) = false from by simp; omega, f0, f1, f2, f7, hds, Cd.cd67, Tk.t67, base0, base1, base2, base3, Option.isNone_none, Option.isNone_some, Nat.reduceBEq, true_or, or_true, false_or, or_false, Nat.reduceLT, Nat.reduceMod, Nat.reducePow, rmaps, nsucc, List.flatten_cons, List.flatten_nil, Nat.reduceEqDiff, Nat.reduceLeDiff, Nat.reduceAdd, Nat.reduceMul, Nat.reduceSub, ↓reduceIte, reduceCtorEq, decide_true, decide_false]
        by_cases hpl : p < lim
        rotate_left
        · simp only [show decide ((p : Int) ≥ (lim : Int)) = true from decide_eq_true (by omega), f0, f1, f2, f7, hds, Cd.cd67, Tk.t67, base0, base1, base2, base3, Option.isNone_none, Option.isNone_some, Nat.reduceBEq, true_or, or_true, false_or, or_false, Nat.reduceLT, Nat.reduceMod, Nat.reducePow, rmaps, nsucc, List.flatten_cons, List.flatten_nil, Nat.reduceEqDiff, Nat.reduceLeDiff, Nat.reduceAdd, Nat.reduceMul, Nat.reduceSub, ↓reduceIte, reduceCtorEq, decide_true, decide_false]
          refine (fail66 _ _ _).pan ?_
          simp only [f0, f1, f2, f7, hds, Cd.cd67, Tk.t67, base0, base1, base2, base3, Option.isNone_none, Option.isNone_some, Nat.reduceBEq, true_or, or_true, false_or, or_false, Nat.reduceLT, Nat.reduceMod, Nat.reducePow, rmaps, nsucc, List.flatten_cons, List.flatten_nil, Nat.reduceEqDiff, Nat.reduceLeDiff, Nat.reduceAdd, Nat.reduceMul, Nat.reduceSub, ↓reduceIte, reduceCtorEq, decide_true, decide_false]
          rw [if_pos (by omega)] at hT
          rw [← hT]
          exact ⟨hk, rfl⟩
        · rw [if_neg (by omega)] at hT
          simp only [show decide ((p : Int) ≥ (lim : Int)) = false from decide_eq_false (by omega), hxo, wrapS (show D < 2 ^ 62 by omega), f0, f1, f2, f7, hds, Cd.cd67, Tk.t67, base0, base1, base2, base3, Option.isNone_none, Option.isNone_some, Nat.reduceBEq, true_or, or_true, false_or, or_false, Nat.reduceLT, Nat.reduceMod, Nat.reducePow, rmaps, nsucc, List.flatten_cons, List.flatten_nil, Nat.reduceEqDiff, Nat.reduceLeDiff, Nat.reduceAdd, Nat.reduceMul, Nat.reduceSub, ↓reduceIte, reduceCtorEq, decide_true, decide_false]
          refine NodeR.go (hN p c H' hc (by omega) hro) (fun e H1 he hk1 => ?_) (fun t c' H1 he hk1 hro1 => ?_)
          · rw [he] at hT
            simp only [f0, f1, f2, f7, hds, Cd.cd67, Tk.t67, base0, base1, base2, base3, Option.isNone_none, Option.isNone_some, Nat.reduceBEq, true_or, or_true, false_or, or_false, Nat.reduceLT, Nat.reduceMod, Nat.reducePow, rmaps, nsucc, List.flatten_cons, List.flatten_nil, Nat.reduceEqDiff, Nat.reduceLeDiff, Nat.reduceAdd, Nat.reduceMul, Nat.reduceSub, ↓reduceIte, reduceCtorEq, decide_true, decide_false]
            rw [← hT]
            exact ⟨hk.trans (hk1.weak fun _ e => .inl e), rfl⟩
          · rw [he] at hT
            have hok := rd_ok b d lim p c t c' he
            have hkn1 := hk1.next
            have hxo1 := (hk1.own x (by omega) (Ne.symm hrx)).trans hxo
            have hg1 := hg.kp hk1
            obtain ⟨h, kids⟩ := t
            simp only [Tree.h] at hok hT
            have hkk := hk.trans (hk1.weak (r' := fun n => n = r ∨ n = x) fun _ e => .inl e)
            have htv := treeV_eq h kids
            have hxn : (r = x) = False := eq_false hrx
            rcases hg1 with ⟨rfl, rfl⟩ | ⟨t, rfl, ht1, ht2, ht3⟩
            · simp only [htv, hdL, hxo1, hxn, nilS, show roomA 8 1 = true from rfl, f0, f1, f2, f7, hds, Cd.cd67, Tk.t67, base0, base1, base2, base3, Option.isNone_none, Option.isNone_some, Nat.reduceBEq, true_or, or_true, false_or, or_false, Nat.reduceLT, Nat.reduceMod, Nat.reducePow, rmaps, nsucc, List.flatten_cons, List.flatten_nil, Nat.reduceEqDiff, Nat.reduceLeDiff, Nat.reduceAdd, Nat.reduceMul, Nat.reduceSub, ↓reduceIte, reduceCtorEq, decide_true, decide_false]
              refine ⟨fun _ _ => trivial, lim - h.fin, by omega, h.fin, n, c', [.mk h kids], rfl, by omega, by omega, by omega, by simp; omega, by rw [← hT]; rfl, rfl, ⟨by simp; omega, fun m hm hne => ?_, fun s hs => ?_⟩, hro1, _, rfl, GrowT.live (by simp [encT, htv, hdL]) (by simp) ⟨by omega, by simp⟩⟩
              · simp [show m ≠ x from fun e => hne (.inr e)]; exact hkk.own m hm hne
              · simp [show s ≠ H1.next by omega]; exact hkk.tip s hs
            · simp only [htv, hdL, hxo1, hxn, ht1, List.length_map, room1 (b := 8) (n := acc.length) (by omega) (by omega), f0, f1, f2, f7, hds, Cd.cd67, Tk.t67, base0, base1, base2, base3, Option.isNone_none, Option.isNone_some, Nat.reduceBEq, true_or, or_true, false_or, or_false, Nat.reduceLT, Nat.reduceMod, Nat.reducePow, rmaps, nsucc, List.flatten_cons, List.flatten_nil, Nat.reduceEqDiff, Nat.reduceLeDiff, Nat.reduceAdd, Nat.reduceMul, Nat.reduceSub, ↓reduceIte, reduceCtorEq, decide_true, decide_false]
              refine ⟨fun _ _ => trivial, lim - h.fin, by omega, h.fin, n, c', acc ++ [.mk h kids], rfl, by omega, by omega, by omega, by simp; omega, hT, rfl, ⟨hkk.next, fun m hm hne => ?_, fun s hs => ?_⟩, hro1, _, rfl, GrowT.live (by simp [encT, htv, hdL]) (by simp) ⟨ht2, ht3⟩⟩
              · simp [show m ≠ x from fun e => hne (.inr e)]; exact hkk.own m hm hne
              · simp [show s ≠ t by omega]; exact hkk.tip s hs
      · simp only [ep, show decide (((p + 1 : Nat) : Int) < (lim : Int)) = true from decide_eq_true (by omega), hro, Int.toNat_natCast, Int.natCast_nonneg, sget (s := b) (i := p) (by omega), sget (s := b) (i := p + 1) (by omega), z2, show (((bt b (p + 1) : Nat) : Int) == 0) = false from by simp; omega, show (((0 : Nat) : Int) == 0) = true from rfl, f0, f1, f2, f7, hds, Cd.cd67, Tk.t67, base0, base1, base2, base3, Option.isNone_none, Option.isNone_some, Nat.reduceBEq, true_or, or_true, false_or, or_false, Nat.reduceLT, Nat.reduceMod, Nat.reducePow, rmaps, nsucc, List.flatten_cons, List.flatten_nil, Nat.reduceEqDiff, Nat.reduceLeDiff, Nat.reduceAdd, Nat.reduceMul, Nat.reduceSub, ↓reduceIte, reduceCtorEq, decide_true, decide_false]
        by_cases hpl : p < lim
        rotate_left
        · simp only [show decide ((p : Int) ≥ (lim : Int)) = true from decide_eq_true (by omega), f0, f1, f2, f7, hds, Cd.cd67, Tk.t67, base0, base1, base2, base3, Option.isNone_none, Option.isNone_some, Nat.reduceBEq, true_or, or_true, false_or, or_false, Nat.reduceLT, Nat.reduceMod, Nat.reducePow, rmaps, nsucc, List.flatten_cons, List.flatten_nil, Nat.reduceEqDiff, Nat.reduceLeDiff, Nat.reduceAdd, Nat.reduceMul, Nat.reduceSub, ↓reduceIte, reduceCtorEq, decide_true, decide_false]
          refine (fail66 _ _ _).pan ?_
          simp only [f0, f1, f2, f7, hds, Cd.cd67, Tk.t67, base0, base1, base2, base3, Option.isNone_none, Option.isNone_some, Nat.reduceBEq, true_or, or_true, false_or, or_false, Nat.reduceLT, Nat.reduceMod, Nat.reducePow, rmaps, nsucc, List.flatten_cons, List.flatten_nil, Nat.reduceEqDiff, Nat.reduceLeDiff, Nat.reduceAdd, Nat.reduceMul, Nat.reduceSub, ↓reduceIte, reduceCtorEq, decide_true, decide_false]
          rw [if_pos (by omega)] at hT
          rw [← hT]
          exact ⟨hk, rfl⟩
        · rw [if_neg (by omega)] at hT
          simp only [show decide ((p : Int) ≥ (lim : Int)) = false from decide_eq_false (by omega), hxo, wrapS (show D < 2 ^ 62 by omega), f0, f1, f2, f7, hds, Cd.cd67, Tk.t67, base0, base1, base2, base3, Option.isNone_none, Option.isNone_some, Nat.reduceBEq, true_or, or_true, false_or, or_false, Nat.reduceLT, Nat.reduceMod, Nat.reducePow, rmaps, nsucc, List.flatten_cons, List.flatten_nil, Nat.reduceEqDiff, Nat.reduceLeDiff, Nat.reduceAdd, Nat.reduceMul, Nat.reduceSub, ↓reduceIte, reduceCtorEq, decide_true, decide_false]
          refine NodeR.go (hN p c H' hc (by omega) hro) (fun e H1 he hk1 => ?_) (fun t c' H1 he hk1 hro1 => ?_)
          · rw [he] at hT
            simp only [f0, f1, f2, f7, hds, Cd.cd67, Tk.t67, base0, base1, base2, base3, Option.isNone_none, Option.isNone_some, Nat.reduceBEq, true_or, or_true, false_or, or_false, Nat.reduceLT, Nat.reduceMod, Nat.reducePow, rmaps, nsucc, List.flatten_cons, List.flatten_nil, Nat.reduceEqDiff, Nat.reduceLeDiff, Nat.reduceAdd, Nat.reduceMul, Nat.reduceSub, ↓reduceIte, reduceCtorEq, decide_true, decide_false]
            rw [← hT]
            exact ⟨hk.trans (hk1.weak fun _ e => .inl e), rfl⟩
          · rw [he] at hT
            have hok := rd_ok b d lim p c t c' he
            have hkn1 := hk1.next
            have hxo1 := (hk1.own x (by omega) (Ne.symm hrx)).trans hxo
            have hg1 := hg.kp hk1
            obtain ⟨h, kids⟩ := t
            simp only [Tree.h] at hok hT
            have hkk := hk.trans (hk1.weak (r' := fun n => n = r ∨ n = x) fun _ e => .inl e)
            have htv := treeV_eq h kids
            have hxn : (r = x) = False := eq_false hrx
            rcases hg1 with ⟨rfl, rfl⟩ | ⟨t, rfl, ht1, ht2, ht3⟩
            · simp only [htv, hdL, hxo1, hxn, nilS, show roomA 8 1 = true from rfl, f0, f1, f2, f7, hds, Cd.cd67, Tk.t67, base0, base1, base2, base3, Option.isNone_none, Option.isNone_some, Nat.reduceBEq, true_or, or_true, false_or, or_false, Nat.reduceLT, Nat.reduceMod, Nat.reducePow, rmaps, nsucc, List.flatten_cons, List.flatten_nil, Nat.reduceEqDiff, Nat.reduceLeDiff, Nat.reduceAdd, Nat.reduceMul, Nat.reduceSub, ↓reduceIte, reduceCtorEq, decide_true, decide_false]
              refine ⟨fun _ _ => trivial, lim - h.fin, by omega, h.fin, n, c', [.mk h kids], rfl, by omega, by omega, by omega, by simp; omega, by rw [← hT]; rfl, rfl, ⟨by simp; omega, fun m hm hne => ?_, fun s hs => ?_⟩, hro1, _, rfl, GrowT.live (by simp [encT, htv, hdL]) (by simp) ⟨by omega, by simp⟩⟩
              · simp [show m ≠ x from fun e => hne (.inr e)]; exact hkk.own m hm hne
              · simp [show s ≠ H1.next by omega]; exact hkk.tip s hs
            · simp only [htv, hdL, hxo1, hxn, ht1, List.length_map, room1 (b := 8) (n := acc.length) (by omega) (by omega), f0, f1, f2, f7, hds, Cd.cd67, Tk.t67, base0, base1, base2, base3, Option.isNone_none, Option.isNone_some, Nat.reduceBEq, true_or, or_true, false_or, or_false, Nat.reduceLT, Nat.reduceMod, Nat.reducePow, rmaps, nsucc, List.flatten_cons, List.flatten_nil, Nat.reduceEqDiff, Nat.reduceLeDiff, Nat.reduceAdd, Nat.reduceMul, Nat.reduceSub, ↓reduceIte, reduceCtorEq, decide_true, decide_false]
              refine ⟨fun _ _ => trivial, lim - h.fin, by omega, h.fin, n, c', acc ++ [.mk h kids], rfl, by omega, by omega, by omega, by simp; omega, hT, rfl, ⟨hkk.next, fun m hm hne => ?_, fun s hs => ?_⟩, hro1, _, rfl, GrowT.live (by simp [encT, htv, hdL]) (by simp) ⟨ht2, ht3⟩⟩
              · simp [show m ≠ x from fun e => hne (.inr e)]; exact hkk.own m hm hne
              · simp [show s ≠ t by omega]; exact hkk.tip s hs
end Go.Proofs.Ytmjjfdppaomcfaa

/- Walks: the program reads nodes within nodes. -/
namespace Go.Proofs.Ytmjjfdppaomcfaa
open Go Go.Proofs.Ytmjjfdppaomcfaa.Ab
set_option maxRecDepth 100000
set_option linter.unusedSimpArgs false

section
variable {P : Program} {mu : List Nat} {K : Kont} {f fm : AF} {H H2 : AH} {m : FuncId} {args : List AV} {v : AV} {x : AOut} {r : Nat → Prop}
theorem goK {dst : Option Nat} {os : List COp} (h : ACall P m args H fun o H1 => o = x ∧ Kp H H1 r) (hx : x = .ret v) (h' : ∀ H1, Kp H H1 r → cops P mu K os (f.put dst v) H1) : ACall P m args H (callK P mu K dst os f) :=
  h.mono fun o H1 ⟨e, hk⟩ => by subst e; subst hx; exact h' H1 hk
theorem panK {dst : Option Nat} {os : List COp} (h : ACall P m args H fun o H1 => o = x ∧ Kp H H1 r) (hx : x = .pan v) (h' : ∀ H1, Kp H H1 r → K.run (.panic v) f H1) : ACall P m args H (callK P mu K dst os f) :=
  h.mono fun o H1 ⟨e, hk⟩ => by subst e; subst hx; exact h' H1 hk
theorem Ab.ACall.pan' {dst : Option Nat} {ds : List DOp} {pd : List (Nat × Nat × ABlk)} {rd : List Nat} (h : ACall P m args H fun o H1 => o = .pan v ∧ H1 = H2) (h' : K.run (.panic v) fm H2) : ACall P m args H (dcallK P mu K fm dst ds f pd rd) :=
  h.mono fun o H1 => by rintro ⟨rfl, rfl⟩; exact h'
end
theorem node_view {H' : AH} {N n : Nat} {h : Hd} {v : AV} {kids : List Tree} (hn : N ≤ n) (ho : H'.own n = some (.cells (hdL h v))) (hv : View (H'.above N) v (treesV kids)) : View (H'.above N) (.ptr n 0) (treeV (.mk h kids)) := by
  rw [treeV_eq]
  refine View.ptr (by rw [above_own hn]; exact ho) (by simp [hdL]) fun j hj => ?_
  have hj' : j < 11 := by simpa [hdL] using hj
  rw [Nat.zero_add]
  match j, hj' with
  | 0, _ => exact (FZ.v _).view
  | 1, _ => exact (FZ.v _).view
  | 2, _ => exact (FZ.v _).view
  | 3, _ => exact (FZ.v _).view
  | 4, _ => exact (FZ.v _).view
  | 5, _ => exact (FZ.v _).view
  | 6, _ => exact (FZ.v _).view
  | 7, _ => exact (FZ.v _).view
  | 8, _ => exact (FZ.v _).view
  | 9, _ => exact (FZ.v _).view
  | 10, _ => exact hv
theorem FZ.ifc {t : TypeId} {a : AV} (h : FZ a) : FZ (.ifc t a) := fun g g' x hg hx => by
  cases hx with
  | ifc hy => exact .ifc (h g g' _ hg hy)
theorem FZ.fltV (e : Flt) : FZ (fltV e) := by
  unfold Proofs.Ytmjjfdppaomcfaa.fltV
  exact FZ.ifc (FZ.agg (FZs.cons (FZ.v _) (FZs.cons (FZ.v _) FZs.nil)))
theorem Kp.below {H H' : AH} {r : Nat → Prop} (h : Kp H H' r) : Kp H (H'.below H.next) r :=
  ⟨h.next, fun n hn hr => (below_own hn).trans (h.own n hn hr), fun t ht => (if_pos ht).trans (h.tip t ht)⟩
theorem NodeR.pan {b : ByteArray} {r N : Nat} {H H' : AH} {x : Except Flt (Tree × Nat)} {e : Flt} (hN : H.next = N) (hx : x = .error e) (hk : Kp H H' (· = r)) : Frz N (NodeR b r H x) (.pan (fltV e)) H' := by
  subst hx hN
  exact Frz.pan (FZ.fltV e) ⟨hk.below, rfl⟩
theorem NodeR.ret {b : ByteArray} {r n c N : Nat} {H H' : AH} {x : Except Flt (Tree × Nat)} {h : Hd} {kids : List Tree} {v : AV} (hN : H.next = N) (hx : x = .ok (.mk h kids, c)) (hk : Kp H H' (· = r)) (hr : r < N) (hro : H'.own r = some (.cells (rdL b c))) (hn : N ≤ n) (ho : H'.own n = some (.cells (hdL h v))) (hv : View (H'.above N) v (treesV kids)) :
    Frz N (NodeR b r H x) (.ret (.ptr n 0)) H' := by
  subst hx hN
  exact Frz.ret (node_view hn ho hv) (FZ.treeV _) ⟨hk.below, rfl, (below_own hr).trans hro⟩

theorem untilOut.go {P : Program} {mu : List Nat} {K : Kont} {f : AF} {H : AH} {m : FuncId} {args : List AV} {dst : Option Nat} {os : List COp} {b : ByteArray} {r x : Nat} {cs : List AV} {y : Except Flt (List Tree × Nat × Nat)} (h : ACall P m args H (untilOut b r x cs H y))
    (hp : ∀ e H1, y = .error e → Kp H H1 (fun n => n = r ∨ n = x) → K.run (.panic (fltV e)) f H1)
    (hr : ∀ l s c H1 v, y = .ok (l, s, c) → Kp H H1 (fun n => n = r ∨ n = x) → H1.own r = some (.cells (rdL b c)) → H1.own x = some (.cells (cs ++ [v])) → GrowT H.next encT 1 H1 v l → cops P mu K os (f.put dst (.v (.int .i64 (s : Int)))) H1) : ACall P m args H (callK P mu K dst os f) :=
  h.mono fun out H1 hq => by
    obtain ⟨hk, hx⟩ := hq
    cases y with
    | error e => subst hx; exact hp e H1 rfl hk
    | ok z => obtain ⟨l, s, c⟩ := z; obtain ⟨rfl, h1, v, h2, h3⟩ := hx; exact hr l s c H1 v rfl hk h1 h2 h3

set_option maxHeartbeats 4000000 in
theorem node56 (b : ByteArray) (hb : b.size ≤ 4000) : ∀ (d : Nat), d ≤ 16 → ∀ (p lim c r : Nat) (H : AH), lim ≤ b.size → c ≤ 300 → r < H.next → H.own r = some (.cells (rdL b c)) →
    ACall Try.prog 56 [.ptr r 0, .v (.int .i64 (p : Int)), .v (.int .i64 (lim : Int)), .v (.int .i64 ((16 - d : Nat) : Int))] H (NodeR b r H (rd b d p lim c))
  | d, hd, p, lim, c, r, H, hl, hc, hr, hro => by
    refine ACall.freeze H.next ?_
    have hrn : (r = H.next) = False := eq_false (by omega)
    have hnr : (H.next = r) = False := eq_false (by omega)
    generalize hX : rd b d p lim c = X
    generalize hD : 16 - d = D
    simp only [rdL] at hro
    refine ACall.enter [16] Cd.fn56 (by simp) ?_
    simp only [Cd.cd56, Tk.t56, base0, base1, base2, base3, Option.isNone_none, Option.isNone_some, Nat.reduceBEq, true_or, or_true, false_or, or_false, Nat.reduceLT, Nat.reduceMod, Nat.reducePow, rmaps, nsucc, List.flatten_cons, List.flatten_nil, Nat.reduceEqDiff, Nat.reduceLeDiff, Nat.reduceAdd, Nat.reduceMul, Nat.reduceSub, ↓reduceIte, reduceCtorEq, decide_true, decide_false]
    cases hid : ident b p lim with
    | error e =>
      refine panK (ident64 b hb r p lim (.v (.int .i64 (c : Int))) hl _ (by simp; omega) (by simp [hrn, hro])) (by rw [hid]; rfl) fun H1 hk => ?_
      have hk1 : Kp H H1 (· = r) := ⟨by have := hk.next; simp only at this; omega, fun n hn _ => by have := hk.own n (by simp; omega) (fun h => h); simpa [show n ≠ H.next by omega] using this, fun t ht => hk.tip t (by simp; omega)⟩
      simp only [Cd.cd56, Tk.t56, base0, base1, base2, base3, Option.isNone_none, Option.isNone_some, Nat.reduceBEq, true_or, or_true, false_or, or_false, Nat.reduceLT, Nat.reduceMod, Nat.reducePow, rmaps, nsucc, List.flatten_cons, List.flatten_nil, Nat.reduceEqDiff, Nat.reduceLeDiff, Nat.reduceAdd, Nat.reduceMul, Nat.reduceSub, ↓reduceIte, reduceCtorEq, decide_true, decide_false]
      exact NodeR.pan rfl (by rw [← hX]; exact rd_e1 hid) hk1
    | ok y =>
      obtain ⟨cls, num, bl, p1⟩ := y
      refine goK (ident64 b hb r p lim (.v (.int .i64 (c : Int))) hl _ (by simp; omega) (by simp [hrn, hro])) (by rw [hid]; rfl) fun H1 hk => ?_
      have hkn := hk.next
      simp only at hkn
      have hxo := hk.own H.next (by simp) (fun h => h)
      have hro1 := hk.own r (by simp; omega) (fun h => h)
      simp only [if_true, hrn, if_false] at hxo hro1
      rw [hro] at hro1
      have hk1 : Kp H H1 (· = r) := ⟨by omega, fun n hn _ => by have := hk.own n (by simp; omega) (fun h => h); simpa [show n ≠ H.next by omega] using this, fun t ht => hk.tip t (by simp; omega)⟩
      generalize hn1 : H.next = n1 at *
      simp only [hxo, hro1, hrn, hnr, nilS, Cd.cd56, Tk.t56, base0, base1, base2, base3, Option.isNone_none, Option.isNone_some, Nat.reduceBEq, true_or, or_true, false_or, or_false, Nat.reduceLT, Nat.reduceMod, Nat.reducePow, rmaps, nsucc, List.flatten_cons, List.flatten_nil, Nat.reduceEqDiff, Nat.reduceLeDiff, Nat.reduceAdd, Nat.reduceMul, Nat.reduceSub, ↓reduceIte, reduceCtorEq, decide_true, decide_false]
      cases hlen : lenOf b p1 lim bl with
      | error e =>
        have hq := fun H2 (h2 : H2.own r = some (.cells [.v (.string b), .v (.int .i64 (c : Int))])) => len65 b hb r p1 lim bl (.v (.int .i64 (c : Int))) hl H2 h2
        simp only [hlen] at hq
        refine Ab.ACall.pan' (hq _ (by simp only [hrn, if_false]; exact hro1)) ?_
        simp only [Cd.cd56, Tk.t56, base0, base1, base2, base3, Option.isNone_none, Option.isNone_some, Nat.reduceBEq, true_or, or_true, false_or, or_false, Nat.reduceLT, Nat.reduceMod, Nat.reducePow, rmaps, nsucc, List.flatten_cons, List.flatten_nil, Nat.reduceEqDiff, Nat.reduceLeDiff, Nat.reduceAdd, Nat.reduceMul, Nat.reduceSub, ↓reduceIte, reduceCtorEq, decide_true, decide_false]
        refine ⟨rfl, NodeR.pan hn1 (by rw [← hX]; exact rd_e2 hid hlen) ⟨hk1.next, fun m hm hne => ?_, hk1.tip⟩⟩
        simp [show m ≠ n1 by omega]; exact hk1.own m hm hne
      | ok y =>
        obtain ⟨on, p2⟩ := y
        have hq := fun H2 (h2 : H2.own r = some (.cells [.v (.string b), .v (.int .i64 (c : Int))])) => len65 b hb r p1 lim bl (.v (.int .i64 (c : Int))) hl H2 h2
        simp only [hlen] at hq
        have q1 := ident_ok hid
        have q2 := lenOf_ok hlen
        have e1 : IntKind.i64.wrap ((c : Int) + 1) = ((c + 1 : Nat) : Int) := wrapS (by omega)
        have edD : decide ((D : Int) ≥ 16) = decide (d = 0) := by rw [decide_eq_decide]; omega
        cases on with
        | none =>
          refine ACall.one' (hq _ (by simp only [hrn, if_false]; exact hro1)) ?_
          simp only [hxo, hro1, hrn, hnr, nilS, e1, Cd.cd56, Tk.t56, base0, base1, base2, base3, Option.isNone_none, Option.isNone_some, Nat.reduceBEq, true_or, or_true, false_or, or_false, Nat.reduceLT, Nat.reduceMod, Nat.reducePow, rmaps, nsucc, List.flatten_cons, List.flatten_nil, Nat.reduceEqDiff, Nat.reduceLeDiff, Nat.reduceAdd, Nat.reduceMul, Nat.reduceSub, ↓reduceIte, reduceCtorEq, decide_true, decide_false]
          by_cases h300 : 300 < c + 1
          · simp only [show decide (((c + 1 : Nat) : Int) > 300) = true from decide_eq_true (by omega), Cd.cd56, Tk.t56, base0, base1, base2, base3, Option.isNone_none, Option.isNone_some, Nat.reduceBEq, true_or, or_true, false_or, or_false, Nat.reduceLT, Nat.reduceMod, Nat.reducePow, rmaps, nsucc, List.flatten_cons, List.flatten_nil, Nat.reduceEqDiff, Nat.reduceLeDiff, Nat.reduceAdd, Nat.reduceMul, Nat.reduceSub, ↓reduceIte, reduceCtorEq, decide_true, decide_false]
            refine (fail66 _ _ _).pan ?_
            simp only [Cd.cd56, Tk.t56, base0, base1, base2, base3, Option.isNone_none, Option.isNone_some, Nat.reduceBEq, true_or, or_true, false_or, or_false, Nat.reduceLT, Nat.reduceMod, Nat.reducePow, rmaps, nsucc, List.flatten_cons, List.flatten_nil, Nat.reduceEqDiff, Nat.reduceLeDiff, Nat.reduceAdd, Nat.reduceMul, Nat.reduceSub, ↓reduceIte, reduceCtorEq, decide_true, decide_false]
            exact NodeR.pan (e := (p, 34)) hn1 (by rw [← hX]; exact rd_e4 hid hlen rfl h300) ⟨hk1.next, fun m hm hne => by simp [show m ≠ n1 by omega, hne]; exact hk1.own m hm hne, hk1.tip⟩
          simp only [show decide (((c + 1 : Nat) : Int) > 300) = false from decide_eq_false (by omega), Cd.cd56, Tk.t56, base0, base1, base2, base3, Option.isNone_none, Option.isNone_some, Nat.reduceBEq, true_or, or_true, false_or, or_false, Nat.reduceLT, Nat.reduceMod, Nat.reducePow, rmaps, nsucc, List.flatten_cons, List.flatten_nil, Nat.reduceEqDiff, Nat.reduceLeDiff, Nat.reduceAdd, Nat.reduceMul, Nat.reduceSub, ↓reduceIte, reduceCtorEq, decide_true, decide_false]
          cases d with
          | zero =>
            simp only [show decide ((D : Int) ≥ 16) = true from decide_eq_true (by omega), Cd.cd56, Tk.t56, base0, base1, base2, base3, Option.isNone_none, Option.isNone_some, Nat.reduceBEq, true_or, or_true, false_or, or_false, Nat.reduceLT, Nat.reduceMod, Nat.reducePow, rmaps, nsucc, List.flatten_cons, List.flatten_nil, Nat.reduceEqDiff, Nat.reduceLeDiff, Nat.reduceAdd, Nat.reduceMul, Nat.reduceSub, ↓reduceIte, reduceCtorEq, decide_true, decide_false]
            refine (fail66 _ _ _).pan ?_
            simp only [Cd.cd56, Tk.t56, base0, base1, base2, base3, Option.isNone_none, Option.isNone_some, Nat.reduceBEq, true_or, or_true, false_or, or_false, Nat.reduceLT, Nat.reduceMod, Nat.reducePow, rmaps, nsucc, List.flatten_cons, List.flatten_nil, Nat.reduceEqDiff, Nat.reduceLeDiff, Nat.reduceAdd, Nat.reduceMul, Nat.reduceSub, ↓reduceIte, reduceCtorEq, decide_true, decide_false]
            exact NodeR.pan (e := (p, 2)) hn1 (by rw [← hX]; exact rd_e5 hid hlen rfl h300) ⟨hk1.next, fun m hm hne => by simp [show m ≠ n1 by omega, hne]; exact hk1.own m hm hne, hk1.tip⟩
          | succ d =>
            have hXT := rd_open (d := d) hid hlen h300
            rw [hX] at hXT
            have d15 : D = 15 - d := by omega
            have hIH : ∀ q c1 H3, c1 ≤ 300 → r < H3.next → H3.own r = some (.cells (rdL b c1)) → ACall Try.prog 56 [.ptr r 0, .v (.int .i64 (q : Nat)), .v (.int .i64 (lim : Nat)), .v (.int .i64 ((D + 1 : Nat) : Int))] H3 (NodeR b r H3 (rd b d q lim c1)) := fun q c1 H3 h1 h2 h3 => by
              have := node56 b hb d (by omega) q lim c1 r H3 hl h1 h2 h3
              rw [show 16 - d = D + 1 by omega] at this; exact this
            simp only [show decide ((D : Int) ≥ 16) = false from decide_eq_false (by omega), hxo, hro1, hrn, hnr, nilS, Cd.cd56, Tk.t56, base0, base1, base2, base3, Option.isNone_none, Option.isNone_some, Nat.reduceBEq, true_or, or_true, false_or, or_false, Nat.reduceLT, Nat.reduceMod, Nat.reducePow, rmaps, nsucc, List.flatten_cons, List.flatten_nil, Nat.reduceEqDiff, Nat.reduceLeDiff, Nat.reduceAdd, Nat.reduceMul, Nat.reduceSub, ↓reduceIte, reduceCtorEq, decide_true, decide_false]
            refine untilOut.go (until67 b hb r n1 lim (c + 1) p2 d D hl (by omega) (by omega) (by omega) _ _ _ _ _ _ _ _ (by omega) _ (by simp; omega) (by simp; omega) (by simp [rdL]) (by simp [hnr, nilS]; exact ⟨rfl, rfl, rfl, rfl, rfl, rfl, rfl, rfl⟩) ⟨rfl, rfl, rfl, rfl, rfl, rfl, rfl, rfl⟩ hIH) (fun e H3 he hk3 => ?_) (fun l s c1 H3 v he hk3 hro3 hxo3 hg3 => ?_)
            · have hkH : Kp H H3 (· = r) := ⟨Nat.le_trans hk1.next hk3.next, fun m hm hne => by
                have h := hk3.own m (by simp; omega) (by simp only [not_or]; exact ⟨hne, by omega⟩)
                simp only [hne, show m ≠ n1 by omega, if_false] at h
                exact h.trans (hk1.own m hm hne), fun t ht => (hk3.tip t (by simp; omega)).trans (hk1.tip t ht)⟩
              rw [he] at hXT
              simp only [Cd.cd56, Tk.t56, base0, base1, base2, base3, Option.isNone_none, Option.isNone_some, Nat.reduceBEq, true_or, or_true, false_or, or_false, Nat.reduceLT, Nat.reduceMod, Nat.reducePow, rmaps, nsucc, List.flatten_cons, List.flatten_nil, Nat.reduceEqDiff, Nat.reduceLeDiff, Nat.reduceAdd, Nat.reduceMul, Nat.reduceSub, ↓reduceIte, reduceCtorEq, decide_true, decide_false]
              exact NodeR.pan hn1 hXT.symm.symm hkH
            · have hkH : Kp H H3 (· = r) := ⟨Nat.le_trans hk1.next hk3.next, fun m hm hne => by
                have h := hk3.own m (by simp; omega) (by simp only [not_or]; exact ⟨hne, by omega⟩)
                simp only [hne, show m ≠ n1 by omega, if_false] at h
                exact h.trans (hk1.own m hm hne), fun t ht => (hk3.tip t (by simp; omega)).trans (hk1.tip t ht)⟩
              have hoc := openC_ok (rd_ok b d lim) he (by omega)
              rw [he] at hXT
              simp only [List.cons_append, List.nil_append] at hxo3
              have e4 : IntKind.i64.wrap ((s : Int) + 2) = ((s + 2 : Nat) : Int) := by rw [wrapI (by omega) (by omega)]; omega
              simp only [hxo3, e4, Cd.cd56, Tk.t56, base0, base1, base2, base3, Option.isNone_none, Option.isNone_some, Nat.reduceBEq, true_or, or_true, false_or, or_false, Nat.reduceLT, Nat.reduceMod, Nat.reducePow, rmaps, nsucc, List.flatten_cons, List.flatten_nil, Nat.reduceEqDiff, Nat.reduceLeDiff, Nat.reduceAdd, Nat.reduceMul, Nat.reduceSub, ↓reduceIte, reduceCtorEq, decide_true, decide_false]
              exact NodeR.ret (h := ⟨cls, num, bl, true, p, p1, p2, s, s + 2, D⟩) (kids := l) (c := c1) (v := v) hn1 (by rw [hXT, d15] <;> rfl) ⟨hkH.next, fun m hm hne => by simp [show m ≠ n1 by omega]; exact hkH.own m hm hne, hkH.tip⟩ (by omega) (by simp [hrn]; exact hro3) (Nat.le_refl _) (by simp [hdL]) (hg3.view FZs.encT)
        | some n =>
          refine ACall.one' (hq _ (by simp only [hrn, if_false]; exact hro1)) ?_
          have q3 := q2.2.2 n rfl
          have e2 : IntKind.i64.wrap ((lim : Int) - (p2 : Int)) = ((lim - p2 : Nat) : Int) := by rw [wrapI (by omega) (by omega)]; omega
          simp only [hxo, hro1, hrn, hnr, nilS, e1, e2, Cd.cd56, Tk.t56, base0, base1, base2, base3, Option.isNone_none, Option.isNone_some, Nat.reduceBEq, true_or, or_true, false_or, or_false, Nat.reduceLT, Nat.reduceMod, Nat.reducePow, rmaps, nsucc, List.flatten_cons, List.flatten_nil, Nat.reduceEqDiff, Nat.reduceLeDiff, Nat.reduceAdd, Nat.reduceMul, Nat.reduceSub, ↓reduceIte, reduceCtorEq, decide_true, decide_false]
          by_cases hnl : lim - p2 < n
          · simp only [show decide ((n : Int) > ((lim - p2 : Nat) : Int)) = true from decide_eq_true (by omega), hxo, hro1, hrn, hnr, nilS, e1, Cd.cd56, Tk.t56, base0, base1, base2, base3, Option.isNone_none, Option.isNone_some, Nat.reduceBEq, true_or, or_true, false_or, or_false, Nat.reduceLT, Nat.reduceMod, Nat.reducePow, rmaps, nsucc, List.flatten_cons, List.flatten_nil, Nat.reduceEqDiff, Nat.reduceLeDiff, Nat.reduceAdd, Nat.reduceMul, Nat.reduceSub, ↓reduceIte, reduceCtorEq, decide_true, decide_false]
            refine (fail66 _ _ _).pan ?_
            simp only [Cd.cd56, Tk.t56, base0, base1, base2, base3, Option.isNone_none, Option.isNone_some, Nat.reduceBEq, true_or, or_true, false_or, or_false, Nat.reduceLT, Nat.reduceMod, Nat.reducePow, rmaps, nsucc, List.flatten_cons, List.flatten_nil, Nat.reduceEqDiff, Nat.reduceLeDiff, Nat.reduceAdd, Nat.reduceMul, Nat.reduceSub, ↓reduceIte, reduceCtorEq, decide_true, decide_false]
            refine NodeR.pan (e := (p1, 19)) hn1 (by rw [← hX]; exact rd_e3 hid hlen (by simp [hnl])) ⟨hk1.next, fun m hm hne => ?_, hk1.tip⟩
            simp [show m ≠ n1 by omega]; exact hk1.own m hm hne
          have hany : (some n).any (fun n => decide (lim - p2 < n)) = false := by simp [hnl]
          simp only [show decide ((n : Int) > ((lim - p2 : Nat) : Int)) = false from decide_eq_false (by omega), hxo, hro1, hrn, hnr, nilS, e1, Cd.cd56, Tk.t56, base0, base1, base2, base3, Option.isNone_none, Option.isNone_some, Nat.reduceBEq, true_or, or_true, false_or, or_false, Nat.reduceLT, Nat.reduceMod, Nat.reducePow, rmaps, nsucc, List.flatten_cons, List.flatten_nil, Nat.reduceEqDiff, Nat.reduceLeDiff, Nat.reduceAdd, Nat.reduceMul, Nat.reduceSub, ↓reduceIte, reduceCtorEq, decide_true, decide_false]
          by_cases h300 : 300 < c + 1
          · simp only [show decide (((c + 1 : Nat) : Int) > 300) = true from decide_eq_true (by omega), Cd.cd56, Tk.t56, base0, base1, base2, base3, Option.isNone_none, Option.isNone_some, Nat.reduceBEq, true_or, or_true, false_or, or_false, Nat.reduceLT, Nat.reduceMod, Nat.reducePow, rmaps, nsucc, List.flatten_cons, List.flatten_nil, Nat.reduceEqDiff, Nat.reduceLeDiff, Nat.reduceAdd, Nat.reduceMul, Nat.reduceSub, ↓reduceIte, reduceCtorEq, decide_true, decide_false]
            refine (fail66 _ _ _).pan ?_
            simp only [Cd.cd56, Tk.t56, base0, base1, base2, base3, Option.isNone_none, Option.isNone_some, Nat.reduceBEq, true_or, or_true, false_or, or_false, Nat.reduceLT, Nat.reduceMod, Nat.reducePow, rmaps, nsucc, List.flatten_cons, List.flatten_nil, Nat.reduceEqDiff, Nat.reduceLeDiff, Nat.reduceAdd, Nat.reduceMul, Nat.reduceSub, ↓reduceIte, reduceCtorEq, decide_true, decide_false]
            exact NodeR.pan (e := (p, 34)) hn1 (by rw [← hX]; exact rd_e4 hid hlen hany h300) ⟨hk1.next, fun m hm hne => by simp [show m ≠ n1 by omega, hne]; exact hk1.own m hm hne, hk1.tip⟩
          simp only [show decide (((c + 1 : Nat) : Int) > 300) = false from decide_eq_false (by omega), Cd.cd56, Tk.t56, base0, base1, base2, base3, Option.isNone_none, Option.isNone_some, Nat.reduceBEq, true_or, or_true, false_or, or_false, Nat.reduceLT, Nat.reduceMod, Nat.reducePow, rmaps, nsucc, List.flatten_cons, List.flatten_nil, Nat.reduceEqDiff, Nat.reduceLeDiff, Nat.reduceAdd, Nat.reduceMul, Nat.reduceSub, ↓reduceIte, reduceCtorEq, decide_true, decide_false]
          cases d with
          | zero =>
            simp only [show decide ((D : Int) ≥ 16) = true from decide_eq_true (by omega), Cd.cd56, Tk.t56, base0, base1, base2, base3, Option.isNone_none, Option.isNone_some, Nat.reduceBEq, true_or, or_true, false_or, or_false, Nat.reduceLT, Nat.reduceMod, Nat.reducePow, rmaps, nsucc, List.flatten_cons, List.flatten_nil, Nat.reduceEqDiff, Nat.reduceLeDiff, Nat.reduceAdd, Nat.reduceMul, Nat.reduceSub, ↓reduceIte, reduceCtorEq, decide_true, decide_false]
            refine (fail66 _ _ _).pan ?_
            simp only [Cd.cd56, Tk.t56, base0, base1, base2, base3, Option.isNone_none, Option.isNone_some, Nat.reduceBEq, true_or, or_true, false_or, or_false, Nat.reduceLT, Nat.reduceMod, Nat.reducePow, rmaps, nsucc, List.flatten_cons, List.flatten_nil, Nat.reduceEqDiff, Nat.reduceLeDiff, Nat.reduceAdd, Nat.reduceMul, Nat.reduceSub, ↓reduceIte, reduceCtorEq, decide_true, decide_false]
            exact NodeR.pan (e := (p, 2)) hn1 (by rw [← hX]; exact rd_e5 hid hlen hany h300) ⟨hk1.next, fun m hm hne => by simp [show m ≠ n1 by omega, hne]; exact hk1.own m hm hne, hk1.tip⟩
          | succ d =>
            have e3 : IntKind.i64.wrap ((p2 : Int) + (n : Int)) = ((p2 + n : Nat) : Int) := by rw [wrapI (by omega) (by omega)]; omega
            simp only [show decide ((D : Int) ≥ 16) = false from decide_eq_false (by omega), hxo, hro1, hrn, hnr, nilS, e3, Cd.cd56, Tk.t56, base0, base1, base2, base3, Option.isNone_none, Option.isNone_some, Nat.reduceBEq, true_or, or_true, false_or, or_false, Nat.reduceLT, Nat.reduceMod, Nat.reducePow, rmaps, nsucc, List.flatten_cons, List.flatten_nil, Nat.reduceEqDiff, Nat.reduceLeDiff, Nat.reduceAdd, Nat.reduceMul, Nat.reduceSub, ↓reduceIte, reduceCtorEq, decide_true, decide_false]
            have d15 : D = 15 - d := by omega
            cases bl with
            | false =>
              simp only [hxo, hro1, hrn, hnr, nilS, Cd.cd56, Tk.t56, base0, base1, base2, base3, Option.isNone_none, Option.isNone_some, Nat.reduceBEq, true_or, or_true, false_or, or_false, Nat.reduceLT, Nat.reduceMod, Nat.reducePow, rmaps, nsucc, List.flatten_cons, List.flatten_nil, Nat.reduceEqDiff, Nat.reduceLeDiff, Nat.reduceAdd, Nat.reduceMul, Nat.reduceSub, ↓reduceIte, reduceCtorEq, decide_true, decide_false]
              refine NodeR.ret (h := ⟨cls, num, false, false, p, p1, p2, p2 + n, p2 + n, D⟩) (kids := []) (c := c + 1) (v := nilS) hn1 (by rw [← hX, d15]; exact rd_leaf hid hlen hnl h300) ⟨hk1.next, fun m hm hne => by simp [show m ≠ n1 by omega, hne]; exact hk1.own m hm hne, hk1.tip⟩ (by omega) ?_ (Nat.le_refl _) ?_ (View.nil 1)
              · simp [hrn, rdL]
              · simp [hdL, nilS]
            | true =>
              simp only [hxo, hro1, hrn, hnr, nilS, Cd.cd56, Tk.t56, base0, base1, base2, base3, Option.isNone_none, Option.isNone_some, Nat.reduceBEq, true_or, or_true, false_or, or_false, Nat.reduceLT, Nat.reduceMod, Nat.reducePow, rmaps, nsucc, List.flatten_cons, List.flatten_nil, Nat.reduceEqDiff, Nat.reduceLeDiff, Nat.reduceAdd, Nat.reduceMul, Nat.reduceSub, ↓reduceIte, reduceCtorEq, decide_true, decide_false]
              generalize hT : kidsC (fun a c => rd b d a (p2 + n) c) (p2 + n) n p2 (c + 1) [] = T
              have hXT := rd_kids (d := d) hid hlen hnl h300
              rw [hX, hT] at hXT
              refine LWP.loop [] (fun m f H' => ∃ q k c1 acc, m = p2 + n - q ∧ (p2 + n - q ≤ k) ∧ (c1 ≤ 300) ∧ (acc.length ≤ c1) ∧ (q ≤ p2 + n) ∧ (kidsC (fun a c => rd b d a (p2 + n) c) (p2 + n) k q c1 acc = T) ∧ f.t 0 = .ptr r 0 ∧ f.t 3 = .v (.int .i64 (D : Nat)) ∧ f.t 9 = .ptr n1 0 ∧ f.t 11 = .v (.int .i64 (q : Nat)) ∧ f.ds = [] ∧ Kp H H' (· = r) ∧ n1 < H'.next ∧ H'.own r = some (.cells (rdL b c1)) ∧ ∃ v, H'.own n1 = some (.cells (hdL ⟨cls, num, true, false, p, p1, p2, p2 + n, p2 + n, D⟩ v)) ∧ GrowT n1 encT 1 H' v acc) ?_ ?_ (m := p2 + n - (p2))
              · exact ⟨p2, n, c + 1, [], rfl, (by omega), (by omega), (by simp), (by omega), (hT), rfl, rfl, rfl, rfl, rfl, ⟨⟨hk1.next, fun m hm hne => by simp [show m ≠ n1 by omega, hne]; exact hk1.own m hm hne, hk1.tip⟩, by simp; omega, by simp [hrn, rdL], nilS, by simp [hdL, nilS], .inl ⟨rfl, rfl⟩⟩⟩
              · rintro m f H' ⟨q, k, c1, acc, rfl, hk, hc1, hal, hq, hT, f0, f3, f9, f11, hds, ⟨hk2,hlt2,hrr,v,hnn,hg⟩⟩
                simp only [hdL] at hnn
                have hkn2 := hk2.next
                by_cases hlt : q < p2 + n
                · obtain ⟨k, rfl⟩ : ∃ k', k = k' + 1 := ⟨k - 1, by omega⟩
                  simp only [kidsC, if_pos hlt] at hT
                  simp only [hnn, show decide ((q : Int) < ((p2 + n : Nat) : Int)) = true from decide_eq_true (by omega), wrapS (show D < 2 ^ 62 by omega), f0, f3, f9, f11, hds, Cd.cd56, Tk.t56, base0, base1, base2, base3, Option.isNone_none, Option.isNone_some, Nat.reduceBEq, true_or, or_true, false_or, or_false, Nat.reduceLT, Nat.reduceMod, Nat.reducePow, rmaps, nsucc, List.flatten_cons, List.flatten_nil, Nat.reduceEqDiff, Nat.reduceLeDiff, Nat.reduceAdd, Nat.reduceMul, Nat.reduceSub, ↓reduceIte, reduceCtorEq, decide_true, decide_false]
                  have hIH := node56 b hb d (by omega) q (p2 + n) c1 r H' (by omega) hc1 (by omega) hrr
                  rw [show 16 - d = D + 1 by omega] at hIH
                  refine NodeR.go hIH (fun e H3 he hk3 => ?_) (fun t c' H3 he hk3 hro3 => ?_)
                  · rw [he] at hT
                    simp only [f0, f3, f9, f11, hds, Cd.cd56, Tk.t56, base0, base1, base2, base3, Option.isNone_none, Option.isNone_some, Nat.reduceBEq, true_or, or_true, false_or, or_false, Nat.reduceLT, Nat.reduceMod, Nat.reducePow, rmaps, nsucc, List.flatten_cons, List.flatten_nil, Nat.reduceEqDiff, Nat.reduceLeDiff, Nat.reduceAdd, Nat.reduceMul, Nat.reduceSub, ↓reduceIte, reduceCtorEq, decide_true, decide_false]
                    exact NodeR.pan hn1 (by rw [hXT, ← hT]) (hk2.trans hk3)
                  · rw [he] at hT
                    have hok := rd_ok b d (p2 + n) q c1 t c' he
                    have hkn3 := hk3.next
                    have hxo3 := (hk3.own n1 (by omega) (by omega)).trans hnn
                    have hg3 := hg.kp hk3
                    obtain ⟨h, kids⟩ := t
                    simp only [Tree.h] at hok hT
                    have hkk := hk2.trans hk3
                    have htv := treeV_eq h kids
                    rcases hg3 with ⟨rfl, rfl⟩ | ⟨t, rfl, ht1, ht2, ht3⟩
                    · simp only [htv, hdL, hxo3, hrn, hnr, nilS, show roomA 8 1 = true from rfl, f0, f3, f9, f11, hds, Cd.cd56, Tk.t56, base0, base1, base2, base3, Option.isNone_none, Option.isNone_some, Nat.reduceBEq, true_or, or_true, false_or, or_false, Nat.reduceLT, Nat.reduceMod, Nat.reducePow, rmaps, nsucc, List.flatten_cons, List.flatten_nil, Nat.reduceEqDiff, Nat.reduceLeDiff, Nat.reduceAdd, Nat.reduceMul, Nat.reduceSub, ↓reduceIte, reduceCtorEq, decide_true, decide_false]
                      refine ⟨fun _ _ => trivial, p2 + n - h.fin, by omega, h.fin, k, c', [.mk h kids], rfl, by omega, by omega, by simp; omega, by omega, by rw [← hT]; rfl, rfl, ⟨by simp; omega, fun m hm hne => ?_, fun s hs => ?_⟩, by first | omega | (simp; omega), hro3, .lst 1 [[treeV (.mk h kids)]] (.live H3.next), by simp [hdL, htv], GrowT.live (by simp [encT]) (by simp) ⟨by omega, by simp⟩⟩
                      · simp [show m ≠ n1 by omega]; exact hkk.own m hm hne
                      · simp [show s ≠ H3.next by omega]; exact hkk.tip s hs
                    · simp only [htv, hdL, hxo3, hrn, hnr, ht1, List.length_map, room1 (b := 8) (n := acc.length) (by omega) (by omega), f0, f3, f9, f11, hds, Cd.cd56, Tk.t56, base0, base1, base2, base3, Option.isNone_none, Option.isNone_some, Nat.reduceBEq, true_or, or_true, false_or, or_false, Nat.reduceLT, Nat.reduceMod, Nat.reducePow, rmaps, nsucc, List.flatten_cons, List.flatten_nil, Nat.reduceEqDiff, Nat.reduceLeDiff, Nat.reduceAdd, Nat.reduceMul, Nat.reduceSub, ↓reduceIte, reduceCtorEq, decide_true, decide_false]
                      refine ⟨fun _ _ => trivial, p2 + n - h.fin, by omega, h.fin, k, c', acc ++ [.mk h kids], rfl, by omega, by omega, by simp; omega, by omega, hT, rfl, ⟨hkk.next, fun m hm hne => ?_, fun s hs => ?_⟩, by first | omega | (simp; omega), hro3, .lst 1 (acc.map encT ++ [[treeV (.mk h kids)]]) (.live t), by simp [hdL, htv], GrowT.live (by simp [encT]) (by simp) ⟨ht2, ht3⟩⟩
                      · simp [show m ≠ n1 by omega]; exact hkk.own m hm hne
                      · simp [show s ≠ t by omega]; exact hkk.tip s hs
                · have hTe : kidsC (fun a c => rd b d a (p2 + n) c) (p2 + n) k q c1 acc = .ok (acc, c1) := by cases k <;> simp [kidsC, hlt]
                  rw [hTe] at hT
                  simp only [hnn, show decide ((q : Int) < ((p2 + n : Nat) : Int)) = false from decide_eq_false (by omega), f0, f3, f9, f11, hds, Cd.cd56, Tk.t56, base0, base1, base2, base3, Option.isNone_none, Option.isNone_some, Nat.reduceBEq, true_or, or_true, false_or, or_false, Nat.reduceLT, Nat.reduceMod, Nat.reducePow, rmaps, nsucc, List.flatten_cons, List.flatten_nil, Nat.reduceEqDiff, Nat.reduceLeDiff, Nat.reduceAdd, Nat.reduceMul, Nat.reduceSub, ↓reduceIte, reduceCtorEq, decide_true, decide_false]
                  exact NodeR.ret (h := ⟨cls, num, true, false, p, p1, p2, p2 + n, p2 + n, D⟩) (c := c1) (v := v) hn1 (by rw [hXT, ← hT, d15] <;> rfl) hk2 (by omega) hrr (Nat.le_refl _) (by simp only [hdL]; exact hnn) (hg.view FZs.encT)
end Go.Proofs.Ytmjjfdppaomcfaa

/- Walks: the program reads bytes. -/
namespace Go.Proofs.Ytmjjfdppaomcfaa
open Go Go.Proofs.Ytmjjfdppaomcfaa.Ab
set_option maxRecDepth 100000
set_option linter.unusedSimpArgs false

theorem conc96 : concT Try.prog 96 = true := by kernel_rfl
theorem Ab.ADefer.mono {P : Program} {m : FuncId} {args : List AV} {pv : Option AV} {H : AH} {R R' : AH → Prop} (h : ADefer P m args pv H R) (hr : ∀ H', R H' → R' H') : ADefer P m args pv H R' :=
  ⟨h.1, fun g xs w u hw hx hm => (h.2 g xs w u hw hx hm).mono fun e u' w' hp => by
    obtain ⟨h1, h2, H', g', h3, h4⟩ := hp
    exact ⟨h1, h2, H', g', hr _ h3, h4⟩⟩

theorem defer55n (a b c : Nat) (H : AH) : ADefer Try.prog 55 [.ptr a 0, .ptr b 0, .ptr c 0] none H (fun H' => H' = H) := by
  refine ADefer.enter [] Cd.fn55 rfl (by simp) ?_
  simp only [Option.getD_none, Cd.cd55, Tk.t55, base0, base1, base2, base3, Option.isNone_none, Option.isNone_some, Nat.reduceBEq, true_or, or_true, false_or, or_false, Nat.reduceLT, Nat.reduceMod, Nat.reducePow, rmaps, nsucc, List.flatten_cons, List.flatten_nil, Nat.reduceEqDiff, Nat.reduceLeDiff, Nat.reduceAdd, Nat.reduceMul, Nat.reduceSub, ↓reduceIte, reduceCtorEq, decide_true, decide_false]
theorem defer55p (a b c : Nat) (p : Flt) (H : AH) (ha : a < H.next) (hb : b < H.next) (hc : c < H.next) (hab : a ≠ b) (hac : a ≠ c) (hbc : b ≠ c) (x y z : AV) (h1 : H.own a = some (.cells [x])) (h2 : H.own b = some (.cells [y])) (h3 : H.own c = some (.cells [z])) :
    ADefer Try.prog 55 [.ptr a 0, .ptr b 0, .ptr c 0] (some (fltV p)) H (fun H' => H'.own a = some (.cells [nilS]) ∧ H'.own b = some (.cells [.v (.int .i64 (p.1 : Int))]) ∧ H'.own c = some (.cells [.v (.int .i64 p.2)])) := by
  refine ADefer.enter [] Cd.fn55 rfl (by simp) ?_
  have a1 : (a = H.next) = False := eq_false (by omega)
  have b1 : (b = H.next) = False := eq_false (by omega)
  have c1 : (c = H.next) = False := eq_false (by omega)
  have n1 : (a = b) = False := eq_false hab
  have n2 : (a = c) = False := eq_false hac
  have n3 : (b = c) = False := eq_false hbc
  have n4 : (b = a) = False := eq_false (Ne.symm hab)
  have n5 : (c = a) = False := eq_false (Ne.symm hac)
  have n6 : (c = b) = False := eq_false (Ne.symm hbc)
  simp only [Option.getD_some, fltV, conc96, h1, h2, h3, a1, b1, c1, n1, n2, n3, n4, n5, n6, Cd.cd55, Tk.t55, base0, base1, base2, base3, Option.isNone_none, Option.isNone_some, Nat.reduceBEq, true_or, or_true, false_or, or_false, Nat.reduceLT, Nat.reduceMod, Nat.reducePow, rmaps, nsucc, List.flatten_cons, List.flatten_nil, Nat.reduceEqDiff, Nat.reduceLeDiff, Nat.reduceAdd, Nat.reduceMul, Nat.reduceSub, ↓reduceIte, reduceCtorEq, decide_true, decide_false]
  refine ⟨fun n hn => ?_, fun n hn => ?_, rfl⟩ <;> simp at hn <;> subst hn <;> simp [show H.next ≠ a by omega, show H.next ≠ b by omega, show H.next ≠ c by omega]

theorem FZ.rowsOf (l : List Tree) : FZ (treesV l) := FZ.lst rfl fun r hr => by
  obtain ⟨x, _, rfl⟩ := List.mem_map.mp hr; exact FZs.encT x
def readOut (b : ByteArray) : Except Flt (List Tree) → AV
  | .ok l => .tup [treesV l, .v (.int .i64 (b.size : Int)), .v (.int .i64 0)]
  | .error e => .tup [treesV [], .v (.int .i64 (e.1 : Int)), .v (.int .i64 e.2)]
theorem fin_read {H : AH} {v a e : AV} {l : List Tree} (h1 : View H v (treesV l)) (h2 : FZ a) (h3 : FZ e) {w : AV} (hw : w = .tup [treesV l, a, e]) : ∃ x x', AOut.ret (.tup [v, a, e]) = .ret x ∧ View H x x' ∧ FZ x' ∧ x' = w := by
  subst hw
  exact ⟨_, _, rfl, Views.tup (Views.cons h1 (Views.cons h2.view (Views.cons h3.view Views.nil))), FZ.tup (FZs.cons (FZ.rowsOf l) (FZs.cons h2 (FZs.one h3))), rfl⟩

theorem bnil {b : ByteArray} : b = ⟨#[]⟩ ↔ b.size = 0 := by
  constructor
  · rintro rfl; rfl
  · intro h
    obtain ⟨d⟩ := b
    congr 1
    exact Array.eq_empty_of_size_eq_zero h
theorem astr_nil (b : ByteArray) : astr .eql b ⟨#[]⟩ = some (.bool (decide (b.size = 0))) := by
  show some (Value.bool (b.toList == (ByteArray.mk #[]).toList)) = _
  rw [← beq_toListBytes]
  congr 2
  obtain ⟨d⟩ := b
  show (d == #[]) = decide (d.size = 0)
  rw [Bool.eq_iff_iff, beq_iff_eq, decide_eq_true_iff]
  exact ⟨fun h => by rw [h]; rfl, fun h => Array.eq_empty_of_size_eq_zero h⟩

set_option maxHeartbeats 4000000 in
theorem read37 (b : ByteArray) : FCall Try.prog 37 [.v (.string b)] (· = readOut b (readB b)) := by
  refine ACall.enterD [18] Cd.fn37 (by simp) ?_
  by_cases h4 : 4000 < b.size
  · simp only [show decide (((b.size : Nat) : Int) > 4000) = true from decide_eq_true (by omega), finD_ret, retDv_nil, aresD, Cd.cd37, Tk.t37, base0, base1, base2, base3, Option.isNone_none, Option.isNone_some, Nat.reduceBEq, true_or, or_true, false_or, or_false, Nat.reduceLT, Nat.reduceMod, Nat.reducePow, rmaps, nsucc, List.flatten_cons, List.flatten_nil, Nat.reduceEqDiff, Nat.reduceLeDiff, Nat.reduceAdd, Nat.reduceMul, Nat.reduceSub, ↓reduceIte, reduceCtorEq, decide_true, decide_false]
    exact fin_read (View.nil 1) (FZ.v _) (FZ.v _) (by unfold readB; rw [if_pos h4]; rfl)
  · by_cases h0 : b.size = 0
    · simp only [show decide (((b.size : Nat) : Int) > 4000) = false from decide_eq_false (by omega), finD_ret, retDv_nil, aresD, astr_nil, decide_eq_true h0, Cd.cd37, Tk.t37, base0, base1, base2, base3, Option.isNone_none, Option.isNone_some, Nat.reduceBEq, true_or, or_true, false_or, or_false, Nat.reduceLT, Nat.reduceMod, Nat.reducePow, rmaps, nsucc, List.flatten_cons, List.flatten_nil, Nat.reduceEqDiff, Nat.reduceLeDiff, Nat.reduceAdd, Nat.reduceMul, Nat.reduceSub, ↓reduceIte, reduceCtorEq, decide_true, decide_false]
      exact fin_read (View.nil 1) (FZ.v _) (FZ.v _) (by unfold readB; rw [if_neg h4, if_pos h0]; rfl)
    · have hb : b.size ≤ 4000 := by omega
      have hres : readB b = match kidsC (fun a c => rd b 16 a b.size c) b.size b.size 0 0 [] with
        | .error e => .error e
        | .ok (l, _) => .ok l := by unfold readB; rw [if_neg h4, if_neg h0] <;> rfl
      rw [hres]
      generalize hT : kidsC (fun a c => rd b 16 a b.size c) b.size b.size 0 0 [] = T
      simp only [show decide (((b.size : Nat) : Int) > 4000) = false from decide_eq_false (by omega), finD_ret, retDv_nil, aresD, astr_nil, decide_eq_false h0, Cd.cd37, Tk.t37, base0, base1, base2, base3, Option.isNone_none, Option.isNone_some, Nat.reduceBEq, true_or, or_true, false_or, or_false, Nat.reduceLT, Nat.reduceMod, Nat.reducePow, rmaps, nsucc, List.flatten_cons, List.flatten_nil, Nat.reduceEqDiff, Nat.reduceLeDiff, Nat.reduceAdd, Nat.reduceMul, Nat.reduceSub, ↓reduceIte, reduceCtorEq, decide_true, decide_false]
      obtain ⟨N, hN⟩ : ∃ N, N = AH.none.next := ⟨_, rfl⟩
      refine LWP.loop [18] (fun m f H' => ∃ p k c acc, m = b.size - p ∧ (b.size - p ≤ k) ∧ (p ≤ b.size) ∧ (c ≤ 300) ∧ (acc.length ≤ c) ∧ (kidsC (fun a c => rd b 16 a b.size c) b.size k p c acc = T) ∧ f.t 0 = .v (.string b) ∧ f.t 2 = .ptr N 0 ∧ f.t 3 = .ptr (N + 1) 0 ∧ f.t 4 = .ptr (N + 1 + 1) 0 ∧ f.t 5 = .ptr (N + 1 + 1 + 1) 0 ∧ f.t 6 = .v (.int .i64 (p : Nat)) ∧ f.ds = [⟨.func 55, [.ptr N 0, .ptr (N + 1) 0, .ptr (N + 1 + 1) 0], []⟩] ∧ ∃ v, H'.own N = some (.cells [v]) ∧ H'.own (N + 1) = some (.cells [.v (.int .i64 0)]) ∧ H'.own (N + 1 + 1) = some (.cells [.v (.int .i64 0)]) ∧ H'.own (N + 1 + 1 + 1) = some (.cells (rdL b c)) ∧ N + 1 + 1 + 1 < H'.next ∧ GrowT 0 encT 1 H' v acc) ?_ ?_ (m := b.size - (0))
      · exact ⟨0, b.size, 0, [], rfl, (by omega), (by omega), (by omega), (by simp), (hT), rfl, by rw [hN]; rfl, by rw [hN]; rfl, by rw [hN]; rfl, by rw [hN]; rfl, rfl, (by rw [hN]), ⟨nilS, by subst hN; simp [nilS, show AH.none.next ≠ AH.none.next + 1 + 1 + 1 by omega, show AH.none.next ≠ AH.none.next + 1 + 1 by omega], by subst hN; simp, by subst hN; simp, by subst hN; simp [rdL], by subst hN; simp, .inl ⟨rfl, rfl⟩⟩⟩
      · rintro m f H' ⟨p, k, c, acc, rfl, hk, hp, hc, hal, hT, f0, f2, f3, f4, f5, f6, hds, ⟨v,h2,h3,h4,hro,hlt,hg⟩⟩
        by_cases hlt' : p < b.size
        · obtain ⟨k, rfl⟩ : ∃ k', k = k' + 1 := ⟨k - 1, by omega⟩
          simp only [kidsC, if_pos hlt'] at hT
          simp only [show decide ((p : Int) < (b.size : Int)) = true from decide_eq_true (by omega), f0, f2, f3, f4, f5, f6, hds, Cd.cd37, Tk.t37, base0, base1, base2, base3, Option.isNone_none, Option.isNone_some, Nat.reduceBEq, true_or, or_true, false_or, or_false, Nat.reduceLT, Nat.reduceMod, Nat.reducePow, rmaps, nsucc, List.flatten_cons, List.flatten_nil, Nat.reduceEqDiff, Nat.reduceLeDiff, Nat.reduceAdd, Nat.reduceMul, Nat.reduceSub, ↓reduceIte, reduceCtorEq, decide_true, decide_false]
          have hIH := node56 b hb 16 (Nat.le_refl _) p b.size c (N + 1 + 1 + 1) H' (Nat.le_refl _) hc hlt hro
          rw [show ((16 - 16 : Nat) : Int) = 0 from rfl] at hIH
          refine NodeR.go hIH (fun e H3 he hk3 => ?_) (fun t c' H3 he hk3 hro3 => ?_)
          · rw [he] at hT
            have hkn := hk3.next
            simp only [finD_panic, retDv_one, f0, f2, f3, f4, f5, f6, hds, Cd.cd37, Tk.t37, base0, base1, base2, base3, Option.isNone_none, Option.isNone_some, Nat.reduceBEq, true_or, or_true, false_or, or_false, Nat.reduceLT, Nat.reduceMod, Nat.reducePow, rmaps, nsucc, List.flatten_cons, List.flatten_nil, Nat.reduceEqDiff, Nat.reduceLeDiff, Nat.reduceAdd, Nat.reduceMul, Nat.reduceSub, ↓reduceIte, reduceCtorEq, decide_true, decide_false]
            refine (defer55p N (N + 1) (N + 1 + 1) e H3 (by omega) (by omega) (by omega) (by omega) (by omega) (by omega) _ _ _ ((hk3.own N (by omega) (by omega)).trans h2) ((hk3.own (N + 1) (by omega) (by omega)).trans h3) ((hk3.own (N + 1 + 1) (by omega) (by omega)).trans h4)).mono fun H4 ⟨g1, g2, g3⟩ => ?_
            simp only [aresD, g1, g2, g3, nilS, f0, f2, f3, f4, f5, f6, hds, Cd.cd37, Tk.t37, base0, base1, base2, base3, Option.isNone_none, Option.isNone_some, Nat.reduceBEq, true_or, or_true, false_or, or_false, Nat.reduceLT, Nat.reduceMod, Nat.reducePow, rmaps, nsucc, List.flatten_cons, List.flatten_nil, Nat.reduceEqDiff, Nat.reduceLeDiff, Nat.reduceAdd, Nat.reduceMul, Nat.reduceSub, ↓reduceIte, reduceCtorEq, decide_true, decide_false]
            exact fin_read (View.nil 1) (FZ.v _) (FZ.v _) (by rw [← hT]; rfl)
          · rw [he] at hT
            have hkn := hk3.next
            have hok := rd_ok b 16 b.size p c t c' he
            obtain ⟨h, kids⟩ := t
            simp only [Tree.h] at hok hT
            have htv := treeV_eq h kids
            have m2 := (hk3.own N (by omega) (by omega)).trans h2
            have m3 := (hk3.own (N + 1) (by omega) (by omega)).trans h3
            have m4 := (hk3.own (N + 1 + 1) (by omega) (by omega)).trans h4
            have k1 : (N + 1 = N) = False := eq_false (by omega)
            have k2 : (N + 1 + 1 = N) = False := eq_false (by omega)
            have k3 : (N + 1 + 1 + 1 = N) = False := eq_false (by omega)
            rcases hg.kp hk3 with ⟨rfl, rfl⟩ | ⟨t, rfl, ht1, ht2, ht3⟩
            · simp only [htv, hdL, m2, nilS, show roomA 8 1 = true from rfl, f0, f2, f3, f4, f5, f6, hds, Cd.cd37, Tk.t37, base0, base1, base2, base3, Option.isNone_none, Option.isNone_some, Nat.reduceBEq, true_or, or_true, false_or, or_false, Nat.reduceLT, Nat.reduceMod, Nat.reducePow, rmaps, nsucc, List.flatten_cons, List.flatten_nil, Nat.reduceEqDiff, Nat.reduceLeDiff, Nat.reduceAdd, Nat.reduceMul, Nat.reduceSub, ↓reduceIte, reduceCtorEq, decide_true, decide_false]
              exact ⟨b.size - h.fin, by omega, h.fin, k, c', [.mk h kids], rfl, by omega, by omega, by omega, by simp; omega, by rw [← hT]; rfl, rfl, _, rfl, m3, m4, hro3, by omega, GrowT.live (by simp [encT, htv, hdL]) (by simp) ⟨by omega, by simp⟩⟩
            · simp only [htv, hdL, m2, ht1, List.length_map, room1 (b := 8) (n := acc.length) (by omega) (by omega), f0, f2, f3, f4, f5, f6, hds, Cd.cd37, Tk.t37, base0, base1, base2, base3, Option.isNone_none, Option.isNone_some, Nat.reduceBEq, true_or, or_true, false_or, or_false, Nat.reduceLT, Nat.reduceMod, Nat.reducePow, rmaps, nsucc, List.flatten_cons, List.flatten_nil, Nat.reduceEqDiff, Nat.reduceLeDiff, Nat.reduceAdd, Nat.reduceMul, Nat.reduceSub, ↓reduceIte, reduceCtorEq, decide_true, decide_false]
              exact ⟨b.size - h.fin, by omega, h.fin, k, c', acc ++ [.mk h kids], rfl, by omega, by omega, by omega, by simp; omega, hT, rfl, _, rfl, m3, m4, hro3, by omega, GrowT.live (by simp [encT, htv, hdL]) (by simp) ⟨ht2, ht3⟩⟩
        · have hTe : kidsC (fun a c => rd b 16 a b.size c) b.size k p c acc = .ok (acc, c) := by cases k <;> simp [kidsC, hlt']
          rw [hTe] at hT
          have k1 : (N = N + 1) = False := eq_false (by omega)
          have k2 : (N = N + 1 + 1) = False := eq_false (by omega)
          have k3 : (N + 1 = N + 1 + 1) = False := eq_false (by omega)
          have k4 : (N + 1 = N) = False := eq_false (by omega)
          have k5 : (N + 1 + 1 = N) = False := eq_false (by omega)
          have k6 : (N + 1 + 1 = N + 1) = False := eq_false (by omega)
          rcases hg with ⟨rfl, rfl⟩ | ⟨t, rfl, ht1, ht2, ht3⟩
          all_goals
            simp only [show decide ((p : Int) < (b.size : Int)) = false from decide_eq_false (by omega), h2, h3, h4, finD_ret, retDv_one, nilS, k1, k2, k3, k4, k5, k6, f0, f2, f3, f4, f5, f6, hds, Cd.cd37, Tk.t37, base0, base1, base2, base3, Option.isNone_none, Option.isNone_some, Nat.reduceBEq, true_or, or_true, false_or, or_false, Nat.reduceLT, Nat.reduceMod, Nat.reducePow, rmaps, nsucc, List.flatten_cons, List.flatten_nil, Nat.reduceEqDiff, Nat.reduceLeDiff, Nat.reduceAdd, Nat.reduceMul, Nat.reduceSub, ↓reduceIte, reduceCtorEq, decide_true, decide_false]
            refine (defer55n N (N + 1) (N + 1 + 1) _).mono fun H4 e4 => ?_
            subst e4
            simp only [aresD, k1, k2, k3, k4, k5, k6, f0, f2, f3, f4, f5, f6, hds, Cd.cd37, Tk.t37, base0, base1, base2, base3, Option.isNone_none, Option.isNone_some, Nat.reduceBEq, true_or, or_true, false_or, or_false, Nat.reduceLT, Nat.reduceMod, Nat.reducePow, rmaps, nsucc, List.flatten_cons, List.flatten_nil, Nat.reduceEqDiff, Nat.reduceLeDiff, Nat.reduceAdd, Nat.reduceMul, Nat.reduceSub, ↓reduceIte, reduceCtorEq, decide_true, decide_false]
            first
              | exact fin_read (View.nil 1) (FZ.v _) (FZ.v _) (by rw [← hT]; rfl)
              | exact fin_read (View.tip fun r hr => by obtain ⟨x, _, rfl⟩ := List.mem_map.mp hr; exact FZs.encT x) (FZ.v _) (FZ.v _) (by rw [← hT]; rfl)
end Go.Proofs.Ytmjjfdppaomcfaa

/- Walks: the program tells the nodes of bytes. -/
namespace Go.Proofs.Ytmjjfdppaomcfaa
open Go Go.Proofs.Ytmjjfdppaomcfaa.Ab
set_option maxRecDepth 100000
set_option linter.unusedSimpArgs false

mutual
def flatT : Tree → List Hd
  | .mk h kids => h :: flatTs kids
def flatTs : List Tree → List Hd
  | [] => []
  | t :: l => flatT t ++ flatTs l
end
theorem flatTs_append : ∀ (l m : List Tree), flatTs (l ++ m) = flatTs l ++ flatTs m
  | [], m => by simp [flatTs]
  | t :: l, m => by simp [flatTs, flatTs_append l m]
theorem flatTs_one (t : Tree) : flatTs [t] = flatT t := by simp [flatTs]
theorem flatTs_take {l : List Tree} {i : Nat} (hi : i < l.length) : flatTs (l.take (i + 1)) = flatTs (l.take i) ++ flatT (l.getD i default) := by
  rw [List.take_add_one, flatTs_append, List.getD_eq_getElem?_getD, List.getElem?_eq_getElem hi]
  simp [flatTs_one]
theorem flatTs_take_le (l : List Tree) (i : Nat) : (flatTs (l.take i)).length ≤ (flatTs l).length := by
  conv => rhs; rw [← List.take_append_drop i l, flatTs_append]
  simp
theorem len_flatTs : ∀ l : List Tree, l.length ≤ (flatTs l).length
  | [] => by simp
  | .mk h k :: l => by have := len_flatTs l; simp [flatTs, flatT]; omega
def nodeL (h : Hd) : List AV := [.v (.int .i64 (h.cls : Int)), .v (.int .i64 (h.num : Int)), .v (.bool h.built), .v (.bool h.opn), .v (.int .i64 (h.deep : Int)), .v (.int .i64 (h.frm : Int)), .v (.int .i64 (h.body : Int)), .v (.int .i64 (h.stop : Int)), .v (.int .i64 (h.fin : Int))]
theorem FZs.nodeL (h : Hd) : FZs (nodeL h) := by
  intro a ha
  simp only [Proofs.Ytmjjfdppaomcfaa.nodeL, List.mem_cons, List.not_mem_nil, or_false] at ha
  rcases ha with rfl | rfl | rfl | rfl | rfl | rfl | rfl | rfl | rfl <;> exact FZ.v _
theorem fin_agg {cs : List AV} {H' : AH} (h : FZs cs) : ∃ v v', AOut.ret (.agg cs) = .ret v ∧ View H' v v' ∧ FZ v' ∧ v' = .agg cs := ⟨_, _, rfl, (FZ.agg h).view, FZ.agg h, rfl⟩

theorem public40 (t : Tree) : FCall Try.prog 40 [treeV t] (· = .agg (nodeL t.h)) := by
  obtain ⟨h, kids⟩ := t
  rw [treeV_eq]
  simp only [hdL]
  refine ACall.enter [] Cd.fn40 (by simp) ?_
  simp only [Tree.h, Cd.cd40, Tk.t40, base0, base1, base2, base3, Option.isNone_none, Option.isNone_some, Nat.reduceBEq, true_or, or_true, false_or, or_false, Nat.reduceLT, Nat.reduceMod, Nat.reducePow, rmaps, nsucc, List.flatten_cons, List.flatten_nil, Nat.reduceEqDiff, Nat.reduceLeDiff, Nat.reduceAdd, Nat.reduceMul, Nat.reduceSub, ↓reduceIte, reduceCtorEq, decide_true, decide_false]
  exact fin_agg (FZs.nodeL h)

theorem walked39 (t : Tree) (o : Nat) (acc : List Hd) (H : AH) (v : AV) (ho : o < H.next) (hl : acc.length ≤ 100000) (hv : H.own o = some (.cells [v])) (hg : GrowT 0 nodeL 9 H v acc) :
    ACall Try.prog 39 [treeV t, .ptr o 0] H (fun out H' => out = .ret (.tup []) ∧ H.next ≤ H'.next ∧ ∃ v', H'.own o = some (.cells [v']) ∧ GrowT 0 nodeL 9 H' v' (acc ++ [t.h])) := by
  have htv := treeV_eq t.h t.kids
  rcases hg with ⟨rfl, rfl⟩ | ⟨tp, rfl, ht1, ht2, ht3⟩
  · refine ACall.enter [] Cd.fn39 (by simp) ?_
    simp only [hv, nilS, Cd.cd39, Tk.t39, base0, base1, base2, base3, Option.isNone_none, Option.isNone_some, Nat.reduceBEq, true_or, or_true, false_or, or_false, Nat.reduceLT, Nat.reduceMod, Nat.reducePow, rmaps, nsucc, List.flatten_cons, List.flatten_nil, Nat.reduceEqDiff, Nat.reduceLeDiff, Nat.reduceAdd, Nat.reduceMul, Nat.reduceSub, ↓reduceIte, reduceCtorEq, decide_true, decide_false]
    first | refine FCall.go (public40 t) (FZs.one (FZ.treeV t)) ?_ | refine FCall.go' (public40 t) (FZs.one (FZ.treeV t)) ?_ | refine FCall.goQ (public40 t) (FZs.one (FZ.treeV t)) ?_
    simp only [nodeL, hv, show roomA 64 1 = true from rfl, Cd.cd39, Tk.t39, base0, base1, base2, base3, Option.isNone_none, Option.isNone_some, Nat.reduceBEq, true_or, or_true, false_or, or_false, Nat.reduceLT, Nat.reduceMod, Nat.reducePow, rmaps, nsucc, List.flatten_cons, List.flatten_nil, Nat.reduceEqDiff, Nat.reduceLeDiff, Nat.reduceAdd, Nat.reduceMul, Nat.reduceSub, ↓reduceIte, reduceCtorEq, decide_true, decide_false]
    exact ⟨by simp, .lst 9 [nodeL t.h] (.live H.next), by simp [nodeL], GrowT.live (by simp) (by simp) ⟨by omega, by simp⟩⟩
  · refine ACall.enter [] Cd.fn39 (by simp) ?_
    simp only [hv, Cd.cd39, Tk.t39, base0, base1, base2, base3, Option.isNone_none, Option.isNone_some, Nat.reduceBEq, true_or, or_true, false_or, or_false, Nat.reduceLT, Nat.reduceMod, Nat.reducePow, rmaps, nsucc, List.flatten_cons, List.flatten_nil, Nat.reduceEqDiff, Nat.reduceLeDiff, Nat.reduceAdd, Nat.reduceMul, Nat.reduceSub, ↓reduceIte, reduceCtorEq, decide_true, decide_false]
    first | refine FCall.go (public40 t) (FZs.one (FZ.treeV t)) ?_ | refine FCall.go' (public40 t) (FZs.one (FZ.treeV t)) ?_ | refine FCall.goQ (public40 t) (FZs.one (FZ.treeV t)) ?_
    simp only [nodeL, hv, ht1, List.length_map, room1 (b := 64) (n := acc.length) (by omega) (by omega), Cd.cd39, Tk.t39, base0, base1, base2, base3, Option.isNone_none, Option.isNone_some, Nat.reduceBEq, true_or, or_true, false_or, or_false, Nat.reduceLT, Nat.reduceMod, Nat.reducePow, rmaps, nsucc, List.flatten_cons, List.flatten_nil, Nat.reduceEqDiff, Nat.reduceLeDiff, Nat.reduceAdd, Nat.reduceMul, Nat.reduceSub, ↓reduceIte, reduceCtorEq, decide_true, decide_false]
    exact ⟨Nat.le_refl _, .lst 9 (acc.map nodeL ++ [nodeL t.h]) (.live tp), by simp [nodeL], GrowT.live (by simp) (by simp) ⟨ht2, ht3⟩⟩

def EachR (o : Nat) (H : AH) (l : List Hd) : AOut → AH → Prop := fun out H' => out = .ret (.tup []) ∧ H.next ≤ H'.next ∧ ∃ v', H'.own o = some (.cells [v']) ∧ GrowT 0 nodeL 9 H' v' l
theorem EachR.go {P : Program} {mu : List Nat} {K : Kont} {f : AF} {H : AH} {m : FuncId} {args : List AV} {dst : Option Nat} {os : List COp} {o : Nat} {l : List Hd} (h : ACall P m args H (EachR o H l))
    (hr : ∀ H1 v, H.next ≤ H1.next → H1.own o = some (.cells [v]) → GrowT 0 nodeL 9 H1 v l → cops P mu K os (f.put dst (.tup [])) H1) : ACall P m args H (callK P mu K dst os f) :=
  h.mono fun out H1 hq => by
    obtain ⟨rfl, h1, v, h2, h3⟩ := hq
    exact hr H1 v h1 h2 h3
set_option maxHeartbeats 2000000 in
theorem each38 (n : Nat) : ∀ (l : List Tree), (flatTs l).length ≤ n → ∀ (o : Nat) (acc : List Hd) (H : AH) (v : AV), acc.length + (flatTs l).length ≤ 100000 → o < H.next → H.own o = some (.cells [v]) → GrowT 0 nodeL 9 H v acc →
    ACall Try.prog 38 [treesV l, .fn (.func 39) [] [.ptr o 0]] H (EachR o H (acc ++ flatTs l)) := by
  induction n using Nat.strongRecOn with
  | _ n ih =>
    intro l hn o acc H v hl ho hv hg
    have hll := len_flatTs l
    simp only [treesV]
    refine ACall.enter [] Cd.fn38 (by simp) ?_
    simp only [List.length_map, Cd.cd38, Tk.t38, base0, base1, base2, base3, Option.isNone_none, Option.isNone_some, Nat.reduceBEq, true_or, or_true, false_or, or_false, Nat.reduceLT, Nat.reduceMod, Nat.reducePow, rmaps, nsucc, List.flatten_cons, List.flatten_nil, Nat.reduceEqDiff, Nat.reduceLeDiff, Nat.reduceAdd, Nat.reduceMul, Nat.reduceSub, ↓reduceIte, reduceCtorEq, decide_true, decide_false]
    refine LWP.loop [] (fun m f H' => ∃ i, m = l.length - i ∧ (i ≤ l.length) ∧ f.t 1 = .fn (.func 39) [] [.ptr o 0] ∧ f.t 6 = .lst 1 (l.map encT) .unk ∧ f.t 7 = .v (.int .i64 (l.length : Nat)) ∧ f.t 8 = .v (.int .i64 (i : Nat)) ∧ f.ds = [] ∧ ∃ v, H.next ≤ H'.next ∧ H'.own o = some (.cells [v]) ∧ GrowT 0 nodeL 9 H' v (acc ++ flatTs (l.take i))) ?_ ?_ (m := l.length - (0))
    · exact ⟨0, rfl, (by omega), rfl, rfl, rfl, rfl, rfl, ⟨v, Nat.le_refl _, hv, by simpa [flatTs] using hg⟩⟩
    · rintro m f H' ⟨i, rfl, hi, f1, f6, f7, f8, hds, ⟨v,hnx,hv,hg⟩⟩
      by_cases hlt : i < l.length
      · have htk := flatTs_take hlt
        have hle := flatTs_take_le l (i + 1)
        rw [htk, List.length_append] at hle
        generalize hx : l.getD i default = x at htk hle
        obtain ⟨h, kids⟩ := x
        have hfl : flatT (.mk h kids) = h :: flatTs kids := by simp [flatT]
        rw [hfl] at htk hle
        simp only [List.length_cons] at hle
        have hgt : (l.map encT).getD i [] = [treeV (.mk h kids)] := by
          rw [List.getD_eq_getElem?_getD, List.getElem?_map, List.getElem?_eq_getElem hlt]
          rw [List.getD_eq_getElem?_getD, List.getElem?_eq_getElem hlt] at hx
          simp only [Option.getD_some] at hx
          simp [encT, hx]
        simp only [show decide ((i : Int) < (l.length : Int)) = true from decide_eq_true (by omega), List.length_map, Int.toNat_natCast, Int.natCast_nonneg, show ((i : Int) < (l.length : Int)) = True from eq_true (by omega), hgt, f1, f6, f7, f8, hds, Cd.cd38, Tk.t38, base0, base1, base2, base3, Option.isNone_none, Option.isNone_some, Nat.reduceBEq, true_or, or_true, false_or, or_false, Nat.reduceLT, Nat.reduceMod, Nat.reducePow, rmaps, nsucc, List.flatten_cons, List.flatten_nil, Nat.reduceEqDiff, Nat.reduceLeDiff, Nat.reduceAdd, Nat.reduceMul, Nat.reduceSub, ↓reduceIte, reduceCtorEq, decide_true, decide_false]
        refine EachR.go (walked39 (.mk h kids) o (acc ++ flatTs (l.take i)) H' v (by omega) (by simp; omega) hv hg) fun H1 v1 g1 g2 g3 => ?_
        have htv := treeV_eq h kids
        simp only [htv, hdL, f1, f6, f7, f8, hds, Cd.cd38, Tk.t38, base0, base1, base2, base3, Option.isNone_none, Option.isNone_some, Nat.reduceBEq, true_or, or_true, false_or, or_false, Nat.reduceLT, Nat.reduceMod, Nat.reducePow, rmaps, nsucc, List.flatten_cons, List.flatten_nil, Nat.reduceEqDiff, Nat.reduceLeDiff, Nat.reduceAdd, Nat.reduceMul, Nat.reduceSub, ↓reduceIte, reduceCtorEq, decide_true, decide_false]
        refine EachR.go (ih (n - 1) (by omega) kids (by omega) o (acc ++ flatTs (l.take i) ++ [h]) H1 v1 (by simp; omega) (by omega) g2 g3) fun H2 v2 g4 g5 g6 => ?_
        simp only [wrapS (show i < 2 ^ 62 by omega), f1, f6, f7, f8, hds, Cd.cd38, Tk.t38, base0, base1, base2, base3, Option.isNone_none, Option.isNone_some, Nat.reduceBEq, true_or, or_true, false_or, or_false, Nat.reduceLT, Nat.reduceMod, Nat.reducePow, rmaps, nsucc, List.flatten_cons, List.flatten_nil, Nat.reduceEqDiff, Nat.reduceLeDiff, Nat.reduceAdd, Nat.reduceMul, Nat.reduceSub, ↓reduceIte, reduceCtorEq, decide_true, decide_false]
        exact ⟨_, by omega, i + 1, rfl, by omega, rfl, v2, by omega, g5, by rw [htk]; simpa using g6⟩
      · simp only [show decide ((i : Int) < (l.length : Int)) = false from decide_eq_false (by omega), f1, f6, f7, f8, hds, Cd.cd38, Tk.t38, base0, base1, base2, base3, Option.isNone_none, Option.isNone_some, Nat.reduceBEq, true_or, or_true, false_or, or_false, Nat.reduceLT, Nat.reduceMod, Nat.reducePow, rmaps, nsucc, List.flatten_cons, List.flatten_nil, Nat.reduceEqDiff, Nat.reduceLeDiff, Nat.reduceAdd, Nat.reduceMul, Nat.reduceSub, ↓reduceIte, reduceCtorEq, decide_true, decide_false]
        have hil : i = l.length := by omega
        rw [hil, List.take_length] at hg
        exact ⟨rfl, hnx, v, hv, hg⟩
end Go.Proofs.Ytmjjfdppaomcfaa

/- Walks: the nodes of bytes. -/
namespace Go.Proofs.Ytmjjfdppaomcfaa
open Go Go.Proofs.Ytmjjfdppaomcfaa.Ab
set_option maxRecDepth 100000
set_option linter.unusedSimpArgs false

def NodeLen (node : Nat → Nat → Except Flt (Tree × Nat)) : Prop := ∀ a c t c', node a c = .ok (t, c') → c' = c + (flatT t).length
theorem kidsC_len {node : Nat → Nat → Except Flt (Tree × Nat)} {stop : Nat} (hn : NodeLen node) : ∀ {n p c : Nat} {acc l : List Tree} {c' : Nat}, kidsC node stop n p c acc = .ok (l, c') → c' + (flatTs acc).length = c + (flatTs l).length
  | 0, p, c, acc, l, c', h => by simp only [kidsC] at h; cases h; rfl
  | n + 1, p, c, acc, l, c', h => by
    simp only [kidsC] at h
    split at h
    · split at h
      · cases h
      · rename_i t c1 h1
        have q := hn _ _ _ _ h1
        have := kidsC_len hn h
        rw [flatTs_append, flatTs_one, List.length_append] at this
        omega
    · cases h; rfl
theorem openC_len {node : Nat → Nat → Except Flt (Tree × Nat)} {b : ByteArray} {lim : Nat} (hn : NodeLen node) : ∀ {n p c : Nat} {acc l : List Tree} {s c' : Nat}, openC node b lim n p c acc = .ok (l, s, c') → c' + (flatTs acc).length = c + (flatTs l).length
  | 0, p, c, acc, l, s, c', h => by simp only [openC] at h; cases h
  | n + 1, p, c, acc, l, s, c', h => by
    simp only [openC] at h
    split at h
    · cases h; rfl
    · split at h
      · cases h
      · split at h
        · cases h
        · rename_i t c1 h1
          have q := hn _ _ _ _ h1
          have := openC_len hn h
          rw [flatTs_append, flatTs_one, List.length_append] at this
          omega
theorem rd_len (b : ByteArray) : ∀ (d lim : Nat), NodeLen (fun a c => rd b d a lim c)
  | d, lim, a, c, t, c', h => by
    simp only at h
    cases hid : ident b a lim with
    | error e => rw [rd_e1 hid] at h; cases h
    | ok x =>
      obtain ⟨cls, num, bl, p1⟩ := x
      cases hlen : lenOf b p1 lim bl with
      | error e => rw [rd_e2 hid hlen] at h; cases h
      | ok x =>
        obtain ⟨on, p2⟩ := x
        cases hany : on.any (fun n => decide (lim - p2 < n)) with
        | true => rw [rd_e3 hid hlen hany] at h; cases h
        | false =>
          by_cases hcnt : 300 < c + 1
          · rw [rd_e4 hid hlen hany hcnt] at h; cases h
          · cases d with
            | zero => rw [rd_e5 hid hlen hany hcnt] at h; cases h
            | succ d =>
              cases on with
              | none =>
                rw [rd_open hid hlen hcnt] at h
                cases ho : openC (fun a c => rd b d a lim c) b lim (lim - p2 + 1) p2 (c + 1) [] with
                | error e => rw [ho] at h; cases h
                | ok x =>
                  obtain ⟨l, s, c1⟩ := x
                  rw [ho] at h; cases h
                  have := openC_len (rd_len b d lim) ho
                  simp only [flatTs, flatT, List.length_nil, List.length_cons] at this ⊢; omega
              | some n =>
                have hn : ¬ lim - p2 < n := by simpa using hany
                cases bl with
                | false => rw [rd_leaf hid hlen hn hcnt] at h; cases h; simp [flatT, flatTs]
                | true =>
                  rw [rd_kids hid hlen hn hcnt] at h
                  cases ho : kidsC (fun a c => rd b d a (p2 + n) c) (p2 + n) n p2 (c + 1) [] with
                  | error e => rw [ho] at h; cases h
                  | ok x =>
                    obtain ⟨l, c1⟩ := x
                    rw [ho] at h; cases h
                    have := kidsC_len (rd_len b d (p2 + n)) ho
                    simp only [flatTs, flatT, List.length_nil, List.length_cons] at this ⊢; omega
theorem readB_len {b : ByteArray} {l : List Tree} (h : readB b = .ok l) : (flatTs l).length ≤ 300 ∧ b.size ≤ 4000 := by
  unfold readB at h
  split at h
  · cases h
  · split at h
    · cases h
    · split at h
      · cases h
      · rename_i l' c hk
        cases h
        have h1 := kidsC_len (rd_len b 16 b.size) hk
        have h2 := kidsC_ok (rd_ok b 16 b.size) hk (by omega)
        simp only [flatTs, List.length_nil] at h1
        omega
theorem tagL_err {b : ByteArray} {lim : Nat} : ∀ {k p num : Nat} {e : Flt}, tagL b lim k p num = .error e → e.2 ≠ 0
  | 0, p, num, e, h => by simp only [tagL] at h; cases h; simp
  | k + 1, p, num, e, h => by
    simp only [tagL] at h
    split at h
    · split at h
      · cases h; simp
      · split at h
        · cases h
        · exact tagL_err h
    · cases h; simp
theorem ident_err {b : ByteArray} {at_ lim : Nat} {e : Flt} (h : ident b at_ lim = .error e) : e.2 ≠ 0 := by
  unfold ident at h
  split at h
  · split at h
    · cases h
    · split at h
      · cases h
      · rename_i e' he; cases h; exact tagL_err he
  · cases h; simp
theorem lenL_err {b : ByteArray} {lim : Nat} : ∀ {k p n : Nat} {e : Flt}, lenL b lim k p n = .error e → e.2 ≠ 0
  | 0, p, n, e, h => by simp only [lenL] at h; cases h
  | k + 1, p, n, e, h => by
    simp only [lenL] at h
    split at h
    · split at h
      · cases h; simp
      · exact lenL_err h
    · cases h; simp
theorem lenOf_err {b : ByteArray} {at_ lim : Nat} {bl : Bool} {e : Flt} (h : lenOf b at_ lim bl = .error e) : e.2 ≠ 0 := by
  unfold lenOf at h
  split at h
  · split at h
    · cases h
    · split at h
      · cases h; simp
      · split at h
        · cases h
        · split at h
          · cases h
          · rename_i e' he; cases h; exact lenL_err he
  · cases h; simp
def NodeErr (node : Nat → Nat → Except Flt (Tree × Nat)) : Prop := ∀ a c e, node a c = .error e → e.2 ≠ 0
theorem kidsC_err {node : Nat → Nat → Except Flt (Tree × Nat)} {stop : Nat} (hn : NodeErr node) : ∀ {n p c : Nat} {acc : List Tree} {e : Flt}, kidsC node stop n p c acc = .error e → e.2 ≠ 0
  | 0, p, c, acc, e, h => by simp only [kidsC] at h; cases h
  | n + 1, p, c, acc, e, h => by
    simp only [kidsC] at h
    split at h
    · split at h
      · rename_i e' he; cases h; exact hn _ _ _ he
      · exact kidsC_err hn h
    · cases h
theorem openC_err {node : Nat → Nat → Except Flt (Tree × Nat)} {b : ByteArray} {lim : Nat} (hn : NodeErr node) : ∀ {n p c : Nat} {acc : List Tree} {e : Flt}, openC node b lim n p c acc = .error e → e.2 ≠ 0
  | 0, p, c, acc, e, h => by simp only [openC] at h; cases h; simp
  | n + 1, p, c, acc, e, h => by
    simp only [openC] at h
    split at h
    · cases h
    · split at h
      · cases h; simp
      · split at h
        · rename_i e' he; cases h; exact hn _ _ _ he
        · exact openC_err hn h
theorem rd_err (b : ByteArray) : ∀ (d lim : Nat), NodeErr (fun a c => rd b d a lim c)
  | d, lim, a, c, e, h => by
    simp only at h
    cases hid : ident b a lim with
    | error e' => rw [rd_e1 hid] at h; cases h; exact ident_err hid
    | ok x =>
      obtain ⟨cls, num, bl, p1⟩ := x
      cases hlen : lenOf b p1 lim bl with
      | error e' => rw [rd_e2 hid hlen] at h; cases h; exact lenOf_err hlen
      | ok x =>
        obtain ⟨on, p2⟩ := x
        cases hany : on.any (fun n => decide (lim - p2 < n)) with
        | true => rw [rd_e3 hid hlen hany] at h; cases h; simp
        | false =>
          by_cases hcnt : 300 < c + 1
          · rw [rd_e4 hid hlen hany hcnt] at h; cases h; simp
          · cases d with
            | zero => rw [rd_e5 hid hlen hany hcnt] at h; cases h; simp
            | succ d =>
              cases on with
              | none =>
                rw [rd_open hid hlen hcnt] at h
                cases ho : openC (fun a c => rd b d a lim c) b lim (lim - p2 + 1) p2 (c + 1) [] with
                | error e' => rw [ho] at h; cases h; exact openC_err (rd_err b d lim) ho
                | ok x => rw [ho] at h; cases h
              | some n =>
                have hn : ¬ lim - p2 < n := by simpa using hany
                cases bl with
                | false => rw [rd_leaf hid hlen hn hcnt] at h; cases h
                | true =>
                  rw [rd_kids hid hlen hn hcnt] at h
                  cases ho : kidsC (fun a c => rd b d a (p2 + n) c) (p2 + n) n p2 (c + 1) [] with
                  | error e' => rw [ho] at h; cases h; exact kidsC_err (rd_err b d (p2 + n)) ho
                  | ok x => rw [ho] at h; cases h
theorem readB_err {b : ByteArray} {e : Flt} (h : readB b = .error e) : e.2 ≠ 0 := by
  unfold readB at h
  split at h
  · cases h; simp
  · split at h
    · cases h; simp
    · split at h
      · rename_i e' he; cases h; exact kidsC_err (rd_err b 16 b.size) he
      · cases h
theorem fin3 {H : AH} {v v' a e : AV} (h1 : View H v v') (h0 : FZ v') (h2 : FZ a) (h3 : FZ e) {w : AV} (hw : w = .tup [v', a, e]) : ∃ x x', AOut.ret (.tup [v, a, e]) = .ret x ∧ View H x x' ∧ FZ x' ∧ x' = w := by
  subst hw
  exact ⟨_, _, rfl, Views.tup (Views.cons h1 (Views.cons h2.view (Views.cons h3.view Views.nil))), FZ.tup (FZs.cons h0 (FZs.cons h2 (FZs.one h3))), rfl⟩
def nodesV (l : List Hd) : AV := .lst 9 (l.map nodeL) .unk
def walkedOut : Except Flt (List Tree) → AV
  | .ok l => .tup [nodesV (flatTs l), .v (.int .i64 0), .v (.int .i64 0)]
  | .error e => .tup [nodesV [], .v (.int .i64 (e.1 : Int)), .v (.int .i64 e.2)]
theorem walked13 (b : ByteArray) : FCall Try.prog 13 [.v (.string b)] (· = walkedOut (readB b)) := by
  refine ACall.enter [] Cd.fn13 (by simp) ?_
  simp only [Cd.cd13, Tk.t13, base0, base1, base2, base3, Option.isNone_none, Option.isNone_some, Nat.reduceBEq, true_or, or_true, false_or, or_false, Nat.reduceLT, Nat.reduceMod, Nat.reducePow, rmaps, nsucc, List.flatten_cons, List.flatten_nil, Nat.reduceEqDiff, Nat.reduceLeDiff, Nat.reduceAdd, Nat.reduceMul, Nat.reduceSub, ↓reduceIte, reduceCtorEq, decide_true, decide_false]
  refine (read37 b).go (FZs.one (FZ.v _)) ?_
  cases hr : readB b with
  | error e =>
    have he := readB_err hr
    simp only [readOut]
    simp only [show (e.2 != 0) = true from by simp [he], Cd.cd13, Tk.t13, base0, base1, base2, base3, Option.isNone_none, Option.isNone_some, Nat.reduceBEq, true_or, or_true, false_or, or_false, Nat.reduceLT, Nat.reduceMod, Nat.reducePow, rmaps, nsucc, List.flatten_cons, List.flatten_nil, Nat.reduceEqDiff, Nat.reduceLeDiff, Nat.reduceAdd, Nat.reduceMul, Nat.reduceSub, ↓reduceIte, reduceCtorEq, decide_true, decide_false]
    exact fin3 (View.nil 9) (FZ.lst rfl fun r hr => by simp at hr) (FZ.v _) (FZ.v _) rfl
  | ok l =>
    have hl := readB_len hr
    simp only [readOut]
    simp only [show ((0 : Int) != 0) = false from rfl, Cd.cd13, Tk.t13, base0, base1, base2, base3, Option.isNone_none, Option.isNone_some, Nat.reduceBEq, true_or, or_true, false_or, or_false, Nat.reduceLT, Nat.reduceMod, Nat.reducePow, rmaps, nsucc, List.flatten_cons, List.flatten_nil, Nat.reduceEqDiff, Nat.reduceLeDiff, Nat.reduceAdd, Nat.reduceMul, Nat.reduceSub, ↓reduceIte, reduceCtorEq, decide_true, decide_false]
    refine EachR.go (each38 _ l (Nat.le_refl _) AH.none.next [] _ nilS (by simp; omega) (by simp) (by simp [nilS]) (.inl ⟨rfl, rfl⟩)) fun H1 v h1 h2 h3 => ?_
    simp only [h2, Cd.cd13, Tk.t13, base0, base1, base2, base3, Option.isNone_none, Option.isNone_some, Nat.reduceBEq, true_or, or_true, false_or, or_false, Nat.reduceLT, Nat.reduceMod, Nat.reducePow, rmaps, nsucc, List.flatten_cons, List.flatten_nil, Nat.reduceEqDiff, Nat.reduceLeDiff, Nat.reduceAdd, Nat.reduceMul, Nat.reduceSub, ↓reduceIte, reduceCtorEq, decide_true, decide_false]
    exact fin3 (h3.view FZs.nodeL) (FZ.lst rfl fun r hr => by obtain ⟨x, _, rfl⟩ := List.mem_map.mp hr; exact FZs.nodeL x) (FZ.v _) (FZ.v _) rfl
end Go.Proofs.Ytmjjfdppaomcfaa

/- Walks: the reference reads identifiers and lengths. -/
namespace Go.Proofs.Ytmjjfdppaomcfaa
open Go Go.Proofs.Ytmjjfdppaomcfaa.Ab
set_option maxRecDepth 100000
set_option linter.unusedSimpArgs false

def wL (b : ByteArray) (nd : AV) (a e : Int) : List AV := [.v (.string b), nd, .v (.int .i64 a), .v (.int .i64 e)]
theorem rfail.go {P : Program} {mu : List Nat} {K : Kont} {f : AF} {H : AH} {m : FuncId} {args : List AV} {dst : Option Nat} {os : List COp} {v : AV} {r : Nat} {B : ABlk} (h : ACall P m args H (fun out H' => out = .ret v ∧ H'.own r = some B ∧ Kp H H' (· = r)))
    (hr : ∀ H1, H1.own r = some B → Kp H H1 (· = r) → cops P mu K os (f.put dst v) H1) : ACall P m args H (callK P mu K dst os f) :=
  h.mono fun out H1 hq => by
    obtain ⟨rfl, h1, h2⟩ := hq
    exact hr H1 h1 h2

def RidOut (b : ByteArray) (nd : AV) (r : Nat) (H : AH) (x : Except Flt (Nat × Nat × Bool × Nat)) : AOut → AH → Prop := fun out H' =>
  Kp H H' (· = r) ∧ ∃ (c n : Int) (bl : Bool) (p : Int), out = .ret (.tup [.agg [.v (.int .i64 c), .v (.int .i64 n)], .v (.bool bl), .v (.int .i64 p)]) ∧ match x with
    | .ok (c', n', bl', p') => c = (c' : Int) ∧ n = (n' : Int) ∧ bl = bl' ∧ p = (p' : Int) ∧ H'.own r = some (.cells (wL b nd 0 0))
    | .error e => H'.own r = some (.cells (wL b nd e.1 e.2))
end Go.Proofs.Ytmjjfdppaomcfaa

/- Walks: the reference reads lengths. -/
namespace Go.Proofs.Ytmjjfdppaomcfaa
open Go Go.Proofs.Ytmjjfdppaomcfaa.Ab
set_option maxRecDepth 100000
set_option linter.unusedSimpArgs false

def lenI : Option Nat → Int
  | some n => n
  | none => -1
def RlenOut (b : ByteArray) (nd : AV) (r : Nat) (H : AH) (x : Except Flt (Option Nat × Nat)) : AOut → AH → Prop := fun out H' =>
  Kp H H' (· = r) ∧ ∃ (n p : Int), out = .ret (.tup [.v (.int .i64 n), .v (.int .i64 p)]) ∧ match x with
    | .ok (o, p') => n = lenI o ∧ p = (p' : Int) ∧ H'.own r = some (.cells (wL b nd 0 0))
    | .error e => H'.own r = some (.cells (wL b nd e.1 e.2))
end Go.Proofs.Ytmjjfdppaomcfaa

/- Walks: the reference reads nodes of indefinite length. -/
namespace Go.Proofs.Ytmjjfdppaomcfaa
open Go Go.Proofs.Ytmjjfdppaomcfaa.Ab
set_option maxRecDepth 100000
set_option linter.unusedSimpArgs false

/-- the reference's reader: its nodes, its error -/
def WS (b : ByteArray) (r : Nat) (H : AH) (L : List Hd) (a e : Int) : Prop := r < H.next ∧ ∃ nd, H.own r = some (.cells (wL b nd a e)) ∧ Arr nodeL 9 H nd L ∧ ∀ n, nmA nd = some n → n ≠ r ∧ n < H.next
theorem WS.kp {b : ByteArray} {r : Nat} {H H' : AH} {nd : AV} {L : List Hd} {a e a' e' : Int} (h : WS b r H L a e) (hn : H.own r = some (.cells (wL b nd a e))) (hr : H'.own r = some (.cells (wL b nd a' e'))) (hk : Kp H H' (· = r)) : WS b r H' L a' e' := by
  obtain ⟨h1, nd', h2, h3, h4⟩ := h
  rw [hn] at h2
  have : nd = nd' := by simp [wL] at h2; exact h2
  subst this
  have := hk.next
  exact ⟨by omega, nd, hr, h3.mono fun n e => hk.own n (h4 n e).2 (h4 n e).1, fun n e => ⟨(h4 n e).1, by have := (h4 n e).2; omega⟩⟩
/-- what is known of it when an error has come -/
def WE (b : ByteArray) (r : Nat) (H : AH) (k : Nat) (a e : Int) : Prop := r < H.next ∧ ∃ nd, H.own r = some (.cells (wL b nd a e)) ∧ ((k = 0 ∧ (nd = nilS ∨ nd = .lst 9 [] .full)) ∨ ∃ n l, nd = .sl 9 n 0 k ∧ H.own n = some (.cells l) ∧ k * 9 ≤ l.length ∧ n ≠ r ∧ n < H.next)
def RnodeOut (b : ByteArray) (r : Nat) (L : List Hd) (x : Except Flt (Tree × Nat)) : AOut → AH → Prop := fun out H' => ∃ p : Int, out = .ret (.v (.int .i64 p)) ∧ match x with
  | .ok (t, _) => p = (t.h.fin : Int) ∧ WS b r H' (L ++ flatT t) 0 0
  | .error e => ∃ k, L.length ≤ k ∧ WE b r H' k e.1 e.2
theorem RnodeOut.go {P : Program} {mu : List Nat} {K : Kont} {f : AF} {H : AH} {m : FuncId} {args : List AV} {dst : Option Nat} {os : List COp} {b : ByteArray} {r : Nat} {L : List Hd} {x : Except Flt (Tree × Nat)} (h : ACall P m args H (RnodeOut b r L x))
    (hp : ∀ e (p : Int) k H1, x = .error e → L.length ≤ k → WE b r H1 k e.1 e.2 → cops P mu K os (f.put dst (.v (.int .i64 p))) H1)
    (hr : ∀ t c H1, x = .ok (t, c) → WS b r H1 (L ++ flatT t) 0 0 → cops P mu K os (f.put dst (.v (.int .i64 (t.h.fin : Int)))) H1) : ACall P m args H (callK P mu K dst os f) :=
  h.mono fun out H1 hq => by
    obtain ⟨p, rfl, hx⟩ := hq
    cases x with
    | error e => obtain ⟨k, h1, h2⟩ := hx; exact hp e p k H1 rfl h1 h2
    | ok y => obtain ⟨t, c⟩ := y; obtain ⟨rfl, ho⟩ := hx; exact hr t c H1 rfl ho
def RopenOut (b : ByteArray) (r : Nat) (L : List Hd) (x : Except Flt (List Tree × Nat × Nat)) : AOut → AH → Prop := fun out H' => ∃ p : Int, out = .ret (.v (.int .i64 p)) ∧ match x with
  | .ok (l, s, _) => p = ((s + 2 : Nat) : Int) ∧ WS b r H' (L ++ flatTs l) 0 0
  | .error e => ∃ k, L.length ≤ k ∧ WE b r H' k e.1 e.2
def mE (m : Nat) : Option Flt → Nat
  | none => m
  | some _ => 0
def iE (P : Prop) (Q : Flt → Prop) : Option Flt → Prop
  | none => P
  | some e => Q e
end Go.Proofs.Ytmjjfdppaomcfaa

/- Walks: the reference reads nodes. -/
namespace Go.Proofs.Ytmjjfdppaomcfaa
open Go Go.Proofs.Ytmjjfdppaomcfaa.Ab
set_option maxRecDepth 100000
set_option linter.unusedSimpArgs false

section
variable {P : Program} {mu : List Nat} {K : Kont} {f : AF} {H : AH} {m : FuncId} {args : List AV} {dst : Option Nat} {os : List COp} {b : ByteArray} {nd : AV} {r : Nat}
theorem RidOut.ok {x : Except Flt (Nat × Nat × Bool × Nat)} {c n p : Nat} {bl : Bool} (h : ACall P m args H (RidOut b nd r H x)) (hx : x = .ok (c, n, bl, p))
    (hr : ∀ H1, Kp H H1 (· = r) → H1.own r = some (.cells (wL b nd 0 0)) → cops P mu K os (f.put dst (.tup [.agg [.v (.int .i64 (c : Int)), .v (.int .i64 (n : Int))], .v (.bool bl), .v (.int .i64 (p : Int))])) H1) : ACall P m args H (callK P mu K dst os f) :=
  h.mono fun out H1 hq => by
    subst hx
    obtain ⟨hk, c', n', bl', p', rfl, rfl, rfl, rfl, rfl, ho⟩ := hq
    exact hr H1 hk ho
theorem RlenOut.ok {x : Except Flt (Option Nat × Nat)} {o : Option Nat} {p : Nat} (h : ACall P m args H (RlenOut b nd r H x)) (hx : x = .ok (o, p))
    (hr : ∀ H1, Kp H H1 (· = r) → H1.own r = some (.cells (wL b nd 0 0)) → cops P mu K os (f.put dst (.tup [.v (.int .i64 (lenI o)), .v (.int .i64 (p : Int))])) H1) : ACall P m args H (callK P mu K dst os f) :=
  h.mono fun out H1 hq => by
    subst hx
    obtain ⟨hk, n', p', rfl, rfl, rfl, ho⟩ := hq
    exact hr H1 hk ho
end

theorem RopenOut.go {P : Program} {mu : List Nat} {K : Kont} {f : AF} {H : AH} {m : FuncId} {args : List AV} {dst : Option Nat} {os : List COp} {b : ByteArray} {r : Nat} {L : List Hd} {x : Except Flt (List Tree × Nat × Nat)} (h : ACall P m args H (RopenOut b r L x))
    (hp : ∀ e (p : Int) k H1, x = .error e → L.length ≤ k → WE b r H1 k e.1 e.2 → cops P mu K os (f.put dst (.v (.int .i64 p))) H1)
    (hr : ∀ l s c H1, x = .ok (l, s, c) → WS b r H1 (L ++ flatTs l) 0 0 → cops P mu K os (f.put dst (.v (.int .i64 ((s + 2 : Nat) : Int)))) H1) : ACall P m args H (callK P mu K dst os f) :=
  h.mono fun out H1 hq => by
    obtain ⟨p, rfl, hx⟩ := hq
    cases x with
    | error e => obtain ⟨k, h1, h2⟩ := hx; exact hp e p k H1 rfl h1 h2
    | ok y => obtain ⟨l, s, c⟩ := y; obtain ⟨rfl, ho⟩ := hx; exact hr l s c H1 rfl ho
theorem WS.ext {b : ByteArray} {r : Nat} {H H' : AH} {L : List Hd} {a e : Int} (h : WS b r H L a e) (hn : H.next ≤ H'.next) (ho : ∀ n, n < H.next → H'.own n = H.own n) : WS b r H' L a e := by
  obtain ⟨h1, nd, h2, h3, h4⟩ := h
  exact ⟨by omega, nd, (ho r h1).trans h2, h3.mono fun n e => ho n (h4 n e).2, fun n e => ⟨(h4 n e).1, by have := (h4 n e).2; omega⟩⟩
def restB42 : CC := dropS 9 Cd.cd42
def restC42 : CC := dropS 12 Cd.cd42
end Go.Proofs.Ytmjjfdppaomcfaa

/- Walks: the reference's nodes, their ends. -/
namespace Go.Proofs.Ytmjjfdppaomcfaa
open Go Go.Proofs.Ytmjjfdppaomcfaa.Ab
set_option maxRecDepth 100000
set_option linter.unusedSimpArgs false

theorem WE.at {b : ByteArray} {r k : Nat} {H : AH} {a e : Int} (h : WE b r H k a e) (hk : 0 < k) : ∃ n l, H.own r = some (.cells [.v (.string b), .sl 9 n 0 k, .v (.int .i64 a), .v (.int .i64 e)]) ∧ H.own n = some (.cells l) ∧ k * 9 ≤ l.length ∧ n ≠ r ∧ n < H.next ∧ r < H.next := by
  obtain ⟨h1, nd, h2, ⟨rfl, _⟩ | ⟨n, l, rfl, h3, h4, h5, h6⟩⟩ := h
  · omega
  · exact ⟨n, l, h2, h3, h4, h5, h6, h1⟩
theorem WS.at {b : ByteArray} {r : Nat} {H : AH} {L : List Hd} {a e : Int} (h : WS b r H L a e) (hk : 0 < L.length) : ∃ n rest, H.own r = some (.cells [.v (.string b), .sl 9 n 0 L.length, .v (.int .i64 a), .v (.int .i64 e)]) ∧ H.own n = some (.cells (flatE nodeL L ++ rest)) ∧ n ≠ r ∧ n < H.next ∧ r < H.next := by
  obtain ⟨h1, nd, h2, h3, h4⟩ := h
  obtain ⟨n, rest, rfl, hn⟩ := h3.own hk
  exact ⟨n, rest, h2, hn, (h4 n rfl).1, (h4 n rfl).2, h1⟩
end Go.Proofs.Ytmjjfdppaomcfaa

/- Walks: the reference's nodes of definite length. -/
namespace Go.Proofs.Ytmjjfdppaomcfaa
open Go Go.Proofs.Ytmjjfdppaomcfaa.Ab
set_option maxRecDepth 100000
set_option linter.unusedSimpArgs false

def restD42 : CC := dropS 14 Cd.cd42
end Go.Proofs.Ytmjjfdppaomcfaa

/- Walks: the reference reads bytes. -/
namespace Go.Proofs.Ytmjjfdppaomcfaa
open Go Go.Proofs.Ytmjjfdppaomcfaa.Ab
set_option maxRecDepth 100000
set_option linter.unusedSimpArgs false

def refOut (b : ByteArray) : Except Flt (List Tree) → AV
  | .ok l => .box (wL b (nodesV (flatTs l)) 0 0)
  | .error e => .box (wL b (nodesV []) e.1 e.2)
theorem FZ.nodesV (l : List Hd) : FZ (nodesV l) := FZ.lst rfl fun r hr => by
  obtain ⟨x, _, rfl⟩ := List.mem_map.mp hr; exact FZs.nodeL x
def rest14 : CC := dropS 3 Cd.cd14
end Go.Proofs.Ytmjjfdppaomcfaa

/- Walks: limits; lists of nodes compared. -/
namespace Go.Proofs.Ytmjjfdppaomcfaa
open Go Go.Proofs.Ytmjjfdppaomcfaa.Ab
set_option maxRecDepth 100000
set_option linter.unusedSimpArgs false

theorem leT {a b : Nat} (h : a ≤ b) : ((a : Int) ≤ (b : Int)) = True := by simp; omega
theorem ltT {a b : Nat} (h : a < b) : ((a : Int) < (b : Int)) = True := by simp; omega
theorem sadd {x y : ByteArray} (h : x.size + y.size ≤ 1000000000) : astr .add x y = some (.string (x ++ y)) := by
  unfold astr
  simp only []
  rw [if_neg]
  rw [show IntKind.i64.max = 9223372036854775807 from by decide]
  omega

theorem fin_v {H' : AH} {x : Value} {w : AV} (hw : w = .v x) : ∃ v v', AOut.ret (.v x) = .ret v ∧ View H' v v' ∧ FZ v' ∧ v' = w := by
  subst hw; exact ⟨_, _, rfl, (FZ.v _).view, FZ.v _, rfl⟩
def smallB (b : ByteArray) : Bool := decide (b.size ≤ 400) || (decide (4000 < b.size) && decide (b.size < 4050))
theorem small12 (b : ByteArray) : FCall Try.prog 12 [.v (.string b)] (· = .v (.bool (smallB b))) := by
  refine ACall.enter [] Cd.fn12 (by simp) ?_
  unfold smallB
  by_cases h1 : b.size ≤ 400
  · simp only [show decide ((b.size : Int) ≤ 400) = true from decide_eq_true (by omega), decide_eq_true h1, Cd.cd12, Tk.t12, base0, base1, base2, base3, Option.isNone_none, Option.isNone_some, Nat.reduceBEq, true_or, or_true, false_or, or_false, Nat.reduceLT, Nat.reduceMod, Nat.reducePow, rmaps, nsucc, List.flatten_cons, List.flatten_nil, Nat.reduceEqDiff, Nat.reduceLeDiff, Nat.reduceAdd, Nat.reduceMul, Nat.reduceSub, ↓reduceIte, reduceCtorEq, decide_true, decide_false]
    exact fin_v rfl
  · by_cases h2 : 4000 < b.size
    · simp only [show decide ((b.size : Int) ≤ 400) = false from decide_eq_false (by omega), decide_eq_false h1, show decide ((b.size : Int) > 4000) = true from decide_eq_true (by omega), decide_eq_true h2, show decide ((b.size : Int) < 4050) = decide (b.size < 4050) from by simp; omega, Cd.cd12, Tk.t12, base0, base1, base2, base3, Option.isNone_none, Option.isNone_some, Nat.reduceBEq, true_or, or_true, false_or, or_false, Nat.reduceLT, Nat.reduceMod, Nat.reducePow, rmaps, nsucc, List.flatten_cons, List.flatten_nil, Nat.reduceEqDiff, Nat.reduceLeDiff, Nat.reduceAdd, Nat.reduceMul, Nat.reduceSub, ↓reduceIte, reduceCtorEq, decide_true, decide_false]
      exact fin_v rfl
    · simp only [show decide ((b.size : Int) ≤ 400) = false from decide_eq_false (by omega), decide_eq_false h1, show decide ((b.size : Int) > 4000) = false from decide_eq_false (by omega), decide_eq_false h2, Cd.cd12, Tk.t12, base0, base1, base2, base3, Option.isNone_none, Option.isNone_some, Nat.reduceBEq, true_or, or_true, false_or, or_false, Nat.reduceLT, Nat.reduceMod, Nat.reducePow, rmaps, nsucc, List.flatten_cons, List.flatten_nil, Nat.reduceEqDiff, Nat.reduceLeDiff, Nat.reduceAdd, Nat.reduceMul, Nat.reduceSub, ↓reduceIte, reduceCtorEq, decide_true, decide_false]
      exact fin_v rfl

end Go.Proofs.Ytmjjfdppaomcfaa

/- Readers of the arguments. -/
namespace Go.Proofs.Ytmjjfdppaomcfaa
open Go Go.Proofs.Ytmjjfdppaomcfaa.Ab
set_option maxRecDepth 100000

theorem rdS : Rd Try.prog 9 (fun b : ByteArray => [.v (.string b)]) (fun s => s.size ≤ maxLen) := Rd.str Try.underlying9
theorem own : ownKnob Try.prog.godebug = none := by kernel_rfl
theorem laidOut : laidOutB Try.prog = true := by kernel_rfl
end Go.Proofs.Ytmjjfdppaomcfaa

/- Walks: bytes the other way round; the octets of a length. -/
namespace Go.Proofs.Ytmjjfdppaomcfaa
open Go Go.Proofs.Ytmjjfdppaomcfaa.Ab
set_option maxRecDepth 100000
set_option linter.unusedSimpArgs false

def byV (x : UInt8) : AV := .v (.int .u8 (x.toNat : Nat))
def byR (x : UInt8) : List AV := [byV x]
theorem byR_len (x : UInt8) : (byR x).length = 1 := rfl
theorem byGet {M : List UInt8} {i : Nat} (rest : List AV) (h : i < M.length) : (List.drop (i * 1) (flatE byR M ++ rest))[0]? = some (byV (M.getD i default)) := by
  have := flatE_drop byR_len M i 0 rest h (by omega)
  rw [Nat.add_zero] at this
  rw [this]; rfl
theorem bySet {M : List UInt8} {i : Nat} (rest : List AV) (x : UInt8) (h : i < M.length) : List.take (i * 1) (flatE byR M ++ rest) ++ byV x :: List.drop (i * 1 + 1) (flatE byR M ++ rest) = flatE byR (M.set i x) ++ rest :=
  flatE_splice (enc := byR) byR_len (l := M) (i := i) (j := 0) (rest := rest) (cs := [byV x]) (x := x) h (by simp) rfl
theorem byLen {M : List UInt8} {i : Nat} (rest : List AV) (h : i < M.length) : i * 1 + 1 ≤ (flatE byR M ++ rest).length := by
  rw [List.length_append, flatE_len byR_len]; omega
theorem getD_set' {l : List UInt8} {i j : Nat} {x : UInt8} (h : i < l.length) : (l.set i x).getD j default = if i = j then x else l.getD j default := by
  rw [List.getD_eq_getElem?_getD, List.getElem?_set]
  split
  · simp [h]
  · rw [← List.getD_eq_getElem?_getD]
theorem byV_cells (x : UInt8) : cellsA (byV x) = some [byV x] := rfl
theorem byV_one (x : UInt8) : AV.one (byV x) = true := rfl

theorem reverse62 (q : Nat) (l : List UInt8) (rest : List AV) (H : AH) (hm : H.own q = some (.cells (flatE byR l ++ rest))) (hl : l.length ≤ 1000000) :
    ACall Try.prog 62 [.sl 1 q 0 l.length] H (fun out H' => out = .ret (.tup []) ∧ H'.next = H.next ∧ (∀ n, n ≠ q → H'.own n = H.own n) ∧ H'.tip = H.tip ∧ H'.own q = some (.cells (flatE byR l.reverse ++ rest))) := by
  refine ACall.enter [] Cd.fn62 (by simp) ?_
  simp only [show IntKind.i64.wrap ((l.length : Int) - 1) = (l.length : Int) - 1 from wrapI (by omega) (by omega), Cd.cd62, Tk.t62, base0, base1, base2, base3, Option.isNone_none, Option.isNone_some, Nat.reduceBEq, true_or, or_true, false_or, or_false, Nat.reduceLT, Nat.reduceMod, Nat.reducePow, rmaps, nsucc, List.flatten_cons, List.flatten_nil, Nat.reduceEqDiff, Nat.reduceLeDiff, Nat.reduceAdd, Nat.reduceMul, Nat.reduceSub, ↓reduceIte, reduceCtorEq, decide_true, decide_false]
  refine LWP.loop [] (fun m f H' => ∃ i, m = l.length - i ∧ (i ≤ l.length) ∧ f.t 0 = .sl 1 q 0 l.length ∧ f.t 2 = .v (.int .i64 (i : Nat)) ∧ f.t 3 = .v (.int .i64 ((l.length : Int) - 1 - (i : Nat))) ∧ f.ds = [] ∧ H'.next = H.next ∧ (∀ n, n ≠ q → H'.own n = H.own n) ∧ H'.tip = H.tip ∧ ∃ M : List UInt8, M.length = l.length ∧ (∀ k, k < l.length → M.getD k default = if k < i ∨ l.length ≤ k + i then l.getD (l.length - 1 - k) default else l.getD k default) ∧ H'.own q = some (.cells (flatE byR M ++ rest))) ?_ ?_ (m := l.length - (0))
  · exact ⟨0, rfl, (by omega), rfl, rfl, (by simp [upd]), rfl, ⟨rfl, fun _ _ => rfl, rfl, l, rfl, fun k hk => by rw [if_neg (by omega)], hm⟩⟩
  · rintro m f H' ⟨i, rfl, hi, f0, f2, f3, hds, ⟨hnx,hot,htp,M,hM,hMg,hown⟩⟩
    by_cases hlt : (i : Int) < (l.length : Int) - 1 - i
    · have q1 : (i : Int) < (l.length : Int) := by omega
      have q2 : (0 : Int) ≤ (l.length : Int) - 1 - i := by omega
      have q3 : (l.length : Int) - 1 - i < (l.length : Int) := by omega
      have q4 : ((l.length : Int) - 1 - i).toNat = l.length - 1 - i := by omega
      have w1 : IntKind.i64.wrap ((l.length : Int) - 1 - i - 1) = (l.length : Int) - 1 - (i + 1 : Nat) := by rw [wrapI (by omega) (by omega)]; omega
      have g1 := byGet (M := M) (i := i) rest (by omega)
      have g2 := byGet (M := M) (i := l.length - 1 - i) rest (by omega)
      have s1 := bySet (M := M) (i := i) rest (M.getD (l.length - 1 - i) default) (by omega)
      have s2 := bySet (M := M.set i (M.getD (l.length - 1 - i) default)) (i := l.length - 1 - i) rest (M.getD i default) (by simp; omega)
      have l1 := byLen (M := M) (i := i) rest (by omega)
      have l2 := byLen (M := M.set i (M.getD (l.length - 1 - i) default)) (i := l.length - 1 - i) rest (by simp; omega)
      simp only [decide_eq_true hlt, hown, Int.natCast_nonneg, Int.toNat_natCast, q1, q2, q3, q4, g1, g2, byV_cells, byV_one, s1, s2, l1, l2, w1, wrapS (show i < 2 ^ 62 by omega), f0, f2, f3, hds, Cd.cd62, Tk.t62, base0, base1, base2, base3, Option.isNone_none, Option.isNone_some, Nat.reduceBEq, true_or, or_true, false_or, or_false, Nat.reduceLT, Nat.reduceMod, Nat.reducePow, rmaps, nsucc, List.flatten_cons, List.flatten_nil, Nat.reduceEqDiff, Nat.reduceLeDiff, Nat.reduceAdd, Nat.reduceMul, Nat.reduceSub, ↓reduceIte, reduceCtorEq, decide_true, decide_false]
      refine ⟨_, by omega, i + 1, rfl, by omega, rfl, rfl, hnx, fun n hn => by rw [if_neg hn, if_neg hn]; exact hot n hn, htp, _, ?_, ?_, rfl⟩
      · simp [hM]
      · intro k hk
        rw [getD_set' (by simp; omega), getD_set' (by omega)]
        have e1 := hMg i (by omega)
        have e2 := hMg (l.length - 1 - i) (by omega)
        have e3 := hMg k hk
        rw [if_neg (by omega)] at e1 e2
        by_cases h1 : l.length - 1 - i = k
        · subst h1
          rw [if_pos rfl, e1, if_pos (by omega)]; congr 1; omega
        · rw [if_neg h1]
          by_cases h2 : i = k
          · subst h2
            rw [if_pos rfl, e2, if_pos (by omega)]
          · rw [if_neg h2, e3]
            by_cases h3 : k < i ∨ l.length ≤ k + i
            · rw [if_pos h3, if_pos (by omega)]
            · rw [if_neg h3, if_neg (by omega)]
    · simp only [decide_eq_false hlt, f0, f2, f3, hds, Cd.cd62, Tk.t62, base0, base1, base2, base3, Option.isNone_none, Option.isNone_some, Nat.reduceBEq, true_or, or_true, false_or, or_false, Nat.reduceLT, Nat.reduceMod, Nat.reducePow, rmaps, nsucc, List.flatten_cons, List.flatten_nil, Nat.reduceEqDiff, Nat.reduceLeDiff, Nat.reduceAdd, Nat.reduceMul, Nat.reduceSub, ↓reduceIte, reduceCtorEq, decide_true, decide_false]
      refine ⟨hnx, hot, htp, ?_⟩
      rw [hown]
      congr 4
      apply List.ext_getElem
      · simp [hM]
      · intro k h1 h2
        have e := hMg k (by omega)
        simp only [List.getD_eq_getElem?_getD, List.getElem?_eq_getElem h1, Option.getD_some] at e
        rw [e, List.getElem_reverse]
        by_cases h3 : k < i ∨ l.length ≤ k + i
        · rw [if_pos h3, List.getElem?_eq_getElem (by omega)]; rfl
        · rw [if_neg h3, List.getElem?_eq_getElem (by omega)]
          simp only [Option.getD_some]
          congr 1; omega
end Go.Proofs.Ytmjjfdppaomcfaa

/- Walks: the octets of a length. -/
namespace Go.Proofs.Ytmjjfdppaomcfaa
open Go Go.Proofs.Ytmjjfdppaomcfaa.Ab
set_option maxRecDepth 100000
set_option linter.unusedSimpArgs false

theorem isB84 : isBytesT Try.prog 84 = true := by kernel_rfl
theorem wrapU8 (k : Nat) : IntKind.u8.wrap (k : Int) = ((UInt8.ofNat k).toNat : Int) := by
  simp [IntKind.wrap, IntKind.bits, IntKind.signed]
theorem byV_ofNat (k : Nat) : AV.v (.int .u8 ((UInt8.ofNat k).toNat : Int)) = byV (UInt8.ofNat k) := rfl
theorem shr8n (k : Nat) : Int.fdiv (k : Int) (2 ^ min (8 : Int).toNat IntKind.i64.bits) = ((k / 256 : Nat) : Int) := by
  rw [show (2 : Int) ^ min (8 : Int).toNat IntKind.i64.bits = 256 from by decide, Int.fdiv_eq_ediv_of_nonneg _ (by omega)]; omega
def lowF : Nat → Nat → List UInt8
  | 0, _ => []
  | m + 1, k => if k = 0 then [] else UInt8.ofNat k :: lowF m (k / 256)
theorem lowF_zero (m : Nat) : lowF m 0 = [] := by cases m <;> simp [lowF]
theorem lowF_fuel : ∀ (m m' k : Nat), k ≤ m → k ≤ m' → lowF m k = lowF m' k
  | 0, m', k, h, _ => by
    have : k = 0 := by omega
    subst this; rw [lowF_zero, lowF_zero]
  | m + 1, 0, k, _, h => by
    have : k = 0 := by omega
    subst this; rw [lowF_zero, lowF_zero]
  | m + 1, m' + 1, k, h, h' => by
    simp only [lowF]
    by_cases hk : k = 0
    · rw [if_pos hk, if_pos hk]
    · rw [if_neg hk, if_neg hk, lowF_fuel m m' (k / 256) (by omega) (by omega)]
/-- the digits of a number, the lowest first -/
def lowB (n : Nat) : List UInt8 := lowF n n
theorem lowB_step {k : Nat} (h : 0 < k) : lowB k = UInt8.ofNat k :: lowB (k / 256) := by
  unfold lowB
  obtain ⟨m, rfl⟩ : ∃ m, k = m + 1 := ⟨k - 1, by omega⟩
  rw [lowF, if_neg (by omega), lowF_fuel m ((m + 1) / 256) ((m + 1) / 256) (by omega) (by omega)]
theorem lowF_len : ∀ (m k : Nat), (lowF m k).length ≤ m
  | 0, _ => by simp [lowF]
  | m + 1, k => by
    simp only [lowF]; split
    · simp
    · have := lowF_len m (k / 256); simp; omega
def padB (L : List UInt8) (T : Nat) : List UInt8 := L ++ List.replicate (T - L.length) 0
theorem padB_step {L : List UInt8} {T : Nat} (h : L.length < T) : padB (L ++ [0]) T = padB L T := by
  unfold padB
  rw [List.append_assoc, show T - L.length = (T - (L ++ [0]).length) + 1 from by simp; omega]
  simp [List.replicate_succ]
theorem padB_done {L : List UInt8} {T : Nat} (h : T ≤ L.length) : padB L T = L := by
  unfold padB; rw [show T - L.length = 0 from by omega]; simp
theorem padB_len (L : List UInt8) (T : Nat) : (padB L T).length = max L.length T := by simp [padB]; omega
/-- the octets of a length -/
def lengthL (n least : Nat) : List UInt8 := if n < 128 ∧ least = 1 then [UInt8.ofNat n] else
  UInt8.ofNat (128 + (padB (lowB n) (max 1 (least - 1))).length) :: (padB (lowB n) (max 1 (least - 1))).reverse
def lengthB (n least : Nat) : ByteArray := ⟨(lengthL n least).toArray⟩

theorem byteA_byR (x : UInt8) : byteA (byR x) = some x := by
  have h := x.toNat_lt
  simp only [byR, byV, byteA]
  rw [if_pos (by constructor <;> omega)]
  simp
theorem bytesA_map : ∀ l : List UInt8, bytesA (l.map byR) = some l
  | [] => rfl
  | x :: l => by
    have := bytesA_map l
    simp only [bytesA, List.map_cons, List.map_map] at this ⊢
    rw [byteA_byR]
    simp only [allSome, this, Option.map_some]
theorem bytes_flat (l : List UInt8) (rest : List AV) : bytesA ((List.take l.length (flatE byR l ++ rest)).map fun a => [a]) = some l := by
  have e : l.length = (flatE byR l).length := by rw [flatE_len byR_len]; omega
  rw [e, List.take_left]
  have : (flatE byR l).map (fun a => [a]) = l.map byR := by
    unfold flatE
    induction l with
    | nil => rfl
    | cons x l ih => simp only [List.map_cons, List.flatten_cons, List.map_append, ih (by rw [flatE_len byR_len]; omega)]; rfl
  rw [this]; exact bytesA_map l
theorem bcat (l m : List UInt8) : (⟨l.toArray⟩ ++ ⟨m.toArray⟩ : ByteArray) = ⟨(l ++ m).toArray⟩ := by
  apply ByteArray.ext; simp
/-- bytes of the call's own, or nil -/
def ByA (H : AH) (v : AV) (L : List UInt8) : Prop := (L = [] ∧ v = nilS) ∨ ∃ q rest, v = .sl 1 q 0 L.length ∧ q < H.next ∧ H.own q = some (.cells (flatE byR L ++ rest))


def rest48 : CC := dropS 2 Cd.cd48
set_option maxHeartbeats 1000000 in
theorem tail48 (n least : Nat) (hn : n ≤ 1000000) (h1 : 1 ≤ least) (h2 : least ≤ 1000000) (f : AF) (hf0 : f.t 0 = iv n) (hf1 : f.t 1 = iv least) (hds : f.ds = []) (R : AOut → AH → Prop)
    (hR : ∀ H', R (.ret (.v (.string ⟨(UInt8.ofNat (128 + (padB (lowB n) (max 1 (least - 1))).length) :: (padB (lowB n) (max 1 (least - 1))).reverse).toArray⟩))) H') :
    cwp Try.prog [26,35] 47 rest48 (Kont.fin Try.prog [ResultVar.tmp 4] R) f AH.none := by
  have hlow : (lowB n).length ≤ n := lowF_len n n
  simp only [rest48, dropS, hf0, hf1, hds, Cd.cd48, Tk.t48, base0, base1, base2, base3, Option.isNone_none, Option.isNone_some, Nat.reduceBEq, true_or, or_true, false_or, or_false, Nat.reduceLT, Nat.reduceMod, Nat.reducePow, rmaps, nsucc, List.flatten_cons, List.flatten_nil, Nat.reduceEqDiff, Nat.reduceLeDiff, Nat.reduceAdd, Nat.reduceMul, Nat.reduceSub, ↓reduceIte, reduceCtorEq, decide_true, decide_false]
  refine LWP.loop [26,35] (fun m f H' => ∃ k, m = k + 1 ∧ (k ≤ n) ∧ f.t 1 = iv least ∧ f.t 6 = .v (.int .i64 (k : Nat)) ∧ f.ds = [] ∧ ∃ L, L ++ lowB k = lowB n ∧ L.length + k ≤ n ∧ ByA H' (f.t 5) L) ?_ ?_ (m := (n) + 1)
  · exact ⟨n, rfl, (Nat.le_refl n), (by simp [upd, hf1]), (by simp [upd, iv]), rfl, ⟨[], rfl, by simp, .inl ⟨rfl, rfl⟩⟩⟩
  · rintro m f H' ⟨k, rfl, hk, f1, f6, hds, ⟨L,hL,hLn,hA⟩⟩
    by_cases hk0 : 0 < k
    · have hst : (L ++ [UInt8.ofNat k]) ++ lowB (k / 256) = lowB n := by rw [← hL, lowB_step hk0]; simp
      rcases hA with ⟨rfl, h5⟩ | ⟨q, rest, h5, hq, hown⟩
      · simp only [h5, nilS, show decide ((k : Int) > 0) = true from decide_eq_true (by omega), wrapU8, byV_ofNat, shr8n, show roomA 1 1 = true from rfl, f1, f6, hds, Cd.cd48, Tk.t48, base0, base1, base2, base3, Option.isNone_none, Option.isNone_some, Nat.reduceBEq, true_or, or_true, false_or, or_false, Nat.reduceLT, Nat.reduceMod, Nat.reducePow, rmaps, nsucc, List.flatten_cons, List.flatten_nil, Nat.reduceEqDiff, Nat.reduceLeDiff, Nat.reduceAdd, Nat.reduceMul, Nat.reduceSub, ↓reduceIte, reduceCtorEq, decide_true, decide_false]
        refine ⟨_, by omega, k / 256, rfl, by omega, rfl, [UInt8.ofNat k], by simpa using hst, by simp; omega, .inr ⟨H'.next, [], rfl, by simp, by simp [flatE, byR, byV]⟩⟩
      · have e1 : L.length * 1 ≤ (flatE byR L ++ rest).length := by rw [List.length_append, flatE_len byR_len]; omega
        have e2 : List.take (L.length * 1) (flatE byR L ++ rest) ++ [byV (UInt8.ofNat k)] = flatE byR (L ++ [UInt8.ofNat k]) := by
          rw [show L.length * 1 = (flatE byR L).length from (flatE_len byR_len L).symm, List.take_left, flatE_append]; rfl
        simp only [h5, hown, show decide ((k : Int) > 0) = true from decide_eq_true (by omega), wrapU8, byV_ofNat, byV_one, byV_cells, shr8n, room1 (b := 1) (n := L.length) (by omega) (by omega), e1, e2, f1, f6, hds, Cd.cd48, Tk.t48, base0, base1, base2, base3, Option.isNone_none, Option.isNone_some, Nat.reduceBEq, true_or, or_true, false_or, or_false, Nat.reduceLT, Nat.reduceMod, Nat.reducePow, rmaps, nsucc, List.flatten_cons, List.flatten_nil, Nat.reduceEqDiff, Nat.reduceLeDiff, Nat.reduceAdd, Nat.reduceMul, Nat.reduceSub, ↓reduceIte, reduceCtorEq, decide_true, decide_false]
        refine ⟨_, by omega, k / 256, rfl, by omega, rfl, L ++ [UInt8.ofNat k], hst, by simp; omega, .inr ⟨H'.next, [], by simp, by simp, ?_⟩⟩
        simp [show ¬ H'.next = q by omega]
    · obtain rfl : k = 0 := by omega
      rw [show lowB 0 = [] from rfl, List.append_nil] at hL
      rw [← hL] at hR
      obtain ⟨T, hT⟩ : ∃ T, T = max 1 (least - 1) := ⟨_, rfl⟩
      have hT1 : 1 ≤ T := by omega
      have hT2 : T ≤ 1000000 := by omega
      have wl : IntKind.i64.wrap ((least : Int) - 1) = (least : Int) - 1 := wrapI (by omega) (by omega)
      have hmax : (if (least : Int) - 1 > 1 then (least : Int) - 1 else 1) = (T : Int) := by split <;> omega
      rw [← hT] at hR
      simp only [show decide (((0 : Nat) : Int) > 0) = false from rfl, f1, f6, hds, Cd.cd48, Tk.t48, base0, base1, base2, base3, Option.isNone_none, Option.isNone_some, Nat.reduceBEq, true_or, or_true, false_or, or_false, Nat.reduceLT, Nat.reduceMod, Nat.reducePow, rmaps, nsucc, List.flatten_cons, List.flatten_nil, Nat.reduceEqDiff, Nat.reduceLeDiff, Nat.reduceAdd, Nat.reduceMul, Nat.reduceSub, ↓reduceIte, reduceCtorEq, decide_true, decide_false]
      refine LWP.loop [26,35] (fun m f H' => ∃ j, m = T - j ∧ (j ≤ max L.length T) ∧ f.t 1 = iv least ∧ f.ds = [] ∧ ∃ M, padB M T = padB L T ∧ M.length = j ∧ ByA H' (f.t 5) M) ?_ ?_ (m := T - (L.length))
      · exact ⟨L.length, rfl, (by omega), (by simp [upd, f1]), rfl, ⟨L, rfl, rfl, hA⟩⟩
      · rintro m f H' ⟨j, rfl, hjb, f1, hds, ⟨M,hMp,hMl,hB⟩⟩
        by_cases hjT : j < T
        · have hst : padB (M ++ [0]) T = padB L T := by rw [← hMp]; exact padB_step (by omega)
          rcases hB with ⟨rfl, h5⟩ | ⟨q, rest, h5, hq, hown⟩
          · simp only [h5, nilS, iv, wl, hmax, List.length_nil, show decide (((0 : Nat) : Int) < (T : Int)) = true from decide_eq_true (by omega), show decide ((0 : Int) < (T : Int)) = true from decide_eq_true (by omega), show roomA 1 1 = true from rfl, f1, hds, Cd.cd48, Tk.t48, base0, base1, base2, base3, Option.isNone_none, Option.isNone_some, Nat.reduceBEq, true_or, or_true, false_or, or_false, Nat.reduceLT, Nat.reduceMod, Nat.reducePow, rmaps, nsucc, List.flatten_cons, List.flatten_nil, Nat.reduceEqDiff, Nat.reduceLeDiff, Nat.reduceAdd, Nat.reduceMul, Nat.reduceSub, ↓reduceIte, reduceCtorEq, decide_true, decide_false]
            refine ⟨_, by simp at hMl; omega, 1, rfl, by omega, [0], by simpa using hst, rfl, .inr ⟨H'.next, [], rfl, by simp, by simp [flatE, byR, byV]⟩⟩
          · have e1 : M.length * 1 ≤ (flatE byR M ++ rest).length := by rw [List.length_append, flatE_len byR_len]; omega
            have e2 : List.take (M.length * 1) (flatE byR M ++ rest) ++ [AV.v (.int .u8 0)] = flatE byR (M ++ [0]) := by
              rw [show M.length * 1 = (flatE byR M).length from (flatE_len byR_len M).symm, List.take_left, flatE_append]; rfl
            simp only [h5, hown, iv, wl, hmax, show decide ((M.length : Int) < (T : Int)) = true from decide_eq_true (by omega), room1 (b := 1) (n := M.length) (by omega) (by omega), e1, e2, f1, hds, Cd.cd48, Tk.t48, base0, base1, base2, base3, Option.isNone_none, Option.isNone_some, Nat.reduceBEq, true_or, or_true, false_or, or_false, Nat.reduceLT, Nat.reduceMod, Nat.reducePow, rmaps, nsucc, List.flatten_cons, List.flatten_nil, Nat.reduceEqDiff, Nat.reduceLeDiff, Nat.reduceAdd, Nat.reduceMul, Nat.reduceSub, ↓reduceIte, reduceCtorEq, decide_true, decide_false]
            refine ⟨_, by omega, j + 1, rfl, by omega, M ++ [0], hst, by simp; omega, .inr ⟨H'.next, [], by simp, by simp, ?_⟩⟩
            simp [show ¬ H'.next = q by omega]
        · have hM : M = padB L T := by rw [← hMp, padB_done (by omega)]
          rw [← hM] at hR
          rcases hB with ⟨rfl, h5⟩ | ⟨q, rest, h5, hq, hown⟩
          · simp at hMl; omega
          · have hM2 : M.length ≤ 1000000 := by omega
            simp only [h5, hown, iv, wl, hmax, show decide ((M.length : Int) < (T : Int)) = false from decide_eq_false (by omega), f1, hds, Cd.cd48, Tk.t48, base0, base1, base2, base3, Option.isNone_none, Option.isNone_some, Nat.reduceBEq, true_or, or_true, false_or, or_false, Nat.reduceLT, Nat.reduceMod, Nat.reducePow, rmaps, nsucc, List.flatten_cons, List.flatten_nil, Nat.reduceEqDiff, Nat.reduceLeDiff, Nat.reduceAdd, Nat.reduceMul, Nat.reduceSub, ↓reduceIte, reduceCtorEq, decide_true, decide_false]
            refine ACall.mono (reverse62 q M rest _ hown (by omega)) ?_
            rintro _ H1 ⟨rfl, k1, k2, k3, k4⟩
            simp only [callK]
            have hcv : bytesA ((List.take M.length (flatE byR M.reverse ++ rest)).map fun a => [a]) = some M.reverse := by
              have := bytes_flat M.reverse rest; rwa [List.length_reverse] at this
            have hcl : M.length ≤ (flatE byR M.reverse ++ rest).length := by rw [List.length_append, flatE_len byR_len, List.length_reverse]; omega
            have h128 : IntKind.u8.wrap (IntKind.i64.wrap (128 + (M.length : Int))) = ((UInt8.ofNat (128 + M.length)).toNat : Int) := by
              rw [wrapI (by omega) (by omega), show (128 + (M.length : Int)) = ((128 + M.length : Nat) : Int) from by omega, wrapU8]
            have hB : bytesA [[byV (UInt8.ofNat (128 + M.length))]] = some [UInt8.ofNat (128 + M.length)] := bytesA_map [UInt8.ofNat (128 + M.length)]
            have hcat : astr .add ⟨#[UInt8.ofNat (128 + M.length)]⟩ ⟨M.reverse.toArray⟩ = some (.string ⟨(UInt8.ofNat (128 + M.length) :: M.reverse).toArray⟩) := by
              have e := bcat [UInt8.ofNat (128 + M.length)] M.reverse
              unfold astr
              simp only []
              rw [if_neg]; · exact congrArg (fun x => some (Value.string x)) e
              · show ¬ (((([UInt8.ofNat (128 + M.length)].toArray.size + M.reverse.toArray.size : Nat) : Int)) > IntKind.i64.max)
                rw [show IntKind.i64.max = 9223372036854775807 from by decide]
                simp; omega
            simp only [h5, k4, iv, hcv, hcl, h128, byV_ofNat, byV_cells, hB, isB84, hcat, f1, hds, Cd.cd48, Tk.t48, base0, base1, base2, base3, Option.isNone_none, Option.isNone_some, Nat.reduceBEq, true_or, or_true, false_or, or_false, Nat.reduceLT, Nat.reduceMod, Nat.reducePow, rmaps, nsucc, List.flatten_cons, List.flatten_nil, Nat.reduceEqDiff, Nat.reduceLeDiff, Nat.reduceAdd, Nat.reduceMul, Nat.reduceSub, ↓reduceIte, reduceCtorEq, decide_true, decide_false]
            exact hR _
set_option maxHeartbeats 1000000 in
theorem length48 (n least : Nat) (hn : n ≤ 1000000) (h1 : 1 ≤ least) (h2 : least ≤ 1000000) : FCall Try.prog 48 [iv n, iv least] (· = .v (.string (lengthB n least))) := by
  refine ACall.enter [26,35] (cc := putS 2 Cd.cd48 rest48) (by rw [show putS 2 Cd.cd48 rest48 = Cd.cd48 from putS_drop 2 _]; exact Cd.fn48) (by simp) ?_
  have hR : ¬ (n < 128 ∧ least = 1) → ∀ H', ∃ v v', AOut.ret (.v (.string ⟨(UInt8.ofNat (128 + (padB (lowB n) (max 1 (least - 1))).length) :: (padB (lowB n) (max 1 (least - 1))).reverse).toArray⟩)) = .ret v ∧ View H' v v' ∧ FZ v' ∧ v' = .v (.string (lengthB n least)) := by
    intro hs H'
    unfold lengthB lengthL
    rw [if_neg hs]
    exact fin_v rfl
  by_cases hs1 : n < 128
  · by_cases hs2 : least = 1
    · subst hs2
      have hB : bytesA [[byV (UInt8.ofNat n)]] = some [UInt8.ofNat n] := bytesA_map [UInt8.ofNat n]
      simp only [putS, iv, show decide ((n : Int) < 128) = true from decide_eq_true (by omega), show (((1 : Nat) : Int) == 1) = true from rfl, wrapU8, byV_ofNat, byV_cells, hB, isB84, Cd.cd48, Tk.t48, base0, base1, base2, base3, Option.isNone_none, Option.isNone_some, Nat.reduceBEq, true_or, or_true, false_or, or_false, Nat.reduceLT, Nat.reduceMod, Nat.reducePow, rmaps, nsucc, List.flatten_cons, List.flatten_nil, Nat.reduceEqDiff, Nat.reduceLeDiff, Nat.reduceAdd, Nat.reduceMul, Nat.reduceSub, ↓reduceIte, reduceCtorEq, decide_true, decide_false]
      unfold lengthB lengthL
      rw [if_pos (And.intro hs1 rfl)]
      exact fin_v rfl
    · simp only [putS, iv, show decide ((n : Int) < 128) = true from decide_eq_true (by omega), show ((least : Int) == 1) = false from beq_eq_false_iff_ne.mpr (by omega), Cd.cd48, Tk.t48, base0, base1, base2, base3, Option.isNone_none, Option.isNone_some, Nat.reduceBEq, true_or, or_true, false_or, or_false, Nat.reduceLT, Nat.reduceMod, Nat.reducePow, rmaps, nsucc, List.flatten_cons, List.flatten_nil, Nat.reduceEqDiff, Nat.reduceLeDiff, Nat.reduceAdd, Nat.reduceMul, Nat.reduceSub, ↓reduceIte, reduceCtorEq, decide_true, decide_false]
      exact tail48 n least hn h1 h2 _ rfl rfl rfl _ (hR (by omega))
  · simp only [putS, iv, show decide ((n : Int) < 128) = false from decide_eq_false (by omega), Cd.cd48, Tk.t48, base0, base1, base2, base3, Option.isNone_none, Option.isNone_some, Nat.reduceBEq, true_or, or_true, false_or, or_false, Nat.reduceLT, Nat.reduceMod, Nat.reducePow, rmaps, nsucc, List.flatten_cons, List.flatten_nil, Nat.reduceEqDiff, Nat.reduceLeDiff, Nat.reduceAdd, Nat.reduceMul, Nat.reduceSub, ↓reduceIte, reduceCtorEq, decide_true, decide_false]
    exact tail48 n least hn h1 h2 _ rfl rfl rfl _ (hR (by omega))
end Go.Proofs.Ytmjjfdppaomcfaa

/- Walks: the node at a path. -/
namespace Go.Proofs.Ytmjjfdppaomcfaa
open Go Go.Proofs.Ytmjjfdppaomcfaa.Ab
set_option maxRecDepth 100000
set_option linter.unusedSimpArgs false

def intR (x : Int) : List AV := [.v (.int .i64 x)]
def intsV (l : List Int) : AV := .lst 1 (l.map intR) .unk
instance : Inhabited Int := ⟨0⟩
/-- the node at a path that is not empty, and what is around it -/
def findT : List Tree → List Int → List Tree → Option (Tree × List Tree)
  | _, [], _ => none
  | l, p :: r, acc => if 0 ≤ p ∧ p < (l.length : Int) then (if r = [] then some (l.getD p.toNat default, acc) else findT (l.getD p.toNat default).kids r (acc ++ [l.getD p.toNat default])) else none
def findOut : Option (Tree × List Tree) → AV
  | some (t, a) => .tup [treeV t, treesV a]
  | none => .tup [.v (.pointer none), treesV []]
theorem treeV_box (t : Tree) : treeV t = .box (hdL t.h (treesV t.kids)) := by cases t; exact treeV_eq _ _
theorem treesR_get (l : List Tree) (i : Nat) (h : i < l.length) : (l.map encT).getD i [] = [treeV (l.getD i default)] := getDmap encT l i h
theorem fin_find {H' : AH} {t : Tree} {v : AV} {a : List Tree} (h : GrowE encT 1 H' v a) {w : AV} (hw : w = .tup [treeV t, treesV a]) : ∃ x x', AOut.ret (.tup [treeV t, v]) = .ret x ∧ View H' x x' ∧ FZ x' ∧ x' = w := by
  subst hw
  exact ⟨_, _, rfl, Views.tup (Views.cons (FZ.treeV t).view (Views.cons (h.view FZs.encT) Views.nil)), FZ.tup (FZs.cons (FZ.treeV t) (FZs.one (FZ.rowsOf a))), rfl⟩
theorem fin_find0 {H' : AH} {w : AV} (hw : w = .tup [.v (.pointer none), treesV []]) : ∃ x x', AOut.ret (.tup [.v (.pointer none), nilS]) = .ret x ∧ View H' x x' ∧ FZ x' ∧ x' = w := by
  subst hw
  exact ⟨_, _, rfl, Views.tup (Views.cons (FZ.v _).view (Views.cons (View.nil 1) Views.nil)), FZ.tup (FZs.cons (FZ.v _) (FZs.one (FZ.rowsOf []))), rfl⟩

set_option maxHeartbeats 1000000 in
theorem find43 (l0 : List Tree) (path : List Int) (hp : path.length ≤ 1000000) : FCall Try.prog 43 [treesV l0, intsV path] (· = findOut (findT l0 path [])) := by
  generalize hR : findT l0 path [] = R
  refine ACall.enter [] Cd.fn43 (by simp) ?_
  simp only [treesV, intsV, List.length_map, Cd.cd43, Tk.t43, base0, base1, base2, base3, Option.isNone_none, Option.isNone_some, Nat.reduceBEq, true_or, or_true, false_or, or_false, Nat.reduceLT, Nat.reduceMod, Nat.reducePow, rmaps, nsucc, List.flatten_cons, List.flatten_nil, Nat.reduceEqDiff, Nat.reduceLeDiff, Nat.reduceAdd, Nat.reduceMul, Nat.reduceSub, ↓reduceIte, reduceCtorEq, decide_true, decide_false]
  refine LWP.loop [] (fun m f H' => ∃ i l acc, m = path.length - i ∧ (i ≤ path.length) ∧ (findT l (path.drop i) acc = R) ∧ (acc.length = i) ∧ f.t 0 = treesV l ∧ f.t 1 = intsV path ∧ f.t 9 = intsV path ∧ f.t 10 = .v (.int .i64 (path.length : Nat)) ∧ f.t 11 = .v (.int .i64 (i : Nat)) ∧ f.ds = [] ∧ GrowE encT 1 H' (f.t 6) acc) ?_ ?_ (m := path.length - (0))
  · exact ⟨0, l0, [], rfl, (by omega), (hR), (rfl), rfl, rfl, rfl, rfl, rfl, rfl, (GrowE.nil)⟩
  · rintro m f H' ⟨i, l, acc, rfl, hi, hT, hacc, f0, f1, f9, f10, f11, hds, hg⟩
    by_cases hlt : i < path.length
    · have hd : path.drop i = path.getD i 0 :: path.drop (i + 1) := by
        rw [List.drop_eq_getElem_cons hlt, List.getD_eq_getElem?_getD, List.getElem?_eq_getElem hlt]; rfl
      have hget : (path.map intR).getD i [] = [.v (.int .i64 (path.getD i 0))] := getDmap intR path i hlt
      generalize path.getD i 0 = p at hd hget
      rw [hd] at hT
      have c1 : decide ((i : Int) < (path.length : Int)) = true := decide_eq_true (by omega)
      have c2 : ((i : Int) < (path.length : Int)) = True := by simp; omega
      by_cases hr1 : p < 0
      · simp only [treesV, intsV, List.length_map, c1, c2, Int.natCast_nonneg, Int.toNat_natCast, hget, decide_eq_true hr1, f0, f1, f9, f10, f11, hds, Cd.cd43, Tk.t43, base0, base1, base2, base3, Option.isNone_none, Option.isNone_some, Nat.reduceBEq, true_or, or_true, false_or, or_false, Nat.reduceLT, Nat.reduceMod, Nat.reducePow, rmaps, nsucc, List.flatten_cons, List.flatten_nil, Nat.reduceEqDiff, Nat.reduceLeDiff, Nat.reduceAdd, Nat.reduceMul, Nat.reduceSub, ↓reduceIte, reduceCtorEq, decide_true, decide_false]
        rw [← hT, findT, if_neg (by omega)]
        exact fin_find0 rfl
      by_cases hr2 : p ≥ (l.length : Int)
      · simp only [treesV, intsV, List.length_map, c1, c2, Int.natCast_nonneg, Int.toNat_natCast, hget, decide_eq_false hr1, decide_eq_true hr2, f0, f1, f9, f10, f11, hds, Cd.cd43, Tk.t43, base0, base1, base2, base3, Option.isNone_none, Option.isNone_some, Nat.reduceBEq, true_or, or_true, false_or, or_false, Nat.reduceLT, Nat.reduceMod, Nat.reducePow, rmaps, nsucc, List.flatten_cons, List.flatten_nil, Nat.reduceEqDiff, Nat.reduceLeDiff, Nat.reduceAdd, Nat.reduceMul, Nat.reduceSub, ↓reduceIte, reduceCtorEq, decide_true, decide_false]
        rw [← hT, findT, if_neg (by omega)]
        exact fin_find0 rfl
      have hpl : p.toNat < l.length := by omega
      have q1 : (0 ≤ p) = True := by simp; omega
      have q2 : (p < (l.length : Int)) = True := by simp; omega
      have hrow := treesR_get l p.toNat hpl
      rw [findT, if_pos (by omega)] at hT
      generalize l.getD p.toNat default = x at hrow hT
      have wl : IntKind.i64.wrap ((path.length : Int) - 1) = (path.length : Int) - 1 := wrapI (by omega) (by omega)
      have hx := treeV_box x
      by_cases hlast : i + 1 = path.length
      · simp only [treesV, intsV, List.length_map, c1, c2, Int.natCast_nonneg, Int.toNat_natCast, hget, decide_eq_false hr1, decide_eq_false hr2, wl, show ((i : Int) == (path.length : Int) - 1) = true from by rw [beq_iff_eq]; omega, q1, q2, hrow, f0, f1, f9, f10, f11, hds, Cd.cd43, Tk.t43, base0, base1, base2, base3, Option.isNone_none, Option.isNone_some, Nat.reduceBEq, true_or, or_true, false_or, or_false, Nat.reduceLT, Nat.reduceMod, Nat.reducePow, rmaps, nsucc, List.flatten_cons, List.flatten_nil, Nat.reduceEqDiff, Nat.reduceLeDiff, Nat.reduceAdd, Nat.reduceMul, Nat.reduceSub, ↓reduceIte, reduceCtorEq, decide_true, decide_false]
        rw [if_pos (List.drop_of_length_le (by omega))] at hT
        rw [← hT]
        exact fin_find hg rfl
      · rw [if_neg (fun h => by have := congrArg List.length h; simp at this; omega)] at hT
        have e0 : ((i : Int) == (path.length : Int) - 1) = false := by rw [beq_eq_false_iff_ne]; omega
        rcases hg with ⟨rfl, h6⟩ | ⟨tp, h6, htp⟩
        · simp only [treesV, intsV, List.length_map, c1, c2, Int.natCast_nonneg, Int.toNat_natCast, hget, decide_eq_false hr1, decide_eq_false hr2, wl, e0, q1, q2, hrow, h6, hx, hdL, nilS, show roomA 8 1 = true from rfl, f0, f1, f9, f10, f11, hds, Cd.cd43, Tk.t43, base0, base1, base2, base3, Option.isNone_none, Option.isNone_some, Nat.reduceBEq, true_or, or_true, false_or, or_false, Nat.reduceLT, Nat.reduceMod, Nat.reducePow, rmaps, nsucc, List.flatten_cons, List.flatten_nil, Nat.reduceEqDiff, Nat.reduceLeDiff, Nat.reduceAdd, Nat.reduceMul, Nat.reduceSub, ↓reduceIte, reduceCtorEq, decide_true, decide_false]
          refine ⟨_, by omega, i + 1, x.kids, [x], rfl, by omega, hT, by simp at hacc ⊢; omega, rfl, by rw [wrapS (by omega)], GrowE.live ?_ ?_⟩
          · simp only [List.map_cons, List.map_nil, encT, hx, hdL, treesV]
          · simp
        · simp only [treesV, intsV, List.length_map, c1, c2, Int.natCast_nonneg, Int.toNat_natCast, hget, decide_eq_false hr1, decide_eq_false hr2, wl, e0, q1, q2, hrow, h6, hx, hdL, htp, room1 (b := 8) (n := acc.length) (by omega) (by omega), f0, f1, f9, f10, f11, hds, Cd.cd43, Tk.t43, base0, base1, base2, base3, Option.isNone_none, Option.isNone_some, Nat.reduceBEq, true_or, or_true, false_or, or_false, Nat.reduceLT, Nat.reduceMod, Nat.reducePow, rmaps, nsucc, List.flatten_cons, List.flatten_nil, Nat.reduceEqDiff, Nat.reduceLeDiff, Nat.reduceAdd, Nat.reduceMul, Nat.reduceSub, ↓reduceIte, reduceCtorEq, decide_true, decide_false]
          refine ⟨_, by omega, i + 1, x.kids, acc ++ [x], rfl, by omega, hT, by simp; omega, rfl, by rw [wrapS (by omega)], GrowE.live ?_ ?_⟩
          · simp only [List.map_append, List.map_cons, List.map_nil, encT, hx, hdL, treesV]
          · simp
    · simp only [show decide ((i : Int) < (path.length : Int)) = false from decide_eq_false (by omega), f0, f1, f9, f10, f11, hds, Cd.cd43, Tk.t43, base0, base1, base2, base3, Option.isNone_none, Option.isNone_some, Nat.reduceBEq, true_or, or_true, false_or, or_false, Nat.reduceLT, Nat.reduceMod, Nat.reducePow, rmaps, nsucc, List.flatten_cons, List.flatten_nil, Nat.reduceEqDiff, Nat.reduceLeDiff, Nat.reduceAdd, Nat.reduceMul, Nat.reduceSub, ↓reduceIte, reduceCtorEq, decide_true, decide_false]
      rw [List.drop_of_length_le (by omega)] at hT
      rw [← hT]
      exact fin_find0 rfl
end Go.Proofs.Ytmjjfdppaomcfaa

/- Walks: bytes in the place of a node, with what is around it. -/
namespace Go.Proofs.Ytmjjfdppaomcfaa
open Go Go.Proofs.Ytmjjfdppaomcfaa.Ab
set_option maxRecDepth 100000
set_option linter.unusedSimpArgs false

theorem backward60 (l : List Tree) : FCall Try.prog 60 [treesV l] (· = .fn (.func 68) [] [.box [treesV l]]) := by
  refine ACall.enter [] Cd.fn60 (by simp) ?_
  simp only [treesV, Cd.cd60, Tk.t60, base0, base1, base2, base3, Option.isNone_none, Option.isNone_some, Nat.reduceBEq, true_or, or_true, false_or, or_false, Nat.reduceLT, Nat.reduceMod, Nat.reducePow, rmaps, nsucc, List.flatten_cons, List.flatten_nil, Nat.reduceEqDiff, Nat.reduceLeDiff, Nat.reduceAdd, Nat.reduceMul, Nat.reduceSub, ↓reduceIte, reduceCtorEq, decide_true, decide_false]
  exact ⟨_, _, rfl, (FZ.fn FZs.nil (FZs.one (FZ.box (FZs.one (FZ.rowsOf l))))).view, FZ.fn FZs.nil (FZs.one (FZ.box (FZs.one (FZ.rowsOf l)))), rfl⟩

/-- a node around with another content -/
def replStep (b : ByteArray) (y : Hd) (p q : Nat) (out : ByteArray) : ByteArray :=
  b.extract y.frm y.len ++ (if y.opn then b.extract y.len y.body else lengthB (b.extract y.body p ++ out ++ b.extract q y.stop).size (y.body - y.len)) ++ (b.extract y.body p ++ out ++ b.extract q y.stop) ++ b.extract y.stop y.fin
def replA (b : ByteArray) : List Hd → Nat → Nat → ByteArray → ByteArray
  | [], p, q, out => b.extract 0 p ++ out ++ b.extract q b.size
  | y :: r, p, q, out => replA b r y.frm y.fin (replStep b y p q out)
def Chain (b : ByteArray) : List Hd → Nat → Nat → Prop
  | [], p, q => p ≤ q ∧ q ≤ b.size
  | y :: r, p, q => y.frm ≤ y.len ∧ y.len < y.body ∧ y.body ≤ p ∧ p ≤ q ∧ q ≤ y.stop ∧ y.stop ≤ y.fin ∧ y.fin ≤ b.size ∧ Chain b r y.frm y.fin
theorem lowB_len : ∀ (k n : Nat), n < 256 ^ k → (lowB n).length ≤ k
  | 0, n, h => by
    have : n = 0 := by simpa using h
    subst this; simp [lowB, lowF]
  | k + 1, n, h => by
    rcases Nat.eq_zero_or_pos n with rfl | hp
    · simp [lowB, lowF]
    · rw [lowB_step hp]
      have := lowB_len k (n / 256) (by rw [Nat.pow_succ] at h; omega)
      simp; omega
theorem lengthB_size (n least : Nat) (h : n ≤ 1000000) : (lengthB n least).size ≤ 4 + least := by
  have := lowB_len 3 n (by omega)
  have e : (lengthB n least).size = (lengthL n least).length := by simp [lengthB, ByteArray.size]
  rw [e]
  unfold lengthL
  split
  · simp; omega
  · simp [padB_len]; omega
theorem replStep_size {b : ByteArray} {y : Hd} {p q : Nat} {r : List Hd} {out : ByteArray} (hb : b.size ≤ 4000) (h : Chain b (y :: r) p q) (ho : out.size ≤ 900000) : (replStep b y p q out).size ≤ out.size + 21000 := by
  simp only [Chain] at h
  have h2 := lengthB_size (b.extract y.body p ++ out ++ b.extract q y.stop).size (y.body - y.len) (by simp only [ByteArray.size_append, ByteArray.size_extract]; omega)
  unfold replStep
  split
  · simp only [ByteArray.size_append, ByteArray.size_extract] at h2 ⊢; omega
  · simp only [ByteArray.size_append, ByteArray.size_extract] at h2 ⊢; omega

set_option maxHeartbeats 2000000 in
theorem replaced44 (b : ByteArray) (hb : b.size ≤ 4000) (ys : List Tree) (x : Tree) (by_ : ByteArray) (hn : ys.length ≤ 20) (hby : by_.size ≤ 4050) (hc : Chain b (ys.map Tree.h).reverse x.h.frm x.h.fin) :
    FCall Try.prog 44 [.v (.string b), treesV ys, treeV x, .v (.string by_)] (· = .v (.string (replA b (ys.map Tree.h).reverse x.h.frm x.h.fin by_))) := by
  generalize hR : replA b (ys.map Tree.h).reverse x.h.frm x.h.fin by_ = R
  have hx := treeV_box x
  refine ACall.enterB [9,10,11] back68 (by kernel_rfl) Cd.fn44 (by simp) ?_
  simp only [hx, hdL, KN_normal, List.not_mem_nil, false_imp_iff, implies_true, Cd.cd440, Cd.cd441, Cd.cd442, Cd.cd44G, Cd.cd44D, Cd.cd44C, Tk.t44, base0, base1, base2, base3, Option.isNone_none, Option.isNone_some, Nat.reduceBEq, true_or, or_true, false_or, or_false, Nat.reduceLT, Nat.reduceMod, Nat.reducePow, rmaps, nsucc, List.flatten_cons, List.flatten_nil, Nat.reduceEqDiff, Nat.reduceLeDiff, Nat.reduceAdd, Nat.reduceMul, Nat.reduceSub, ↓reduceIte, reduceCtorEq, decide_true, decide_false]
  first | refine FCall.go (backward60 ys) (FZs.one (FZ.rowsOf ys)) ?_ | refine FCall.go' (backward60 ys) (FZs.one (FZ.rowsOf ys)) ?_ | refine FCall.goQ (backward60 ys) (FZs.one (FZ.rowsOf ys)) ?_
  simp only [KN_normal, Cd.cd440, Cd.cd441, Cd.cd442, Cd.cd44G, Cd.cd44D, Cd.cd44C, Tk.t44, base0, base1, base2, base3, Option.isNone_none, Option.isNone_some, Nat.reduceBEq, true_or, or_true, false_or, or_false, Nat.reduceLT, Nat.reduceMod, Nat.reducePow, rmaps, nsucc, List.flatten_cons, List.flatten_nil, Nat.reduceEqDiff, Nat.reduceLeDiff, Nat.reduceAdd, Nat.reduceMul, Nat.reduceSub, ↓reduceIte, reduceCtorEq, decide_true, decide_false]
  refine ⟨⟨.unk, ys.map treeV, fun k H => ∃ p q out, H.own AH.none.next = some (.cells [iv p]) ∧ H.own (AH.none.next + 1) = some (.cells [iv q]) ∧ H.own (AH.none.next + 1 + 1) = some (.cells [.v (.string out)]) ∧
      Chain b ((ys.take k).map Tree.h).reverse p q ∧ replA b ((ys.take k).map Tree.h).reverse p q out = R ∧ out.size + k * 21000 ≤ 4050 + ys.length * 21000, ?_, by simp; omega, by simp [upd], ?_, ?_, ?_⟩⟩
  · simp only [treesV, Cd.cd440, Cd.cd441, Cd.cd442, Cd.cd44G, Cd.cd44D, Cd.cd44C, Tk.t44, base0, base1, base2, base3, Option.isNone_none, Option.isNone_some, Nat.reduceBEq, true_or, or_true, false_or, or_false, Nat.reduceLT, Nat.reduceMod, Nat.reducePow, rmaps, nsucc, List.flatten_cons, List.flatten_nil, Nat.reduceEqDiff, Nat.reduceLeDiff, Nat.reduceAdd, Nat.reduceMul, Nat.reduceSub, ↓reduceIte, reduceCtorEq, decide_true, decide_false]
    rw [List.map_map]; rfl
  · refine ⟨x.h.frm, x.h.fin, by_, ?_, ?_, ?_, ?_, ?_, ?_⟩
    · simp [iv, show ¬ AH.none.next = AH.none.next + 1 + 1 by omega]
    · simp [iv]
    · simp
    · rw [List.length_map, List.take_length]; exact hc
    · rw [List.length_map, List.take_length]; exact hR
    · simp; exact hby
  · rintro k H2 hk ⟨p, q, out, h1, h2, h3, hch, hrep, hsz⟩
    rw [List.length_map] at hk
    have hget : (ys.map treeV).getD k .any = treeV (ys.getD k default) := by
      rw [List.getD_eq_getElem?_getD, List.getElem?_map, List.getElem?_eq_getElem hk, List.getD_eq_getElem?_getD, List.getElem?_eq_getElem hk]; rfl
    have htk : ((ys.take (k + 1)).map Tree.h).reverse = (ys.getD k default).h :: ((ys.take k).map Tree.h).reverse := by
      rw [List.take_add_one, List.getElem?_eq_getElem hk, List.getD_eq_getElem?_getD, List.getElem?_eq_getElem hk, List.map_append, List.reverse_append]; rfl
    rw [hget]
    rw [htk] at hch hrep
    generalize ys.getD k default = y at hch hrep
    have hy := treeV_box y
    have hch0 := hch
    simp only [Chain] at hch
    obtain ⟨c1, c2, c3, c4, c5, c6, c7, c8⟩ := hch
    simp only [replA] at hrep
    have hss := replStep_size hb hch0 (show out.size ≤ 900000 by omega)
    have zc : ∀ s e, (b.extract s e).size ≤ 4000 := fun s e => by rw [ByteArray.size_extract]; omega
    have z1 := zc y.h.body p
    have z2 := zc q y.h.stop
    have z3 := zc y.h.frm y.h.len
    have z4 := zc y.h.stop y.h.fin
    have z5 := zc y.h.len y.h.body
    have s1 : astr .add (b.extract y.h.body p) out = _ := sadd (by omega)
    have s2 : astr .add (b.extract y.h.body p ++ out) (b.extract q y.h.stop) = _ := sadd (by rw [ByteArray.size_append]; omega)
    have hcs : (b.extract y.h.body p ++ out ++ b.extract q y.h.stop).size ≤ 910000 := by simp only [ByteArray.size_append]; omega
    unfold replStep at hrep hss
    generalize hcc : b.extract y.h.body p ++ out ++ b.extract q y.h.stop = c at s2 hcs hrep hss
    cases ho : y.h.opn with
    | true =>
      simp only [ho, if_true] at hrep hss
      have s3 : astr .add (b.extract y.h.frm y.h.len) (b.extract y.h.len y.h.body) = _ := sadd (by omega)
      have s4 : astr .add (b.extract y.h.frm y.h.len ++ b.extract y.h.len y.h.body) c = _ := sadd (by rw [ByteArray.size_append]; omega)
      have s5 : astr .add (b.extract y.h.frm y.h.len ++ b.extract y.h.len y.h.body ++ c) (b.extract y.h.stop y.h.fin) = _ := sadd (by simp only [ByteArray.size_append]; omega)
      simp (maxSteps := 2000000) only [KN_normal, hy, hdL, h1, h2, h3, iv, ho, leT (show p ≤ b.size by omega), leT c3, leT (show y.h.stop ≤ b.size by omega), leT c5, leT (show y.h.body ≤ b.size by omega), leT (show y.h.len ≤ y.h.body by omega), leT (show y.h.len ≤ b.size by omega), leT c1, leT c7, leT c6, Int.natCast_nonneg, Int.toNat_natCast, s1, s2, s3, s4, s5, Cd.cd440, Cd.cd441, Cd.cd442, Cd.cd44G, Cd.cd44D, Cd.cd44C, Tk.t44, base0, base1, base2, base3, Option.isNone_none, Option.isNone_some, Nat.reduceBEq, true_or, or_true, false_or, or_false, Nat.reduceLT, Nat.reduceMod, Nat.reducePow, rmaps, nsucc, List.flatten_cons, List.flatten_nil, Nat.reduceEqDiff, Nat.reduceLeDiff, Nat.reduceAdd, Nat.reduceMul, Nat.reduceSub, ↓reduceIte, reduceCtorEq, decide_true, decide_false]
      exact ⟨fun n hn => by simp at hn, y.h.frm, y.h.fin, _, rfl, rfl, rfl, c8, hrep, by omega⟩
    | false =>
      simp only [ho, Bool.false_eq_true, if_false] at hrep hss
      have hlb := lengthB_size c.size (y.h.body - y.h.len) (by omega)
      have hL := length48 c.size (y.h.body - y.h.len) (by omega) (by omega) (by omega)
      generalize lengthB c.size (y.h.body - y.h.len) = w at hrep hss hlb hL
      have s3 : astr .add (b.extract y.h.frm y.h.len) w = _ := sadd (by omega)
      have s4 : astr .add (b.extract y.h.frm y.h.len ++ w) c = _ := sadd (by rw [ByteArray.size_append]; omega)
      have s5 : astr .add (b.extract y.h.frm y.h.len ++ w ++ c) (b.extract y.h.stop y.h.fin) = _ := sadd (by simp only [ByteArray.size_append]; omega)
      have wl : IntKind.i64.wrap ((y.h.body : Int) - (y.h.len : Int)) = ((y.h.body - y.h.len : Nat) : Int) := by rw [wrapI (by omega) (by omega)]; omega
      simp (maxSteps := 2000000) only [KN_normal, hy, hdL, h1, h2, h3, iv, ho, leT (show p ≤ b.size by omega), leT c3, leT (show y.h.stop ≤ b.size by omega), leT c5, leT (show y.h.body ≤ b.size by omega), leT (show y.h.len ≤ y.h.body by omega), leT (show y.h.len ≤ b.size by omega), leT c1, leT c7, leT c6, Int.natCast_nonneg, Int.toNat_natCast, s1, s2, wl, Cd.cd440, Cd.cd441, Cd.cd442, Cd.cd44G, Cd.cd44D, Cd.cd44C, Tk.t44, base0, base1, base2, base3, Option.isNone_none, Option.isNone_some, Nat.reduceBEq, true_or, or_true, false_or, or_false, Nat.reduceLT, Nat.reduceMod, Nat.reducePow, rmaps, nsucc, List.flatten_cons, List.flatten_nil, Nat.reduceEqDiff, Nat.reduceLeDiff, Nat.reduceAdd, Nat.reduceMul, Nat.reduceSub, ↓reduceIte, reduceCtorEq, decide_true, decide_false]
      first | refine FCall.go hL (FZs.cons (FZ.v _) (FZs.one (FZ.v _))) ?_ | refine FCall.go' hL (FZs.cons (FZ.v _) (FZs.one (FZ.v _))) ?_ | refine FCall.goQ hL (FZs.cons (FZ.v _) (FZs.one (FZ.v _))) ?_
      simp (maxSteps := 2000000) only [KN_normal, hy, hdL, h1, h2, h3, iv, ho, leT (show p ≤ b.size by omega), leT c3, leT (show y.h.stop ≤ b.size by omega), leT c5, leT (show y.h.body ≤ b.size by omega), leT (show y.h.len ≤ y.h.body by omega), leT (show y.h.len ≤ b.size by omega), leT c1, leT c7, leT c6, Int.natCast_nonneg, Int.toNat_natCast, s3, s4, s5, Cd.cd440, Cd.cd441, Cd.cd442, Cd.cd44G, Cd.cd44D, Cd.cd44C, Tk.t44, base0, base1, base2, base3, Option.isNone_none, Option.isNone_some, Nat.reduceBEq, true_or, or_true, false_or, or_false, Nat.reduceLT, Nat.reduceMod, Nat.reducePow, rmaps, nsucc, List.flatten_cons, List.flatten_nil, Nat.reduceEqDiff, Nat.reduceLeDiff, Nat.reduceAdd, Nat.reduceMul, Nat.reduceSub, ↓reduceIte, reduceCtorEq, decide_true, decide_false]
      exact ⟨fun n hn => by simp at hn, y.h.frm, y.h.fin, _, rfl, rfl, rfl, c8, hrep, by omega⟩
  · rintro H2 ⟨p, q, out, h1, h2, h3, hch, hrep, hsz⟩
    simp only [List.take_zero, List.map_nil, List.reverse_nil, replA, Chain] at hrep hch
    have z1 : (b.extract 0 p).size ≤ 4000 := by rw [ByteArray.size_extract]; omega
    have z2 : (b.extract q b.size).size ≤ 4000 := by rw [ByteArray.size_extract]; omega
    have s1 : astr .add (b.extract 0 p) out = _ := sadd (by omega)
    have s2 : astr .add (b.extract 0 p ++ out) (b.extract q b.size) = _ := sadd (by rw [ByteArray.size_append]; omega)
    simp only [h1, h2, h3, iv, Int.natCast_nonneg, Int.toNat_natCast, leT (Nat.le_trans hch.1 hch.2), leT hch.2, leT (Nat.le_refl b.size), s1, s2, Cd.cd440, Cd.cd441, Cd.cd442, Cd.cd44G, Cd.cd44D, Cd.cd44C, Tk.t44, base0, base1, base2, base3, Option.isNone_none, Option.isNone_some, Nat.reduceBEq, true_or, or_true, false_or, or_false, Nat.reduceLT, Nat.reduceMod, Nat.reducePow, rmaps, nsucc, List.flatten_cons, List.flatten_nil, Nat.reduceEqDiff, Nat.reduceLeDiff, Nat.reduceAdd, Nat.reduceMul, Nat.reduceSub, ↓reduceIte, reduceCtorEq, decide_true, decide_false]
    exact fin_v (by rw [hrep])
end Go.Proofs.Ytmjjfdppaomcfaa

/- Plain: how the nodes of right bytes lie within one another. -/
namespace Go.Proofs.Ytmjjfdppaomcfaa
open Go Go.Proofs.Ytmjjfdppaomcfaa.Ab

theorem tagL_lim {b : ByteArray} {lim lim' : Nat} (hl : lim ≤ lim') : ∀ {k k' p num m q : Nat}, tagL b lim k p num = .ok (m, q) → k ≤ k' → tagL b lim' k' p num = .ok (m, q)
  | 0, _, p, num, m, q, h, _ => by simp [tagL] at h
  | k + 1, 0, p, num, m, q, h, hk => by omega
  | k + 1, k' + 1, p, num, m, q, h, hk => by
    simp only [tagL] at h ⊢
    split at h
    · rename_i hp
      rw [if_pos (by omega)]
      split at h
      · cases h
      · rename_i h1
        rw [if_neg h1]
        split at h
        · rename_i h2; rw [if_pos h2]; exact h
        · rename_i h2; rw [if_neg h2]; exact tagL_lim hl h (by omega)
    · cases h
theorem ident_lim {b : ByteArray} {lim lim' a : Nat} {x : Nat × Nat × Bool × Nat} (hl : lim ≤ lim') (h : ident b a lim = .ok x) : ident b a lim' = .ok x := by
  unfold ident at h ⊢
  split at h
  · rw [if_pos (by omega)]
    split at h
    · rename_i h1; rw [if_pos h1]; exact h
    · rename_i h1
      rw [if_neg h1]
      split at h
      · rename_i m q hq; rw [tagL_lim hl hq (by omega)]; exact h
      · cases h
  · cases h
theorem lenL_lim {b : ByteArray} {lim lim' : Nat} (hl : lim ≤ lim') : ∀ {k p n m : Nat}, lenL b lim k p n = .ok m → lenL b lim' k p n = .ok m
  | 0, p, n, m, h => h
  | k + 1, p, n, m, h => by
    simp only [lenL] at h ⊢
    split at h
    · rw [if_pos (by omega)]
      split at h
      · cases h
      · rename_i h1; rw [if_neg h1]; exact lenL_lim hl h
    · cases h
theorem lenOf_lim {b : ByteArray} {lim lim' a : Nat} {bl : Bool} {x : Option Nat × Nat} (hl : lim ≤ lim') (h : lenOf b a lim bl = .ok x) : lenOf b a lim' bl = .ok x := by
  unfold lenOf at h ⊢
  split at h
  · rw [if_pos (by omega)]
    split at h
    · rename_i h1; rw [if_pos h1]; exact h
    · rename_i h1
      rw [if_neg h1]
      split at h
      · cases h
      · rename_i h2
        rw [if_neg h2]
        split at h
        · rename_i h3; rw [if_pos h3]; exact h
        · rename_i h3
          rw [if_neg h3]
          split at h
          · rename_i n hn; rw [lenL_lim hl hn]; exact h
          · cases h
  · cases h

theorem Tree.h_mk (h : Hd) (k : List Tree) : (Tree.mk h k).h = h := rfl
theorem Tree.kids_mk (h : Hd) (k : List Tree) : (Tree.mk h k).kids = k := rfl
mutual
/-- a node as bytes have it, so deep -/
def okT (b : ByteArray) (D : Nat) : Tree → Prop
  | .mk h k => (h.deep = D ∧ D ≤ 15) ∧ h.frm < h.len ∧ h.len < h.body ∧ h.body ≤ h.stop ∧ h.fin = h.stop + (if h.opn then 2 else 0) ∧ h.fin ≤ b.size ∧
      ident b h.frm b.size = .ok (h.cls, h.num, h.built, h.len) ∧ lenOf b h.len b.size h.built = .ok (if h.opn then none else some (h.stop - h.body), h.body) ∧
      (h.opn = true → bt b h.stop = 0 ∧ bt b (h.stop + 1) = 0 ∧ h.built = true) ∧ (h.built = false → k = []) ∧ (h.built = true → okTs b (D + 1) h.body h.stop k)
/-- nodes side by side, from a place to a place -/
def okTs (b : ByteArray) (D p q : Nat) : List Tree → Prop
  | [] => p = q
  | t :: l => t.h.frm = p ∧ okT b D t ∧ okTs b D t.h.fin q l
end
theorem okTs_append {b : ByteArray} {D q r : Nat} : ∀ {p : Nat} {l m : List Tree}, okTs b D p q l → okTs b D q r m → okTs b D p r (l ++ m)
  | p, [], m, h, h' => by simp only [okTs] at h; subst h; exact h'
  | p, t :: l, m, h, h' => by
    simp only [okTs, List.cons_append] at h ⊢
    exact ⟨h.1, h.2.1, okTs_append h.2.2 h'⟩
theorem okTs_one {b : ByteArray} {D : Nat} {t : Tree} (h : okT b D t) : okTs b D t.h.frm t.h.fin [t] := by
  simp only [okTs]; exact ⟨trivial, h, trivial⟩
theorem okT_lt {b : ByteArray} {D : Nat} {t : Tree} (h : okT b D t) : t.h.frm < t.h.fin ∧ t.h.fin ≤ b.size := by
  obtain ⟨h', k⟩ := t
  simp only [okT] at h
  simp only [Tree.h]
  have := h.2.2.2.2.1
  omega
theorem okTs_le {b : ByteArray} {D q : Nat} : ∀ {p : Nat} {l : List Tree}, okTs b D p q l → p ≤ q
  | p, [], h => by simp only [okTs] at h; omega
  | p, t :: l, h => by
    simp only [okTs] at h
    have := okTs_le h.2.2
    have := okT_lt h.2.1
    omega

def NodeWf (b : ByteArray) (D : Nat) (node : Nat → Nat → Except Flt (Tree × Nat)) : Prop := ∀ a c t c', node a c = .ok (t, c') → okT b D t ∧ t.h.frm = a
theorem kidsC_wf {b : ByteArray} {D stop : Nat} {node : Nat → Nat → Except Flt (Tree × Nat)} (hn : NodeWf b D node) (hs : NodeOk stop node) : ∀ {n p c : Nat} {acc l : List Tree} {c' p0 : Nat}, kidsC node stop n p c acc = .ok (l, c') → stop - p ≤ n → p ≤ stop → okTs b D p0 p acc → okTs b D p0 stop l
  | 0, p, c, acc, l, c', p0, h, hk, hp, ha => by
    simp only [kidsC] at h; cases h
    have : p = stop := by omega
    subst this; exact ha
  | n + 1, p, c, acc, l, c', p0, h, hk, hp, ha => by
    simp only [kidsC] at h
    split at h
    · split at h
      · cases h
      · rename_i t c1 h1
        have q := hn _ _ _ _ h1
        have q2 := hs _ _ _ _ h1
        refine kidsC_wf hn hs h (by omega) (by omega) (okTs_append ha ?_)
        rw [← q.2]; exact okTs_one q.1
    · cases h
      have : p = stop := by omega
      subst this; exact ha
theorem openC_wf {b : ByteArray} {D lim : Nat} {node : Nat → Nat → Except Flt (Tree × Nat)} (hn : NodeWf b D node) : ∀ {n p c : Nat} {acc l : List Tree} {s c' p0 : Nat}, openC node b lim n p c acc = .ok (l, s, c') → okTs b D p0 p acc → okTs b D p0 s l ∧ s + 1 < lim ∧ bt b s = 0 ∧ bt b (s + 1) = 0
  | 0, p, c, acc, l, s, c', p0, h, ha => by simp only [openC] at h; cases h
  | n + 1, p, c, acc, l, s, c', p0, h, ha => by
    simp only [openC] at h
    split at h
    · rename_i hz; cases h; exact ⟨ha, hz⟩
    · split at h
      · cases h
      · split at h
        · cases h
        · rename_i t c1 h1
          have q := hn _ _ _ _ h1
          refine openC_wf hn h (okTs_append ha ?_)
          rw [← q.2]; exact okTs_one q.1
theorem lenOf_opn {b : ByteArray} {a lim p : Nat} {bl : Bool} (h : lenOf b a lim bl = .ok (none, p)) : bl = true := by
  unfold lenOf at h
  split at h
  · split at h
    · cases h
    · split at h
      · cases h
      · rename_i h2
        split at h
        · rename_i h3
          cases bl
          · exact absurd (.inr ⟨h3, rfl⟩) h2
          · rfl
        · split at h
          · cases h
          · cases h
  · cases h
theorem rd_wf (b : ByteArray) : ∀ (d lim : Nat), lim ≤ b.size → d ≤ 16 → NodeWf b (16 - d) (fun a c => rd b d a lim c)
  | d, lim, hlim, hd, a, c, t, c', h => by
    simp only at h
    cases hid : ident b a lim with
    | error e => rw [rd_e1 hid] at h; cases h
    | ok x =>
      obtain ⟨cls, num, bl, p1⟩ := x
      have q1 := ident_ok hid
      cases hlen : lenOf b p1 lim bl with
      | error e => rw [rd_e2 hid hlen] at h; cases h
      | ok x =>
        obtain ⟨on, p2⟩ := x
        have q2 := lenOf_ok hlen
        cases hany : on.any (fun n => decide (lim - p2 < n)) with
        | true => rw [rd_e3 hid hlen hany] at h; cases h
        | false =>
          by_cases hcnt : 300 < c + 1
          · rw [rd_e4 hid hlen hany hcnt] at h; cases h
          · cases d with
            | zero => rw [rd_e5 hid hlen hany hcnt] at h; cases h
            | succ d =>
              have hd1 : 16 - (d + 1) = 15 - d := by omega
              have hd2 : 16 - d = 15 - d + 1 := by omega
              cases on with
              | none =>
                rw [rd_open hid hlen hcnt] at h
                cases ho : openC (fun a c => rd b d a lim c) b lim (lim - p2 + 1) p2 (c + 1) [] with
                | error e => rw [ho] at h; cases h
                | ok x =>
                  obtain ⟨l, s, c1⟩ := x
                  rw [ho] at h; cases h
                  have w := openC_wf (p0 := p2) (rd_wf b d lim hlim (by omega)) ho (by simp only [okTs])
                  have hb := lenOf_opn hlen
                  have k := openC_ok (rd_ok b d lim) ho (by omega)
                  subst hb
                  rw [hd2] at w
                  refine ⟨?_, rfl⟩
                  rw [hd1]
                  simp only [okT, if_true]
                  exact ⟨⟨trivial, by omega⟩, q1.1, q2.1, by omega, trivial, by omega, ident_lim hlim hid, lenOf_lim hlim hlen, fun _ => ⟨w.2.2.1, w.2.2.2, trivial⟩, fun e => (by cases e), fun _ => w.1⟩
              | some n =>
                have hn : ¬ lim - p2 < n := by simpa using hany
                cases bl with
                | false =>
                  rw [rd_leaf hid hlen hn hcnt] at h; cases h
                  refine ⟨?_, rfl⟩
                  rw [hd1]
                  simp only [okT]
                  exact ⟨⟨trivial, by omega⟩, q1.1, q2.1, by omega, by simp, by omega, ident_lim hlim hid, by rw [lenOf_lim hlim hlen]; simp, fun e => (by cases e), fun _ => trivial, fun e => (by cases e)⟩
                | true =>
                  rw [rd_kids hid hlen hn hcnt] at h
                  cases ho : kidsC (fun a c => rd b d a (p2 + n) c) (p2 + n) n p2 (c + 1) [] with
                  | error e => rw [ho] at h; cases h
                  | ok x =>
                    obtain ⟨l, c1⟩ := x
                    rw [ho] at h; cases h
                    have w := kidsC_wf (p0 := p2) (rd_wf b d (p2 + n) (by omega) (by omega)) (rd_ok b d (p2 + n)) ho (by omega) (by omega) (by simp only [okTs])
                    rw [hd2] at w
                    refine ⟨?_, rfl⟩
                    rw [hd1]
                    simp only [okT]
                    exact ⟨⟨trivial, by omega⟩, q1.1, q2.1, by omega, by simp, by omega, ident_lim hlim hid, by rw [lenOf_lim hlim hlen]; simp, fun e => (by cases e), fun e => (by cases e), fun _ => w⟩
theorem readB_wf {b : ByteArray} {l : List Tree} (h : readB b = .ok l) : okTs b 0 0 b.size l := by
  unfold readB at h
  split at h
  · cases h
  · split at h
    · cases h
    · split at h
      · cases h
      · rename_i l' c hk
        cases h
        exact kidsC_wf (rd_wf b 16 b.size (Nat.le_refl _) (Nat.le_refl _)) (rd_ok b 16 b.size) hk (by omega) (by omega) (by simp only [okTs])

/-! places in the list of all nodes -/
mutual
def subT : Tree → List Tree
  | .mk h k => .mk h k :: subTs k
def subTs : List Tree → List Tree
  | [] => []
  | t :: l => subT t ++ subTs l
end
mutual
theorem subT_map : ∀ t : Tree, (subT t).map Tree.h = flatT t
  | .mk h k => by simp only [subT, List.map_cons, flatT, subTs_map k, Tree.h]
theorem subTs_map : ∀ l : List Tree, (subTs l).map Tree.h = flatTs l
  | [] => rfl
  | t :: l => by simp only [subTs, List.map_append, flatTs, subT_map t, subTs_map l]
end
theorem subT_cons (t : Tree) : subT t = t :: subTs t.kids := by cases t; rfl
def headFrm (q : Nat) (l : List Tree) : Prop := ∀ x, l.head? = some x → q ≤ x.h.frm
/-- a node that stands at a place of the list -/
def AtT (b : ByteArray) (S : List Tree) (i D : Nat) (t : Tree) : Prop := ∃ rest, S.drop i = subT t ++ rest ∧ okT b D t ∧ headFrm t.h.fin rest
def AtL (b : ByteArray) (S : List Tree) (i D p q : Nat) (l : List Tree) : Prop := ∃ rest, S.drop i = subTs l ++ rest ∧ okTs b D p q l ∧ headFrm q rest
def sizeT (t : Tree) : Nat := (subT t).length
/-- the places of nodes side by side -/
def kidIx : Nat → List Tree → List Nat
  | _, [] => []
  | s, t :: l => s :: kidIx (s + sizeT t) l
theorem AtL.head {b : ByteArray} {S : List Tree} {i D p q : Nat} {t : Tree} {l : List Tree} (h : AtL b S i D p q (t :: l)) : AtT b S i D t ∧ AtL b S (i + sizeT t) D t.h.fin q l := by
  obtain ⟨rest, h1, h2, h3⟩ := h
  simp only [okTs] at h2
  simp only [subTs, List.append_assoc] at h1
  refine ⟨⟨_, h1, h2.2.1, fun x hx => ?_⟩, ⟨rest, ?_, h2.2.2, h3⟩⟩
  · cases l with
    | nil =>
      simp only [subTs, List.nil_append] at hx
      have := h3 x hx
      simp only [okTs] at h2; omega
    | cons t' l =>
      have h4 := h2.2.2
      simp only [okTs] at h4
      simp only [subTs, subT_cons t', List.cons_append, List.head?_cons, Option.some.injEq] at hx
      subst hx; omega
  · rw [← List.drop_drop, h1, sizeT, List.drop_left]
theorem AtT.kids {b : ByteArray} {S : List Tree} {i D : Nat} {t : Tree} (h : AtT b S i D t) (hb : t.h.built = true) : AtL b S (i + 1) (D + 1) t.h.body t.h.stop t.kids := by
  obtain ⟨rest, h1, h2, h3⟩ := h
  obtain ⟨h, k⟩ := t
  simp only [okT] at h2
  simp only [Tree.h_mk] at hb h3
  refine ⟨rest, ?_, h2.2.2.2.2.2.2.2.2.2.2 hb, fun x hx => ?_⟩
  · rw [← List.drop_drop, h1, subT_cons]; rfl
  · have := h3 x hx
    have := h2.2.2.2.2.1
    simp only [Tree.h_mk]; omega
theorem AtL.get {b : ByteArray} {S : List Tree} {q D : Nat} : ∀ {l : List Tree} {i p : Nat}, AtL b S i D p q l → ∀ j, j < l.length → AtT b S ((kidIx i l).getD j 0) D (l.getD j default)
  | [], i, p, h, j, hj => by simp at hj
  | t :: l, i, p, h, 0, hj => by simpa [kidIx] using h.head.1
  | t :: l, i, p, h, j + 1, hj => by
    have := AtL.get h.head.2 j (by simpa using hj)
    simpa [kidIx] using this
theorem AtT.get {b : ByteArray} {S : List Tree} {i D : Nat} {t : Tree} (h : AtT b S i D t) : i < S.length ∧ S.getD i default = t := by
  obtain ⟨rest, h1, _, _⟩ := h
  rw [subT_cons, List.cons_append] at h1
  have hl : i < S.length := by
    apply Classical.byContradiction
    intro hn
    rw [List.drop_of_length_le (by omega)] at h1; cases h1
  refine ⟨hl, ?_⟩
  rw [List.drop_eq_getElem_cons hl] at h1
  rw [List.getD_eq_getElem?_getD, List.getElem?_eq_getElem hl]
  exact (List.cons.inj h1).1
theorem AtT.ok {b : ByteArray} {S : List Tree} {i D : Nat} {t : Tree} (h : AtT b S i D t) : okT b D t := by obtain ⟨_, _, h, _⟩ := h; exact h

/-! looking for the nodes directly within one -/
def kidScan (D frm to : Nat) : Nat → List Hd → List Nat
  | _, [] => []
  | i, x :: l => if to ≤ x.frm then [] else if x.deep = D ∧ frm ≤ x.frm then i :: kidScan D frm to (i + 1) l else kidScan D frm to (i + 1) l
end Go.Proofs.Ytmjjfdppaomcfaa

/- Plain: the node at a path, and bytes in its place. -/
namespace Go.Proofs.Ytmjjfdppaomcfaa
open Go Go.Proofs.Ytmjjfdppaomcfaa.Ab

def findP : List Tree → List Int → Option (Tree × List Tree)
  | _, [] => none
  | l, p :: r => if 0 ≤ p ∧ p < (l.length : Int) then (if r = [] then some (l.getD p.toNat default, []) else
      match findP (l.getD p.toNat default).kids r with
      | some (x, ys) => some (x, l.getD p.toNat default :: ys)
      | none => none) else none
theorem findT_eq : ∀ (path : List Int) (l acc : List Tree), findT l path acc = match findP l path with | some (x, ys) => some (x, acc ++ ys) | none => none
  | [], l, acc => rfl
  | p :: r, l, acc => by
    simp only [findT, findP]
    split
    · split
      · simp
      · rw [findT_eq r]
        cases findP (l.getD p.toNat default).kids r with
        | none => rfl
        | some x => obtain ⟨x, ys⟩ := x; simp
    · rfl
theorem findP_len : ∀ {path : List Int} {l : List Tree} {x : Tree} {ys : List Tree}, findP l path = some (x, ys) → ys.length + 1 = path.length
  | [], l, x, ys, h => by cases h
  | p :: r, l, x, ys, h => by
    simp only [findP] at h
    split at h
    · split at h
      · rename_i hr; subst hr; cases h; rfl
      · split at h
        · rename_i x' ys' he
          cases h
          have := findP_len he
          simp; omega
        · cases h
    · cases h

/-- nodes one within the other, the innermost first -/
def ChainI (n lo hi : Nat) : List Hd → Nat → Nat → Prop
  | [], p, q => lo ≤ p ∧ p ≤ q ∧ q ≤ hi
  | y :: r, p, q => y.frm ≤ y.len ∧ y.len < y.body ∧ y.body ≤ p ∧ p ≤ q ∧ q ≤ y.stop ∧ y.stop ≤ y.fin ∧ y.fin ≤ n ∧ ChainI n lo hi r y.frm y.fin
theorem ChainI.snoc {n lo hi : Nat} {y : Hd} (hy : y.frm ≤ y.len ∧ y.len < y.body ∧ y.body ≤ y.stop ∧ y.stop ≤ y.fin ∧ y.fin ≤ n) (hl : lo ≤ y.frm) (hh : y.fin ≤ hi) : ∀ {m : List Hd} {p q : Nat}, ChainI n y.body y.stop m p q → ChainI n lo hi (m ++ [y]) p q
  | [], p, q, h => by
    simp only [ChainI, List.nil_append] at h ⊢
    omega
  | z :: m, p, q, h => by
    simp only [ChainI, List.cons_append] at h ⊢
    exact ⟨h.1, h.2.1, h.2.2.1, h.2.2.2.1, h.2.2.2.2.1, h.2.2.2.2.2.1, h.2.2.2.2.2.2.1, ChainI.snoc hy hl hh h.2.2.2.2.2.2.2⟩
theorem ChainI.chain {b : ByteArray} : ∀ {m : List Hd} {p q : Nat}, ChainI b.size 0 b.size m p q → Chain b m p q
  | [], p, q, h => by simp only [ChainI, Chain] at h ⊢; omega
  | z :: m, p, q, h => by
    simp only [ChainI, Chain] at h ⊢
    exact ⟨h.1, h.2.1, h.2.2.1, h.2.2.2.1, h.2.2.2.2.1, h.2.2.2.2.2.1, h.2.2.2.2.2.2.1, h.2.2.2.2.2.2.2.chain⟩
theorem okT_in {b : ByteArray} {D : Nat} {t : Tree} (h : okT b D t) : t.h.frm ≤ t.h.len ∧ t.h.len < t.h.body ∧ t.h.body ≤ t.h.stop ∧ t.h.stop ≤ t.h.fin ∧ t.h.fin ≤ b.size := by
  obtain ⟨h', k⟩ := t
  simp only [okT] at h
  simp only [Tree.h_mk]
  have := h.2.2.2.2.1
  omega
theorem okTs_get {b : ByteArray} {D q : Nat} : ∀ {l : List Tree} {p : Nat}, okTs b D p q l → ∀ j, j < l.length → okT b D (l.getD j default) ∧ p ≤ (l.getD j default).h.frm ∧ (l.getD j default).h.fin ≤ q
  | [], p, h, j, hj => by simp at hj
  | t :: l, p, h, 0, hj => by
    simp only [okTs] at h
    have := okTs_le h.2.2
    simp only [List.getD_cons_zero]
    exact ⟨h.2.1, by omega, this⟩
  | t :: l, p, h, j + 1, hj => by
    simp only [okTs] at h
    have h1 := okT_lt h.2.1
    have := okTs_get h.2.2 j (by simpa using hj)
    simp only [List.getD_cons_succ]
    exact ⟨this.1, by omega, this.2.2⟩
theorem okT_kids {b : ByteArray} {D : Nat} {t : Tree} (h : okT b D t) (hk : t.kids ≠ []) : okTs b (D + 1) t.h.body t.h.stop t.kids := by
  obtain ⟨h', k⟩ := t
  simp only [okT] at h
  simp only [Tree.h_mk, Tree.kids_mk] at hk ⊢
  cases hb : h'.built with
  | true => exact h.2.2.2.2.2.2.2.2.2.2 hb
  | false => exact absurd (h.2.2.2.2.2.2.2.2.2.1 hb) hk
theorem findP_kids {l : List Tree} {path : List Int} {x : Tree} {ys : List Tree} (h : findP l path = some (x, ys)) : l ≠ [] := by
  rintro rfl
  cases path with
  | nil => cases h
  | cons p r => simp only [findP] at h; rw [if_neg (by simp <;> omega)] at h; cases h
theorem findP_chain {b : ByteArray} : ∀ {path : List Int} {l : List Tree} {D lo hi : Nat} {x : Tree} {ys : List Tree}, okTs b D lo hi l → findP l path = some (x, ys) → ChainI b.size lo hi (ys.map Tree.h).reverse x.h.frm x.h.fin ∧ ∃ E, okT b E x
  | [], l, D, lo, hi, x, ys, ho, h => by cases h
  | p :: r, l, D, lo, hi, x, ys, ho, h => by
    simp only [findP] at h
    split at h
    · rename_i hp
      have hg := okTs_get ho p.toNat (by omega)
      split at h
      · cases h
        have := okT_in hg.1
        refine ⟨?_, _, hg.1⟩
        simp only [List.map_nil, List.reverse_nil, ChainI]; omega
      · split at h
        · rename_i x' ys' he
          cases h
          have hk := okT_kids hg.1 (findP_kids he)
          have ih := findP_chain hk he
          refine ⟨?_, ih.2⟩
          rw [List.map_cons, List.reverse_cons]
          exact ChainI.snoc (okT_in hg.1) hg.2.1 hg.2.2 ih.1
        · cases h
    · cases h

def errOf : Except Flt (List Tree) → Int
  | .ok _ => 0
  | .error e => e.2
def okL : Except Flt (List Tree) → List Tree
  | .ok l => l
  | .error _ => []
def atOf (b : ByteArray) : Except Flt (List Tree) → Nat
  | .ok _ => b.size
  | .error e => e.1
theorem readOut_eq (b : ByteArray) (r : Except Flt (List Tree)) : readOut b r = .tup [treesV (okL r), .v (.int .i64 (atOf b r : Int)), .v (.int .i64 (errOf r))] := by cases r <;> rfl
theorem errOf_zero {b : ByteArray} (h : errOf (readB b) = 0) : ∃ l, readB b = .ok l := by
  cases hr : readB b with
  | ok l => exact ⟨l, rfl⟩
  | error e => rw [hr] at h; exact absurd h (readB_err hr)
theorem errOf_size {b : ByteArray} (h : errOf (readB b) = 0) : b.size ≤ 4000 := by
  obtain ⟨l, hl⟩ := errOf_zero h
  exact (readB_len hl).2

/-- bytes in which a node is other bytes, and the error -/
def replacedP (b : ByteArray) (path : List Int) (by_ : ByteArray) : ByteArray × Int :=
  if errOf (readB b) ≠ 0 then (⟨#[]⟩, errOf (readB b)) else
  if path ≠ [] ∧ findP (okL (readB b)) path = none then (⟨#[]⟩, 11) else
  if (by_.size ≠ 0 ∨ path.length = 0 ∨ (path.length = 1 ∧ (okL (readB b)).length = 1)) ∧ errOf (readB by_) ≠ 0 then (⟨#[]⟩, errOf (readB by_)) else
  let out := match findP (okL (readB b)) path with
    | none => by_
    | some (x, ys) => replA b (ys.map Tree.h).reverse x.h.frm x.h.fin by_
  if 4000 < out.size then (⟨#[]⟩, 2) else if errOf (readB out) ≠ 0 then (⟨#[]⟩, errOf (readB out)) else (out, 0)
end Go.Proofs.Ytmjjfdppaomcfaa

/- Walks: bytes in which a node is other bytes; the chapter's example. -/
namespace Go.Proofs.Ytmjjfdppaomcfaa
open Go Go.Proofs.Ytmjjfdppaomcfaa.Ab
set_option maxRecDepth 100000
set_option linter.unusedSimpArgs false

theorem astr_nnil (b : ByteArray) : astr .neq b ⟨#[]⟩ = some (.bool (decide (b.size ≠ 0))) := by
  have h := astr_nil b
  simp only [astr, Option.some.injEq, Value.bool.injEq] at h ⊢
  rw [h]; simp
theorem FZ.strInt (s : ByteArray) (e : Int) : FZ (.tup [.v (.string s), .v (.int .i64 e)]) := FZ.tup (FZs.cons (FZ.v _) (FZs.one (FZ.v _)))
theorem fin_si {H' : AH} {s : ByteArray} {e : Int} {w : AV} (hw : w = .tup [.v (.string s), .v (.int .i64 e)]) : ∃ v v', AOut.ret (.tup [.v (.string s), .v (.int .i64 e)]) = .ret v ∧ View H' v v' ∧ FZ v' ∧ v' = w := by
  subst hw; exact ⟨_, _, rfl, (FZ.strInt s e).view, FZ.strInt s e, rfl⟩
def siV (x : ByteArray × Int) : AV := .tup [.v (.string x.1), .v (.int .i64 x.2)]
theorem bneF {x y : Int} (h : x = y) : (x != y) = false := by subst h; simp
theorem bneT {x y : Int} (h : x ≠ y) : (x != y) = true := by simp [h]
theorem beqT {x y : Int} (h : x = y) : (x == y) = true := by subst h; simp
theorem beqF {x y : Int} (h : x ≠ y) : (x == y) = false := by simp [h]
theorem FZ.intsV (l : List Int) : FZ (intsV l) := FZ.lst rfl fun r hr => by
  obtain ⟨x, _, rfl⟩ := List.mem_map.mp hr; exact FZs.one (FZ.v _)

def ResSI (R : ByteArray × Int) : AOut → AH → Prop := fun out H' => ∃ v v', out = .ret v ∧ View H' v v' ∧ FZ v' ∧ v' = siV R
def endP (out : ByteArray) : ByteArray × Int := if 4000 < out.size then (⟨#[]⟩, 2) else if errOf (readB out) ≠ 0 then (⟨#[]⟩, errOf (readB out)) else (out, 0)
def outP (b by_ : ByteArray) : Option (Tree × List Tree) → ByteArray
  | none => by_
  | some (x, ys) => replA b (ys.map Tree.h).reverse x.h.frm x.h.fin by_
def xV : Option (Tree × List Tree) → AV
  | some (t, _) => treeV t
  | none => .v (.pointer none)
def arV : Option (Tree × List Tree) → AV
  | some (_, a) => treesV a
  | none => treesV []
def rest16c : CC := dropS 9 Cd.cd16
set_option maxHeartbeats 2000000 in
theorem tail16c (out : ByteArray) (f : AF) (H : AH) (f17 : f.t 17 = .v (.string out)) (hds : f.ds = []) :
    cwp Try.prog [] 91 rest16c (Kont.fin Try.prog [ResultVar.tmp 6, ResultVar.tmp 7] (ResSI (endP out))) f H := by
  unfold endP
  by_cases h1 : 4000 < out.size
  · rw [if_pos h1]
    simp only [rest16c, dropS, f17, hds, show decide ((out.size : Int) > 4000) = true from decide_eq_true (by omega), Cd.cd16, Tk.t16, base0, base1, base2, base3, Option.isNone_none, Option.isNone_some, Nat.reduceBEq, true_or, or_true, false_or, or_false, Nat.reduceLT, Nat.reduceMod, Nat.reducePow, rmaps, nsucc, List.flatten_cons, List.flatten_nil, Nat.reduceEqDiff, Nat.reduceLeDiff, Nat.reduceAdd, Nat.reduceMul, Nat.reduceSub, ↓reduceIte, reduceCtorEq, decide_true, decide_false]
    exact fin_si rfl
  · rw [if_neg h1]
    simp only [rest16c, dropS, f17, hds, show decide ((out.size : Int) > 4000) = false from decide_eq_false (by omega), Cd.cd16, Tk.t16, base0, base1, base2, base3, Option.isNone_none, Option.isNone_some, Nat.reduceBEq, true_or, or_true, false_or, or_false, Nat.reduceLT, Nat.reduceMod, Nat.reducePow, rmaps, nsucc, List.flatten_cons, List.flatten_nil, Nat.reduceEqDiff, Nat.reduceLeDiff, Nat.reduceAdd, Nat.reduceMul, Nat.reduceSub, ↓reduceIte, reduceCtorEq, decide_true, decide_false]
    first | refine FCall.go (read37 out) (FZs.one (FZ.v _)) ?_ | refine FCall.go' (read37 out) (FZs.one (FZ.v _)) ?_ | refine FCall.goQ (read37 out) (FZs.one (FZ.v _)) ?_
    by_cases h2 : errOf (readB out) = 0
    · rw [if_neg (fun h => h h2)]
      simp only [f17, hds, readOut_eq, bneF h2, Cd.cd16, Tk.t16, base0, base1, base2, base3, Option.isNone_none, Option.isNone_some, Nat.reduceBEq, true_or, or_true, false_or, or_false, Nat.reduceLT, Nat.reduceMod, Nat.reducePow, rmaps, nsucc, List.flatten_cons, List.flatten_nil, Nat.reduceEqDiff, Nat.reduceLeDiff, Nat.reduceAdd, Nat.reduceMul, Nat.reduceSub, ↓reduceIte, reduceCtorEq, decide_true, decide_false]
      exact fin_si rfl
    · rw [if_pos h2]
      simp only [f17, hds, readOut_eq, bneT h2, Cd.cd16, Tk.t16, base0, base1, base2, base3, Option.isNone_none, Option.isNone_some, Nat.reduceBEq, true_or, or_true, false_or, or_false, Nat.reduceLT, Nat.reduceMod, Nat.reducePow, rmaps, nsucc, List.flatten_cons, List.flatten_nil, Nat.reduceEqDiff, Nat.reduceLeDiff, Nat.reduceAdd, Nat.reduceMul, Nat.reduceSub, ↓reduceIte, reduceCtorEq, decide_true, decide_false]
      exact fin_si rfl

def rest16b : CC := dropS 7 Cd.cd16
theorem rest16b_eq : rest16b = putS 2 (dropS 7 Cd.cd16) rest16c := (putS_drop 2 (dropS 7 Cd.cd16)).symm
set_option maxHeartbeats 2000000 in
theorem tail16b (b : ByteArray) (hb : b.size ≤ 4000) (by_ : ByteArray) (hby : by_.size ≤ 4050) (fo : Option (Tree × List Tree)) (hfo : ∀ x ys, fo = some (x, ys) → ys.length ≤ 20 ∧ Chain b (ys.map Tree.h).reverse x.h.frm x.h.fin)
    (f : AF) (H : AH) (f0 : f.t 0 = .v (.string b)) (f2 : f.t 2 = .v (.string by_)) (f11 : f.t 11 = xV fo) (f12 : f.t 12 = arV fo) (hds : f.ds = []) :
    cwp Try.prog [] 91 rest16b (Kont.fin Try.prog [ResultVar.tmp 6, ResultVar.tmp 7] (ResSI (endP (outP b by_ fo)))) f H := by
  rw [rest16b_eq]
  cases fo with
  | none =>
    simp only [xV, arV] at f11 f12
    simp only [dropS, putS, f0, f2, f11, f12, hds, Cd.cd16, Tk.t16, base0, base1, base2, base3, Option.isNone_none, Option.isNone_some, Nat.reduceBEq, true_or, or_true, false_or, or_false, Nat.reduceLT, Nat.reduceMod, Nat.reducePow, rmaps, nsucc, List.flatten_cons, List.flatten_nil, Nat.reduceEqDiff, Nat.reduceLeDiff, Nat.reduceAdd, Nat.reduceMul, Nat.reduceSub, ↓reduceIte, reduceCtorEq, decide_true, decide_false]
    exact tail16c _ _ _ (by simp [upd, outP]) (by simp [upd, hds])
  | some xy =>
    obtain ⟨x, ys⟩ := xy
    obtain ⟨g1, g2⟩ := hfo x ys rfl
    simp only [xV, arV] at f11 f12
    have hx := treeV_box x
    have hR := replaced44 b hb ys x by_ g1 hby g2
    have hz := FZ.treeV x
    rw [hx] at hR f11 hz
    simp only [dropS, putS, f0, f2, f11, f12, hds, Cd.cd16, Tk.t16, base0, base1, base2, base3, Option.isNone_none, Option.isNone_some, Nat.reduceBEq, true_or, or_true, false_or, or_false, Nat.reduceLT, Nat.reduceMod, Nat.reducePow, rmaps, nsucc, List.flatten_cons, List.flatten_nil, Nat.reduceEqDiff, Nat.reduceLeDiff, Nat.reduceAdd, Nat.reduceMul, Nat.reduceSub, ↓reduceIte, reduceCtorEq, decide_true, decide_false]
    first | refine FCall.go hR (FZs.cons (FZ.v _) (FZs.cons (FZ.rowsOf ys) (FZs.cons hz (FZs.one (FZ.v _))))) ?_ | refine FCall.go' hR (FZs.cons (FZ.v _) (FZs.cons (FZ.rowsOf ys) (FZs.cons hz (FZs.one (FZ.v _))))) ?_ | refine FCall.goQ hR (FZs.cons (FZ.v _) (FZs.cons (FZ.rowsOf ys) (FZs.cons hz (FZs.one (FZ.v _))))) ?_
    simp only [dropS, putS, Cd.cd16, Tk.t16, base0, base1, base2, base3, Option.isNone_none, Option.isNone_some, Nat.reduceBEq, true_or, or_true, false_or, or_false, Nat.reduceLT, Nat.reduceMod, Nat.reducePow, rmaps, nsucc, List.flatten_cons, List.flatten_nil, Nat.reduceEqDiff, Nat.reduceLeDiff, Nat.reduceAdd, Nat.reduceMul, Nat.reduceSub, ↓reduceIte, reduceCtorEq, decide_true, decide_false]
    exact tail16c _ _ _ (by simp [upd, outP]) (by simp [upd, hds])

def rest16a : CC := dropS 6 Cd.cd16
theorem rest16a_eq : rest16a = putS 1 (dropS 6 Cd.cd16) rest16b := (putS_drop 1 (dropS 6 Cd.cd16)).symm
set_option maxHeartbeats 2000000 in
theorem tail16a (b : ByteArray) (hb : b.size ≤ 4000) (by_ : ByteArray) (al : Bool) (fo : Option (Tree × List Tree)) (hfo : ∀ x ys, fo = some (x, ys) → ys.length ≤ 20 ∧ Chain b (ys.map Tree.h).reverse x.h.frm x.h.fin)
    (f : AF) (H : AH) (f0 : f.t 0 = .v (.string b)) (f2 : f.t 2 = .v (.string by_)) (f11 : f.t 11 = xV fo) (f12 : f.t 12 = arV fo) (f13 : f.t 13 = .v (.bool al)) (hds : f.ds = []) (R : ByteArray × Int) (hR : (if (by_.size ≠ 0 ∨ al = true) ∧ errOf (readB by_) ≠ 0 then (⟨#[]⟩, errOf (readB by_)) else endP (outP b by_ fo)) = R) :
    cwp Try.prog [] 91 rest16a (Kont.fin Try.prog [ResultVar.tmp 6, ResultVar.tmp 7] (ResSI R)) f H := by
  rw [rest16a_eq]
  by_cases h0 : by_.size = 0
  · cases al with
    | false =>
      rw [if_neg (by simp [h0])] at hR
      subst hR
      simp only [dropS, putS, f0, f2, f13, hds, astr_nnil, h0, ne_eq, not_true_eq_false, Cd.cd16, Tk.t16, base0, base1, base2, base3, Option.isNone_none, Option.isNone_some, Nat.reduceBEq, true_or, or_true, false_or, or_false, Nat.reduceLT, Nat.reduceMod, Nat.reducePow, rmaps, nsucc, List.flatten_cons, List.flatten_nil, Nat.reduceEqDiff, Nat.reduceLeDiff, Nat.reduceAdd, Nat.reduceMul, Nat.reduceSub, ↓reduceIte, reduceCtorEq, decide_true, decide_false]
      exact tail16b b hb by_ (by omega) fo hfo _ _ (by simp [upd, f0]) (by simp [upd, f2]) (by simp [upd, f11]) (by simp [upd, f12]) (by simp [upd, hds])
    | true =>
      simp only [dropS, putS, f0, f2, f13, hds, astr_nnil, h0, ne_eq, not_true_eq_false, Cd.cd16, Tk.t16, base0, base1, base2, base3, Option.isNone_none, Option.isNone_some, Nat.reduceBEq, true_or, or_true, false_or, or_false, Nat.reduceLT, Nat.reduceMod, Nat.reducePow, rmaps, nsucc, List.flatten_cons, List.flatten_nil, Nat.reduceEqDiff, Nat.reduceLeDiff, Nat.reduceAdd, Nat.reduceMul, Nat.reduceSub, ↓reduceIte, reduceCtorEq, decide_true, decide_false]
      first | refine FCall.go (read37 by_) (FZs.one (FZ.v _)) ?_ | refine FCall.go' (read37 by_) (FZs.one (FZ.v _)) ?_ | refine FCall.goQ (read37 by_) (FZs.one (FZ.v _)) ?_
      by_cases h2 : errOf (readB by_) = 0
      · rw [if_neg (fun h => h.2 h2)] at hR
        subst hR
        simp only [dropS, putS, readOut_eq, bneF h2, Cd.cd16, Tk.t16, base0, base1, base2, base3, Option.isNone_none, Option.isNone_some, Nat.reduceBEq, true_or, or_true, false_or, or_false, Nat.reduceLT, Nat.reduceMod, Nat.reducePow, rmaps, nsucc, List.flatten_cons, List.flatten_nil, Nat.reduceEqDiff, Nat.reduceLeDiff, Nat.reduceAdd, Nat.reduceMul, Nat.reduceSub, ↓reduceIte, reduceCtorEq, decide_true, decide_false]
        exact tail16b b hb by_ (by omega) fo hfo _ _ (by simp [upd, f0]) (by simp [upd, f2]) (by simp [upd, f11]) (by simp [upd, f12]) (by simp [upd, hds])
      · rw [if_pos ⟨.inr rfl, h2⟩] at hR
        subst hR
        simp only [dropS, putS, readOut_eq, bneT h2, hds, Cd.cd16, Tk.t16, base0, base1, base2, base3, Option.isNone_none, Option.isNone_some, Nat.reduceBEq, true_or, or_true, false_or, or_false, Nat.reduceLT, Nat.reduceMod, Nat.reducePow, rmaps, nsucc, List.flatten_cons, List.flatten_nil, Nat.reduceEqDiff, Nat.reduceLeDiff, Nat.reduceAdd, Nat.reduceMul, Nat.reduceSub, ↓reduceIte, reduceCtorEq, decide_true, decide_false]
        exact fin_si rfl
  · simp only [dropS, putS, f0, f2, f13, hds, astr_nnil, h0, ne_eq, not_false_eq_true, Cd.cd16, Tk.t16, base0, base1, base2, base3, Option.isNone_none, Option.isNone_some, Nat.reduceBEq, true_or, or_true, false_or, or_false, Nat.reduceLT, Nat.reduceMod, Nat.reducePow, rmaps, nsucc, List.flatten_cons, List.flatten_nil, Nat.reduceEqDiff, Nat.reduceLeDiff, Nat.reduceAdd, Nat.reduceMul, Nat.reduceSub, ↓reduceIte, reduceCtorEq, decide_true, decide_false]
    first | refine FCall.go (read37 by_) (FZs.one (FZ.v _)) ?_ | refine FCall.go' (read37 by_) (FZs.one (FZ.v _)) ?_ | refine FCall.goQ (read37 by_) (FZs.one (FZ.v _)) ?_
    by_cases h2 : errOf (readB by_) = 0
    · rw [if_neg (fun h => h.2 h2)] at hR
      subst hR
      have := errOf_size h2
      simp only [dropS, putS, readOut_eq, bneF h2, Cd.cd16, Tk.t16, base0, base1, base2, base3, Option.isNone_none, Option.isNone_some, Nat.reduceBEq, true_or, or_true, false_or, or_false, Nat.reduceLT, Nat.reduceMod, Nat.reducePow, rmaps, nsucc, List.flatten_cons, List.flatten_nil, Nat.reduceEqDiff, Nat.reduceLeDiff, Nat.reduceAdd, Nat.reduceMul, Nat.reduceSub, ↓reduceIte, reduceCtorEq, decide_true, decide_false]
      exact tail16b b hb by_ (by omega) fo hfo _ _ (by simp [upd, f0]) (by simp [upd, f2]) (by simp [upd, f11]) (by simp [upd, f12]) (by simp [upd, hds])
    · rw [if_pos ⟨.inl h0, h2⟩] at hR
      subst hR
      simp only [dropS, putS, readOut_eq, bneT h2, hds, Cd.cd16, Tk.t16, base0, base1, base2, base3, Option.isNone_none, Option.isNone_some, Nat.reduceBEq, true_or, or_true, false_or, or_false, Nat.reduceLT, Nat.reduceMod, Nat.reducePow, rmaps, nsucc, List.flatten_cons, List.flatten_nil, Nat.reduceEqDiff, Nat.reduceLeDiff, Nat.reduceAdd, Nat.reduceMul, Nat.reduceSub, ↓reduceIte, reduceCtorEq, decide_true, decide_false]
      exact fin_si rfl

set_option maxHeartbeats 2000000 in
theorem replaced16 (b : ByteArray) (path : List Int) (hp : path.length ≤ 20) (by_ : ByteArray) : FCall Try.prog 16 [.v (.string b), intsV path, .v (.string by_)] (· = siV (replacedP b path by_)) := by
  refine ACall.enter [] (cc := putS 6 Cd.cd16 rest16a) (by rw [show putS 6 Cd.cd16 rest16a = Cd.cd16 from putS_drop 6 _]; exact Cd.fn16) (by simp) ?_
  generalize hR : replacedP b path by_ = R
  unfold replacedP at hR
  simp only [putS, Cd.cd16, Tk.t16, base0, base1, base2, base3, Option.isNone_none, Option.isNone_some, Nat.reduceBEq, true_or, or_true, false_or, or_false, Nat.reduceLT, Nat.reduceMod, Nat.reducePow, rmaps, nsucc, List.flatten_cons, List.flatten_nil, Nat.reduceEqDiff, Nat.reduceLeDiff, Nat.reduceAdd, Nat.reduceMul, Nat.reduceSub, ↓reduceIte, reduceCtorEq, decide_true, decide_false]
  first | refine FCall.go (read37 b) (FZs.one (FZ.v _)) ?_ | refine FCall.go' (read37 b) (FZs.one (FZ.v _)) ?_ | refine FCall.goQ (read37 b) (FZs.one (FZ.v _)) ?_
  by_cases h1 : errOf (readB b) = 0
  rotate_left
  · rw [if_pos h1] at hR
    subst hR
    simp only [putS, readOut_eq, bneT h1, Cd.cd16, Tk.t16, base0, base1, base2, base3, Option.isNone_none, Option.isNone_some, Nat.reduceBEq, true_or, or_true, false_or, or_false, Nat.reduceLT, Nat.reduceMod, Nat.reducePow, rmaps, nsucc, List.flatten_cons, List.flatten_nil, Nat.reduceEqDiff, Nat.reduceLeDiff, Nat.reduceAdd, Nat.reduceMul, Nat.reduceSub, ↓reduceIte, reduceCtorEq, decide_true, decide_false]
    exact fin_si rfl
  · rw [if_neg (fun h => h h1)] at hR
    have hb := errOf_size h1
    obtain ⟨l, hl⟩ := errOf_zero h1
    have hwf := readB_wf hl
    have hok : okL (readB b) = l := by rw [hl]; rfl
    rw [hok] at hR
    simp only [putS, readOut_eq, bneF h1, hok, Cd.cd16, Tk.t16, base0, base1, base2, base3, Option.isNone_none, Option.isNone_some, Nat.reduceBEq, true_or, or_true, false_or, or_false, Nat.reduceLT, Nat.reduceMod, Nat.reducePow, rmaps, nsucc, List.flatten_cons, List.flatten_nil, Nat.reduceEqDiff, Nat.reduceLeDiff, Nat.reduceAdd, Nat.reduceMul, Nat.reduceSub, ↓reduceIte, reduceCtorEq, decide_true, decide_false]
    first | refine FCall.go (find43 l path (by omega)) (FZs.cons (FZ.rowsOf l) (FZs.one (FZ.intsV path))) ?_ | refine FCall.go' (find43 l path (by omega)) (FZs.cons (FZ.rowsOf l) (FZs.one (FZ.intsV path))) ?_ | refine FCall.goQ (find43 l path (by omega)) (FZs.cons (FZ.rowsOf l) (FZs.one (FZ.intsV path))) ?_
    have hfl := findT_eq path l []
    have hch : ∀ x ys, findP l path = some (x, ys) → ys.length ≤ 20 ∧ Chain b (ys.map Tree.h).reverse x.h.frm x.h.fin := fun x ys e => by
      have e1 := findP_len e
      exact ⟨by omega, (findP_chain hwf e).1.chain⟩
    cases hfo : findP l path with
    | none =>
      rw [hfo] at hfl hch hR
      rw [hfl]
      cases path with
      | nil =>
        rw [if_neg (fun h => h.1 rfl)] at hR
        simp only [putS, findOut, intsV, List.map_nil, show decide (((0 : Nat) : Int) > 0) = false from rfl, show (((0 : Nat) : Int) == 0) = true from rfl, show (((0 : Nat) : Int) == 1) = false from rfl, Cd.cd16, Tk.t16, base0, base1, base2, base3, Option.isNone_none, Option.isNone_some, Nat.reduceBEq, true_or, or_true, false_or, or_false, Nat.reduceLT, Nat.reduceMod, Nat.reducePow, rmaps, nsucc, List.flatten_cons, List.flatten_nil, Nat.reduceEqDiff, Nat.reduceLeDiff, Nat.reduceAdd, Nat.reduceMul, Nat.reduceSub, ↓reduceIte, reduceCtorEq, decide_true, decide_false]
        refine tail16a b hb by_ true none hch _ _ ?_ ?_ ?_ ?_ ?_ ?_ _ (Eq.trans ?_ hR)
        · simp [upd, enterA]
        · simp [upd, enterA]
        · simp [upd, xV]
        · simp [upd, arV]
        · simp [upd]
        · rfl
        · simp only [List.length_nil, true_or, or_true, true_and]; rfl
      | cons p r =>
        rw [if_pos ⟨by simp, rfl⟩] at hR
        subst hR
        simp only [putS, findOut, intsV, List.map_cons, List.length_map, show decide (((r.length + 1 : Nat) : Int) > 0) = true from decide_eq_true (by omega), Cd.cd16, Tk.t16, base0, base1, base2, base3, Option.isNone_none, Option.isNone_some, Nat.reduceBEq, true_or, or_true, false_or, or_false, Nat.reduceLT, Nat.reduceMod, Nat.reducePow, rmaps, nsucc, List.flatten_cons, List.flatten_nil, Nat.reduceEqDiff, Nat.reduceLeDiff, Nat.reduceAdd, Nat.reduceMul, Nat.reduceSub, ↓reduceIte, reduceCtorEq, decide_true, decide_false]
        exact fin_si rfl
    | some xy =>
      obtain ⟨x, ys⟩ := xy
      rw [hfo] at hfl hch hR
      rw [hfl]
      rw [if_neg (fun h => by cases h.2)] at hR
      have hx := treeV_box x
      have hp0 : path.length ≠ 0 := by have := findP_len hfo; omega
      have e0 : ((path.length : Int) == 0) = false := beqF (by omega)
      by_cases a1 : path.length = 1
      · have e1 : ((path.length : Int) == 1) = true := beqT (by omega)
        by_cases a2 : l.length = 1
        · simp only [putS, findOut, intsV, treesV, hx, List.length_map, e0, e1, show ((l.length : Int) == 1) = true from beqT (by omega), Cd.cd16, Tk.t16, base0, base1, base2, base3, Option.isNone_none, Option.isNone_some, Nat.reduceBEq, true_or, or_true, false_or, or_false, Nat.reduceLT, Nat.reduceMod, Nat.reducePow, rmaps, nsucc, List.flatten_cons, List.flatten_nil, Nat.reduceEqDiff, Nat.reduceLeDiff, Nat.reduceAdd, Nat.reduceMul, Nat.reduceSub, ↓reduceIte, reduceCtorEq, decide_true, decide_false]
          refine tail16a b hb by_ true (some (x, ys)) hch _ _ (by simp [upd, enterA]) (by simp [upd, enterA]) (by simp [upd, hx, xV, treesV]) (by simp [upd, treesV, arV]) (by simp [upd]) rfl _ (Eq.trans ?_ hR)
          simp only [a1, a2, and_self, or_true]; rfl
        · simp only [putS, findOut, intsV, treesV, hx, List.length_map, e0, e1, show ((l.length : Int) == 1) = false from beqF (by omega), Cd.cd16, Tk.t16, base0, base1, base2, base3, Option.isNone_none, Option.isNone_some, Nat.reduceBEq, true_or, or_true, false_or, or_false, Nat.reduceLT, Nat.reduceMod, Nat.reducePow, rmaps, nsucc, List.flatten_cons, List.flatten_nil, Nat.reduceEqDiff, Nat.reduceLeDiff, Nat.reduceAdd, Nat.reduceMul, Nat.reduceSub, ↓reduceIte, reduceCtorEq, decide_true, decide_false]
          refine tail16a b hb by_ false (some (x, ys)) hch _ _ (by simp [upd, enterA]) (by simp [upd, enterA]) (by simp [upd, hx, xV, treesV]) (by simp [upd, treesV, arV]) (by simp [upd]) rfl _ (Eq.trans ?_ hR)
          simp only [hp0, a2, and_false, false_and, or_false, Bool.false_eq_true]; rfl
      · have e1 : ((path.length : Int) == 1) = false := beqF (by omega)
        simp only [putS, findOut, intsV, treesV, hx, List.length_map, e0, e1, Cd.cd16, Tk.t16, base0, base1, base2, base3, Option.isNone_none, Option.isNone_some, Nat.reduceBEq, true_or, or_true, false_or, or_false, Nat.reduceLT, Nat.reduceMod, Nat.reducePow, rmaps, nsucc, List.flatten_cons, List.flatten_nil, Nat.reduceEqDiff, Nat.reduceLeDiff, Nat.reduceAdd, Nat.reduceMul, Nat.reduceSub, ↓reduceIte, reduceCtorEq, decide_true, decide_false]
        refine tail16a b hb by_ false (some (x, ys)) hch _ _ (by simp [upd, enterA]) (by simp [upd, enterA]) (by simp [upd, hx, xV, treesV]) (by simp [upd, treesV, arV]) (by simp [upd]) rfl _ (Eq.trans ?_ hR)
        simp only [hp0, a1, and_false, false_and, or_false, Bool.false_eq_true]; rfl

/-- the chapter's example -/
def exB : ByteArray := ⟨#[48, 6, 2, 1, 5, 1, 1, 255]⟩
theorem example36 : FCall Try.prog 36 [] (· = .v (.string exB)) := by
  refine ACall.enter [] Cd.fn36 (by simp) ?_
  simp only [Cd.cd36, Tk.t36, base0, base1, base2, base3, Option.isNone_none, Option.isNone_some, Nat.reduceBEq, true_or, or_true, false_or, or_false, Nat.reduceLT, Nat.reduceMod, Nat.reducePow, rmaps, nsucc, List.flatten_cons, List.flatten_nil, Nat.reduceEqDiff, Nat.reduceLeDiff, Nat.reduceAdd, Nat.reduceMul, Nat.reduceSub, ↓reduceIte, reduceCtorEq, decide_true, decide_false]
  exact fin_v rfl
def exL : List Hd := [⟨0, 16, true, false, 0, 1, 2, 8, 8, 0⟩, ⟨0, 2, false, false, 2, 3, 4, 5, 5, 1⟩, ⟨0, 1, false, false, 5, 6, 7, 8, 8, 1⟩]
theorem ex_walked : walkedOut (readB exB) = .tup [nodesV exL, .v (.int .i64 0), .v (.int .i64 0)] := by rfl
theorem ex_repl : replacedP exB [0, 1] ⟨#[5, 0]⟩ = (⟨#[48, 5, 2, 1, 5, 5, 0]⟩, 0) := by decide +kernel
theorem awake11 : FCall Try.prog 11 [] (· = .v (.bool true)) := by
  refine ACall.enter [] Cd.fn11 (by simp) ?_
  simp only [Cd.cd11, Tk.t11, base0, base1, base2, base3, Option.isNone_none, Option.isNone_some, Nat.reduceBEq, true_or, or_true, false_or, or_false, Nat.reduceLT, Nat.reduceMod, Nat.reducePow, rmaps, nsucc, List.flatten_cons, List.flatten_nil, Nat.reduceEqDiff, Nat.reduceLeDiff, Nat.reduceAdd, Nat.reduceMul, Nat.reduceSub, ↓reduceIte, reduceCtorEq, decide_true, decide_false]
  first | refine FCall.go (example36) (FZs.nil) ?_ | refine FCall.go' (example36) (FZs.nil) ?_ | refine FCall.goQ (example36) (FZs.nil) ?_
  simp only [Cd.cd11, Tk.t11, base0, base1, base2, base3, Option.isNone_none, Option.isNone_some, Nat.reduceBEq, true_or, or_true, false_or, or_false, Nat.reduceLT, Nat.reduceMod, Nat.reducePow, rmaps, nsucc, List.flatten_cons, List.flatten_nil, Nat.reduceEqDiff, Nat.reduceLeDiff, Nat.reduceAdd, Nat.reduceMul, Nat.reduceSub, ↓reduceIte, reduceCtorEq, decide_true, decide_false]
  first | refine FCall.go (walked13 exB) (FZs.one (FZ.v _)) ?_ | refine FCall.go' (walked13 exB) (FZs.one (FZ.v _)) ?_ | refine FCall.goQ (walked13 exB) (FZs.one (FZ.v _)) ?_
  rw [ex_walked]
  simp only [nodesV, exL, Cd.cd11, Tk.t11, base0, base1, base2, base3, Option.isNone_none, Option.isNone_some, Nat.reduceBEq, true_or, or_true, false_or, or_false, Nat.reduceLT, Nat.reduceMod, Nat.reducePow, rmaps, nsucc, List.flatten_cons, List.flatten_nil, Nat.reduceEqDiff, Nat.reduceLeDiff, Nat.reduceAdd, Nat.reduceMul, Nat.reduceSub, ↓reduceIte, reduceCtorEq, decide_true, decide_false]
  first | refine FCall.go (example36) (FZs.nil) ?_ | refine FCall.go' (example36) (FZs.nil) ?_ | refine FCall.goQ (example36) (FZs.nil) ?_
  simp only [Cd.cd11, Tk.t11, base0, base1, base2, base3, Option.isNone_none, Option.isNone_some, Nat.reduceBEq, true_or, or_true, false_or, or_false, Nat.reduceLT, Nat.reduceMod, Nat.reducePow, rmaps, nsucc, List.flatten_cons, List.flatten_nil, Nat.reduceEqDiff, Nat.reduceLeDiff, Nat.reduceAdd, Nat.reduceMul, Nat.reduceSub, ↓reduceIte, reduceCtorEq, decide_true, decide_false]
  refine FCall.bgo (replaced16 exB [0, 1] (by decide) ⟨#[5, 0]⟩) (Views.cons (FZ.v _).view (Views.cons (View.tip fun r hr => ?_) (Views.cons (FZ.v _).view Views.nil))) (Ground.tup fun c hc => ?_) ?_
  · simp only [List.mem_cons, List.not_mem_nil, or_false] at hr
    rcases hr with rfl | rfl <;> exact FZs.one (FZ.v _)
  · simp only [List.mem_cons, List.not_mem_nil, or_false] at hc
    rcases hc with rfl | rfl <;> exact Ground.v _
  rw [ex_repl]
  simp only [siV, nodeL, Cd.cd11, Tk.t11, base0, base1, base2, base3, Option.isNone_none, Option.isNone_some, Nat.reduceBEq, true_or, or_true, false_or, or_false, Nat.reduceLT, Nat.reduceMod, Nat.reducePow, rmaps, nsucc, List.flatten_cons, List.flatten_nil, Nat.reduceEqDiff, Nat.reduceLeDiff, Nat.reduceAdd, Nat.reduceMul, Nat.reduceSub, ↓reduceIte, reduceCtorEq, decide_true, decide_false]
  exact fin_v (by rw [beq_self_eq_true])
end Go.Proofs.Ytmjjfdppaomcfaa

/- Walks: the nodes directly within a node. -/
namespace Go.Proofs.Ytmjjfdppaomcfaa
open Go Go.Proofs.Ytmjjfdppaomcfaa.Ab
set_option maxRecDepth 100000
set_option linter.unusedSimpArgs false

def natR (n : Nat) : List AV := [.v (.int .i64 (n : Int))]
def natsV (l : List Nat) : AV := .lst 1 (l.map natR) .unk
theorem FZs.natR (n : Nat) : FZs (natR n) := FZs.one (FZ.v _)
theorem FZ.natsV (l : List Nat) : FZ (natsV l) := FZ.lst rfl fun r hr => by
  obtain ⟨x, _, rfl⟩ := List.mem_map.mp hr; exact FZs.natR x
def walkV (b : ByteArray) (L : List Hd) : AV := .box (wL b (nodesV L) 0 0)
theorem FZ.walkV (b : ByteArray) (L : List Hd) : FZ (walkV b L) := FZ.box fun x hx => by
  simp only [wL, List.mem_cons, List.not_mem_nil, or_false] at hx
  rcases hx with rfl | rfl | rfl | rfl <;> first | exact FZ.v _ | exact FZ.nodesV L

def rest45 : CC := dropS 4 Cd.cd45
end Go.Proofs.Ytmjjfdppaomcfaa

/- Walks: the octets of identifiers and lengths, as the reference writes them. -/
namespace Go.Proofs.Ytmjjfdppaomcfaa
open Go Go.Proofs.Ytmjjfdppaomcfaa.Ab
set_option maxRecDepth 100000
set_option linter.unusedSimpArgs false

/-- the first octet of an identifier, without the number -/
def hdN (cls : Nat) (bl : Bool) : Nat := cls * 64 + (if bl then 32 else 0)
def lowCF : Nat → Nat → List UInt8
  | 0, _ => []
  | m + 1, k => if k = 0 then [] else UInt8.ofNat (128 + k % 128) :: lowCF m (k / 128)
def lowC (n : Nat) : List UInt8 := lowCF n n
/-- the octets of an identifier -/
def identL (cls num : Nat) (bl : Bool) : List UInt8 := if num < 31 then [UInt8.ofNat (hdN cls bl + num)] else
  UInt8.ofNat (hdN cls bl + 31) :: (UInt8.ofNat (num % 128) :: lowC (num / 128)).reverse
def identB (cls num : Nat) (bl : Bool) : ByteArray := ⟨(identL cls num bl).toArray⟩

/-- bytes as a frozen list, or nil -/
def RowsB (v : AV) (L : List UInt8) : Prop := (L = [] ∧ v = nilS) ∨ ∃ tip, v = .lst 1 (L.map byR) tip ∧ (L.length = 0) = False
theorem count32 (x : Bool) : FCall Try.prog 32 [.v (.bool x)] (· = .v (.int .i64 (if x then 1 else 0))) := by
  cases x
  · refine ACall.enter [] Cd.fn32 (by simp) ?_
    simp only [Cd.cd32, Tk.t32, base0, base1, base2, base3, Option.isNone_none, Option.isNone_some, Nat.reduceBEq, true_or, or_true, false_or, or_false, Nat.reduceLT, Nat.reduceMod, Nat.reducePow, rmaps, nsucc, List.flatten_cons, List.flatten_nil, Nat.reduceEqDiff, Nat.reduceLeDiff, Nat.reduceAdd, Nat.reduceMul, Nat.reduceSub, ↓reduceIte, reduceCtorEq, decide_true, decide_false]
    exact fin_v rfl
  · refine ACall.enter [] Cd.fn32 (by simp) ?_
    simp only [Cd.cd32, Tk.t32, base0, base1, base2, base3, Option.isNone_none, Option.isNone_some, Nat.reduceBEq, true_or, or_true, false_or, or_false, Nat.reduceLT, Nat.reduceMod, Nat.reducePow, rmaps, nsucc, List.flatten_cons, List.flatten_nil, Nat.reduceEqDiff, Nat.reduceLeDiff, Nat.reduceAdd, Nat.reduceMul, Nat.reduceSub, ↓reduceIte, reduceCtorEq, decide_true, decide_false]
    exact fin_v rfl
def tagV (c n : Nat) : AV := .agg [iv c, iv n]

def rest21 : CC := dropS 2 Cd.cd21
end Go.Proofs.Ytmjjfdppaomcfaa

/- Walks: lengths in at least so many octets; the program's identifiers; the law of writing. -/
namespace Go.Proofs.Ytmjjfdppaomcfaa
open Go Go.Proofs.Ytmjjfdppaomcfaa.Ab
set_option maxRecDepth 100000
set_option linter.unusedSimpArgs false

def rest69 : CC := dropS 2 Cd.cd69
end Go.Proofs.Ytmjjfdppaomcfaa

/- Walks: the program's identifiers and lengths; the law of writing. -/
namespace Go.Proofs.Ytmjjfdppaomcfaa
open Go Go.Proofs.Ytmjjfdppaomcfaa.Ab
set_option maxRecDepth 100000
set_option linter.unusedSimpArgs false

def rest47 : CC := dropS 3 Cd.cd47
/-- the shortest octets of an identifier, or the error -/
def identOf (c n : Int) (bl : Bool) : ByteArray × Int := if 0 ≤ c ∧ c < 4 ∧ 0 ≤ n ∧ n ≤ 268435456 then (identB c.toNat n.toNat bl, 0) else (⟨#[]⟩, 3)
def lengthOf (n : Int) : ByteArray × Int := if 0 ≤ n ∧ n ≤ 4000 then (lengthB n.toNat 1, 0) else (⟨#[]⟩, 3)
theorem astr_nes (x : ByteArray) : astr .neq x x = some (.bool false) := by simp [astr]
end Go.Proofs.Ytmjjfdppaomcfaa

/- Walks: the law of writing. -/
namespace Go.Proofs.Ytmjjfdppaomcfaa
open Go Go.Proofs.Ytmjjfdppaomcfaa.Ab
set_option maxRecDepth 100000
set_option linter.unusedSimpArgs false

def rest5 : CC := dropS 4 Cd.cd5
end Go.Proofs.Ytmjjfdppaomcfaa

/- Plain: the node at a path by its index; bytes around a node. -/
namespace Go.Proofs.Ytmjjfdppaomcfaa
open Go Go.Proofs.Ytmjjfdppaomcfaa.Ab

theorem okT_deep {b : ByteArray} {D : Nat} {t : Tree} (h : okT b D t) : t.h.deep = D ∧ D ≤ 15 := by
  obtain ⟨h', k⟩ := t
  simp only [okT] at h
  exact h.1
theorem okT_leaf {b : ByteArray} {D : Nat} {t : Tree} (h : okT b D t) (hb : t.h.built = false) : t.kids = [] := by
  obtain ⟨h', k⟩ := t
  simp only [okT] at h
  exact h.2.2.2.2.2.2.2.2.2.1 hb
theorem okT_fin {b : ByteArray} {D : Nat} {t : Tree} (h : okT b D t) : t.h.fin = t.h.stop + (if t.h.opn then 2 else 0) := by
  obtain ⟨h', k⟩ := t
  simp only [okT] at h
  exact h.2.2.2.2.1

def findN : Nat → List Tree → List Int → Option Nat
  | _, _, [] => none
  | s, l, p :: r => if 0 ≤ p ∧ p < (l.length : Int) then (if r = [] then some ((kidIx s l).getD p.toNat 0) else findN ((kidIx s l).getD p.toNat 0 + 1) (l.getD p.toNat default).kids r) else none
/-- a constructed node with another content -/
def againB (b : ByteArray) (x : Hd) (c : ByteArray) : ByteArray :=
  if x.opn then b.extract x.frm x.body ++ c ++ b.extract x.stop x.fin else b.extract x.frm x.len ++ lengthB c.size (x.body - x.len) ++ c
def partA (b : ByteArray) (p : Int) (mid : Tree → ByteArray) : Nat → List Tree → ByteArray
  | _, [] => ⟨#[]⟩
  | i, t :: l => (if (i : Int) ≠ p then b.extract t.h.frm t.h.fin else mid t) ++ partA b p mid (i + 1) l
def aroundT (b by_ : ByteArray) : List Int → List Tree → ByteArray
  | [], _ => ⟨#[]⟩
  | p :: r, l => partA b p (fun t => if r = [] then by_ else againB b t.h (aroundT b by_ r t.kids)) 0 l

theorem ext_ext (b : ByteArray) {i j k : Nat} (h1 : i ≤ j) (h2 : j ≤ k) : b.extract i j ++ b.extract j k = b.extract i k := by
  rw [ByteArray.extract_append_extract, Nat.min_eq_left h1, Nat.max_eq_right h2]
theorem ext_self (b : ByteArray) (i : Nat) : b.extract i i = ⟨#[]⟩ := by
  rw [bnil, ByteArray.size_extract]; omega
theorem app_nil (x : ByteArray) : x ++ ⟨#[]⟩ = x := by apply ByteArray.ext; simp
theorem nil_app (x : ByteArray) : ⟨#[]⟩ ++ x = x := by apply ByteArray.ext; simp
theorem partA_out {b : ByteArray} {D q : Nat} {p : Int} {mid : Tree → ByteArray} : ∀ {l : List Tree} {i s : Nat}, okTs b D s q l → (p < i ∨ i + l.length ≤ p) → partA b p mid i l = b.extract s q
  | [], i, s, h, hp => by simp only [okTs] at h; subst h; rw [ext_self]; rfl
  | t :: l, i, s, h, hp => by
    simp only [okTs] at h
    have h1 := okT_lt h.2.1
    have h2 := okTs_le h.2.2
    simp only [List.length_cons] at hp
    rw [partA, if_pos (by omega), partA_out h.2.2 (by omega), ← h.1, ext_ext b (by omega) h2]
theorem partA_in {b : ByteArray} {D q : Nat} {p : Int} {mid : Tree → ByteArray} : ∀ {l : List Tree} {i s j : Nat}, okTs b D s q l → p = i + j → j < l.length → partA b p mid i l = b.extract s (l.getD j default).h.frm ++ mid (l.getD j default) ++ b.extract (l.getD j default).h.fin q
  | [], i, s, j, h, hp, hj => by simp at hj
  | t :: l, i, s, 0, h, hp, hj => by
    simp only [okTs] at h
    rw [partA, if_neg (by omega), partA_out h.2.2 (by omega), List.getD_cons_zero, h.1, ext_self, nil_app]
  | t :: l, i, s, j + 1, h, hp, hj => by
    simp only [okTs] at h
    have h1 := okT_lt h.2.1
    have hg := okTs_get h.2.2 j (by simpa using hj)
    rw [partA, if_pos (by omega), partA_in (j := j) h.2.2 (by omega) (by simpa using hj), List.getD_cons_succ, ← ByteArray.append_assoc, ← ByteArray.append_assoc, ← h.1, ext_ext b (by omega) hg.2.1]

def replF (b : ByteArray) : List Hd → Nat → Nat → ByteArray → Nat × Nat × ByteArray
  | [], p, q, out => (p, q, out)
  | y :: r, p, q, out => replF b r y.frm y.fin (replStep b y p q out)
theorem replF_snoc (b : ByteArray) (y : Hd) : ∀ (m : List Hd) (p q : Nat) (out : ByteArray), replF b (m ++ [y]) p q out = (y.frm, y.fin, replStep b y (replF b m p q out).1 (replF b m p q out).2.1 (replF b m p q out).2.2)
  | [], p, q, out => rfl
  | z :: m, p, q, out => by rw [List.cons_append, replF, replF_snoc b y m]; rfl
theorem replA_F (b : ByteArray) : ∀ (m : List Hd) (p q : Nat) (out : ByteArray), replA b m p q out = b.extract 0 (replF b m p q out).1 ++ (replF b m p q out).2.2 ++ b.extract (replF b m p q out).2.1 b.size
  | [], p, q, out => rfl
  | z :: m, p, q, out => by rw [replA, replA_F b m]; rfl
theorem again_step {b : ByteArray} {D : Nat} {t : Tree} (h : okT b D t) (p q : Nat) (out : ByteArray) : againB b t.h (b.extract t.h.body p ++ out ++ b.extract q t.h.stop) = replStep b t.h p q out := by
  have h1 := okT_in h
  have h2 := okT_fin h
  unfold againB replStep
  cases ho : t.h.opn with
  | true => simp only [if_true]; rw [ext_ext b h1.1 (by omega)]
  | false =>
    rw [ho] at h2
    simp only [Bool.false_eq_true, if_false, Nat.add_zero] at h2 ⊢
    rw [h2, ext_self, app_nil]
theorem around_eq {b by_ : ByteArray} : ∀ {path : List Int} {l : List Tree} {D s e : Nat} {x : Tree} {ys : List Tree}, okTs b D s e l → findP l path = some (x, ys) →
    aroundT b by_ path l = b.extract s (replF b (ys.map Tree.h).reverse x.h.frm x.h.fin by_).1 ++ (replF b (ys.map Tree.h).reverse x.h.frm x.h.fin by_).2.2 ++ b.extract (replF b (ys.map Tree.h).reverse x.h.frm x.h.fin by_).2.1 e
  | [], l, D, s, e, x, ys, ho, h => by cases h
  | p :: r, l, D, s, e, x, ys, ho, h => by
    simp only [findP] at h
    split at h
    · rename_i hp
      have hg := okTs_get ho p.toNat (by omega)
      rw [aroundT, partA_in (j := p.toNat) ho (by omega) (by omega)]
      split at h
      · rename_i hr
        cases h
        rw [if_pos hr]; rfl
      · rename_i hr
        rw [if_neg hr]
        split at h
        · rename_i x' ys' he
          cases h
          have hk := okT_kids hg.1 (findP_kids he)
          rw [around_eq hk he, again_step hg.1, List.map_cons, List.reverse_cons, replF_snoc]
        · cases h
    · cases h
theorem around_replA {b by_ : ByteArray} {path : List Int} {l : List Tree} {x : Tree} {ys : List Tree} (ho : okTs b 0 0 b.size l) (h : findP l path = some (x, ys)) : aroundT b by_ path l = replA b (ys.map Tree.h).reverse x.h.frm x.h.fin by_ := by
  rw [around_eq ho h, replA_F]
end Go.Proofs.Ytmjjfdppaomcfaa

/- Walks: the reference looks for a node, and puts bytes in its place. -/
namespace Go.Proofs.Ytmjjfdppaomcfaa
open Go Go.Proofs.Ytmjjfdppaomcfaa.Ab
set_option maxRecDepth 100000
set_option linter.unusedSimpArgs false

theorem fin_fz {H' : AH} {v w : AV} (h : FZ v) (hw : v = w) : ∃ x x', AOut.ret v = .ret x ∧ View H' x x' ∧ FZ x' ∧ x' = w := by
  subst hw; exact ⟨_, _, rfl, h.view, h, rfl⟩
section
variable {b : ByteArray} {l : List Tree} (hb : b.size ≤ 4000) (hwf : okTs b 0 0 b.size l) (hlen : (flatTs l).length ≤ 300)
theorem AtT.node {i D : Nat} {t : Tree} (h : AtT b (subTs l) i D t) : i < (flatTs l).length ∧ (flatTs l).getD i default = t.h := by
  obtain ⟨h1, h2⟩ := h.get
  rw [← subTs_map]
  refine ⟨by simpa using h1, ?_⟩
  rw [List.getD_eq_getElem?_getD, List.getElem?_map, List.getElem?_eq_getElem h1]
  rw [List.getD_eq_getElem?_getD, List.getElem?_eq_getElem h1] at h2
  simp only [Option.getD_some] at h2
  simp [h2]
end
def ixV : Option Nat → AV
  | some i => iv i
  | none => .v (.int .i64 (-1))
end Go.Proofs.Ytmjjfdppaomcfaa

/- Walks: the reference looks for a node at a path; constructed nodes again. -/
namespace Go.Proofs.Ytmjjfdppaomcfaa
open Go Go.Proofs.Ytmjjfdppaomcfaa.Ab
set_option maxRecDepth 100000
set_option linter.unusedSimpArgs false

/-- a node, or the whole: its number, where its kids begin, and they -/
def AtK (b : ByteArray) (l : List Tree) (a : Int) (s : Nat) (l' : List Tree) : Prop := (a = -1 ∧ s = 0 ∧ l' = l) ∨ ∃ (n D : Nat) (t : Tree), a = (n : Int) ∧ AtT b (subTs l) n D t ∧ t.h.built = true ∧ s = n + 1 ∧ l' = t.kids
section
variable {b : ByteArray} {l : List Tree} (hb : b.size ≤ 4000) (hwf : okTs b 0 0 b.size l) (hlen : (flatTs l).length ≤ 300)
end
end Go.Proofs.Ytmjjfdppaomcfaa

/- Walks: the reference's Replaced; the law of replacing. -/
namespace Go.Proofs.Ytmjjfdppaomcfaa
open Go Go.Proofs.Ytmjjfdppaomcfaa.Ab
set_option maxRecDepth 100000
set_option linter.unusedSimpArgs false

theorem fin_lst {H' : AH} {k : Nat} {rows : List (List AV)} {tip : Tip} {w : AV} (hw : w = .lst k rows .unk) (hz : ∀ r ∈ rows, FZs r) : ∃ v v', AOut.ret (.lst k rows tip) = .ret v ∧ View H' v v' ∧ FZ v' ∧ v' = w := by
  subst hw; exact ⟨_, _, rfl, View.tip hz, FZ.lst rfl hz, rfl⟩
theorem FZs.intR (l : List Int) : ∀ r ∈ l.map intR, FZs r := fun r hr => by
  obtain ⟨x, _, rfl⟩ := List.mem_map.mp hr; exact FZs.one (FZ.v _)
theorem ownInts17 (l : List Int) (hl : l.length ≤ 1000) : FCall Try.prog 17 [intsV l] (· = intsV l) := by
  refine ACall.enter [] Cd.fn17 (by simp) ?_
  cases l with
  | nil =>
    simp only [intsV, List.map_nil, List.range_zero, Nat.zero_mul, Nat.zero_le, Nat.zero_lt_one, Cd.cd17, Tk.t17, base0, base1, base2, base3, Option.isNone_none, Option.isNone_some, Nat.reduceBEq, true_or, or_true, false_or, or_false, Nat.reduceLT, Nat.reduceMod, Nat.reducePow, rmaps, nsucc, List.flatten_cons, List.flatten_nil, Nat.reduceEqDiff, Nat.reduceLeDiff, Nat.reduceAdd, Nat.reduceMul, Nat.reduceSub, ↓reduceIte, reduceCtorEq, decide_true, decide_false]
    exact fin_lst rfl (fun r hr => by cases hr)
  | cons x l =>
    have hr : roomA 8 (l.length + 1) = true := room1 (by simp at hl; omega) (by simp at hl; omega)
    simp only [intsV, List.map_cons, List.length_map, hr, List.range_zero, Nat.zero_mul, Nat.zero_le, Nat.zero_lt_one, Cd.cd17, Tk.t17, base0, base1, base2, base3, Option.isNone_none, Option.isNone_some, Nat.reduceBEq, true_or, or_true, false_or, or_false, Nat.reduceLT, Nat.reduceMod, Nat.reducePow, rmaps, nsucc, List.flatten_cons, List.flatten_nil, Nat.reduceEqDiff, Nat.reduceLeDiff, Nat.reduceAdd, Nat.reduceMul, Nat.reduceSub, ↓reduceIte, reduceCtorEq, decide_true, decide_false]
    exact fin_lst rfl (FZs.intR (x :: l))

def atE : Except Flt (List Tree) → Nat
  | .ok _ => 0
  | .error e => e.1
def rest18c : CC := dropS 7 Cd.cd18
def rest18b : CC := dropS 5 Cd.cd18
def rest18a : CC := dropS 4 Cd.cd18
end Go.Proofs.Ytmjjfdppaomcfaa

/- Plain: the path of the first node that is another one. -/
namespace Go.Proofs.Ytmjjfdppaomcfaa
open Go Go.Proofs.Ytmjjfdppaomcfaa.Ab

/-- two nodes are not the same, but for those within -/
def difB (a b : ByteArray) (x y : Hd) : Bool := !(x.cls == y.cls && x.num == y.num) || (x.built != y.built || (!x.built && !decide (a.extract x.body x.stop = b.extract y.body y.stop)))
def apartL (a b : ByteArray) (rec : List Tree → List Tree → Option (List Nat)) : Nat → List Tree → List Tree → Option (List Nat)
  | i, x :: l, y :: m => if difB a b x.h y.h = true then some [i] else match rec x.kids y.kids with
    | some p => some (i :: p)
    | none => apartL a b rec (i + 1) l m
  | _, [], [] => none
  | i, _ :: _, [] => some [i]
  | i, [], _ :: _ => some [i]
def apartD (a b : ByteArray) : Nat → List Tree → List Tree → Option (List Nat)
  | 0 => fun _ _ => none
  | d + 1 => apartL a b (apartD a b d) 0
theorem okTs_deep {b : ByteArray} {D p q : Nat} {l : List Tree} (h : okTs b D p q l) (hD : 15 < D) : l = [] := by
  cases l with
  | nil => rfl
  | cons t l => simp only [okTs] at h; have := okT_deep h.2.1; omega
theorem okT_built {b : ByteArray} {D : Nat} {t : Tree} (h : okT b D t) (hb : t.h.built = true) : okTs b (D + 1) t.h.body t.h.stop t.kids := by
  obtain ⟨h', k⟩ := t
  simp only [okT] at h
  exact h.2.2.2.2.2.2.2.2.2.2 hb
theorem flat_kids : ∀ {l : List Tree} {i : Nat}, i < l.length → (flatTs (l.getD i default).kids).length < (flatTs l).length
  | [], i, h => by simp at h
  | .mk hd k :: l, 0, h => by simp [flatTs, flatT, Tree.kids_mk]; omega
  | .mk hd k :: l, i + 1, h => by
    have := flat_kids (l := l) (i := i) (by simpa using h)
    simp only [List.getD_cons_succ, flatTs, flatT, List.length_append, List.length_cons]; omega
end Go.Proofs.Ytmjjfdppaomcfaa

/- Walks: words for finding the first node that is another one. -/
namespace Go.Proofs.Ytmjjfdppaomcfaa
open Go Go.Proofs.Ytmjjfdppaomcfaa.Ab
set_option maxRecDepth 100000
set_option linter.unusedSimpArgs false

def apV : Option (List Nat) → AV
  | some p => .tup [natsV p, .v (.bool true)]
  | none => .tup [natsV [], .v (.bool false)]
theorem FZ.apV (o : Option (List Nat)) : FZ (apV o) := by
  cases o
  · exact FZ.tup (FZs.cons (FZ.natsV []) (FZs.one (FZ.v _)))
  · rename_i p
    exact FZ.tup (FZs.cons (FZ.natsV p) (FZs.one (FZ.v _)))
end Go.Proofs.Ytmjjfdppaomcfaa

/- Walks: whether two are alike; the law of it. -/
namespace Go.Proofs.Ytmjjfdppaomcfaa
open Go Go.Proofs.Ytmjjfdppaomcfaa.Ab
set_option maxRecDepth 100000
set_option linter.unusedSimpArgs false

/-- whether they are alike, the path of the first difference, the error -/
def alikeP (a b : ByteArray) : Bool × List Nat × Int :=
  if errOf (readB a) ≠ 0 then (false, [], errOf (readB a)) else if errOf (readB b) ≠ 0 then (false, [], errOf (readB b)) else
    match apartD a b 17 (okL (readB a)) (okL (readB b)) with
    | some p => (false, p, 0)
    | none => (true, [], 0)
def bleV (x : Bool × List Nat × Int) : AV := .tup [.v (.bool x.1), natsV x.2.1, .v (.int .i64 x.2.2)]
end Go.Proofs.Ytmjjfdppaomcfaa

/- Plain: the short form, and that it is no longer. -/
namespace Go.Proofs.Ytmjjfdppaomcfaa
open Go Go.Proofs.Ytmjjfdppaomcfaa.Ab

mutual
/-- the short form of a node -/
def shortT (b : ByteArray) : Tree → ByteArray
  | .mk h k => identB h.cls h.num h.built ++ lengthB (if h.built then shortTs b k else b.extract h.body h.stop).size 1 ++ (if h.built then shortTs b k else b.extract h.body h.stop)
def shortTs (b : ByteArray) : List Tree → ByteArray
  | [] => ⟨#[]⟩
  | t :: l => shortT b t ++ shortTs b l
end
theorem lengthB_sz (n o : Nat) : (lengthB n o).size = (lengthL n o).length := by simp [lengthB, ByteArray.size]
theorem lenL_lt {b : ByteArray} {lim : Nat} : ∀ {k p n m : Nat}, lenL b lim k p n = .ok m → m < (n + 1) * 256 ^ k
  | 0, p, n, m, h => by simp only [lenL] at h; cases h; omega
  | k + 1, p, n, m, h => by
    simp only [lenL] at h
    split at h
    · split at h
      · cases h
      · have h1 := lenL_lt h
        have h3 := bt_lt b p
        rw [Nat.pow_succ, Nat.mul_comm (256 ^ _) 256, ← Nat.mul_assoc]
        exact Nat.lt_of_lt_of_le h1 (Nat.mul_le_mul_right _ (by omega))
    · cases h
theorem lenOf_min {b : ByteArray} {a lim n p : Nat} {bl : Bool} (h : lenOf b a lim bl = .ok (some n, p)) : (lengthB n 1).size ≤ p - a := by
  rw [lengthB_sz]
  have hc := bt_lt b a
  unfold lenOf at h
  split at h
  · split at h
    · rename_i h1
      cases h
      unfold lengthL; rw [if_pos ⟨h1, rfl⟩]; simp
    · split at h
      · cases h
      · split at h
        · cases h
        · split at h
          · rename_i n' hn
            cases h
            have h1 := lenL_lt hn
            rw [Nat.zero_add, Nat.one_mul] at h1
            have h2 := lowB_len _ _ h1
            unfold lengthL
            split
            · simp; omega
            · simp [padB_len]; omega
          · cases h
  · cases h
end Go.Proofs.Ytmjjfdppaomcfaa

/- Walks: the short form by the reference; the law of it. -/
namespace Go.Proofs.Ytmjjfdppaomcfaa
open Go Go.Proofs.Ytmjjfdppaomcfaa.Ab
set_option maxRecDepth 100000
set_option linter.unusedSimpArgs false

/-- the short form of bytes, or the error -/
def shortP (b : ByteArray) : ByteArray × Int := if errOf (readB b) ≠ 0 then (⟨#[]⟩, errOf (readB b)) else (shortTs b (okL (readB b)), 0)
def isShortP (b : ByteArray) : Bool × Int := (decide ((shortP b).2 = 0) && decide ((shortP b).1 = b), (shortP b).2)
def biV (x : Bool × Int) : AV := .tup [.v (.bool x.1), .v (.int .i64 x.2)]
section
variable {b : ByteArray} {l0 : List Tree} (hb : b.size ≤ 4000) (hwf : okTs b 0 0 b.size l0) (hlen : (flatTs l0).length ≤ 300)
end
end Go.Proofs.Ytmjjfdppaomcfaa

/- Plain: what the short form is read as. -/
namespace Go.Proofs.Ytmjjfdppaomcfaa
open Go Go.Proofs.Ytmjjfdppaomcfaa.Ab

/-- what a node means: its tag, and its content or the nodes within -/
inductive Sh where
  | mk (cls num : Nat) (built : Bool) (cont : List UInt8) (kids : List Sh)
def cnt (b : ByteArray) (p q : Nat) : List UInt8 := (b.extract p q).data.toList
mutual
def shp (b : ByteArray) : Tree → Sh
  | .mk h k => .mk h.cls h.num h.built (if h.built then [] else cnt b h.body h.stop) (shps b k)
def shps (b : ByteArray) : List Tree → List Sh
  | [] => []
  | t :: l => shp b t :: shps b l
end
mutual
def encL : Sh → List UInt8
  | .mk c n bl ct k => identL c n bl ++ (lengthL (if bl then encLs k else ct).length 1 ++ (if bl then encLs k else ct))
def encLs : List Sh → List UInt8
  | [] => []
  | t :: l => encL t ++ encLs l
end
mutual
def cntS : Sh → Nat
  | .mk _ _ _ _ k => 1 + cntSs k
def cntSs : List Sh → Nat
  | [] => 0
  | t :: l => cntS t + cntSs l
end
mutual
/-- shapes that can be written, so deep -/
def okS (d : Nat) : Sh → Prop
  | .mk c n bl ct k => c < 4 ∧ n ≤ 268435456 ∧ (bl = true → ct = []) ∧ (bl = false → k = []) ∧ ∃ e, d = e + 1 ∧ okSs e k
def okSs (d : Nat) : List Sh → Prop
  | [] => True
  | t :: l => okS d t ∧ okSs d l
end
def mkB (l : List UInt8) : ByteArray := ⟨l.toArray⟩
/-! reading -/
/-- bytes stand at a place -/
def hasL (s : ByteArray) (p : Nat) (L : List UInt8) : Prop := ∀ i, i < L.length → bt s (p + i) = (L.getD i 0).toNat
theorem hasL.head {s : ByteArray} {p : Nat} {x : UInt8} {L : List UInt8} (h : hasL s p (x :: L)) : bt s p = x.toNat ∧ hasL s (p + 1) L :=
  ⟨by simpa using h 0 (by simp), fun i hi => by
    have := h (i + 1) (by simpa using hi)
    rw [show p + (i + 1) = p + 1 + i from by omega] at this
    simpa using this⟩
end Go.Proofs.Ytmjjfdppaomcfaa

/- Plain: alike are those of the same short form. -/
namespace Go.Proofs.Ytmjjfdppaomcfaa
open Go Go.Proofs.Ytmjjfdppaomcfaa.Ab

theorem readB_ne {b : ByteArray} {l : List Tree} (h : readB b = .ok l) : l ≠ [] := by
  have hw := readB_wf h
  rintro rfl
  simp only [okTs] at hw
  unfold readB at h
  rw [if_neg (by omega), if_pos (by omega)] at h
  cases h
end Go.Proofs.Ytmjjfdppaomcfaa

/- Walks: the node at a path, the path of an octet. -/
namespace Go.Proofs.Ytmjjfdppaomcfaa
open Go Go.Proofs.Ytmjjfdppaomcfaa.Ab
set_option maxRecDepth 100000
set_option linter.unusedSimpArgs false

def hd0 : Hd := ⟨0, 0, false, false, 0, 0, 0, 0, 0, 0⟩
/-- the node at a path, or the error -/
def nodeAtP (b : ByteArray) (path : List Int) : Hd × Int :=
  if errOf (readB b) ≠ 0 then (hd0, errOf (readB b)) else match findP (okL (readB b)) path with
    | none => (hd0, 11)
    | some (x, _) => (x.h, 0)
def naV (x : Hd × Int) : AV := .tup [.agg (nodeL x.1), .v (.int .i64 x.2)]
theorem FZ.na (x : Hd × Int) : FZ (naV x) := FZ.tup (FZs.cons (FZ.agg (FZs.nodeL _)) (FZs.one (FZ.v _)))
set_option maxHeartbeats 1000000 in
theorem nodeAt27 (b : ByteArray) (path : List Int) (hp : path.length ≤ 1000) : FCall Try.prog 27 [.v (.string b), intsV path] (· = naV (nodeAtP b path)) := by
  have hzi := FZ.intsV path
  generalize hR : nodeAtP b path = R
  unfold nodeAtP at hR
  refine ACall.enter [] Cd.fn27 (by simp) ?_
  simp only [Cd.cd27, Tk.t27, base0, base1, base2, base3, Option.isNone_none, Option.isNone_some, Nat.reduceBEq, true_or, or_true, false_or, or_false, Nat.reduceLT, Nat.reduceMod, Nat.reducePow, rmaps, nsucc, List.flatten_cons, List.flatten_nil, Nat.reduceEqDiff, Nat.reduceLeDiff, Nat.reduceAdd, Nat.reduceMul, Nat.reduceSub, ↓reduceIte, reduceCtorEq, decide_true, decide_false]
  first | refine FCall.go (read37 b) (FZs.one (FZ.v _)) ?_ | refine FCall.go' (read37 b) (FZs.one (FZ.v _)) ?_ | refine FCall.goQ (read37 b) (FZs.one (FZ.v _)) ?_
  by_cases h1 : errOf (readB b) = 0
  rotate_left
  · rw [if_pos h1] at hR
    subst hR
    simp only [readOut_eq, bneT h1, Cd.cd27, Tk.t27, base0, base1, base2, base3, Option.isNone_none, Option.isNone_some, Nat.reduceBEq, true_or, or_true, false_or, or_false, Nat.reduceLT, Nat.reduceMod, Nat.reducePow, rmaps, nsucc, List.flatten_cons, List.flatten_nil, Nat.reduceEqDiff, Nat.reduceLeDiff, Nat.reduceAdd, Nat.reduceMul, Nat.reduceSub, ↓reduceIte, reduceCtorEq, decide_true, decide_false]
    exact fin_fz (FZ.na (hd0, errOf (readB b))) rfl
  rw [if_neg (fun h => h h1)] at hR
  obtain ⟨l, hl⟩ := errOf_zero h1
  rw [hl] at hR ⊢
  simp only [okL] at hR
  simp only [readOut_eq, okL, errOf, show ((0 : Int) != 0) = false from rfl, Cd.cd27, Tk.t27, base0, base1, base2, base3, Option.isNone_none, Option.isNone_some, Nat.reduceBEq, true_or, or_true, false_or, or_false, Nat.reduceLT, Nat.reduceMod, Nat.reducePow, rmaps, nsucc, List.flatten_cons, List.flatten_nil, Nat.reduceEqDiff, Nat.reduceLeDiff, Nat.reduceAdd, Nat.reduceMul, Nat.reduceSub, ↓reduceIte, reduceCtorEq, decide_true, decide_false]
  first | refine FCall.go (find43 l path (by omega)) (FZs.cons (FZ.rowsOf l) (FZs.one hzi)) ?_ | refine FCall.go' (find43 l path (by omega)) (FZs.cons (FZ.rowsOf l) (FZs.one hzi)) ?_ | refine FCall.goQ (find43 l path (by omega)) (FZs.cons (FZ.rowsOf l) (FZs.one hzi)) ?_
  have hfl := findT_eq path l []
  cases hf : findP l path with
  | none =>
    rw [hf] at hR hfl
    subst hR
    rw [hfl]
    simp only [findOut, Cd.cd27, Tk.t27, base0, base1, base2, base3, Option.isNone_none, Option.isNone_some, Nat.reduceBEq, true_or, or_true, false_or, or_false, Nat.reduceLT, Nat.reduceMod, Nat.reducePow, rmaps, nsucc, List.flatten_cons, List.flatten_nil, Nat.reduceEqDiff, Nat.reduceLeDiff, Nat.reduceAdd, Nat.reduceMul, Nat.reduceSub, ↓reduceIte, reduceCtorEq, decide_true, decide_false]
    exact fin_fz (FZ.na (hd0, 11)) rfl
  | some xy =>
    obtain ⟨x, ys⟩ := xy
    rw [hf] at hR hfl
    subst hR
    rw [hfl]
    have hx := treeV_box x
    have hP := public40 x
    have hzx := FZ.treeV x
    rw [hx] at hP hzx
    simp only [hdL] at hP hzx
    simp only [findOut, hx, hdL, Cd.cd27, Tk.t27, base0, base1, base2, base3, Option.isNone_none, Option.isNone_some, Nat.reduceBEq, true_or, or_true, false_or, or_false, Nat.reduceLT, Nat.reduceMod, Nat.reducePow, rmaps, nsucc, List.flatten_cons, List.flatten_nil, Nat.reduceEqDiff, Nat.reduceLeDiff, Nat.reduceAdd, Nat.reduceMul, Nat.reduceSub, ↓reduceIte, reduceCtorEq, decide_true, decide_false]
    first | refine FCall.go hP (FZs.one hzx) ?_ | refine FCall.go' hP (FZs.one hzx) ?_ | refine FCall.goQ hP (FZs.one hzx) ?_
    simp only [nodeL, Cd.cd27, Tk.t27, base0, base1, base2, base3, Option.isNone_none, Option.isNone_some, Nat.reduceBEq, true_or, or_true, false_or, or_false, Nat.reduceLT, Nat.reduceMod, Nat.reducePow, rmaps, nsucc, List.flatten_cons, List.flatten_nil, Nat.reduceEqDiff, Nat.reduceLeDiff, Nat.reduceAdd, Nat.reduceMul, Nat.reduceSub, ↓reduceIte, reduceCtorEq, decide_true, decide_false]
    exact fin_fz (FZ.na (x.h, 0)) rfl

/-! the path of an octet -/
def hasB (at_ : Int) (t : Tree) : Bool := decide ((t.h.frm : Int) ≤ at_) && decide (at_ < (t.h.fin : Int))
theorem pathTo52 (at_ : Int) (t : Tree) : FCall Try.prog 52 [treeV t, .box [.v (.int .i64 at_)]] (· = .v (.bool (hasB at_ t))) := by
  have hx := treeV_box t
  unfold hasB
  refine ACall.enter [] Cd.fn52 (by simp) ?_
  by_cases h1 : (t.h.frm : Int) ≤ at_
  · simp only [hx, hdL, decide_eq_true h1, Cd.cd52, Tk.t52, base0, base1, base2, base3, Option.isNone_none, Option.isNone_some, Nat.reduceBEq, true_or, or_true, false_or, or_false, Nat.reduceLT, Nat.reduceMod, Nat.reducePow, rmaps, nsucc, List.flatten_cons, List.flatten_nil, Nat.reduceEqDiff, Nat.reduceLeDiff, Nat.reduceAdd, Nat.reduceMul, Nat.reduceSub, ↓reduceIte, reduceCtorEq, decide_true, decide_false]
    exact fin_v (by simp)
  · simp only [hx, hdL, decide_eq_false h1, Cd.cd52, Tk.t52, base0, base1, base2, base3, Option.isNone_none, Option.isNone_some, Nat.reduceBEq, true_or, or_true, false_or, or_false, Nat.reduceLT, Nat.reduceMod, Nat.reducePow, rmaps, nsucc, List.flatten_cons, List.flatten_nil, Nat.reduceEqDiff, Nat.reduceLeDiff, Nat.reduceAdd, Nat.reduceMul, Nat.reduceSub, ↓reduceIte, reduceCtorEq, decide_true, decide_false]
    exact fin_v (by simp)
def idxB (at_ : Int) : Nat → List Tree → Option Nat
  | _, [] => none
  | i, t :: l => if hasB at_ t = true then some i else idxB at_ (i + 1) l
theorem idxB_drop {at_ : Int} {l : List Tree} {i s : Nat} (h : i < l.length) : idxB at_ s (l.drop i) = if hasB at_ (l.getD i default) = true then some s else idxB at_ (s + 1) (l.drop (i + 1)) := by
  rw [List.drop_eq_getElem_cons h, idxB, List.getD_eq_getElem?_getD, List.getElem?_eq_getElem h]; rfl
theorem FZ.clo (at_ : Int) : FZ (.fn (.func 52) [] [.box [.v (.int .i64 at_)]]) := FZ.fn FZs.nil (FZs.one (FZ.box (FZs.one (FZ.v _))))
theorem indexFunc51 (at_ : Int) (l : List Tree) (hl : l.length ≤ 1000) : FCall Try.prog 51 [treesV l, .fn (.func 52) [] [.box [.v (.int .i64 at_)]]] (· = ixV (idxB at_ 0 l)) := by
  generalize hR : idxB at_ 0 l = R
  refine ACall.enter [] Cd.fn51 (by simp) ?_
  simp only [treesV, List.length_map, Cd.cd51, Tk.t51, base0, base1, base2, base3, Option.isNone_none, Option.isNone_some, Nat.reduceBEq, true_or, or_true, false_or, or_false, Nat.reduceLT, Nat.reduceMod, Nat.reducePow, rmaps, nsucc, List.flatten_cons, List.flatten_nil, Nat.reduceEqDiff, Nat.reduceLeDiff, Nat.reduceAdd, Nat.reduceMul, Nat.reduceSub, ↓reduceIte, reduceCtorEq, decide_true, decide_false]
  refine LWP.loop [] (fun m f H' => ∃ i, m = l.length - i ∧ (i ≤ l.length) ∧ (idxB at_ i (l.drop i) = R) ∧ f.t 0 = treesV l ∧ f.t 1 = .fn (.func 52) [] [.box [.v (.int .i64 at_)]] ∧ f.t 7 = .v (.int .i64 (l.length : Nat)) ∧ f.t 8 = iv i ∧ f.ds = [] ∧ H' = AH.none) ?_ ?_ (m := l.length - (0))
  · exact ⟨0, rfl, (by omega), (hR), rfl, rfl, rfl, rfl, rfl, rfl⟩
  · rintro m f H' ⟨i, rfl, hi, hT, f0, f1, f7, f8, hds, rfl⟩
    by_cases hlt : i < l.length
    · rw [idxB_drop hlt] at hT
      have hrow := treesR_get l i hlt
      generalize l.getD i default = t at hT hrow
      simp only [treesV, iv, List.length_map, show decide ((i : Int) < (l.length : Int)) = true from decide_eq_true (by omega), ltT hlt, Int.natCast_nonneg, Int.toNat_natCast, hrow, f0, f1, f7, f8, hds, Cd.cd51, Tk.t51, base0, base1, base2, base3, Option.isNone_none, Option.isNone_some, Nat.reduceBEq, true_or, or_true, false_or, or_false, Nat.reduceLT, Nat.reduceMod, Nat.reducePow, rmaps, nsucc, List.flatten_cons, List.flatten_nil, Nat.reduceEqDiff, Nat.reduceLeDiff, Nat.reduceAdd, Nat.reduceMul, Nat.reduceSub, ↓reduceIte, reduceCtorEq, decide_true, decide_false]
      first | refine FCall.go (pathTo52 at_ t) (FZs.cons (FZ.treeV t) (FZs.one (FZ.box (FZs.one (FZ.v _))))) ?_ | refine FCall.go' (pathTo52 at_ t) (FZs.cons (FZ.treeV t) (FZs.one (FZ.box (FZs.one (FZ.v _))))) ?_ | refine FCall.goQ (pathTo52 at_ t) (FZs.cons (FZ.treeV t) (FZs.one (FZ.box (FZs.one (FZ.v _))))) ?_
      cases hh : hasB at_ t with
      | true =>
        rw [if_pos hh] at hT
        simp only [f0, f1, f7, f8, hds, Cd.cd51, Tk.t51, base0, base1, base2, base3, Option.isNone_none, Option.isNone_some, Nat.reduceBEq, true_or, or_true, false_or, or_false, Nat.reduceLT, Nat.reduceMod, Nat.reducePow, rmaps, nsucc, List.flatten_cons, List.flatten_nil, Nat.reduceEqDiff, Nat.reduceLeDiff, Nat.reduceAdd, Nat.reduceMul, Nat.reduceSub, ↓reduceIte, reduceCtorEq, decide_true, decide_false]
        exact fin_v (by rw [← hT]; rfl)
      | false =>
        rw [if_neg (by simp [hh])] at hT
        simp only [iv, wrapS (show i < 2 ^ 62 by omega), f0, f1, f7, f8, hds, Cd.cd51, Tk.t51, base0, base1, base2, base3, Option.isNone_none, Option.isNone_some, Nat.reduceBEq, true_or, or_true, false_or, or_false, Nat.reduceLT, Nat.reduceMod, Nat.reducePow, rmaps, nsucc, List.flatten_cons, List.flatten_nil, Nat.reduceEqDiff, Nat.reduceLeDiff, Nat.reduceAdd, Nat.reduceMul, Nat.reduceSub, ↓reduceIte, reduceCtorEq, decide_true, decide_false]
        refine ⟨_, by omega, i + 1, rfl, by omega, hT, ?_⟩
        (repeat' apply And.intro) <;> first | rfl | trivial
    · rw [List.drop_of_length_le (by omega)] at hT
      simp only [iv, show decide ((i : Int) < (l.length : Int)) = false from decide_eq_false (by omega), f0, f1, f7, f8, hds, Cd.cd51, Tk.t51, base0, base1, base2, base3, Option.isNone_none, Option.isNone_some, Nat.reduceBEq, true_or, or_true, false_or, or_false, Nat.reduceLT, Nat.reduceMod, Nat.reducePow, rmaps, nsucc, List.flatten_cons, List.flatten_nil, Nat.reduceEqDiff, Nat.reduceLeDiff, Nat.reduceAdd, Nat.reduceMul, Nat.reduceSub, ↓reduceIte, reduceCtorEq, decide_true, decide_false]
      exact fin_v (by rw [← hT]; rfl)

/-- the path of an octet, so many levels -/
def pathN (at_ : Int) : Nat → List Tree → List Nat
  | 0, _ => []
  | n + 1, l => match idxB at_ 0 l with
    | none => []
    | some i => i :: pathN at_ n (l.getD i default).kids
theorem idxB_lt {at_ : Int} : ∀ {l : List Tree} {s i : Nat}, idxB at_ s l = some i → s ≤ i ∧ i < s + l.length ∧ hasB at_ (l.getD (i - s) default) = true
  | [], s, i, h => by cases h
  | t :: l, s, i, h => by
    simp only [idxB] at h
    split at h
    · rename_i hh; cases h; simp [hh]
    · have := idxB_lt h
      refine ⟨by omega, by simp; omega, ?_⟩
      rw [show i - s = (i - (s + 1)) + 1 from by omega, List.getD_cons_succ]; exact this.2.2
theorem okT_sub {b : ByteArray} {D : Nat} {t : Tree} (h : okT b D t) : ∃ p q, q ≤ b.size ∧ okTs b (D + 1) p q t.kids := by
  by_cases hk : t.kids = []
  · rw [hk]; exact ⟨0, 0, by omega, by simp only [okTs]⟩
  · have := okT_in h
    exact ⟨_, _, by omega, okT_kids h hk⟩
def pathToP (b : ByteArray) (at_ : Int) : List Nat × Int :=
  if errOf (readB b) ≠ 0 then ([], errOf (readB b)) else if at_ < 0 ∨ at_ ≥ (b.size : Int) then ([], 3) else (pathN at_ 17 (okL (readB b)), 0)
def liV (x : List Nat × Int) : AV := .tup [natsV x.1, .v (.int .i64 x.2)]
theorem FZ.li (x : List Nat × Int) : FZ (liV x) := FZ.tup (FZs.cons (FZ.natsV _) (FZs.one (FZ.v _)))
theorem fin_li {H H' : AH} {v : AV} {l : List Nat} {e : Int} (h : GrowE natR 1 H v l) {w : AV} (hw : w = liV (l, e)) : ∃ x x', AOut.ret (.tup [v, .v (.int .i64 e)]) = .ret x ∧ View H' x x' ∧ FZ x' ∧ x' = w := by
  subst hw
  exact ⟨_, _, rfl, Views.tup (Views.cons (h.view FZs.natR) (Views.cons (FZ.v _).view Views.nil)), FZ.li (l, e), rfl⟩
theorem flat_kids_le {l : List Tree} {i : Nat} (h : i < l.length) {n : Nat} (hn : (flatTs l).length ≤ n) : (flatTs (l.getD i default).kids).length ≤ n := by have := flat_kids h; omega

set_option maxHeartbeats 2000000 in
theorem pathTo28 (b : ByteArray) (at_ : Int) : FCall Try.prog 28 [.v (.string b), .v (.int .i64 at_)] (· = liV (pathToP b at_)) := by
  generalize hR : pathToP b at_ = R
  unfold pathToP at hR
  refine ACall.enter [] Cd.fn28 (by simp) ?_
  simp only [Cd.cd28, Tk.t28, base0, base1, base2, base3, Option.isNone_none, Option.isNone_some, Nat.reduceBEq, true_or, or_true, false_or, or_false, Nat.reduceLT, Nat.reduceMod, Nat.reducePow, rmaps, nsucc, List.flatten_cons, List.flatten_nil, Nat.reduceEqDiff, Nat.reduceLeDiff, Nat.reduceAdd, Nat.reduceMul, Nat.reduceSub, ↓reduceIte, reduceCtorEq, decide_true, decide_false]
  first | refine FCall.go (read37 b) (FZs.one (FZ.v _)) ?_ | refine FCall.go' (read37 b) (FZs.one (FZ.v _)) ?_ | refine FCall.goQ (read37 b) (FZs.one (FZ.v _)) ?_
  by_cases h1 : errOf (readB b) = 0
  rotate_left
  · rw [if_pos h1] at hR
    subst hR
    simp only [readOut_eq, bneT h1, Cd.cd28, Tk.t28, base0, base1, base2, base3, Option.isNone_none, Option.isNone_some, Nat.reduceBEq, true_or, or_true, false_or, or_false, Nat.reduceLT, Nat.reduceMod, Nat.reducePow, rmaps, nsucc, List.flatten_cons, List.flatten_nil, Nat.reduceEqDiff, Nat.reduceLeDiff, Nat.reduceAdd, Nat.reduceMul, Nat.reduceSub, ↓reduceIte, reduceCtorEq, decide_true, decide_false]
    exact fin_li (H := AH.none) GrowE.nil rfl
  rw [if_neg (fun h => h h1)] at hR
  obtain ⟨l, hl⟩ := errOf_zero h1
  have hwf := readB_wf hl
  have hb := readB_len hl
  rw [hl] at hR ⊢
  simp only [okL] at hR
  by_cases h2 : at_ < 0
  · rw [if_pos (.inl h2)] at hR
    subst hR
    simp only [readOut_eq, okL, errOf, show ((0 : Int) != 0) = false from rfl, decide_eq_true h2, Cd.cd28, Tk.t28, base0, base1, base2, base3, Option.isNone_none, Option.isNone_some, Nat.reduceBEq, true_or, or_true, false_or, or_false, Nat.reduceLT, Nat.reduceMod, Nat.reducePow, rmaps, nsucc, List.flatten_cons, List.flatten_nil, Nat.reduceEqDiff, Nat.reduceLeDiff, Nat.reduceAdd, Nat.reduceMul, Nat.reduceSub, ↓reduceIte, reduceCtorEq, decide_true, decide_false]
    exact fin_li (H := AH.none) GrowE.nil rfl
  by_cases h3 : at_ ≥ (b.size : Int)
  · rw [if_pos (.inr h3)] at hR
    subst hR
    simp only [readOut_eq, okL, errOf, show ((0 : Int) != 0) = false from rfl, decide_eq_false h2, decide_eq_true h3, Cd.cd28, Tk.t28, base0, base1, base2, base3, Option.isNone_none, Option.isNone_some, Nat.reduceBEq, true_or, or_true, false_or, or_false, Nat.reduceLT, Nat.reduceMod, Nat.reducePow, rmaps, nsucc, List.flatten_cons, List.flatten_nil, Nat.reduceEqDiff, Nat.reduceLeDiff, Nat.reduceAdd, Nat.reduceMul, Nat.reduceSub, ↓reduceIte, reduceCtorEq, decide_true, decide_false]
    exact fin_li (H := AH.none) GrowE.nil rfl
  rw [if_neg (by omega)] at hR
  simp only [readOut_eq, okL, errOf, show ((0 : Int) != 0) = false from rfl, decide_eq_false h2, decide_eq_false h3, Cd.cd28, Tk.t28, base0, base1, base2, base3, Option.isNone_none, Option.isNone_some, Nat.reduceBEq, true_or, or_true, false_or, or_false, Nat.reduceLT, Nat.reduceMod, Nat.reducePow, rmaps, nsucc, List.flatten_cons, List.flatten_nil, Nat.reduceEqDiff, Nat.reduceLeDiff, Nat.reduceAdd, Nat.reduceMul, Nat.reduceSub, ↓reduceIte, reduceCtorEq, decide_true, decide_false]
  refine LWP.loop [] (fun m f H' => ∃ d D l' acc, m = d + 1 ∧ (D + d = 17) ∧ (∃ p q, q ≤ b.size ∧ okTs b D p q l') ∧ ((flatTs l').length ≤ 300) ∧ ((acc ++ pathN at_ d l', (0 : Int)) = R) ∧ (acc.length ≤ D) ∧ f.t 3 = .box [.v (.int .i64 at_)] ∧ f.t 6 = treesV l' ∧ f.ds = [] ∧ GrowE natR 1 H' (f.t 9) acc) ?_ ?_ (m := (17) + 1)
  · exact ⟨17, 0, l, [], rfl, (rfl), (⟨_, _, Nat.le_refl _, hwf⟩), (hb.1), (hR), (by simp), rfl, rfl, rfl, .inl ⟨rfl, by simp [upd]⟩⟩
  · rintro m f H' ⟨d, D, l', acc, rfl, hd, hok, hfl, hT, hal, f3, f6, hds, hg⟩
    have hll := len_flatTs l'
    obtain ⟨p, q, hq, hok⟩ := hok
    simp only [treesV, f3, f6, hds, Cd.cd28, Tk.t28, base0, base1, base2, base3, Option.isNone_none, Option.isNone_some, Nat.reduceBEq, true_or, or_true, false_or, or_false, Nat.reduceLT, Nat.reduceMod, Nat.reducePow, rmaps, nsucc, List.flatten_cons, List.flatten_nil, Nat.reduceEqDiff, Nat.reduceLeDiff, Nat.reduceAdd, Nat.reduceMul, Nat.reduceSub, ↓reduceIte, reduceCtorEq, decide_true, decide_false]
    first | refine FCall.go (indexFunc51 at_ l' (by omega)) (FZs.cons (FZ.rowsOf l') (FZs.one (FZ.clo at_))) ?_ | refine FCall.go' (indexFunc51 at_ l' (by omega)) (FZs.cons (FZ.rowsOf l') (FZs.one (FZ.clo at_))) ?_ | refine FCall.goQ (indexFunc51 at_ l' (by omega)) (FZs.cons (FZ.rowsOf l') (FZs.one (FZ.clo at_))) ?_
    cases hi : idxB at_ 0 l' with
    | none =>
      have : pathN at_ d l' = [] := by cases d with
        | zero => rfl
        | succ d => simp only [pathN, hi]
      rw [this, List.append_nil] at hT
      simp only [ixV, show decide ((-1 : Int) < 0) = true from rfl, f3, f6, hds, Cd.cd28, Tk.t28, base0, base1, base2, base3, Option.isNone_none, Option.isNone_some, Nat.reduceBEq, true_or, or_true, false_or, or_false, Nat.reduceLT, Nat.reduceMod, Nat.reducePow, rmaps, nsucc, List.flatten_cons, List.flatten_nil, Nat.reduceEqDiff, Nat.reduceLeDiff, Nat.reduceAdd, Nat.reduceMul, Nat.reduceSub, ↓reduceIte, reduceCtorEq, decide_true, decide_false]
      exact fin_li hg (by rw [← hT])
    | some i =>
      obtain ⟨-, i1, i2⟩ := idxB_lt hi
      rw [Nat.zero_add] at i1
      have hrow := treesR_get l' i i1
      have gl := (okTs_get hok i i1).1
      have hfk := flat_kids_le i1 hfl
      obtain ⟨e, rfl⟩ : ∃ e, d = e + 1 := by
        cases d with
        | zero => have := okTs_deep hok (by omega); subst this; simp at i1
        | succ e => exact ⟨e, rfl⟩
      have hpn : pathN at_ (e + 1) l' = i :: pathN at_ e (l'.getD i default).kids := by simp only [pathN, hi]
      rw [hpn] at hT
      generalize l'.getD i default = t at hT hrow gl hfk
      have ht := treeV_box t
      have hT2 : ((acc ++ [i]) ++ pathN at_ e t.kids, (0 : Int)) = R := by rw [← hT]; simp
      rcases hg with ⟨rfl, h9⟩ | ⟨tp, h9, htp⟩
      · simp only [ixV, iv, treesV, List.length_map, show decide ((i : Int) < 0) = false from decide_eq_false (by omega), ltT i1, Int.natCast_nonneg, Int.toNat_natCast, hrow, ht, hdL, h9, show roomA 8 1 = true from rfl, f3, f6, hds, Cd.cd28, Tk.t28, base0, base1, base2, base3, Option.isNone_none, Option.isNone_some, Nat.reduceBEq, true_or, or_true, false_or, or_false, Nat.reduceLT, Nat.reduceMod, Nat.reducePow, rmaps, nsucc, List.flatten_cons, List.flatten_nil, Nat.reduceEqDiff, Nat.reduceLeDiff, Nat.reduceAdd, Nat.reduceMul, Nat.reduceSub, ↓reduceIte, reduceCtorEq, decide_true, decide_false]
        refine ⟨_, by omega, e, D + 1, t.kids, [i], rfl, by omega, okT_sub gl, hfk, by simpa using hT2, by simp, ?_⟩
        (repeat' apply And.intro) <;> first | rfl | exact GrowE.live (by simp [natR]) (by simp)
      · simp only [ixV, iv, treesV, List.length_map, show decide ((i : Int) < 0) = false from decide_eq_false (by omega), ltT i1, Int.natCast_nonneg, Int.toNat_natCast, hrow, ht, hdL, h9, htp, room1 (b := 8) (n := acc.length) (by omega) (by omega), f3, f6, hds, Cd.cd28, Tk.t28, base0, base1, base2, base3, Option.isNone_none, Option.isNone_some, Nat.reduceBEq, true_or, or_true, false_or, or_false, Nat.reduceLT, Nat.reduceMod, Nat.reducePow, rmaps, nsucc, List.flatten_cons, List.flatten_nil, Nat.reduceEqDiff, Nat.reduceLeDiff, Nat.reduceAdd, Nat.reduceMul, Nat.reduceSub, ↓reduceIte, reduceCtorEq, decide_true, decide_false]
        refine ⟨_, by omega, e, D + 1, t.kids, acc ++ [i], rfl, by omega, okT_sub gl, hfk, hT2, by simp; omega, ?_⟩
        (repeat' apply And.intro) <;> first | rfl | exact GrowE.live (by simp [natR]) (by simp)
end Go.Proofs.Ytmjjfdppaomcfaa

/- Walks: the path of an octet by the reference; the law of places. -/
namespace Go.Proofs.Ytmjjfdppaomcfaa
open Go Go.Proofs.Ytmjjfdppaomcfaa.Ab
set_option maxRecDepth 100000
set_option linter.unusedSimpArgs false

theorem okTs_ord {b : ByteArray} {D q : Nat} : ∀ {l : List Tree} {p : Nat}, okTs b D p q l → ∀ j k, j < k → k < l.length → (l.getD j default).h.fin ≤ (l.getD k default).h.frm
  | [], p, h, j, k, hj, hk => by simp at hk
  | t :: l, p, h, 0, k + 1, hj, hk => by
    simp only [okTs] at h
    have := okTs_get h.2.2 k (by simpa using hk)
    simp only [List.getD_cons_zero, List.getD_cons_succ]; exact this.2.1
  | t :: l, p, h, j + 1, k + 1, hj, hk => by
    simp only [okTs] at h
    simp only [List.getD_cons_succ]
    exact okTs_ord h.2.2 j k (by omega) (by simpa using hk)
theorem hasB_iff {at_ : Int} {t : Tree} : hasB at_ t = true ↔ (t.h.frm : Int) ≤ at_ ∧ at_ < (t.h.fin : Int) := by simp [hasB]
theorem okTs_uniq {b : ByteArray} {D p q : Nat} {l : List Tree} (h : okTs b D p q l) {at_ : Int} {j k : Nat} (hj : j < l.length) (hk : k < l.length) (h1 : hasB at_ (l.getD j default) = true) (h2 : hasB at_ (l.getD k default) = true) : j = k := by
  rw [hasB_iff] at h1 h2
  rcases Nat.lt_trichotomy j k with hl | hl | hl
  · have := okTs_ord h j k hl hk; omega
  · exact hl
  · have := okTs_ord h k j hl hj; omega
theorem idxB_none {at_ : Int} : ∀ {l : List Tree} {s : Nat}, idxB at_ s l = none → ∀ j, j < l.length → hasB at_ (l.getD j default) = false
  | [], s, h, j, hj => by simp at hj
  | t :: l, s, h, j, hj => by
    simp only [idxB] at h
    split at h
    · cases h
    · rename_i hh
      cases j with
      | zero => simpa using hh
      | succ j => rw [List.getD_cons_succ]; exact idxB_none h j (by simpa using hj)
theorem idxB_of {b : ByteArray} {D p q : Nat} {l : List Tree} (h : okTs b D p q l) {at_ : Int} {j : Nat} (hj : j < l.length) (h1 : hasB at_ (l.getD j default) = true) : idxB at_ 0 l = some j := by
  cases hi : idxB at_ 0 l with
  | none => rw [idxB_none hi j hj] at h1; cases h1
  | some i =>
    obtain ⟨-, h2, h3⟩ := idxB_lt hi
    rw [okTs_uniq h (show i - 0 < l.length by omega) hj h3 h1 |> fun e => (show i = j by omega)]
theorem idxB_all {at_ : Int} {l : List Tree} (h : ∀ j, j < l.length → hasB at_ (l.getD j default) = false) : idxB at_ 0 l = none := by
  cases hi : idxB at_ 0 l with
  | none => rfl
  | some i =>
    obtain ⟨-, h2, h3⟩ := idxB_lt hi
    rw [h (i - 0) (by omega)] at h3; cases h3

section
variable {b : ByteArray} {l : List Tree} (hb : b.size ≤ 4000) (hwf : okTs b 0 0 b.size l) (hlen : (flatTs l).length ≤ 300)
include hb hwf hlen
end
end Go.Proofs.Ytmjjfdppaomcfaa

/- Plain: the whole is its parts. -/
namespace Go.Proofs.Ytmjjfdppaomcfaa
open Go Go.Proofs.Ytmjjfdppaomcfaa.Ab

/-! the same bytes again -/
def beB : Nat → Nat → List UInt8
  | 0, _ => []
  | k + 1, r => beB k (r / 256) ++ [UInt8.ofNat r]
theorem beB_len : ∀ k r, (beB k r).length = k
  | 0, r => rfl
  | k + 1, r => by simp [beB, beB_len k]
theorem beB_pad : ∀ (k r : Nat), r < 256 ^ k → (padB (lowB r) k).reverse = beB k r
  | 0, r, h => by
    have : r = 0 := by simpa using h
    subst this; rfl
  | k + 1, r, h => by
    rw [Nat.pow_succ] at h
    have ih := beB_pad k (r / 256) (by omega)
    rw [beB, ← ih]
    rcases Nat.eq_zero_or_pos r with rfl | hp
    · have e : padB (lowB 0) (k + 1) = 0 :: padB (lowB (0 / 256)) k := by
        unfold padB
        simp only [show lowB 0 = [] from rfl, Nat.zero_div, List.nil_append, List.length_nil, Nat.sub_zero, List.replicate_succ]
      rw [e]; simp
    · have e : padB (lowB r) (k + 1) = UInt8.ofNat r :: padB (lowB (r / 256)) k := by
        unfold padB
        rw [lowB_step hp, List.cons_append, List.length_cons, show k + 1 - ((lowB (r / 256)).length + 1) = k - (lowB (r / 256)).length from by omega]
      rw [e]; simp
theorem beB_head : ∀ (k m : Nat), beB (k + 1) m = UInt8.ofNat (m / 256 ^ k) :: beB k m
  | 0, m => by simp [beB]
  | k + 1, m => by
    rw [beB, beB_head k (m / 256), beB, List.cons_append, Nat.div_div_eq_div_mul, Nat.pow_succ, Nat.mul_comm 256]
theorem lenL_div {b : ByteArray} {lim : Nat} : ∀ {k p n m : Nat}, lenL b lim k p n = .ok m → m / 256 ^ k = n
  | 0, p, n, m, h => by simp only [lenL] at h; cases h; simp
  | k + 1, p, n, m, h => by
    simp only [lenL] at h
    split at h
    · split at h
      · cases h
      · have h1 := lenL_div h
        have h3 := bt_lt b p
        rw [Nat.pow_succ, ← Nat.div_div_eq_div_mul, h1]; omega
    · cases h
/-- bytes stand at a place -/
def hasB' (s : ByteArray) (p : Nat) (L : List UInt8) : Prop := ∀ i, i < L.length → bt s (p + i) = (L.getD i 0).toNat
theorem lenL_has {b : ByteArray} {lim : Nat} : ∀ {k p n m : Nat}, lenL b lim k p n = .ok m → hasB' b p (beB k m)
  | 0, p, n, m, h => fun i hi => by simp [beB] at hi
  | k + 1, p, n, m, h => by
    have hd := lenL_div h
    simp only [lenL] at h
    split at h
    · split at h
      · cases h
      · have h1 := lenL_div h
        have h2 := lenL_has h
        have h3 := bt_lt b p
        rw [beB_head, h1]
        intro i hi
        cases i with
        | zero => simp; omega
        | succ i =>
          have := h2 i (by simpa using hi)
          rw [show p + (i + 1) = p + 1 + i from by omega, this]; simp
    · cases h
theorem ext_has {s : ByteArray} {p : Nat} {L : List UInt8} (h : hasB' s p L) (hs : p + L.length ≤ s.size) : s.extract p (p + L.length) = ⟨L.toArray⟩ := by
  apply ByteArray.ext
  apply Array.ext
  · show (s.extract p (p + L.length)).size = _
    rw [ByteArray.size_extract]; simp; omega
  · intro i h1 h2
    have h2' : i < L.length := by simpa using h2
    have e := h i h2'
    unfold bt at e
    rw [getElem?_pos s (p + i) (by omega)] at e
    simp only [List.getD_eq_getElem?_getD, List.getElem?_eq_getElem h2', Option.getD_some] at e
    have e2 := UInt8.toNat_inj.mp e
    have e3 : (s.extract p (p + L.length)).data[i] = s[p + i] := by simp [ByteArray.getElem_eq_getElem_data]
    rw [e3, e2]; simp
theorem lenOf_same {b : ByteArray} {a lim n p : Nat} {bl : Bool} (h : lenOf b a lim bl = .ok (some n, p)) (hp : p ≤ b.size) : b.extract a p = lengthB n (p - a) := by
  have hc := bt_lt b a
  have hmin := lenOf_min h
  unfold lenOf at h
  split at h
  · split at h
    · rename_i h1
      cases h
      have hh : hasB' b a [UInt8.ofNat (bt b a)] := fun i hi => by
        have : i = 0 := by simpa using hi
        subst this; simp; omega
      have := ext_has hh (by simpa using hp)
      rw [show a + 1 - a = 1 from by omega]
      unfold lengthB lengthL
      rw [if_pos ⟨h1, rfl⟩, ← this]; rfl
    · split at h
      · cases h
      · split at h
        · cases h
        · split at h
          · rename_i h4 n' hn
            cases h
            generalize hk : bt b a - 128 = k at hn hp hmin ⊢
            have h1 := lenL_lt hn
            rw [Nat.zero_add, Nat.one_mul] at h1
            have h2 := lowB_len _ _ h1
            have h3 := lenL_has hn
            have hh : hasB' b a (UInt8.ofNat (bt b a) :: beB k n) := fun i hi => by
              cases i with
              | zero => simp; omega
              | succ i =>
                have := h3 i (by simpa using hi)
                rw [show a + (i + 1) = a + 1 + i from by omega, this]; simp
            have he := ext_has hh (by simp [beB_len]; omega)
            rw [List.length_cons, beB_len, show a + (k + 1) = a + 1 + k from by omega] at he
            rw [he, show a + 1 + k - a = k + 1 from by omega]
            unfold lengthB lengthL
            rw [if_neg (by omega), show max 1 (k + 1 - 1) = k from by omega, beB_pad k n h1, padB_len, show 128 + max (lowB n).length k = bt b a from by omega]
          · cases h
  · cases h
theorem okT_lenOf {b : ByteArray} {D : Nat} {t : Tree} (h : okT b D t) : lenOf b t.h.len b.size t.h.built = .ok (if t.h.opn then none else some (t.h.stop - t.h.body), t.h.body) := by
  obtain ⟨h', k⟩ := t
  simp only [okT] at h
  exact h.2.2.2.2.2.2.2.1
theorem again_same {b : ByteArray} {D : Nat} {t : Tree} (h : okT b D t) : againB b t.h (b.extract t.h.body t.h.stop) = b.extract t.h.frm t.h.fin := by
  have h1 := okT_in h
  have h2 := okT_fin h
  have h3 := okT_lenOf h
  unfold againB
  cases ho : t.h.opn with
  | true => simp only [if_true]; rw [ext_ext b (by omega) h1.2.2.1, ext_ext b (by omega) h1.2.2.2.1]
  | false =>
    rw [ho] at h2 h3
    simp only [Bool.false_eq_true, if_false, Nat.add_zero] at h2 h3 ⊢
    have h4 := lenOf_same h3 (by omega)
    have hsz : (b.extract t.h.body t.h.stop).size = t.h.stop - t.h.body := by rw [ByteArray.size_extract]; omega
    rw [hsz, ← h4, ext_ext b h1.1 (by omega), ext_ext b (by omega) h1.2.2.1, h2]
theorem around_same {b : ByteArray} : ∀ {path : List Int} {l : List Tree} {D s e : Nat} {x : Tree} {ys : List Tree}, okTs b D s e l → findP l path = some (x, ys) → aroundT b (b.extract x.h.frm x.h.fin) path l = b.extract s e
  | [], l, D, s, e, x, ys, ho, h => by cases h
  | p :: r, l, D, s, e, x, ys, ho, h => by
    simp only [findP] at h
    split at h
    · rename_i hp
      have hg := okTs_get ho p.toNat (by omega)
      have hlt := okT_lt hg.1
      rw [aroundT, partA_in (j := p.toNat) ho (by omega) (by omega)]
      split at h
      · rename_i hr
        cases h
        rw [if_pos hr, ext_ext b hg.2.1 (by omega), ext_ext b (by omega) hg.2.2]
      · rename_i hr
        rw [if_neg hr]
        split at h
        · rename_i x' ys' he
          cases h
          have hk := okT_kids hg.1 (findP_kids he)
          rw [around_same hk he, again_same hg.1, ext_ext b hg.2.1 (by omega), ext_ext b (by omega) hg.2.2]
        · cases h
    · cases h

/-! the path of a node's first octet -/
mutual
theorem sub_in {b : ByteArray} {D : Nat} : ∀ {t x : Tree}, okT b D t → x ∈ subT t → t.h.frm ≤ x.h.frm ∧ x.h.frm < x.h.fin ∧ x.h.fin ≤ t.h.fin
  | .mk h k, x, ho, hx => by
    have hlt := okT_lt ho
    rw [subT] at hx
    rcases List.mem_cons.mp hx with rfl | hx
    · exact ⟨Nat.le_refl _, hlt.1, Nat.le_refl _⟩
    · have hin := okT_in ho
      have ho2 := ho
      simp only [okT] at ho2
      simp only [Tree.h_mk] at hin ⊢
      cases hb : h.built with
      | true => have := subs_in (ho2.2.2.2.2.2.2.2.2.2.2 hb) hx; omega
      | false => rw [ho2.2.2.2.2.2.2.2.2.2.1 hb] at hx; simp [subTs] at hx
theorem subs_in {b : ByteArray} {D : Nat} : ∀ {l : List Tree} {x : Tree} {p q : Nat}, okTs b D p q l → x ∈ subTs l → p ≤ x.h.frm ∧ x.h.frm < x.h.fin ∧ x.h.fin ≤ q
  | [], x, p, q, ho, hx => by simp [subTs] at hx
  | t :: l, x, p, q, ho, hx => by
    simp only [okTs] at ho
    have hlt := okT_lt ho.2.1
    have hle := okTs_le ho.2.2
    rw [subTs] at hx
    rcases List.mem_append.mp hx with hx | hx
    · have := sub_in ho.2.1 hx; omega
    · have := subs_in ho.2.2 hx; omega
end
theorem sub_get : ∀ {l : List Tree} {x : Tree}, x ∈ subTs l → ∃ j, j < l.length ∧ x ∈ subT (l.getD j default)
  | [], x, h => by simp [subTs] at h
  | t :: l, x, h => by
    rw [subTs] at h
    rcases List.mem_append.mp h with h | h
    · exact ⟨0, by simp, by simpa using h⟩
    · obtain ⟨j, h1, h2⟩ := sub_get h
      exact ⟨j + 1, by simpa using h1, by simpa using h2⟩
end Go.Proofs.Ytmjjfdppaomcfaa

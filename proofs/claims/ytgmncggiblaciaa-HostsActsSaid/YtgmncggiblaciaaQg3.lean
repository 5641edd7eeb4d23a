/- Part 3 of a proof: hostsActs holds for every input; no condition. -/
import Derived.Test.YtgmncggiblaciaaProg
import Derived.KernelRfl
import Derived.ProofKit
import Derived.Test.YtgmncggiblaciaaAb0
import Derived.Test.YtgmncggiblaciaaAb1
import Derived.Test.YtgmncggiblaciaaAb2
import Derived.Test.YtgmncggiblaciaaAb3
import Derived.Test.YtgmncggiblaciaaAb4
import Derived.Test.YtgmncggiblaciaaAb5
import Derived.Test.YtgmncggiblaciaaAb6
import Derived.Test.YtgmncggiblaciaaAb7
import Derived.Test.YtgmncggiblaciaaAb8
import Derived.Test.YtgmncggiblaciaaAb8a
import Derived.Test.YtgmncggiblaciaaAb8b
import Derived.Test.YtgmncggiblaciaaAb8c
import Derived.Test.YtgmncggiblaciaaAb8d
import Derived.Test.YtgmncggiblaciaaAb9
import Derived.Test.YtgmncggiblaciaaAb10
import Derived.Test.YtgmncggiblaciaaAb11
import Derived.Test.YtgmncggiblaciaaAb12
import Derived.Test.YtgmncggiblaciaaAb13
import Derived.Test.YtgmncggiblaciaaAb14
import Derived.Test.YtgmncggiblaciaaAb15
import Derived.Test.YtgmncggiblaciaaAb16
import Derived.Test.YtgmncggiblaciaaAb17
import Derived.Test.YtgmncggiblaciaaAb18
import Derived.Test.YtgmncggiblaciaaAb19
import Derived.Test.YtgmncggiblaciaaAb20
import Derived.Test.YtgmncggiblaciaaAb21
import Derived.Test.YtgmncggiblaciaaQg2
set_option linter.unusedSimpArgs false
set_option linter.unusedVariables false
set_option linter.defProp false
/- Walks: lists searched by a function. -/
namespace Go.Proofs.Ytgmncggiblaciaa
open Go Go.Proofs.Ytgmncggiblaciaa.Ab
set_option maxRecDepth 100000

theorem indexFunc78 (l : List Pl) (fn : FuncId) (cs : List AV) (p : Pl → Bool) (hb : l.length < 2 ^ 40) (hz : FZs cs) (hf : ∀ x, FCall Try.prog fn (.agg (plR x) :: cs) (· = .v (.bool (p x)))) :
    FCall Try.prog 78 [plsV l, .fn (.func fn) [] cs] (· = .v (.int .i64 (ixOf (ixFn l p)))) := by
  refine ACall.enter [] Cd.fn78 (by simp) ?_
  simp only [plsV, List.length_map, Cd.cd78, Tk.t78, base0, base1, base2, base3, Option.isNone_none, Option.isNone_some, Nat.reduceBEq, true_or, or_true, false_or, or_false, Nat.reduceLT, Nat.reduceMod, Nat.reducePow, rmaps, nsucc, List.flatten_cons, List.flatten_nil, Nat.reduceEqDiff, Nat.reduceLeDiff, Nat.reduceAdd, Nat.reduceMul, Nat.reduceSub, ↓reduceIte, reduceCtorEq, decide_true, decide_false]
  refine LWP.loop [] (fun m f H' => ∃ i, m = l.length - i ∧ i ≤ l.length ∧ (∀ j, j < i → p (l.getD j default) = false) ∧ f.t 0 = plsV l ∧ f.t 1 = .fn (.func fn) [] cs ∧ f.t 7 = .v (.int .i64 l.length) ∧
    f.t 8 = .v (.int .i64 (i : Nat)) ∧ f.ds = [] ∧ H' = AH.none) ?_ ?_ (m := l.length)
  · exact ⟨0, rfl, Nat.zero_le _, fun j hj => by omega, rfl, rfl, rfl, rfl, rfl, rfl⟩
  · rintro m f H' ⟨i, rfl, hi, hok, f0, f1, f7, f8, hds, rfl⟩
    by_cases hlt : i < l.length
    · have e1 : decide ((i : Int) < (l.length : Int)) = true := by simpa using hlt
      have e2 : 0 ≤ (i : Int) ∧ (i : Int) < (l.length : Int) := by omega
      simp only [f0, f1, f7, f8, hds, plsV, List.length_map, e1, e2, Int.toNat_natCast, getD_map plR _ _ hlt, plR, Cd.cd78, Tk.t78, base0, base1, base2, base3, Option.isNone_none, Option.isNone_some, Nat.reduceBEq, true_or, or_true, false_or, or_false, Nat.reduceLT, Nat.reduceMod, Nat.reducePow, rmaps, nsucc, List.flatten_cons, List.flatten_nil, Nat.reduceEqDiff, Nat.reduceLeDiff, Nat.reduceAdd, Nat.reduceMul, Nat.reduceSub, ↓reduceIte, reduceCtorEq, decide_true, decide_false]
      refine (hf (l.getD i default)).go (FZs.cons (FZ.agg (FZs.plR _)) hz) ?_
      simp only [hds, Cd.cd78, Tk.t78, base0, base1, base2, base3, Option.isNone_none, Option.isNone_some, Nat.reduceBEq, true_or, or_true, false_or, or_false, Nat.reduceLT, Nat.reduceMod, Nat.reducePow, rmaps, nsucc, List.flatten_cons, List.flatten_nil, Nat.reduceEqDiff, Nat.reduceLeDiff, Nat.reduceAdd, Nat.reduceMul, Nat.reduceSub, ↓reduceIte, reduceCtorEq, decide_true, decide_false]
      cases hp : p (l.getD i default)
      · simp only [hds, f0, f1, f7, f8, plsV, Cd.cd78, Tk.t78, base0, base1, base2, base3, Option.isNone_none, Option.isNone_some, Nat.reduceBEq, true_or, or_true, false_or, or_false, Nat.reduceLT, Nat.reduceMod, Nat.reducePow, rmaps, nsucc, List.flatten_cons, List.flatten_nil, Nat.reduceEqDiff, Nat.reduceLeDiff, Nat.reduceAdd, Nat.reduceMul, Nat.reduceSub, ↓reduceIte, reduceCtorEq, decide_true, decide_false]
        refine ⟨_, by omega, i + 1, rfl, by omega, fun j hj => ?_, by rw [wrapS (by omega)]⟩
        rcases Nat.lt_succ_iff_lt_or_eq.mp hj with h | h
        · exact hok j h
        · subst h; exact hp
      · simp only [hds, Cd.cd78, Tk.t78, base0, base1, base2, base3, Option.isNone_none, Option.isNone_some, Nat.reduceBEq, true_or, or_true, false_or, or_false, Nat.reduceLT, Nat.reduceMod, Nat.reducePow, rmaps, nsucc, List.flatten_cons, List.flatten_nil, Nat.reduceEqDiff, Nat.reduceLeDiff, Nat.reduceAdd, Nat.reduceMul, Nat.reduceSub, ↓reduceIte, reduceCtorEq, decide_true, decide_false]
        refine fin_v ?_
        rw [show ixFn l p = some i from firstIx_some hlt hp hok]; rfl
    · have hk' : i = l.length := by omega
      have e1 : decide ((i : Int) < (l.length : Int)) = false := by simpa using hlt
      simp only [f0, f1, f7, f8, hds, plsV, List.length_map, e1, Cd.cd78, Tk.t78, base0, base1, base2, base3, Option.isNone_none, Option.isNone_some, Nat.reduceBEq, true_or, or_true, false_or, or_false, Nat.reduceLT, Nat.reduceMod, Nat.reducePow, rmaps, nsucc, List.flatten_cons, List.flatten_nil, Nat.reduceEqDiff, Nat.reduceLeDiff, Nat.reduceAdd, Nat.reduceMul, Nat.reduceSub, ↓reduceIte, reduceCtorEq, decide_true, decide_false]
      refine fin_v ?_
      rw [show ixFn l p = none from firstIx_none (by rw [← hk']; exact hok)]; rfl
theorem containsFunc48 (l : List Pl) (fn : FuncId) (cs : List AV) (p : Pl → Bool) (hb : l.length < 2 ^ 40) (hz : FZs cs) (hf : ∀ x, FCall Try.prog fn (.agg (plR x) :: cs) (· = .v (.bool (p x)))) :
    FCall Try.prog 48 [plsV l, .fn (.func fn) [] cs] (· = .v (.bool (l.any p))) := by
  refine ACall.enter [] Cd.fn48 (by simp) ?_
  simp only [plsV, Cd.cd48, Tk.t48, base0, base1, base2, base3, Option.isNone_none, Option.isNone_some, Nat.reduceBEq, true_or, or_true, false_or, or_false, Nat.reduceLT, Nat.reduceMod, Nat.reducePow, rmaps, nsucc, List.flatten_cons, List.flatten_nil, Nat.reduceEqDiff, Nat.reduceLeDiff, Nat.reduceAdd, Nat.reduceMul, Nat.reduceSub, ↓reduceIte, reduceCtorEq, decide_true, decide_false]
  refine (indexFunc78 l fn cs p hb hz hf).go (FZs.two (FZ.plsV _) (FZ.fn FZs.nil hz)) ?_
  simp only [Cd.cd48, Tk.t48, base0, base1, base2, base3, Option.isNone_none, Option.isNone_some, Nat.reduceBEq, true_or, or_true, false_or, or_false, Nat.reduceLT, Nat.reduceMod, Nat.reducePow, rmaps, nsucc, List.flatten_cons, List.flatten_nil, Nat.reduceEqDiff, Nat.reduceLeDiff, Nat.reduceAdd, Nat.reduceMul, Nat.reduceSub, ↓reduceIte, reduceCtorEq, decide_true, decide_false]
  exact fin_v (by rw [ixFn_any])

theorem indexFunc79 (l : List Hs) (fn : FuncId) (cs : List AV) (p : Hs → Bool) (hb : l.length < 2 ^ 40) (hz : FZs cs) (hf : ∀ x, FCall Try.prog fn (.agg (hsR x) :: cs) (· = .v (.bool (p x)))) :
    FCall Try.prog 79 [hssV l, .fn (.func fn) [] cs] (· = .v (.int .i64 (ixOf (ixFn l p)))) := by
  refine ACall.enter [] Cd.fn79 (by simp) ?_
  simp only [hssV, List.length_map, Cd.cd79, Tk.t79, base0, base1, base2, base3, Option.isNone_none, Option.isNone_some, Nat.reduceBEq, true_or, or_true, false_or, or_false, Nat.reduceLT, Nat.reduceMod, Nat.reducePow, rmaps, nsucc, List.flatten_cons, List.flatten_nil, Nat.reduceEqDiff, Nat.reduceLeDiff, Nat.reduceAdd, Nat.reduceMul, Nat.reduceSub, ↓reduceIte, reduceCtorEq, decide_true, decide_false]
  refine LWP.loop [] (fun m f H' => ∃ i, m = l.length - i ∧ i ≤ l.length ∧ (∀ j, j < i → p (l.getD j default) = false) ∧ f.t 0 = hssV l ∧ f.t 1 = .fn (.func fn) [] cs ∧ f.t 7 = .v (.int .i64 l.length) ∧
    f.t 8 = .v (.int .i64 (i : Nat)) ∧ f.ds = [] ∧ H' = AH.none) ?_ ?_ (m := l.length)
  · exact ⟨0, rfl, Nat.zero_le _, fun j hj => by omega, rfl, rfl, rfl, rfl, rfl, rfl⟩
  · rintro m f H' ⟨i, rfl, hi, hok, f0, f1, f7, f8, hds, rfl⟩
    by_cases hlt : i < l.length
    · have e1 : decide ((i : Int) < (l.length : Int)) = true := by simpa using hlt
      have e2 : 0 ≤ (i : Int) ∧ (i : Int) < (l.length : Int) := by omega
      simp only [f0, f1, f7, f8, hds, hssV, List.length_map, e1, e2, Int.toNat_natCast, getD_map hsR _ _ hlt, hsR, Cd.cd79, Tk.t79, base0, base1, base2, base3, Option.isNone_none, Option.isNone_some, Nat.reduceBEq, true_or, or_true, false_or, or_false, Nat.reduceLT, Nat.reduceMod, Nat.reducePow, rmaps, nsucc, List.flatten_cons, List.flatten_nil, Nat.reduceEqDiff, Nat.reduceLeDiff, Nat.reduceAdd, Nat.reduceMul, Nat.reduceSub, ↓reduceIte, reduceCtorEq, decide_true, decide_false]
      refine (hf (l.getD i default)).go (FZs.cons (FZ.agg (FZs.hsR _)) hz) ?_
      simp only [hds, Cd.cd79, Tk.t79, base0, base1, base2, base3, Option.isNone_none, Option.isNone_some, Nat.reduceBEq, true_or, or_true, false_or, or_false, Nat.reduceLT, Nat.reduceMod, Nat.reducePow, rmaps, nsucc, List.flatten_cons, List.flatten_nil, Nat.reduceEqDiff, Nat.reduceLeDiff, Nat.reduceAdd, Nat.reduceMul, Nat.reduceSub, ↓reduceIte, reduceCtorEq, decide_true, decide_false]
      cases hp : p (l.getD i default)
      · simp only [hds, f0, f1, f7, f8, hssV, Cd.cd79, Tk.t79, base0, base1, base2, base3, Option.isNone_none, Option.isNone_some, Nat.reduceBEq, true_or, or_true, false_or, or_false, Nat.reduceLT, Nat.reduceMod, Nat.reducePow, rmaps, nsucc, List.flatten_cons, List.flatten_nil, Nat.reduceEqDiff, Nat.reduceLeDiff, Nat.reduceAdd, Nat.reduceMul, Nat.reduceSub, ↓reduceIte, reduceCtorEq, decide_true, decide_false]
        refine ⟨_, by omega, i + 1, rfl, by omega, fun j hj => ?_, by rw [wrapS (by omega)]⟩
        rcases Nat.lt_succ_iff_lt_or_eq.mp hj with h | h
        · exact hok j h
        · subst h; exact hp
      · simp only [hds, Cd.cd79, Tk.t79, base0, base1, base2, base3, Option.isNone_none, Option.isNone_some, Nat.reduceBEq, true_or, or_true, false_or, or_false, Nat.reduceLT, Nat.reduceMod, Nat.reducePow, rmaps, nsucc, List.flatten_cons, List.flatten_nil, Nat.reduceEqDiff, Nat.reduceLeDiff, Nat.reduceAdd, Nat.reduceMul, Nat.reduceSub, ↓reduceIte, reduceCtorEq, decide_true, decide_false]
        refine fin_v ?_
        rw [show ixFn l p = some i from firstIx_some hlt hp hok]; rfl
    · have hk' : i = l.length := by omega
      have e1 : decide ((i : Int) < (l.length : Int)) = false := by simpa using hlt
      simp only [f0, f1, f7, f8, hds, hssV, List.length_map, e1, Cd.cd79, Tk.t79, base0, base1, base2, base3, Option.isNone_none, Option.isNone_some, Nat.reduceBEq, true_or, or_true, false_or, or_false, Nat.reduceLT, Nat.reduceMod, Nat.reducePow, rmaps, nsucc, List.flatten_cons, List.flatten_nil, Nat.reduceEqDiff, Nat.reduceLeDiff, Nat.reduceAdd, Nat.reduceMul, Nat.reduceSub, ↓reduceIte, reduceCtorEq, decide_true, decide_false]
      refine fin_v ?_
      rw [show ixFn l p = none from firstIx_none (by rw [← hk']; exact hok)]; rfl
theorem containsFunc55 (l : List Hs) (fn : FuncId) (cs : List AV) (p : Hs → Bool) (hb : l.length < 2 ^ 40) (hz : FZs cs) (hf : ∀ x, FCall Try.prog fn (.agg (hsR x) :: cs) (· = .v (.bool (p x)))) :
    FCall Try.prog 55 [hssV l, .fn (.func fn) [] cs] (· = .v (.bool (l.any p))) := by
  refine ACall.enter [] Cd.fn55 (by simp) ?_
  simp only [hssV, Cd.cd55, Tk.t55, base0, base1, base2, base3, Option.isNone_none, Option.isNone_some, Nat.reduceBEq, true_or, or_true, false_or, or_false, Nat.reduceLT, Nat.reduceMod, Nat.reducePow, rmaps, nsucc, List.flatten_cons, List.flatten_nil, Nat.reduceEqDiff, Nat.reduceLeDiff, Nat.reduceAdd, Nat.reduceMul, Nat.reduceSub, ↓reduceIte, reduceCtorEq, decide_true, decide_false]
  refine (indexFunc79 l fn cs p hb hz hf).go (FZs.two (FZ.hssV _) (FZ.fn FZs.nil hz)) ?_
  simp only [Cd.cd55, Tk.t55, base0, base1, base2, base3, Option.isNone_none, Option.isNone_some, Nat.reduceBEq, true_or, or_true, false_or, or_false, Nat.reduceLT, Nat.reduceMod, Nat.reducePow, rmaps, nsucc, List.flatten_cons, List.flatten_nil, Nat.reduceEqDiff, Nat.reduceLeDiff, Nat.reduceAdd, Nat.reduceMul, Nat.reduceSub, ↓reduceIte, reduceCtorEq, decide_true, decide_false]
  exact fin_v (by rw [ixFn_any])

theorem indexFunc83 (l : List Pt) (fn : FuncId) (cs : List AV) (p : Pt → Bool) (hb : l.length < 2 ^ 40) (hz : FZs cs) (hf : ∀ x, FCall Try.prog fn (.agg (ptR x) :: cs) (· = .v (.bool (p x)))) :
    FCall Try.prog 83 [ptsV l, .fn (.func fn) [] cs] (· = .v (.int .i64 (ixOf (ixFn l p)))) := by
  refine ACall.enter [] Cd.fn83 (by simp) ?_
  simp only [ptsV, List.length_map, Cd.cd83, Tk.t83, base0, base1, base2, base3, Option.isNone_none, Option.isNone_some, Nat.reduceBEq, true_or, or_true, false_or, or_false, Nat.reduceLT, Nat.reduceMod, Nat.reducePow, rmaps, nsucc, List.flatten_cons, List.flatten_nil, Nat.reduceEqDiff, Nat.reduceLeDiff, Nat.reduceAdd, Nat.reduceMul, Nat.reduceSub, ↓reduceIte, reduceCtorEq, decide_true, decide_false]
  refine LWP.loop [] (fun m f H' => ∃ i, m = l.length - i ∧ i ≤ l.length ∧ (∀ j, j < i → p (l.getD j default) = false) ∧ f.t 0 = ptsV l ∧ f.t 1 = .fn (.func fn) [] cs ∧ f.t 7 = .v (.int .i64 l.length) ∧
    f.t 8 = .v (.int .i64 (i : Nat)) ∧ f.ds = [] ∧ H' = AH.none) ?_ ?_ (m := l.length)
  · exact ⟨0, rfl, Nat.zero_le _, fun j hj => by omega, rfl, rfl, rfl, rfl, rfl, rfl⟩
  · rintro m f H' ⟨i, rfl, hi, hok, f0, f1, f7, f8, hds, rfl⟩
    by_cases hlt : i < l.length
    · have e1 : decide ((i : Int) < (l.length : Int)) = true := by simpa using hlt
      have e2 : 0 ≤ (i : Int) ∧ (i : Int) < (l.length : Int) := by omega
      simp only [f0, f1, f7, f8, hds, ptsV, List.length_map, e1, e2, Int.toNat_natCast, getD_map ptR _ _ hlt, ptR, Cd.cd83, Tk.t83, base0, base1, base2, base3, Option.isNone_none, Option.isNone_some, Nat.reduceBEq, true_or, or_true, false_or, or_false, Nat.reduceLT, Nat.reduceMod, Nat.reducePow, rmaps, nsucc, List.flatten_cons, List.flatten_nil, Nat.reduceEqDiff, Nat.reduceLeDiff, Nat.reduceAdd, Nat.reduceMul, Nat.reduceSub, ↓reduceIte, reduceCtorEq, decide_true, decide_false]
      refine (hf (l.getD i default)).go (FZs.cons (FZ.agg (FZs.ptR _)) hz) ?_
      simp only [hds, Cd.cd83, Tk.t83, base0, base1, base2, base3, Option.isNone_none, Option.isNone_some, Nat.reduceBEq, true_or, or_true, false_or, or_false, Nat.reduceLT, Nat.reduceMod, Nat.reducePow, rmaps, nsucc, List.flatten_cons, List.flatten_nil, Nat.reduceEqDiff, Nat.reduceLeDiff, Nat.reduceAdd, Nat.reduceMul, Nat.reduceSub, ↓reduceIte, reduceCtorEq, decide_true, decide_false]
      cases hp : p (l.getD i default)
      · simp only [hds, f0, f1, f7, f8, ptsV, Cd.cd83, Tk.t83, base0, base1, base2, base3, Option.isNone_none, Option.isNone_some, Nat.reduceBEq, true_or, or_true, false_or, or_false, Nat.reduceLT, Nat.reduceMod, Nat.reducePow, rmaps, nsucc, List.flatten_cons, List.flatten_nil, Nat.reduceEqDiff, Nat.reduceLeDiff, Nat.reduceAdd, Nat.reduceMul, Nat.reduceSub, ↓reduceIte, reduceCtorEq, decide_true, decide_false]
        refine ⟨_, by omega, i + 1, rfl, by omega, fun j hj => ?_, by rw [wrapS (by omega)]⟩
        rcases Nat.lt_succ_iff_lt_or_eq.mp hj with h | h
        · exact hok j h
        · subst h; exact hp
      · simp only [hds, Cd.cd83, Tk.t83, base0, base1, base2, base3, Option.isNone_none, Option.isNone_some, Nat.reduceBEq, true_or, or_true, false_or, or_false, Nat.reduceLT, Nat.reduceMod, Nat.reducePow, rmaps, nsucc, List.flatten_cons, List.flatten_nil, Nat.reduceEqDiff, Nat.reduceLeDiff, Nat.reduceAdd, Nat.reduceMul, Nat.reduceSub, ↓reduceIte, reduceCtorEq, decide_true, decide_false]
        refine fin_v ?_
        rw [show ixFn l p = some i from firstIx_some hlt hp hok]; rfl
    · have hk' : i = l.length := by omega
      have e1 : decide ((i : Int) < (l.length : Int)) = false := by simpa using hlt
      simp only [f0, f1, f7, f8, hds, ptsV, List.length_map, e1, Cd.cd83, Tk.t83, base0, base1, base2, base3, Option.isNone_none, Option.isNone_some, Nat.reduceBEq, true_or, or_true, false_or, or_false, Nat.reduceLT, Nat.reduceMod, Nat.reducePow, rmaps, nsucc, List.flatten_cons, List.flatten_nil, Nat.reduceEqDiff, Nat.reduceLeDiff, Nat.reduceAdd, Nat.reduceMul, Nat.reduceSub, ↓reduceIte, reduceCtorEq, decide_true, decide_false]
      refine fin_v ?_
      rw [show ixFn l p = none from firstIx_none (by rw [← hk']; exact hok)]; rfl
theorem containsFunc81 (l : List Pt) (fn : FuncId) (cs : List AV) (p : Pt → Bool) (hb : l.length < 2 ^ 40) (hz : FZs cs) (hf : ∀ x, FCall Try.prog fn (.agg (ptR x) :: cs) (· = .v (.bool (p x)))) :
    FCall Try.prog 81 [ptsV l, .fn (.func fn) [] cs] (· = .v (.bool (l.any p))) := by
  refine ACall.enter [] Cd.fn81 (by simp) ?_
  simp only [ptsV, Cd.cd81, Tk.t81, base0, base1, base2, base3, Option.isNone_none, Option.isNone_some, Nat.reduceBEq, true_or, or_true, false_or, or_false, Nat.reduceLT, Nat.reduceMod, Nat.reducePow, rmaps, nsucc, List.flatten_cons, List.flatten_nil, Nat.reduceEqDiff, Nat.reduceLeDiff, Nat.reduceAdd, Nat.reduceMul, Nat.reduceSub, ↓reduceIte, reduceCtorEq, decide_true, decide_false]
  refine (indexFunc83 l fn cs p hb hz hf).go (FZs.two (FZ.ptsV _) (FZ.fn FZs.nil hz)) ?_
  simp only [Cd.cd81, Tk.t81, base0, base1, base2, base3, Option.isNone_none, Option.isNone_some, Nat.reduceBEq, true_or, or_true, false_or, or_false, Nat.reduceLT, Nat.reduceMod, Nat.reducePow, rmaps, nsucc, List.flatten_cons, List.flatten_nil, Nat.reduceEqDiff, Nat.reduceLeDiff, Nat.reduceAdd, Nat.reduceMul, Nat.reduceSub, ↓reduceIte, reduceCtorEq, decide_true, decide_false]
  exact fin_v (by rw [ixFn_any])

theorem notTaken49 (p : Pl) : FCall Try.prog 49 [.agg (plR p)] (· = .v (.bool (!p.tk))) := by
  refine ACall.enter [] Cd.fn49 (by simp) ?_
  simp only [plR, Cd.cd49, Tk.t49, base0, base1, base2, base3, Option.isNone_none, Option.isNone_some, Nat.reduceBEq, true_or, or_true, false_or, or_false, Nat.reduceLT, Nat.reduceMod, Nat.reducePow, rmaps, nsucc, List.flatten_cons, List.flatten_nil, Nat.reduceEqDiff, Nat.reduceLeDiff, Nat.reduceAdd, Nat.reduceMul, Nat.reduceSub, ↓reduceIte, reduceCtorEq, decide_true, decide_false]
  exact fin_v rfl
theorem manyParts56 (h : Hs) : FCall Try.prog 56 [.agg (hsR h)] (· = .v (.bool (decide ((h.parts.length : Int) > 6)))) := by
  refine ACall.enter [] Cd.fn56 (by simp) ?_
  simp only [hsR, ptsV, List.length_map, Cd.cd56, Tk.t56, base0, base1, base2, base3, Option.isNone_none, Option.isNone_some, Nat.reduceBEq, true_or, or_true, false_or, or_false, Nat.reduceLT, Nat.reduceMod, Nat.reducePow, rmaps, nsucc, List.flatten_cons, List.flatten_nil, Nat.reduceEqDiff, Nat.reduceLeDiff, Nat.reduceAdd, Nat.reduceMul, Nat.reduceSub, ↓reduceIte, reduceCtorEq, decide_true, decide_false]
  exact fin_v rfl
theorem samePart82 (q p : Pt) : FCall Try.prog 82 [.agg (ptR q), .box (ptR p)] (· = .v (.bool (q.part == p.part))) := by
  refine ACall.enter [] Cd.fn82 (by simp) ?_
  simp only [ptR, Cd.cd82, Tk.t82, base0, base1, base2, base3, Option.isNone_none, Option.isNone_some, Nat.reduceBEq, true_or, or_true, false_or, or_false, Nat.reduceLT, Nat.reduceMod, Nat.reducePow, rmaps, nsucc, List.flatten_cons, List.flatten_nil, Nat.reduceEqDiff, Nat.reduceLeDiff, Nat.reduceAdd, Nat.reduceMul, Nat.reduceSub, ↓reduceIte, reduceCtorEq, decide_true, decide_false]
  exact fin_v rfl
theorem atPart84 (q : Pt) (n : Int) : FCall Try.prog 84 [.agg (ptR q), .box [.v (.int .i64 n)]] (· = .v (.bool (q.part == n))) := by
  refine ACall.enter [] Cd.fn84 (by simp) ?_
  simp only [ptR, Cd.cd84, Tk.t84, base0, base1, base2, base3, Option.isNone_none, Option.isNone_some, Nat.reduceBEq, true_or, or_true, false_or, or_false, Nat.reduceLT, Nat.reduceMod, Nat.reducePow, rmaps, nsucc, List.flatten_cons, List.flatten_nil, Nat.reduceEqDiff, Nat.reduceLeDiff, Nat.reduceAdd, Nat.reduceMul, Nat.reduceSub, ↓reduceIte, reduceCtorEq, decide_true, decide_false]
  exact fin_v rfl
end Go.Proofs.Ytgmncggiblaciaa

/- Walks: copies of numbers, components, packets. -/
namespace Go.Proofs.Ytgmncggiblaciaa
open Go Go.Proofs.Ytgmncggiblaciaa.Ab
set_option maxRecDepth 100000


theorem ownInts43 (l : List Int) (hb : l.length < 2 ^ 40) : FCall Try.prog 43 [ints l] (· = ints l) := by
  refine ACall.enter [] Cd.fn43 (by simp) ?_
  have hz : ∀ r ∈ l.map (fun x => [AV.v (.int .i64 x)]), FZs r := FZs.rowsOf (fun a => FZs.v1 _) l
  by_cases h0 : l.length = 0
  · have : l = [] := List.eq_nil_of_length_eq_zero h0
    subst this
    simp only [ints, List.map_nil, List.range_zero, Nat.zero_mul, Nat.zero_le, Nat.zero_lt_one, Cd.cd43, Tk.t43, base0, base1, base2, base3, Option.isNone_none, Option.isNone_some, Nat.reduceBEq, true_or, or_true, false_or, or_false, Nat.reduceLT, Nat.reduceMod, Nat.reducePow, rmaps, nsucc, List.flatten_cons, List.flatten_nil, Nat.reduceEqDiff, Nat.reduceLeDiff, Nat.reduceAdd, Nat.reduceMul, Nat.reduceSub, ↓reduceIte, reduceCtorEq, decide_true, decide_false]
    exact fin_lst rfl (fun r hr => by cases hr)
  · have hr : roomA 8 l.length = true := room_of (by omega) (by omega)
    simp only [ints, List.length_map, h0, hr, List.range_zero, Nat.zero_mul, Nat.zero_le, Nat.zero_lt_one, Cd.cd43, Tk.t43, base0, base1, base2, base3, Option.isNone_none, Option.isNone_some, Nat.reduceBEq, true_or, or_true, false_or, or_false, Nat.reduceLT, Nat.reduceMod, Nat.reducePow, rmaps, nsucc, List.flatten_cons, List.flatten_nil, Nat.reduceEqDiff, Nat.reduceLeDiff, Nat.reduceAdd, Nat.reduceMul, Nat.reduceSub, ↓reduceIte, reduceCtorEq, decide_true, decide_false]
    exact fin_lst rfl hz

theorem isPlaced80 (c : Case) (part host : Int) (hc : c.place.length < 2 ^ 40) : FCall Try.prog 80 [caseV c, .v (.int .i64 part), .v (.int .i64 host)] (· = .v (.bool (isPlaced c part host))) := by
  refine ACall.enter [] Cd.fn80 (by simp) ?_
  have hw : IntKind.i64.wrap ((c.place.length : Int) - 1) = (c.place.length : Int) - 1 := wrapI (by omega) (by omega)
  simp only [caseV, ints, List.length_map, hw, Cd.cd80, Tk.t80, base0, base1, base2, base3, Option.isNone_none, Option.isNone_some, Nat.reduceBEq, true_or, or_true, false_or, or_false, Nat.reduceLT, Nat.reduceMod, Nat.reducePow, rmaps, nsucc, List.flatten_cons, List.flatten_nil, Nat.reduceEqDiff, Nat.reduceLeDiff, Nat.reduceAdd, Nat.reduceMul, Nat.reduceSub, ↓reduceIte, reduceCtorEq, decide_true, decide_false]
  refine (within54 _ _ _).go (FZs.v3 _ _ _) ?_
  cases h : within part 0 ((c.place.length : Int) - 1)
  · simp only [h, Cd.cd80, Tk.t80, base0, base1, base2, base3, Option.isNone_none, Option.isNone_some, Nat.reduceBEq, true_or, or_true, false_or, or_false, Nat.reduceLT, Nat.reduceMod, Nat.reducePow, rmaps, nsucc, List.flatten_cons, List.flatten_nil, Nat.reduceEqDiff, Nat.reduceLeDiff, Nat.reduceAdd, Nat.reduceMul, Nat.reduceSub, ↓reduceIte, reduceCtorEq, decide_true, decide_false]
    exact fin_v (by simp [isPlaced, h])
  · obtain ⟨h1, h2⟩ := within_iff.mp h
    have e2 : 0 ≤ part ∧ part < (c.place.length : Int) := by omega
    simp only [h, e2, List.length_map, getD_ints c.place part.toNat (by omega), Cd.cd80, Tk.t80, base0, base1, base2, base3, Option.isNone_none, Option.isNone_some, Nat.reduceBEq, true_or, or_true, false_or, or_false, Nat.reduceLT, Nat.reduceMod, Nat.reducePow, rmaps, nsucc, List.flatten_cons, List.flatten_nil, Nat.reduceEqDiff, Nat.reduceLeDiff, Nat.reduceAdd, Nat.reduceMul, Nat.reduceSub, ↓reduceIte, reduceCtorEq, decide_true, decide_false]
    exact fin_v (by unfold isPlaced; rw [h]; rfl)

theorem ownCase13 (c : Case) (h1 : c.place.length < 2 ^ 40) (h2 : c.verd.length < 2 ^ 40) : FCall Try.prog 13 [caseV c] (· = caseV c) := by
  refine ACall.enter [] Cd.fn13 (by simp) ?_
  simp only [caseV, Cd.cd13, Tk.t13, base0, base1, base2, base3, Option.isNone_none, Option.isNone_some, Nat.reduceBEq, true_or, or_true, false_or, or_false, Nat.reduceLT, Nat.reduceMod, Nat.reducePow, rmaps, nsucc, List.flatten_cons, List.flatten_nil, Nat.reduceEqDiff, Nat.reduceLeDiff, Nat.reduceAdd, Nat.reduceMul, Nat.reduceSub, ↓reduceIte, reduceCtorEq, decide_true, decide_false]
  refine (ownInts43 _ h1).go' (FZs.ints _) ?_
  simp only [Cd.cd13, Tk.t13, base0, base1, base2, base3, Option.isNone_none, Option.isNone_some, Nat.reduceBEq, true_or, or_true, false_or, or_false, Nat.reduceLT, Nat.reduceMod, Nat.reducePow, rmaps, nsucc, List.flatten_cons, List.flatten_nil, Nat.reduceEqDiff, Nat.reduceLeDiff, Nat.reduceAdd, Nat.reduceMul, Nat.reduceSub, ↓reduceIte, reduceCtorEq, decide_true, decide_false]
  refine (ownInts43 _ h2).go' (FZs.ints _) ?_
  simp only [Cd.cd13, Tk.t13, base0, base1, base2, base3, Option.isNone_none, Option.isNone_some, Nat.reduceBEq, true_or, or_true, false_or, or_false, Nat.reduceLT, Nat.reduceMod, Nat.reducePow, rmaps, nsucc, List.flatten_cons, List.flatten_nil, Nat.reduceEqDiff, Nat.reduceLeDiff, Nat.reduceAdd, Nat.reduceMul, Nat.reduceSub, ↓reduceIte, reduceCtorEq, decide_true, decide_false]
  exact fin_agg (FZs.three (FZ.v _) (FZ.ints _) (FZ.ints _))

theorem partErr57 (c : Case) (host : Int) (before : List Pt) (p : Pt) (hc : c.place.length < 2 ^ 40) (hv : c.verd.length = c.place.length) (hb : before.length < 2 ^ 40) :
    FCall Try.prog 57 [caseV c, .v (.int .i64 host), ptsV before, .agg (ptR p)] (· = .v (.int .i64 (partE c host before p))) := by
  refine ACall.enter [] Cd.fn57 (by simp) ?_
  simp only [caseV, ptR, Cd.cd57, Tk.t57, base0, base1, base2, base3, Option.isNone_none, Option.isNone_some, Nat.reduceBEq, true_or, or_true, false_or, or_false, Nat.reduceLT, Nat.reduceMod, Nat.reducePow, rmaps, nsucc, List.flatten_cons, List.flatten_nil, Nat.reduceEqDiff, Nat.reduceLeDiff, Nat.reduceAdd, Nat.reduceMul, Nat.reduceSub, ↓reduceIte, reduceCtorEq, decide_true, decide_false]
  refine (isPlaced80 c _ _ hc).go (FZs.three (FZ.caseV c) (FZ.v _) (FZ.v _)) ?_
  cases h1 : isPlaced c p.part host
  · simp only [h1, Cd.cd57, Tk.t57, base0, base1, base2, base3, Option.isNone_none, Option.isNone_some, Nat.reduceBEq, true_or, or_true, false_or, or_false, Nat.reduceLT, Nat.reduceMod, Nat.reducePow, rmaps, nsucc, List.flatten_cons, List.flatten_nil, Nat.reduceEqDiff, Nat.reduceLeDiff, Nat.reduceAdd, Nat.reduceMul, Nat.reduceSub, ↓reduceIte, reduceCtorEq, decide_true, decide_false]
    exact fin_v (by unfold partE; rw [h1]; rfl)
  simp only [h1, Cd.cd57, Tk.t57, base0, base1, base2, base3, Option.isNone_none, Option.isNone_some, Nat.reduceBEq, true_or, or_true, false_or, or_false, Nat.reduceLT, Nat.reduceMod, Nat.reducePow, rmaps, nsucc, List.flatten_cons, List.flatten_nil, Nat.reduceEqDiff, Nat.reduceLeDiff, Nat.reduceAdd, Nat.reduceMul, Nat.reduceSub, ↓reduceIte, reduceCtorEq, decide_true, decide_false]
  refine (containsFunc81 before 82 [.box (ptR p)] (fun q => q.part == p.part) hb (FZs.one (FZ.box (FZs.ptR p))) (fun x => samePart82 x p)).go (FZs.two (FZ.ptsV _) (FZ.fn FZs.nil (FZs.one (FZ.box (FZs.ptR p))))) ?_
  cases h2 : before.any (fun q => q.part == p.part)
  · obtain ⟨hp1, hp2⟩ : within p.part 0 ((c.place.length : Int) - 1) = true ∧ (c.place.getD p.part.toNat 0 == host) = true := by simpa [isPlaced] using h1
    have hp := within_iff.mp hp1
    have e2 : 0 ≤ p.part ∧ p.part < (c.verd.length : Int) := by omega
    cases he : p.ended
    · cases hs : p.seen
      · cases hv0 : (p.v == 0)
        · simp only [h2, he, hs, hv0, bne, Cd.cd57, Tk.t57, base0, base1, base2, base3, Option.isNone_none, Option.isNone_some, Nat.reduceBEq, true_or, or_true, false_or, or_false, Nat.reduceLT, Nat.reduceMod, Nat.reducePow, rmaps, nsucc, List.flatten_cons, List.flatten_nil, Nat.reduceEqDiff, Nat.reduceLeDiff, Nat.reduceAdd, Nat.reduceMul, Nat.reduceSub, ↓reduceIte, reduceCtorEq, decide_true, decide_false]
          exact fin_v (by unfold partE; rw [h1, h2, he, hs, hv0]; rfl)
        · cases ht0 : (p.tr == 0)
          · simp only [h2, he, hs, hv0, ht0, bne, Cd.cd57, Tk.t57, base0, base1, base2, base3, Option.isNone_none, Option.isNone_some, Nat.reduceBEq, true_or, or_true, false_or, or_false, Nat.reduceLT, Nat.reduceMod, Nat.reducePow, rmaps, nsucc, List.flatten_cons, List.flatten_nil, Nat.reduceEqDiff, Nat.reduceLeDiff, Nat.reduceAdd, Nat.reduceMul, Nat.reduceSub, ↓reduceIte, reduceCtorEq, decide_true, decide_false]
            exact fin_v (by unfold partE; rw [h1, h2, he, hs, hv0, ht0]; rfl)
          · simp only [h2, he, hs, hv0, ht0, bne, Cd.cd57, Tk.t57, base0, base1, base2, base3, Option.isNone_none, Option.isNone_some, Nat.reduceBEq, true_or, or_true, false_or, or_false, Nat.reduceLT, Nat.reduceMod, Nat.reducePow, rmaps, nsucc, List.flatten_cons, List.flatten_nil, Nat.reduceEqDiff, Nat.reduceLeDiff, Nat.reduceAdd, Nat.reduceMul, Nat.reduceSub, ↓reduceIte, reduceCtorEq, decide_true, decide_false]
            exact fin_v (by unfold partE; rw [h1, h2, he, hs, hv0, ht0]; rfl)
      · simp only [h2, he, hs, bne, Cd.cd57, Tk.t57, base0, base1, base2, base3, Option.isNone_none, Option.isNone_some, Nat.reduceBEq, true_or, or_true, false_or, or_false, Nat.reduceLT, Nat.reduceMod, Nat.reducePow, rmaps, nsucc, List.flatten_cons, List.flatten_nil, Nat.reduceEqDiff, Nat.reduceLeDiff, Nat.reduceAdd, Nat.reduceMul, Nat.reduceSub, ↓reduceIte, reduceCtorEq, decide_true, decide_false]
        exact fin_v (by unfold partE; rw [h1, h2, he, hs]; rfl)
    · cases hv0 : (p.v == c.verd.getD p.part.toNat 0)
      · simp only [h2, he, hv0, bne, ints, e2, List.length_map, getD_ints c.verd p.part.toNat (by omega), Cd.cd57, Tk.t57, base0, base1, base2, base3, Option.isNone_none, Option.isNone_some, Nat.reduceBEq, true_or, or_true, false_or, or_false, Nat.reduceLT, Nat.reduceMod, Nat.reducePow, rmaps, nsucc, List.flatten_cons, List.flatten_nil, Nat.reduceEqDiff, Nat.reduceLeDiff, Nat.reduceAdd, Nat.reduceMul, Nat.reduceSub, ↓reduceIte, reduceCtorEq, decide_true, decide_false]
        exact fin_v (by unfold partE; rw [h1, h2, he, hv0]; rfl)
      · simp only [h2, he, hv0, bne, ints, e2, List.length_map, getD_ints c.verd p.part.toNat (by omega), Cd.cd57, Tk.t57, base0, base1, base2, base3, Option.isNone_none, Option.isNone_some, Nat.reduceBEq, true_or, or_true, false_or, or_false, Nat.reduceLT, Nat.reduceMod, Nat.reducePow, rmaps, nsucc, List.flatten_cons, List.flatten_nil, Nat.reduceEqDiff, Nat.reduceLeDiff, Nat.reduceAdd, Nat.reduceMul, Nat.reduceSub, ↓reduceIte, reduceCtorEq, decide_true, decide_false]
        refine (within54 _ _ _).go' (FZs.v3 _ _ _) ?_
        cases hw : within p.tr 1 3
        · simp only [hw, Cd.cd57, Tk.t57, base0, base1, base2, base3, Option.isNone_none, Option.isNone_some, Nat.reduceBEq, true_or, or_true, false_or, or_false, Nat.reduceLT, Nat.reduceMod, Nat.reducePow, rmaps, nsucc, List.flatten_cons, List.flatten_nil, Nat.reduceEqDiff, Nat.reduceLeDiff, Nat.reduceAdd, Nat.reduceMul, Nat.reduceSub, ↓reduceIte, reduceCtorEq, decide_true, decide_false]
          exact fin_v (by unfold partE; rw [h1, h2, he, hv0, hw]; rfl)
        · simp only [hw, Cd.cd57, Tk.t57, base0, base1, base2, base3, Option.isNone_none, Option.isNone_some, Nat.reduceBEq, true_or, or_true, false_or, or_false, Nat.reduceLT, Nat.reduceMod, Nat.reducePow, rmaps, nsucc, List.flatten_cons, List.flatten_nil, Nat.reduceEqDiff, Nat.reduceLeDiff, Nat.reduceAdd, Nat.reduceMul, Nat.reduceSub, ↓reduceIte, reduceCtorEq, decide_true, decide_false]
          exact fin_v (by unfold partE; rw [h1, h2, he, hv0, hw]; rfl)
  · simp only [h2, Cd.cd57, Tk.t57, base0, base1, base2, base3, Option.isNone_none, Option.isNone_some, Nat.reduceBEq, true_or, or_true, false_or, or_false, Nat.reduceLT, Nat.reduceMod, Nat.reducePow, rmaps, nsucc, List.flatten_cons, List.flatten_nil, Nat.reduceEqDiff, Nat.reduceLeDiff, Nat.reduceAdd, Nat.reduceMul, Nat.reduceSub, ↓reduceIte, reduceCtorEq, decide_true, decide_false]
    exact fin_v (by unfold partE; rw [h1, h2]; rfl)
end Go.Proofs.Ytgmncggiblaciaa

/- Walks: packets. -/
namespace Go.Proofs.Ytgmncggiblaciaa
open Go Go.Proofs.Ytgmncggiblaciaa.Ab
set_option maxRecDepth 100000

theorem packetErr58 (c : Case) (p : Pk) (hc : c.place.length < 2 ^ 40) (hv : c.verd.length = c.place.length) :
    FCall Try.prog 58 [caseV c, .agg (pkR p)] (· = .v (.int .i64 (packetE c p))) := by
  refine ACall.enter [] Cd.fn58 (by simp) ?_
  simp only [caseV, pkR, Cd.cd58, Tk.t58, base0, base1, base2, base3, Option.isNone_none, Option.isNone_some, Nat.reduceBEq, true_or, or_true, false_or, or_false, Nat.reduceLT, Nat.reduceMod, Nat.reducePow, rmaps, nsucc, List.flatten_cons, List.flatten_nil, Nat.reduceEqDiff, Nat.reduceLeDiff, Nat.reduceAdd, Nat.reduceMul, Nat.reduceSub, ↓reduceIte, reduceCtorEq, decide_true, decide_false]
  refine (within54 _ _ _).go (FZs.v3 _ _ _) ?_
  cases h1 : within p.kind 0 3
  · simp only [h1, Cd.cd58, Tk.t58, base0, base1, base2, base3, Option.isNone_none, Option.isNone_some, Nat.reduceBEq, true_or, or_true, false_or, or_false, Nat.reduceLT, Nat.reduceMod, Nat.reducePow, rmaps, nsucc, List.flatten_cons, List.flatten_nil, Nat.reduceEqDiff, Nat.reduceLeDiff, Nat.reduceAdd, Nat.reduceMul, Nat.reduceSub, ↓reduceIte, reduceCtorEq, decide_true, decide_false]
    exact fin_v (by unfold packetE; rw [h1]; rfl)
  simp only [h1, Cd.cd58, Tk.t58, base0, base1, base2, base3, Option.isNone_none, Option.isNone_some, Nat.reduceBEq, true_or, or_true, false_or, or_false, Nat.reduceLT, Nat.reduceMod, Nat.reducePow, rmaps, nsucc, List.flatten_cons, List.flatten_nil, Nat.reduceEqDiff, Nat.reduceLeDiff, Nat.reduceAdd, Nat.reduceMul, Nat.reduceSub, ↓reduceIte, reduceCtorEq, decide_true, decide_false]
  refine (within54 _ _ _).go (FZs.v3 _ _ _) ?_
  cases h2 : within p.host 0 (IntKind.i64.wrap (c.hosts - 1))
  · simp only [h2, Cd.cd58, Tk.t58, base0, base1, base2, base3, Option.isNone_none, Option.isNone_some, Nat.reduceBEq, true_or, or_true, false_or, or_false, Nat.reduceLT, Nat.reduceMod, Nat.reducePow, rmaps, nsucc, List.flatten_cons, List.flatten_nil, Nat.reduceEqDiff, Nat.reduceLeDiff, Nat.reduceAdd, Nat.reduceMul, Nat.reduceSub, ↓reduceIte, reduceCtorEq, decide_true, decide_false]
    exact fin_v (by unfold packetE; rw [h1, h2]; rfl)
  simp only [h2, Cd.cd58, Tk.t58, base0, base1, base2, base3, Option.isNone_none, Option.isNone_some, Nat.reduceBEq, true_or, or_true, false_or, or_false, Nat.reduceLT, Nat.reduceMod, Nat.reducePow, rmaps, nsucc, List.flatten_cons, List.flatten_nil, Nat.reduceEqDiff, Nat.reduceLeDiff, Nat.reduceAdd, Nat.reduceMul, Nat.reduceSub, ↓reduceIte, reduceCtorEq, decide_true, decide_false]
  refine (isPlaced80 c _ _ hc).go (FZs.three (FZ.caseV c) (FZ.v _) (FZ.v _)) ?_
  cases h3 : isPlaced c p.part p.host
  · simp only [h3, Cd.cd58, Tk.t58, base0, base1, base2, base3, Option.isNone_none, Option.isNone_some, Nat.reduceBEq, true_or, or_true, false_or, or_false, Nat.reduceLT, Nat.reduceMod, Nat.reducePow, rmaps, nsucc, List.flatten_cons, List.flatten_nil, Nat.reduceEqDiff, Nat.reduceLeDiff, Nat.reduceAdd, Nat.reduceMul, Nat.reduceSub, ↓reduceIte, reduceCtorEq, decide_true, decide_false]
    exact fin_v (by unfold packetE; rw [h1, h2, h3]; rfl)
  obtain ⟨hp1, hp2⟩ : within p.part 0 ((c.place.length : Int) - 1) = true ∧ (c.place.getD p.part.toNat 0 == p.host) = true := by simpa [isPlaced] using h3
  have hp := within_iff.mp hp1
  have e2 : 0 ≤ p.part ∧ p.part < (c.verd.length : Int) := by omega
  cases hk : (p.kind == 2)
  · cases hz : (p.v == 0) <;> simp only [h3, hk, hz, bne, Cd.cd58, Tk.t58, base0, base1, base2, base3, Option.isNone_none, Option.isNone_some, Nat.reduceBEq, true_or, or_true, false_or, or_false, Nat.reduceLT, Nat.reduceMod, Nat.reducePow, rmaps, nsucc, List.flatten_cons, List.flatten_nil, Nat.reduceEqDiff, Nat.reduceLeDiff, Nat.reduceAdd, Nat.reduceMul, Nat.reduceSub, ↓reduceIte, reduceCtorEq, decide_true, decide_false] <;> exact fin_v (by unfold packetE; rw [h1, h2, h3, hk, hz]; rfl)
  · cases hz : (p.v == c.verd.getD p.part.toNat 0) <;> simp only [h3, hk, hz, bne, ints, e2, List.length_map, getD_ints c.verd p.part.toNat (by omega), Cd.cd58, Tk.t58, base0, base1, base2, base3, Option.isNone_none, Option.isNone_some, Nat.reduceBEq, true_or, or_true, false_or, or_false, Nat.reduceLT, Nat.reduceMod, Nat.reducePow, rmaps, nsucc, List.flatten_cons, List.flatten_nil, Nat.reduceEqDiff, Nat.reduceLeDiff, Nat.reduceAdd, Nat.reduceMul, Nat.reduceSub, ↓reduceIte, reduceCtorEq, decide_true, decide_false] <;>
      exact fin_v (by unfold packetE; rw [h1, h2, h3, hk, hz]; rfl)

theorem packetErr61 (c : Case) (p : Pk) (hc : c.place.length < 2 ^ 40) (hv : c.verd.length = c.place.length) :
    FCall Try.prog 61 [caseV c, .agg (pkR p)] (· = .v (.int .i64 (packetE c p))) := by
  refine ACall.enter [] Cd.fn61 (by simp) ?_
  have hw : IntKind.i64.wrap ((c.place.length : Int) - 1) = (c.place.length : Int) - 1 := wrapI (by omega) (by omega)
  simp only [caseV, pkR, Cd.cd61, Tk.t61, base0, base1, base2, base3, Option.isNone_none, Option.isNone_some, Nat.reduceBEq, true_or, or_true, false_or, or_false, Nat.reduceLT, Nat.reduceMod, Nat.reducePow, rmaps, nsucc, List.flatten_cons, List.flatten_nil, Nat.reduceEqDiff, Nat.reduceLeDiff, Nat.reduceAdd, Nat.reduceMul, Nat.reduceSub, ↓reduceIte, reduceCtorEq, decide_true, decide_false]
  refine (within29 _ _ _).go (FZs.v3 _ _ _) ?_
  cases h1 : within p.kind 0 3
  · simp only [h1, Cd.cd61, Tk.t61, base0, base1, base2, base3, Option.isNone_none, Option.isNone_some, Nat.reduceBEq, true_or, or_true, false_or, or_false, Nat.reduceLT, Nat.reduceMod, Nat.reducePow, rmaps, nsucc, List.flatten_cons, List.flatten_nil, Nat.reduceEqDiff, Nat.reduceLeDiff, Nat.reduceAdd, Nat.reduceMul, Nat.reduceSub, ↓reduceIte, reduceCtorEq, decide_true, decide_false]
    exact fin_v (by unfold packetE; rw [h1]; rfl)
  simp only [h1, Cd.cd61, Tk.t61, base0, base1, base2, base3, Option.isNone_none, Option.isNone_some, Nat.reduceBEq, true_or, or_true, false_or, or_false, Nat.reduceLT, Nat.reduceMod, Nat.reducePow, rmaps, nsucc, List.flatten_cons, List.flatten_nil, Nat.reduceEqDiff, Nat.reduceLeDiff, Nat.reduceAdd, Nat.reduceMul, Nat.reduceSub, ↓reduceIte, reduceCtorEq, decide_true, decide_false]
  refine (within29 _ _ _).go (FZs.v3 _ _ _) ?_
  cases h2 : within p.host 0 (IntKind.i64.wrap (c.hosts - 1))
  · simp only [h2, Cd.cd61, Tk.t61, base0, base1, base2, base3, Option.isNone_none, Option.isNone_some, Nat.reduceBEq, true_or, or_true, false_or, or_false, Nat.reduceLT, Nat.reduceMod, Nat.reducePow, rmaps, nsucc, List.flatten_cons, List.flatten_nil, Nat.reduceEqDiff, Nat.reduceLeDiff, Nat.reduceAdd, Nat.reduceMul, Nat.reduceSub, ↓reduceIte, reduceCtorEq, decide_true, decide_false]
    exact fin_v (by unfold packetE; rw [h1, h2]; rfl)
  simp only [h2, ints, List.length_map, hw, Cd.cd61, Tk.t61, base0, base1, base2, base3, Option.isNone_none, Option.isNone_some, Nat.reduceBEq, true_or, or_true, false_or, or_false, Nat.reduceLT, Nat.reduceMod, Nat.reducePow, rmaps, nsucc, List.flatten_cons, List.flatten_nil, Nat.reduceEqDiff, Nat.reduceLeDiff, Nat.reduceAdd, Nat.reduceMul, Nat.reduceSub, ↓reduceIte, reduceCtorEq, decide_true, decide_false]
  refine (within29 _ _ _).go' (FZs.v3 _ _ _) ?_
  cases h3 : within p.part 0 ((c.place.length : Int) - 1)
  · simp only [h3, Cd.cd61, Tk.t61, base0, base1, base2, base3, Option.isNone_none, Option.isNone_some, Nat.reduceBEq, true_or, or_true, false_or, or_false, Nat.reduceLT, Nat.reduceMod, Nat.reducePow, rmaps, nsucc, List.flatten_cons, List.flatten_nil, Nat.reduceEqDiff, Nat.reduceLeDiff, Nat.reduceAdd, Nat.reduceMul, Nat.reduceSub, ↓reduceIte, reduceCtorEq, decide_true, decide_false]
    exact fin_v (by unfold packetE isPlaced; rw [h1, h2, h3]; rfl)
  have hp := within_iff.mp h3
  have e2 : 0 ≤ p.part ∧ p.part < (c.verd.length : Int) := by omega
  have e3 : 0 ≤ p.part ∧ p.part < (c.place.length : Int) := by omega
  cases h4 : (c.place.getD p.part.toNat 0 == p.host)
  · simp only [h3, h4, bne, ints, e3, List.length_map, getD_ints c.place p.part.toNat (by omega), Cd.cd61, Tk.t61, base0, base1, base2, base3, Option.isNone_none, Option.isNone_some, Nat.reduceBEq, true_or, or_true, false_or, or_false, Nat.reduceLT, Nat.reduceMod, Nat.reducePow, rmaps, nsucc, List.flatten_cons, List.flatten_nil, Nat.reduceEqDiff, Nat.reduceLeDiff, Nat.reduceAdd, Nat.reduceMul, Nat.reduceSub, ↓reduceIte, reduceCtorEq, decide_true, decide_false]
    exact fin_v (by unfold packetE isPlaced; rw [h1, h2, h3, h4]; rfl)
  simp only [h3, h4, bne, ints, e3, List.length_map, getD_ints c.place p.part.toNat (by omega), Cd.cd61, Tk.t61, base0, base1, base2, base3, Option.isNone_none, Option.isNone_some, Nat.reduceBEq, true_or, or_true, false_or, or_false, Nat.reduceLT, Nat.reduceMod, Nat.reducePow, rmaps, nsucc, List.flatten_cons, List.flatten_nil, Nat.reduceEqDiff, Nat.reduceLeDiff, Nat.reduceAdd, Nat.reduceMul, Nat.reduceSub, ↓reduceIte, reduceCtorEq, decide_true, decide_false]
  have h5 : isPlaced c p.part p.host = true := by unfold isPlaced; rw [h3, h4]; rfl
  cases hk : (p.kind == 2)
  · simp only [hk, Cd.cd61, Tk.t61, base0, base1, base2, base3, Option.isNone_none, Option.isNone_some, Nat.reduceBEq, true_or, or_true, false_or, or_false, Nat.reduceLT, Nat.reduceMod, Nat.reducePow, rmaps, nsucc, List.flatten_cons, List.flatten_nil, Nat.reduceEqDiff, Nat.reduceLeDiff, Nat.reduceAdd, Nat.reduceMul, Nat.reduceSub, ↓reduceIte, reduceCtorEq, decide_true, decide_false]
    refine (count63 _).go (FZs.v1 _) ?_
    cases hz : (p.v == 0) <;> simp only [hz, Cd.cd61, Tk.t61, base0, base1, base2, base3, Option.isNone_none, Option.isNone_some, Nat.reduceBEq, true_or, or_true, false_or, or_false, Nat.reduceLT, Nat.reduceMod, Nat.reducePow, rmaps, nsucc, List.flatten_cons, List.flatten_nil, Nat.reduceEqDiff, Nat.reduceLeDiff, Nat.reduceAdd, Nat.reduceMul, Nat.reduceSub, ↓reduceIte, reduceCtorEq, decide_true, decide_false] <;> exact fin_v (by unfold packetE; rw [h1, h2, h5, hk, hz]; rfl)
  · simp only [hk, bne, ints, e2, List.length_map, getD_ints c.verd p.part.toNat (by omega), Cd.cd61, Tk.t61, base0, base1, base2, base3, Option.isNone_none, Option.isNone_some, Nat.reduceBEq, true_or, or_true, false_or, or_false, Nat.reduceLT, Nat.reduceMod, Nat.reducePow, rmaps, nsucc, List.flatten_cons, List.flatten_nil, Nat.reduceEqDiff, Nat.reduceLeDiff, Nat.reduceAdd, Nat.reduceMul, Nat.reduceSub, ↓reduceIte, reduceCtorEq, decide_true, decide_false]
    refine (count63 _).go (FZs.v1 _) ?_
    cases hz : (p.v == c.verd.getD p.part.toNat 0) <;> simp only [hz, Cd.cd61, Tk.t61, base0, base1, base2, base3, Option.isNone_none, Option.isNone_some, Nat.reduceBEq, true_or, or_true, false_or, or_false, Nat.reduceLT, Nat.reduceMod, Nat.reducePow, rmaps, nsucc, List.flatten_cons, List.flatten_nil, Nat.reduceEqDiff, Nat.reduceLeDiff, Nat.reduceAdd, Nat.reduceMul, Nat.reduceSub, ↓reduceIte, reduceCtorEq, decide_true, decide_false] <;> exact fin_v (by unfold packetE; rw [h1, h2, h5, hk, hz]; rfl)
end Go.Proofs.Ytgmncggiblaciaa

/- Walks: starts, states checked. -/
namespace Go.Proofs.Ytgmncggiblaciaa
open Go Go.Proofs.Ytgmncggiblaciaa.Ab
set_option maxRecDepth 100000

structure SmallS (s : Stt) : Prop where
  p : s.placed.length < 2 ^ 40
  h : s.hosts.length < 2 ^ 40
  n : s.net.length < 2 ^ 40
  q : ∀ x ∈ s.hosts, x.parts.length < 2 ^ 40
structure SmallC (c : Case) : Prop where
  p : c.place.length < 2 ^ 40
  v : c.verd.length < 2 ^ 40

theorem ltT {i n : Nat} (h : i < n) : decide ((i : Int) < (n : Int)) = true := by simpa using h
theorem ltF {i n : Nat} (h : ¬ i < n) : decide ((i : Int) < (n : Int)) = false := by simpa using h
theorem inR {i n : Nat} (h : i < n) : 0 ≤ (i : Int) ∧ (i : Int) < (n : Int) := by omega
theorem take_succ_getD {α : Type} [Inhabited α] {l : List α} {i : Nat} (h : i < l.length) : l.take (i + 1) = l.take i ++ [l.getD i default] := by
  rw [List.take_succ_eq_append_getElem h, List.getD_eq_getElem?_getD, List.getElem?_eq_getElem h]; rfl
theorem worstP_succ {l : List Pl} {i : Nat} (h : i < l.length) : worstP (l.take (i + 1)) = if (l.getD i default).v > worstP (l.take i) then (l.getD i default).v else worstP (l.take i) := by
  rw [take_succ_getD h]; unfold worstP; rw [List.foldl_append]; rfl
theorem placedChk_at {s : Stt} {i : Nat} (hi : i < s.placed.length) (h : ∀ j, j < i → (placedEs s j == 0) = true) (hp : (placedEs s i == 0) = false) : placedChk s = ((i : Int), placedEs s i) := by
  unfold placedChk; rw [firstE_some hi hp h]
theorem placedChk_end {s : Stt} (h : ∀ j, j < s.placed.length → (placedEs s j == 0) = true) : placedChk s = if worstP s.placed == s.v then (0, 0) else (0, 3) := by
  unfold placedChk; rw [firstE_none h]

theorem placedErr59 (s : Stt) (hb : s.placed.length < 2 ^ 40) : FCall Try.prog 59 [stV s] (· = .tup [.v (.int .i64 (placedChk s).1), .v (.int .i64 (placedChk s).2)]) := by
  refine ACall.enter [] Cd.fn59 (by simp) ?_
  simp only [stV, stL]
  simp only [Cd.cd59, Tk.t59, base0, base1, base2, base3, Option.isNone_none, Option.isNone_some, Nat.reduceBEq, true_or, or_true, false_or, or_false, Nat.reduceLT, Nat.reduceMod, Nat.reducePow, rmaps, nsucc, List.flatten_cons, List.flatten_nil, Nat.reduceEqDiff, Nat.reduceLeDiff, Nat.reduceAdd, Nat.reduceMul, Nat.reduceSub, ↓reduceIte, reduceCtorEq, decide_true, decide_false]
  refine LWP.loop [] (fun m f H' => ∃ i, m = s.placed.length - i ∧ (i ≤ s.placed.length) ∧ (∀ j, j < i → (placedEs s j == 0) = true) ∧ f.t 5 = .v (.int .i64 (i : Nat)) ∧ f.t 4 = .v (.int .i64 (worstP (s.placed.take i))) ∧ f.t 1 = .box (stL s) ∧ f.ds = [] ∧ True) ?_ ?_ (m := s.placed.length - (0))
  · exact ⟨0, rfl, (by omega), (fun j hj => by omega), rfl, rfl, rfl, rfl, trivial⟩
  · rintro m f H' ⟨i, rfl, hi, hok, f5, f4, f1, hds, hH⟩
    by_cases hlt : i < s.placed.length
    · simp only [stL, plsV, List.length_map, ltT hlt, inR hlt, Int.toNat_natCast, getD_map plR _ _ hlt, plR, f5, f4, f1, hds, Cd.cd59, Tk.t59, base0, base1, base2, base3, Option.isNone_none, Option.isNone_some, Nat.reduceBEq, true_or, or_true, false_or, or_false, Nat.reduceLT, Nat.reduceMod, Nat.reducePow, rmaps, nsucc, List.flatten_cons, List.flatten_nil, Nat.reduceEqDiff, Nat.reduceLeDiff, Nat.reduceAdd, Nat.reduceMul, Nat.reduceSub, ↓reduceIte, reduceCtorEq, decide_true, decide_false]
      have hfail : ∀ x, placedEs s i = x → (x == 0) = false → placedChk s = ((i : Int), x) := fun x e he => by rw [placedChk_at hlt hok (by rw [e]; exact he), e]
      refine (within29 _ _ _).go (FZs.v3 _ _ _) ?_
      cases h1 : within (s.placed.getD i default).tr 0 3
      · simp only [h1, f5, f4, f1, hds, Cd.cd59, Tk.t59, base0, base1, base2, base3, Option.isNone_none, Option.isNone_some, Nat.reduceBEq, true_or, or_true, false_or, or_false, Nat.reduceLT, Nat.reduceMod, Nat.reducePow, rmaps, nsucc, List.flatten_cons, List.flatten_nil, Nat.reduceEqDiff, Nat.reduceLeDiff, Nat.reduceAdd, Nat.reduceMul, Nat.reduceSub, ↓reduceIte, reduceCtorEq, decide_true, decide_false]
        exact fin_p (hfail 3 (by unfold placedEs placedE; rw [h1]; rfl) rfl)
      simp only [h1, f5, f4, f1, hds, Cd.cd59, Tk.t59, base0, base1, base2, base3, Option.isNone_none, Option.isNone_some, Nat.reduceBEq, true_or, or_true, false_or, or_false, Nat.reduceLT, Nat.reduceMod, Nat.reducePow, rmaps, nsucc, List.flatten_cons, List.flatten_nil, Nat.reduceEqDiff, Nat.reduceLeDiff, Nat.reduceAdd, Nat.reduceMul, Nat.reduceSub, ↓reduceIte, reduceCtorEq, decide_true, decide_false]
      refine (isVerdict40 _).go (FZs.v1 _) ?_
      cases h2 : isVerdict (s.placed.getD i default).v
      · simp only [h2, f5, f4, f1, hds, Cd.cd59, Tk.t59, base0, base1, base2, base3, Option.isNone_none, Option.isNone_some, Nat.reduceBEq, true_or, or_true, false_or, or_false, Nat.reduceLT, Nat.reduceMod, Nat.reducePow, rmaps, nsucc, List.flatten_cons, List.flatten_nil, Nat.reduceEqDiff, Nat.reduceLeDiff, Nat.reduceAdd, Nat.reduceMul, Nat.reduceSub, ↓reduceIte, reduceCtorEq, decide_true, decide_false]
        exact fin_p (hfail 3 (by unfold placedEs placedE; rw [h1, h2]; rfl) rfl)
      have hgo : placedEs s i = 0 → _ := fun e => until_succ hok (by rw [e]; rfl)
      cases h3 : (s.placed.getD i default).tk
      · cases h4 : ((s.placed.getD i default).v == 0)
        · simp only [h2, h3, h4, bne, f5, f4, f1, hds, Cd.cd59, Tk.t59, base0, base1, base2, base3, Option.isNone_none, Option.isNone_some, Nat.reduceBEq, true_or, or_true, false_or, or_false, Nat.reduceLT, Nat.reduceMod, Nat.reducePow, rmaps, nsucc, List.flatten_cons, List.flatten_nil, Nat.reduceEqDiff, Nat.reduceLeDiff, Nat.reduceAdd, Nat.reduceMul, Nat.reduceSub, ↓reduceIte, reduceCtorEq, decide_true, decide_false]
          exact fin_p (hfail 28 (by unfold placedEs placedE; rw [h1, h2, h3, h4]; rfl) rfl)
        · simp only [h2, h3, h4, bne, f5, f4, f1, hds, Cd.cd59, Tk.t59, base0, base1, base2, base3, Option.isNone_none, Option.isNone_some, Nat.reduceBEq, true_or, or_true, false_or, or_false, Nat.reduceLT, Nat.reduceMod, Nat.reducePow, rmaps, nsucc, List.flatten_cons, List.flatten_nil, Nat.reduceEqDiff, Nat.reduceLeDiff, Nat.reduceAdd, Nat.reduceMul, Nat.reduceSub, ↓reduceIte, reduceCtorEq, decide_true, decide_false]
          exact ⟨_, by omega, i + 1, rfl, by omega, hgo (by unfold placedEs placedE; rw [h1, h2, h3, h4]; rfl), by rw [wrapS (by omega)], by rw [worstP_succ hlt], rfl⟩
      · simp only [h2, h3, f5, f4, f1, hds, Cd.cd59, Tk.t59, base0, base1, base2, base3, Option.isNone_none, Option.isNone_some, Nat.reduceBEq, true_or, or_true, false_or, or_false, Nat.reduceLT, Nat.reduceMod, Nat.reducePow, rmaps, nsucc, List.flatten_cons, List.flatten_nil, Nat.reduceEqDiff, Nat.reduceLeDiff, Nat.reduceAdd, Nat.reduceMul, Nat.reduceSub, ↓reduceIte, reduceCtorEq, decide_true, decide_false]
        exact ⟨_, by omega, i + 1, rfl, by omega, hgo (by unfold placedEs placedE; rw [h1, h2, h3]; rfl), by rw [wrapS (by omega)], by rw [worstP_succ hlt], rfl⟩
    · have hk : i = s.placed.length := by omega
      subst hk
      simp only [stL, plsV, List.length_map, ltF hlt, List.take_length, f5, f4, f1, hds, Cd.cd59, Tk.t59, base0, base1, base2, base3, Option.isNone_none, Option.isNone_some, Nat.reduceBEq, true_or, or_true, false_or, or_false, Nat.reduceLT, Nat.reduceMod, Nat.reducePow, rmaps, nsucc, List.flatten_cons, List.flatten_nil, Nat.reduceEqDiff, Nat.reduceLeDiff, Nat.reduceAdd, Nat.reduceMul, Nat.reduceSub, ↓reduceIte, reduceCtorEq, decide_true, decide_false]
      refine (count63 _).go (FZs.v1 _) ?_
      cases h5 : (worstP s.placed == s.v)
      · simp only [h5, bne, f5, f4, f1, hds, Cd.cd59, Tk.t59, base0, base1, base2, base3, Option.isNone_none, Option.isNone_some, Nat.reduceBEq, true_or, or_true, false_or, or_false, Nat.reduceLT, Nat.reduceMod, Nat.reducePow, rmaps, nsucc, List.flatten_cons, List.flatten_nil, Nat.reduceEqDiff, Nat.reduceLeDiff, Nat.reduceAdd, Nat.reduceMul, Nat.reduceSub, ↓reduceIte, reduceCtorEq, decide_true, decide_false]
        exact fin_p (by rw [placedChk_end hok, h5]; rfl)
      · simp only [h5, bne, f5, f4, f1, hds, Cd.cd59, Tk.t59, base0, base1, base2, base3, Option.isNone_none, Option.isNone_some, Nat.reduceBEq, true_or, or_true, false_or, or_false, Nat.reduceLT, Nat.reduceMod, Nat.reducePow, rmaps, nsucc, List.flatten_cons, List.flatten_nil, Nat.reduceEqDiff, Nat.reduceLeDiff, Nat.reduceAdd, Nat.reduceMul, Nat.reduceSub, ↓reduceIte, reduceCtorEq, decide_true, decide_false]
        exact fin_p (by rw [placedChk_end hok, h5]; rfl)
theorem hostE_at {c : Case} {host : Int} {l : List Pt} {k : Nat} (hk : k < l.length) (h : ∀ j, j < k → (hostEs c host l j == 0) = true) (hp : (hostEs c host l k == 0) = false) : hostE c host l = hostEs c host l k := by
  unfold hostE; rw [firstE_some hk hp h]
theorem hostE_end {c : Case} {host : Int} {l : List Pt} (h : ∀ j, j < l.length → (hostEs c host l j == 0) = true) : hostE c host l = 0 := by
  unfold hostE; rw [firstE_none h]

set_option maxHeartbeats 1000000 in
theorem hostErr60 (c : Case) (s : Stt) (hc : SmallC c) (hv : c.verd.length = c.place.length) (i : Nat) (hi : i < s.hosts.length) (hb : (s.hosts.getD i default).parts.length < 2 ^ 40) :
    FCall Try.prog 60 [caseV c, stV s, .v (.int .i64 (i : Nat))] (· = .v (.int .i64 (hostE c i (s.hosts.getD i default).parts))) := by
  refine ACall.enter [] Cd.fn60 (by simp) ?_
  have hw : IntKind.i64.wrap ((c.place.length : Int) - 1) = (c.place.length : Int) - 1 := wrapI (by omega) (by have := hc.p; omega)
  simp only [caseV, ints, stV, stL, hssV]
  simp only [List.length_map, inR hi, Int.toNat_natCast, getD_map hsR _ _ hi, hsR, Cd.cd60, Tk.t60, base0, base1, base2, base3, Option.isNone_none, Option.isNone_some, Nat.reduceBEq, true_or, or_true, false_or, or_false, Nat.reduceLT, Nat.reduceMod, Nat.reducePow, rmaps, nsucc, List.flatten_cons, List.flatten_nil, Nat.reduceEqDiff, Nat.reduceLeDiff, Nat.reduceAdd, Nat.reduceMul, Nat.reduceSub, ↓reduceIte, reduceCtorEq, decide_true, decide_false]
  generalize hl : (s.hosts.getD i default).parts = l at hb ⊢
  refine LWP.loop [] (fun m f H' => ∃ k, m = l.length - k ∧ (k ≤ l.length) ∧ (∀ j, j < k → (hostEs c i l j == 0) = true) ∧ f.t 8 = .v (.int .i64 (k : Nat)) ∧ f.t 7 = ptsV l ∧ f.t 3 = .box [.v (.int .i64 c.hosts), ints c.place, ints c.verd] ∧ f.t 2 = .v (.int .i64 (i : Nat)) ∧ f.ds = [] ∧ True) ?_ ?_ (m := l.length - (0))
  · exact ⟨0, rfl, (by omega), (fun j hj => by omega), rfl, rfl, rfl, rfl, rfl, trivial⟩
  · rintro m f H' ⟨k, rfl, hk, hok, f8, f7, f3, f2, hds, hH⟩
    by_cases hlt : k < l.length
    · simp only [ptsV, List.length_map, ltT hlt, inR hlt, Int.toNat_natCast, getD_map ptR _ _ hlt, ptR, ints, hw, f8, f7, f3, f2, hds, Cd.cd60, Tk.t60, base0, base1, base2, base3, Option.isNone_none, Option.isNone_some, Nat.reduceBEq, true_or, or_true, false_or, or_false, Nat.reduceLT, Nat.reduceMod, Nat.reducePow, rmaps, nsucc, List.flatten_cons, List.flatten_nil, Nat.reduceEqDiff, Nat.reduceLeDiff, Nat.reduceAdd, Nat.reduceMul, Nat.reduceSub, ↓reduceIte, reduceCtorEq, decide_true, decide_false]
      refine (within29 _ _ _).go (FZs.v3 _ _ _) ?_
      generalize hx : l.getD k default = x
      have hfail : ∀ e, partE c i (l.take k) x = e → (e == 0) = false → hostE c i l = e := fun e he hne => by
        have : hostEs c i l k = e := by unfold hostEs; rw [hx]; exact he
        rw [hostE_at hlt hok (by rw [this]; exact hne), this]
      have hgo : partE c i (l.take k) x = 0 → ∀ j, j < k + 1 → (hostEs c i l j == 0) = true := fun e => until_succ hok (by unfold hostEs; rw [hx, e]; rfl)
      cases h1 : within x.part 0 ((c.place.length : Int) - 1)
      · simp only [h1, f8, f7, f3, f2, hds, Cd.cd60, Tk.t60, base0, base1, base2, base3, Option.isNone_none, Option.isNone_some, Nat.reduceBEq, true_or, or_true, false_or, or_false, Nat.reduceLT, Nat.reduceMod, Nat.reducePow, rmaps, nsucc, List.flatten_cons, List.flatten_nil, Nat.reduceEqDiff, Nat.reduceLeDiff, Nat.reduceAdd, Nat.reduceMul, Nat.reduceSub, ↓reduceIte, reduceCtorEq, decide_true, decide_false]
        exact fin_v (by rw [hfail 11 (by unfold partE isPlaced; rw [h1]; rfl) rfl])
      have hp := within_iff.mp h1
      have e2 : 0 ≤ x.part ∧ x.part < (c.place.length : Int) := by omega
      have e3 : 0 ≤ x.part ∧ x.part < (c.verd.length : Int) := by omega
      cases h2 : (c.place.getD x.part.toNat 0 == (i : Int))
      · simp only [h1, h2, bne, ints, List.length_map, e2, getD_ints c.place x.part.toNat (by omega), f8, f7, f3, f2, hds, Cd.cd60, Tk.t60, base0, base1, base2, base3, Option.isNone_none, Option.isNone_some, Nat.reduceBEq, true_or, or_true, false_or, or_false, Nat.reduceLT, Nat.reduceMod, Nat.reducePow, rmaps, nsucc, List.flatten_cons, List.flatten_nil, Nat.reduceEqDiff, Nat.reduceLeDiff, Nat.reduceAdd, Nat.reduceMul, Nat.reduceSub, ↓reduceIte, reduceCtorEq, decide_true, decide_false]
        exact fin_v (by rw [hfail 11 (by unfold partE isPlaced; rw [h1, h2]; rfl) rfl])
      have hpl : isPlaced c x.part i = true := by unfold isPlaced; rw [h1, h2]; rfl
      simp only [h1, h2, bne, ints, List.length_map, e2, getD_ints c.place x.part.toNat (by omega), f8, f7, f3, f2, hds, Cd.cd60, Tk.t60, base0, base1, base2, base3, Option.isNone_none, Option.isNone_some, Nat.reduceBEq, true_or, or_true, false_or, or_false, Nat.reduceLT, Nat.reduceMod, Nat.reducePow, rmaps, nsucc, List.flatten_cons, List.flatten_nil, Nat.reduceEqDiff, Nat.reduceLeDiff, Nat.reduceAdd, Nat.reduceMul, Nat.reduceSub, ↓reduceIte, reduceCtorEq, decide_true, decide_false]
      obtain ⟨nm, hnm⟩ : ∃ nm, nm = H'.next := ⟨_, rfl⟩
      refine LWP.loop [] (fun m f H' => ∃ q, m = k - q ∧ (q ≤ k) ∧ (∀ j, j < q → ((l.getD j default).part == x.part) = false) ∧ f.t 10 = .v (.int .i64 (q : Nat)) ∧ f.t 8 = .v (.int .i64 (k : Nat)) ∧ f.t 7 = ptsV l ∧ f.t 3 = .box [.v (.int .i64 c.hosts), ints c.place, ints c.verd] ∧ f.t 2 = .v (.int .i64 (i : Nat)) ∧ f.t 9 = .ptr nm 0 ∧ f.ds = [] ∧ H'.own nm = some (.cells (ptR x))) ?_ ?_ (m := k - (0))
      · exact ⟨0, rfl, (by omega), (fun j hj => by omega), (by first | rfl | exact f10), (by first | rfl | exact f8), (by first | rfl | exact f7), (by first | rfl | exact f3), (by first | rfl | exact f2), by rw [hnm]; rfl, rfl, by simp [hnm, ptR, hx]⟩
      · rintro m f H' ⟨q, rfl, hq, hno, f10, f8, f7, f3, f2, f9, hds, hH⟩
        by_cases hqk : q < k
        · simp only [ptsV, List.length_map, ltT hqk, inR (show q < l.length by omega), Int.toNat_natCast, getD_map ptR _ _ (show q < l.length by omega), ptR, hH, f10, f8, f7, f3, f2, f9, hds, Cd.cd60, Tk.t60, base0, base1, base2, base3, Option.isNone_none, Option.isNone_some, Nat.reduceBEq, true_or, or_true, false_or, or_false, Nat.reduceLT, Nat.reduceMod, Nat.reducePow, rmaps, nsucc, List.flatten_cons, List.flatten_nil, Nat.reduceEqDiff, Nat.reduceLeDiff, Nat.reduceAdd, Nat.reduceMul, Nat.reduceSub, ↓reduceIte, reduceCtorEq, decide_true, decide_false]
          cases hqp : ((l.getD q default).part == x.part)
          · simp only [hqp, hH, f10, f8, f7, f3, f2, f9, hds, Cd.cd60, Tk.t60, base0, base1, base2, base3, Option.isNone_none, Option.isNone_some, Nat.reduceBEq, true_or, or_true, false_or, or_false, Nat.reduceLT, Nat.reduceMod, Nat.reducePow, rmaps, nsucc, List.flatten_cons, List.flatten_nil, Nat.reduceEqDiff, Nat.reduceLeDiff, Nat.reduceAdd, Nat.reduceMul, Nat.reduceSub, ↓reduceIte, reduceCtorEq, decide_true, decide_false]
            exact ⟨_, by omega, q + 1, rfl, by omega, until_succ hno hqp, by rw [wrapS (by omega)]⟩
          · simp only [hqp, f10, f8, f7, f3, f2, f9, hds, Cd.cd60, Tk.t60, base0, base1, base2, base3, Option.isNone_none, Option.isNone_some, Nat.reduceBEq, true_or, or_true, false_or, or_false, Nat.reduceLT, Nat.reduceMod, Nat.reducePow, rmaps, nsucc, List.flatten_cons, List.flatten_nil, Nat.reduceEqDiff, Nat.reduceLeDiff, Nat.reduceAdd, Nat.reduceMul, Nat.reduceSub, ↓reduceIte, reduceCtorEq, decide_true, decide_false]
            refine fin_v ?_
            rw [hfail 13 (by unfold partE; rw [hpl, any_take_of hk hqk (p := fun y => y.part == x.part) hqp]; rfl) rfl]
        · have hany : (l.take k).any (fun y => y.part == x.part) = false := any_take hk fun j hj => hno j (by omega)
          cases he : x.ended
          · cases hs : x.seen
            · cases hv0 : (x.v == 0)
              · simp only [ltF hqk, hH, ptR, he, hs, hv0, bne, f10, f8, f7, f3, f2, f9, hds, Cd.cd60, Tk.t60, base0, base1, base2, base3, Option.isNone_none, Option.isNone_some, Nat.reduceBEq, true_or, or_true, false_or, or_false, Nat.reduceLT, Nat.reduceMod, Nat.reducePow, rmaps, nsucc, List.flatten_cons, List.flatten_nil, Nat.reduceEqDiff, Nat.reduceLeDiff, Nat.reduceAdd, Nat.reduceMul, Nat.reduceSub, ↓reduceIte, reduceCtorEq, decide_true, decide_false]
                exact fin_v (by rw [hfail 28 (by unfold partE; rw [hpl, hany, he, hs, hv0]; rfl) rfl])
              · cases ht0 : (x.tr == 0)
                · simp only [ltF hqk, hH, ptR, he, hs, hv0, ht0, bne, f10, f8, f7, f3, f2, f9, hds, Cd.cd60, Tk.t60, base0, base1, base2, base3, Option.isNone_none, Option.isNone_some, Nat.reduceBEq, true_or, or_true, false_or, or_false, Nat.reduceLT, Nat.reduceMod, Nat.reducePow, rmaps, nsucc, List.flatten_cons, List.flatten_nil, Nat.reduceEqDiff, Nat.reduceLeDiff, Nat.reduceAdd, Nat.reduceMul, Nat.reduceSub, ↓reduceIte, reduceCtorEq, decide_true, decide_false]
                  exact fin_v (by rw [hfail 28 (by unfold partE; rw [hpl, hany, he, hs, hv0, ht0]; rfl) rfl])
                · simp only [ltF hqk, hH, ptR, he, hs, hv0, ht0, bne, f10, f8, f7, f3, f2, f9, hds, Cd.cd60, Tk.t60, base0, base1, base2, base3, Option.isNone_none, Option.isNone_some, Nat.reduceBEq, true_or, or_true, false_or, or_false, Nat.reduceLT, Nat.reduceMod, Nat.reducePow, rmaps, nsucc, List.flatten_cons, List.flatten_nil, Nat.reduceEqDiff, Nat.reduceLeDiff, Nat.reduceAdd, Nat.reduceMul, Nat.reduceSub, ↓reduceIte, reduceCtorEq, decide_true, decide_false]
                  exact ⟨_, by omega, k + 1, rfl, by omega, hgo (by unfold partE; rw [hpl, hany, he, hs, hv0, ht0]; rfl), by rw [wrapS (by omega)], rfl, rfl⟩
            · simp only [ltF hqk, hH, ptR, he, hs, bne, f10, f8, f7, f3, f2, f9, hds, Cd.cd60, Tk.t60, base0, base1, base2, base3, Option.isNone_none, Option.isNone_some, Nat.reduceBEq, true_or, or_true, false_or, or_false, Nat.reduceLT, Nat.reduceMod, Nat.reducePow, rmaps, nsucc, List.flatten_cons, List.flatten_nil, Nat.reduceEqDiff, Nat.reduceLeDiff, Nat.reduceAdd, Nat.reduceMul, Nat.reduceSub, ↓reduceIte, reduceCtorEq, decide_true, decide_false]
              exact fin_v (by rw [hfail 28 (by unfold partE; rw [hpl, hany, he, hs]; rfl) rfl])
          · cases hv0 : (x.v == c.verd.getD x.part.toNat 0)
            · simp only [ltF hqk, hH, ptR, he, hv0, bne, ints, List.length_map, e3, getD_ints c.verd x.part.toNat (by omega), f10, f8, f7, f3, f2, f9, hds, Cd.cd60, Tk.t60, base0, base1, base2, base3, Option.isNone_none, Option.isNone_some, Nat.reduceBEq, true_or, or_true, false_or, or_false, Nat.reduceLT, Nat.reduceMod, Nat.reducePow, rmaps, nsucc, List.flatten_cons, List.flatten_nil, Nat.reduceEqDiff, Nat.reduceLeDiff, Nat.reduceAdd, Nat.reduceMul, Nat.reduceSub, ↓reduceIte, reduceCtorEq, decide_true, decide_false]
              exact fin_v (by rw [hfail 3 (by unfold partE; rw [hpl, hany, he, hv0]; rfl) rfl])
            · simp only [ltF hqk, hH, ptR, he, hv0, bne, ints, List.length_map, e3, getD_ints c.verd x.part.toNat (by omega), f10, f8, f7, f3, f2, f9, hds, Cd.cd60, Tk.t60, base0, base1, base2, base3, Option.isNone_none, Option.isNone_some, Nat.reduceBEq, true_or, or_true, false_or, or_false, Nat.reduceLT, Nat.reduceMod, Nat.reducePow, rmaps, nsucc, List.flatten_cons, List.flatten_nil, Nat.reduceEqDiff, Nat.reduceLeDiff, Nat.reduceAdd, Nat.reduceMul, Nat.reduceSub, ↓reduceIte, reduceCtorEq, decide_true, decide_false]
              refine (within29 _ _ _).go' (FZs.v3 _ _ _) ?_
              cases hw1 : within x.tr 1 3
              · simp only [hw1, f10, f8, f7, f3, f2, f9, hds, Cd.cd60, Tk.t60, base0, base1, base2, base3, Option.isNone_none, Option.isNone_some, Nat.reduceBEq, true_or, or_true, false_or, or_false, Nat.reduceLT, Nat.reduceMod, Nat.reducePow, rmaps, nsucc, List.flatten_cons, List.flatten_nil, Nat.reduceEqDiff, Nat.reduceLeDiff, Nat.reduceAdd, Nat.reduceMul, Nat.reduceSub, ↓reduceIte, reduceCtorEq, decide_true, decide_false]
                exact fin_v (by rw [hfail 3 (by unfold partE; rw [hpl, hany, he, hv0, hw1]; rfl) rfl])
              · simp only [hw1, f10, f8, f7, f3, f2, f9, hds, Cd.cd60, Tk.t60, base0, base1, base2, base3, Option.isNone_none, Option.isNone_some, Nat.reduceBEq, true_or, or_true, false_or, or_false, Nat.reduceLT, Nat.reduceMod, Nat.reducePow, rmaps, nsucc, List.flatten_cons, List.flatten_nil, Nat.reduceEqDiff, Nat.reduceLeDiff, Nat.reduceAdd, Nat.reduceMul, Nat.reduceSub, ↓reduceIte, reduceCtorEq, decide_true, decide_false]
                exact ⟨_, by omega, k + 1, rfl, by omega, hgo (by unfold partE; rw [hpl, hany, he, hv0, hw1]; rfl), by rw [wrapS (by omega)], rfl, rfl⟩
    · have hk' : k = l.length := by omega
      subst hk'
      simp only [ptsV, List.length_map, ltF hlt, f8, f7, f3, f2, hds, Cd.cd60, Tk.t60, base0, base1, base2, base3, Option.isNone_none, Option.isNone_some, Nat.reduceBEq, true_or, or_true, false_or, or_false, Nat.reduceLT, Nat.reduceMod, Nat.reducePow, rmaps, nsucc, List.flatten_cons, List.flatten_nil, Nat.reduceEqDiff, Nat.reduceLeDiff, Nat.reduceAdd, Nat.reduceMul, Nat.reduceSub, ↓reduceIte, reduceCtorEq, decide_true, decide_false]
      exact fin_v (by rw [hostE_end hok])
end Go.Proofs.Ytgmncggiblaciaa

/- Walks: states checked, both ways; starts. -/
namespace Go.Proofs.Ytgmncggiblaciaa
open Go Go.Proofs.Ytgmncggiblaciaa.Ab
set_option maxRecDepth 100000

theorem SmallS.q' {s : Stt} (h : SmallS s) (i : Nat) : (s.hosts.getD i default).parts.length < 2 ^ 40 := by
  by_cases hi : i < s.hosts.length
  · exact h.q _ (getD_mem hi)
  · rw [List.getD_eq_getElem?_getD, List.getElem?_eq_none (by omega)]; decide
theorem take_any_succ {α : Type} [Inhabited α] {l : List α} {p : α → Bool} {i : Nat} (h : i < l.length) : (l.take (i + 1)).any p = ((l.take i).any p || p (l.getD i default)) := by
  rw [take_succ_getD h, List.any_append]; simp
theorem checkState1 {c : Case} {s : Stt} (h : ((checkCase c).2 == 0) = false) : checkState c s = (0, (checkCase c).2) := by
  unfold checkState; rw [if_pos (by rw [h]; rfl)]
theorem checkState2 {c : Case} {s : Stt} (h : ((checkCase c).2 == 0) = true) (h2 : (((s.placed.length : Int) == (c.place.length : Int)) && ((s.hosts.length : Int) == c.hosts)) = false) : checkState c s = (0, 6) := by
  unfold checkState; rw [if_neg (by rw [h]; simp), if_pos (by rw [Bool.and_eq_false_iff] at h2; rcases h2 with h2 | h2 <;> simp [h2])]
theorem checkState3 {c : Case} {s : Stt} (h : ((checkCase c).2 == 0) = true) (h2 : (((s.placed.length : Int) == (c.place.length : Int)) && ((s.hosts.length : Int) == c.hosts)) = true) (h3 : (decide ((s.net.length : Int) > 12) || s.hosts.any manyParts) = true) : checkState c s = (0, 2) := by
  simp only [Bool.and_eq_true] at h2
  unfold checkState; rw [if_neg (by rw [h]; simp), if_neg (by rw [h2.1, h2.2]; simp), if_pos h3]
theorem checkState4 {c : Case} {s : Stt} (h : ((checkCase c).2 == 0) = true) (h2 : (((s.placed.length : Int) == (c.place.length : Int)) && ((s.hosts.length : Int) == c.hosts)) = true) (h3 : (decide ((s.net.length : Int) > 12) || s.hosts.any manyParts) = false) :
    checkState c s = if !((placedChk s).2 == 0) then placedChk s else
  match firstE s.hosts.length (hostsE c s) with
  | some i => (i, hostsE c s i)
  | none => match firstE s.net.length (netE c s) with
    | some i => (i, netE c s i)
    | none => (0, 0) := by
  simp only [Bool.and_eq_true] at h2
  unfold checkState; rw [if_neg (by rw [h]; simp), if_neg (by rw [h2.1, h2.2]; simp), if_neg (by rw [h3]; simp)]; rfl

set_option maxHeartbeats 1000000 in
theorem checkState35 (c : Case) (s : Stt) (hc : SmallC c) (hs : SmallS s) : FCall Try.prog 35 [caseV c, stV s] (· = .tup [.v (.int .i64 (checkState c s).1), .v (.int .i64 (checkState c s).2)]) := by
  refine ACall.enter [] Cd.fn35 (by simp) ?_
  simp only [caseV, stV, stL]
  simp only [Cd.cd35, Tk.t35, base0, base1, base2, base3, Option.isNone_none, Option.isNone_some, Nat.reduceBEq, true_or, or_true, false_or, or_false, Nat.reduceLT, Nat.reduceMod, Nat.reducePow, rmaps, nsucc, List.flatten_cons, List.flatten_nil, Nat.reduceEqDiff, Nat.reduceLeDiff, Nat.reduceAdd, Nat.reduceMul, Nat.reduceSub, ↓reduceIte, reduceCtorEq, decide_true, decide_false]
  refine (checkCase11 c).go (FZs.one (FZ.caseV c)) ?_
  cases h1 : ((checkCase c).2 == 0)
  · simp only [h1, bne, Cd.cd35, Tk.t35, base0, base1, base2, base3, Option.isNone_none, Option.isNone_some, Nat.reduceBEq, true_or, or_true, false_or, or_false, Nat.reduceLT, Nat.reduceMod, Nat.reducePow, rmaps, nsucc, List.flatten_cons, List.flatten_nil, Nat.reduceEqDiff, Nat.reduceLeDiff, Nat.reduceAdd, Nat.reduceMul, Nat.reduceSub, ↓reduceIte, reduceCtorEq, decide_true, decide_false]
    exact fin_p (checkState1 h1)
  have hsh := hs.h
  have hsn := hs.n
  have hok := checkCase_ok.mp (by simpa using h1 : (checkCase c).2 = 0)
  have hv := hok.vl
  cases h2 : ((s.placed.length : Int) == (c.place.length : Int))
  · simp only [h1, h2, plsV, ints, List.length_map, bne, Cd.cd35, Tk.t35, base0, base1, base2, base3, Option.isNone_none, Option.isNone_some, Nat.reduceBEq, true_or, or_true, false_or, or_false, Nat.reduceLT, Nat.reduceMod, Nat.reducePow, rmaps, nsucc, List.flatten_cons, List.flatten_nil, Nat.reduceEqDiff, Nat.reduceLeDiff, Nat.reduceAdd, Nat.reduceMul, Nat.reduceSub, ↓reduceIte, reduceCtorEq, decide_true, decide_false]
    exact fin_p (checkState2 h1 (by rw [h2]; rfl))
  cases h2' : ((s.hosts.length : Int) == c.hosts)
  · simp only [h1, h2, h2', plsV, hssV, ints, List.length_map, bne, Cd.cd35, Tk.t35, base0, base1, base2, base3, Option.isNone_none, Option.isNone_some, Nat.reduceBEq, true_or, or_true, false_or, or_false, Nat.reduceLT, Nat.reduceMod, Nat.reducePow, rmaps, nsucc, List.flatten_cons, List.flatten_nil, Nat.reduceEqDiff, Nat.reduceLeDiff, Nat.reduceAdd, Nat.reduceMul, Nat.reduceSub, ↓reduceIte, reduceCtorEq, decide_true, decide_false]
    exact fin_p (checkState2 h1 (by rw [h2, h2']; rfl))
  have h22 : (((s.placed.length : Int) == (c.place.length : Int)) && ((s.hosts.length : Int) == c.hosts)) = true := by rw [h2, h2']; rfl
  simp only [h1, h2, h2', plsV, hssV, pksV, ints, List.length_map, bne, Cd.cd35, Tk.t35, base0, base1, base2, base3, Option.isNone_none, Option.isNone_some, Nat.reduceBEq, true_or, or_true, false_or, or_false, Nat.reduceLT, Nat.reduceMod, Nat.reducePow, rmaps, nsucc, List.flatten_cons, List.flatten_nil, Nat.reduceEqDiff, Nat.reduceLeDiff, Nat.reduceAdd, Nat.reduceMul, Nat.reduceSub, ↓reduceIte, reduceCtorEq, decide_true, decide_false]
  refine LWP.loop [] (fun m f H' => ∃ i, m = s.hosts.length - i ∧ (i ≤ s.hosts.length) ∧ f.t 9 = .v (.int .i64 (i : Nat)) ∧ f.t 8 = .v (.bool (decide ((s.net.length : Int) > 12) || (s.hosts.take i).any manyParts)) ∧ f.t 3 = .box (stL s) ∧ f.t 2 = .box [.v (.int .i64 c.hosts), ints c.place, ints c.verd] ∧ f.ds = [] ∧ True) ?_ ?_ (m := s.hosts.length - (0))
  · exact ⟨0, rfl, (by omega), rfl, by rw [List.take_zero, List.any_nil, Bool.or_false]; rfl, rfl, rfl, rfl, trivial⟩
  · rintro m f H' ⟨i, rfl, hi, f9, f8, f3, f2, hds, hH⟩
    by_cases hlt : i < s.hosts.length
    · cases hb : (decide ((s.net.length : Int) > 12) || (s.hosts.take i).any manyParts)
      · simp only [hb, stL, hssV, List.length_map, ltT hlt, inR hlt, Int.toNat_natCast, getD_map hsR _ _ hlt, hsR, ptsV, f9, f8, f3, f2, hds, Cd.cd35, Tk.t35, base0, base1, base2, base3, Option.isNone_none, Option.isNone_some, Nat.reduceBEq, true_or, or_true, false_or, or_false, Nat.reduceLT, Nat.reduceMod, Nat.reducePow, rmaps, nsucc, List.flatten_cons, List.flatten_nil, Nat.reduceEqDiff, Nat.reduceLeDiff, Nat.reduceAdd, Nat.reduceMul, Nat.reduceSub, ↓reduceIte, reduceCtorEq, decide_true, decide_false]
        refine ⟨_, by omega, i + 1, rfl, by omega, ?_⟩
        (repeat' apply And.intro) <;> first | rfl | (rw [wrapS (by omega)]) | omega | assumption | (rw [take_any_succ hlt, ← Bool.or_assoc, hb]; rfl)
      · simp only [hb, stL, hssV, List.length_map, ltT hlt, f9, f8, f3, f2, hds, Cd.cd35, Tk.t35, base0, base1, base2, base3, Option.isNone_none, Option.isNone_some, Nat.reduceBEq, true_or, or_true, false_or, or_false, Nat.reduceLT, Nat.reduceMod, Nat.reducePow, rmaps, nsucc, List.flatten_cons, List.flatten_nil, Nat.reduceEqDiff, Nat.reduceLeDiff, Nat.reduceAdd, Nat.reduceMul, Nat.reduceSub, ↓reduceIte, reduceCtorEq, decide_true, decide_false]
        refine ⟨_, by omega, i + 1, rfl, by omega, ?_⟩
        (repeat' apply And.intro) <;> first | rfl | (rw [wrapS (by omega)]) | omega | assumption | (rw [take_any_succ hlt, ← Bool.or_assoc, hb]; rfl)
    have hi' : i = s.hosts.length := by omega
    subst hi'
    rw [List.take_length] at f8
    cases h3 : (decide ((s.net.length : Int) > 12) || s.hosts.any manyParts)
    rotate_left
    · simp only [h3, stL, hssV, List.length_map, ltF hlt, f9, f8, f3, f2, hds, Cd.cd35, Tk.t35, base0, base1, base2, base3, Option.isNone_none, Option.isNone_some, Nat.reduceBEq, true_or, or_true, false_or, or_false, Nat.reduceLT, Nat.reduceMod, Nat.reducePow, rmaps, nsucc, List.flatten_cons, List.flatten_nil, Nat.reduceEqDiff, Nat.reduceLeDiff, Nat.reduceAdd, Nat.reduceMul, Nat.reduceSub, ↓reduceIte, reduceCtorEq, decide_true, decide_false]
      exact fin_p (checkState3 h1 h22 h3)
    have h4 := checkState4 h1 h22 h3
    simp only [h3, stL, hssV, List.length_map, ltF hlt, f9, f8, f3, f2, hds, Cd.cd35, Tk.t35, base0, base1, base2, base3, Option.isNone_none, Option.isNone_some, Nat.reduceBEq, true_or, or_true, false_or, or_false, Nat.reduceLT, Nat.reduceMod, Nat.reducePow, rmaps, nsucc, List.flatten_cons, List.flatten_nil, Nat.reduceEqDiff, Nat.reduceLeDiff, Nat.reduceAdd, Nat.reduceMul, Nat.reduceSub, ↓reduceIte, reduceCtorEq, decide_true, decide_false]
    refine (placedErr59 s hs.p).go (FZs.one (FZ.stV s)) ?_
    cases h5 : ((placedChk s).2 == 0)
    · simp only [h5, bne, f9, f8, f3, f2, hds, Cd.cd35, Tk.t35, base0, base1, base2, base3, Option.isNone_none, Option.isNone_some, Nat.reduceBEq, true_or, or_true, false_or, or_false, Nat.reduceLT, Nat.reduceMod, Nat.reducePow, rmaps, nsucc, List.flatten_cons, List.flatten_nil, Nat.reduceEqDiff, Nat.reduceLeDiff, Nat.reduceAdd, Nat.reduceMul, Nat.reduceSub, ↓reduceIte, reduceCtorEq, decide_true, decide_false]
      exact fin_p (by rw [h4, if_pos (by rw [h5]; rfl)])
    rw [if_neg (by rw [h5]; simp)] at h4
    simp only [h5, bne, f9, f8, f3, f2, hds, Cd.cd35, Tk.t35, base0, base1, base2, base3, Option.isNone_none, Option.isNone_some, Nat.reduceBEq, true_or, or_true, false_or, or_false, Nat.reduceLT, Nat.reduceMod, Nat.reducePow, rmaps, nsucc, List.flatten_cons, List.flatten_nil, Nat.reduceEqDiff, Nat.reduceLeDiff, Nat.reduceAdd, Nat.reduceMul, Nat.reduceSub, ↓reduceIte, reduceCtorEq, decide_true, decide_false]
    refine LWP.loop [] (fun m f H' => ∃ i, m = s.hosts.length - i ∧ (i ≤ s.hosts.length) ∧ (∀ j, j < i → (hostsE c s j == 0) = true) ∧ f.t 12 = .v (.int .i64 (i : Nat)) ∧ f.t 3 = .box (stL s) ∧ f.t 2 = .box [.v (.int .i64 c.hosts), ints c.place, ints c.verd] ∧ f.ds = [] ∧ True) ?_ ?_ (m := s.hosts.length - (0))
    · exact ⟨0, rfl, (by omega), (fun j hj => by omega), (by first | rfl | exact f12), (by first | rfl | exact f3), (by first | rfl | exact f2), rfl, trivial⟩
    · rintro m f H' ⟨i, rfl, hi, hok2, f12, f3, f2, hds, hH⟩
      by_cases hlt : i < s.hosts.length
      · simp only [stL, hssV, List.length_map, ltT hlt, f12, f3, f2, hds, Cd.cd35, Tk.t35, base0, base1, base2, base3, Option.isNone_none, Option.isNone_some, Nat.reduceBEq, true_or, or_true, false_or, or_false, Nat.reduceLT, Nat.reduceMod, Nat.reducePow, rmaps, nsucc, List.flatten_cons, List.flatten_nil, Nat.reduceEqDiff, Nat.reduceLeDiff, Nat.reduceAdd, Nat.reduceMul, Nat.reduceSub, ↓reduceIte, reduceCtorEq, decide_true, decide_false]
        refine (hostErr60 c s hc hv i hlt (hs.q' i)).go (FZs.three (FZ.caseV c) (FZ.stV s) (FZ.v _)) ?_
        cases h6 : (hostsE c s i == 0)
        · simp only [show (hostE c i (s.hosts.getD i default).parts == 0) = false from h6, bne, f12, f3, f2, hds, Cd.cd35, Tk.t35, base0, base1, base2, base3, Option.isNone_none, Option.isNone_some, Nat.reduceBEq, true_or, or_true, false_or, or_false, Nat.reduceLT, Nat.reduceMod, Nat.reducePow, rmaps, nsucc, List.flatten_cons, List.flatten_nil, Nat.reduceEqDiff, Nat.reduceLeDiff, Nat.reduceAdd, Nat.reduceMul, Nat.reduceSub, ↓reduceIte, reduceCtorEq, decide_true, decide_false]
          exact fin_p (by rw [h4, firstE_some hlt h6 hok2]; rfl)
        · simp only [show (hostE c i (s.hosts.getD i default).parts == 0) = true from h6, bne, f12, f3, f2, hds, Cd.cd35, Tk.t35, base0, base1, base2, base3, Option.isNone_none, Option.isNone_some, Nat.reduceBEq, true_or, or_true, false_or, or_false, Nat.reduceLT, Nat.reduceMod, Nat.reducePow, rmaps, nsucc, List.flatten_cons, List.flatten_nil, Nat.reduceEqDiff, Nat.reduceLeDiff, Nat.reduceAdd, Nat.reduceMul, Nat.reduceSub, ↓reduceIte, reduceCtorEq, decide_true, decide_false]
          refine ⟨_, by omega, i + 1, rfl, by omega, until_succ hok2 h6, ?_⟩
          (repeat' apply And.intro) <;> first | rfl | (rw [wrapS (by omega)]) | omega | assumption
      have hi' : i = s.hosts.length := by omega
      subst hi'
      rw [firstE_none hok2] at h4
      simp only [stL, hssV, List.length_map, ltF hlt, f12, f3, f2, hds, Cd.cd35, Tk.t35, base0, base1, base2, base3, Option.isNone_none, Option.isNone_some, Nat.reduceBEq, true_or, or_true, false_or, or_false, Nat.reduceLT, Nat.reduceMod, Nat.reducePow, rmaps, nsucc, List.flatten_cons, List.flatten_nil, Nat.reduceEqDiff, Nat.reduceLeDiff, Nat.reduceAdd, Nat.reduceMul, Nat.reduceSub, ↓reduceIte, reduceCtorEq, decide_true, decide_false]
      refine LWP.loop [] (fun m f H' => ∃ i, m = s.net.length - i ∧ (i ≤ s.net.length) ∧ (∀ j, j < i → (netE c s j == 0) = true) ∧ f.t 14 = .v (.int .i64 (i : Nat)) ∧ f.t 3 = .box (stL s) ∧ f.t 2 = .box [.v (.int .i64 c.hosts), ints c.place, ints c.verd] ∧ f.ds = [] ∧ True) ?_ ?_ (m := s.net.length - (0))
      · exact ⟨0, rfl, (by omega), (fun j hj => by omega), (by first | rfl | exact f14), (by first | rfl | exact f3), (by first | rfl | exact f2), rfl, trivial⟩
      · rintro m f H' ⟨i, rfl, hi, hok3, f14, f3, f2, hds, hH⟩
        by_cases hlt : i < s.net.length
        · simp only [stL, pksV, List.length_map, ltT hlt, inR hlt, Int.toNat_natCast, getD_map pkR _ _ hlt, pkR, f14, f3, f2, hds, Cd.cd35, Tk.t35, base0, base1, base2, base3, Option.isNone_none, Option.isNone_some, Nat.reduceBEq, true_or, or_true, false_or, or_false, Nat.reduceLT, Nat.reduceMod, Nat.reducePow, rmaps, nsucc, List.flatten_cons, List.flatten_nil, Nat.reduceEqDiff, Nat.reduceLeDiff, Nat.reduceAdd, Nat.reduceMul, Nat.reduceSub, ↓reduceIte, reduceCtorEq, decide_true, decide_false]
          refine (packetErr61 c (s.net.getD i default) hc.p hv).go' (FZs.two (FZ.caseV c) (FZ.agg (FZs.pkR _))) ?_
          cases h6 : (netE c s i == 0)
          · simp only [show (packetE c (s.net.getD i default) == 0) = false from h6, bne, f14, f3, f2, hds, Cd.cd35, Tk.t35, base0, base1, base2, base3, Option.isNone_none, Option.isNone_some, Nat.reduceBEq, true_or, or_true, false_or, or_false, Nat.reduceLT, Nat.reduceMod, Nat.reducePow, rmaps, nsucc, List.flatten_cons, List.flatten_nil, Nat.reduceEqDiff, Nat.reduceLeDiff, Nat.reduceAdd, Nat.reduceMul, Nat.reduceSub, ↓reduceIte, reduceCtorEq, decide_true, decide_false]
            exact fin_p (by rw [h4, firstE_some hlt h6 hok3]; rfl)
          · simp only [show (packetE c (s.net.getD i default) == 0) = true from h6, bne, f14, f3, f2, hds, Cd.cd35, Tk.t35, base0, base1, base2, base3, Option.isNone_none, Option.isNone_some, Nat.reduceBEq, true_or, or_true, false_or, or_false, Nat.reduceLT, Nat.reduceMod, Nat.reducePow, rmaps, nsucc, List.flatten_cons, List.flatten_nil, Nat.reduceEqDiff, Nat.reduceLeDiff, Nat.reduceAdd, Nat.reduceMul, Nat.reduceSub, ↓reduceIte, reduceCtorEq, decide_true, decide_false]
            refine ⟨_, by omega, i + 1, rfl, by omega, until_succ hok3 h6, ?_⟩
            (repeat' apply And.intro) <;> first | rfl | (rw [wrapS (by omega)]) | omega | assumption
        have hi' : i = s.net.length := by omega
        subst hi'
        rw [firstE_none hok3] at h4
        simp only [stL, pksV, List.length_map, ltF hlt, f14, f3, f2, hds, Cd.cd35, Tk.t35, base0, base1, base2, base3, Option.isNone_none, Option.isNone_some, Nat.reduceBEq, true_or, or_true, false_or, or_false, Nat.reduceLT, Nat.reduceMod, Nat.reducePow, rmaps, nsucc, List.flatten_cons, List.flatten_nil, Nat.reduceEqDiff, Nat.reduceLeDiff, Nat.reduceAdd, Nat.reduceMul, Nat.reduceSub, ↓reduceIte, reduceCtorEq, decide_true, decide_false]
        exact fin_p h4

theorem stateErr15 (c : Case) (s : Stt) (hc : SmallC c) (hs : SmallS s) : FCall Try.prog 15 [caseV c, stV s] (· = .v (.int .i64 (checkState c s).2)) := by
  refine ACall.enter [] Cd.fn15 (by simp) ?_
  simp only [caseV, stV, stL]
  simp only [Cd.cd15, Tk.t15, base0, base1, base2, base3, Option.isNone_none, Option.isNone_some, Nat.reduceBEq, true_or, or_true, false_or, or_false, Nat.reduceLT, Nat.reduceMod, Nat.reducePow, rmaps, nsucc, List.flatten_cons, List.flatten_nil, Nat.reduceEqDiff, Nat.reduceLeDiff, Nat.reduceAdd, Nat.reduceMul, Nat.reduceSub, ↓reduceIte, reduceCtorEq, decide_true, decide_false]
  refine (checkState35 c s hc hs).go (FZs.two (FZ.caseV c) (FZ.stV s)) ?_
  simp only [Cd.cd15, Tk.t15, base0, base1, base2, base3, Option.isNone_none, Option.isNone_some, Nat.reduceBEq, true_or, or_true, false_or, or_false, Nat.reduceLT, Nat.reduceMod, Nat.reducePow, rmaps, nsucc, List.flatten_cons, List.flatten_nil, Nat.reduceEqDiff, Nat.reduceLeDiff, Nat.reduceAdd, Nat.reduceMul, Nat.reduceSub, ↓reduceIte, reduceCtorEq, decide_true, decide_false]
  exact fin_v rfl
end Go.Proofs.Ytgmncggiblaciaa

/- Walks: states checked by the program; starts. -/
namespace Go.Proofs.Ytgmncggiblaciaa
open Go Go.Proofs.Ytgmncggiblaciaa.Ab
set_option maxRecDepth 100000

set_option maxHeartbeats 2000000 in
theorem checkState34 (c : Case) (s : Stt) (hc : SmallC c) (hs : SmallS s) : FCall Try.prog 34 [caseV c, stV s] (· = .tup [.v (.int .i64 (checkState c s).1), .v (.int .i64 (checkState c s).2)]) := by
  refine ACall.enter [] Cd.fn34 (by simp) ?_
  simp only [caseV, stV, stL]
  simp only [Cd.cd34, Tk.t34, base0, base1, base2, base3, Option.isNone_none, Option.isNone_some, Nat.reduceBEq, true_or, or_true, false_or, or_false, Nat.reduceLT, Nat.reduceMod, Nat.reducePow, rmaps, nsucc, List.flatten_cons, List.flatten_nil, Nat.reduceEqDiff, Nat.reduceLeDiff, Nat.reduceAdd, Nat.reduceMul, Nat.reduceSub, ↓reduceIte, reduceCtorEq, decide_true, decide_false]
  refine (caseErr41 c).go (FZs.one (FZ.caseV c)) ?_
  cases h1 : ((checkCase c).2 == 0)
  · simp only [h1, bne, Cd.cd34, Tk.t34, base0, base1, base2, base3, Option.isNone_none, Option.isNone_some, Nat.reduceBEq, true_or, or_true, false_or, or_false, Nat.reduceLT, Nat.reduceMod, Nat.reducePow, rmaps, nsucc, List.flatten_cons, List.flatten_nil, Nat.reduceEqDiff, Nat.reduceLeDiff, Nat.reduceAdd, Nat.reduceMul, Nat.reduceSub, ↓reduceIte, reduceCtorEq, decide_true, decide_false]
    exact fin_p (checkState1 h1)
  have hsp := hs.p
  have hsh := hs.h
  have hsn := hs.n
  have hok := checkCase_ok.mp (by simpa using h1 : (checkCase c).2 = 0)
  have hv := hok.vl
  cases h2 : ((s.placed.length : Int) == (c.place.length : Int))
  · simp only [h1, h2, plsV, ints, List.length_map, bne, Cd.cd34, Tk.t34, base0, base1, base2, base3, Option.isNone_none, Option.isNone_some, Nat.reduceBEq, true_or, or_true, false_or, or_false, Nat.reduceLT, Nat.reduceMod, Nat.reducePow, rmaps, nsucc, List.flatten_cons, List.flatten_nil, Nat.reduceEqDiff, Nat.reduceLeDiff, Nat.reduceAdd, Nat.reduceMul, Nat.reduceSub, ↓reduceIte, reduceCtorEq, decide_true, decide_false]
    exact fin_p (checkState2 h1 (by rw [h2]; rfl))
  cases h2' : ((s.hosts.length : Int) == c.hosts)
  · simp only [h1, h2, h2', plsV, hssV, ints, List.length_map, bne, Cd.cd34, Tk.t34, base0, base1, base2, base3, Option.isNone_none, Option.isNone_some, Nat.reduceBEq, true_or, or_true, false_or, or_false, Nat.reduceLT, Nat.reduceMod, Nat.reducePow, rmaps, nsucc, List.flatten_cons, List.flatten_nil, Nat.reduceEqDiff, Nat.reduceLeDiff, Nat.reduceAdd, Nat.reduceMul, Nat.reduceSub, ↓reduceIte, reduceCtorEq, decide_true, decide_false]
    exact fin_p (checkState2 h1 (by rw [h2, h2']; rfl))
  have h22 : (((s.placed.length : Int) == (c.place.length : Int)) && ((s.hosts.length : Int) == c.hosts)) = true := by rw [h2, h2']; rfl
  cases h3a : decide ((s.net.length : Int) > 12)
  rotate_left
  · simp only [h1, h2, h2', h3a, plsV, hssV, pksV, ints, List.length_map, bne, Cd.cd34, Tk.t34, base0, base1, base2, base3, Option.isNone_none, Option.isNone_some, Nat.reduceBEq, true_or, or_true, false_or, or_false, Nat.reduceLT, Nat.reduceMod, Nat.reducePow, rmaps, nsucc, List.flatten_cons, List.flatten_nil, Nat.reduceEqDiff, Nat.reduceLeDiff, Nat.reduceAdd, Nat.reduceMul, Nat.reduceSub, ↓reduceIte, reduceCtorEq, decide_true, decide_false]
    exact fin_p (checkState3 h1 h22 (by rw [h3a]; rfl))
  simp only [h1, h2, h2', h3a, plsV, hssV, pksV, ints, List.length_map, bne, Cd.cd34, Tk.t34, base0, base1, base2, base3, Option.isNone_none, Option.isNone_some, Nat.reduceBEq, true_or, or_true, false_or, or_false, Nat.reduceLT, Nat.reduceMod, Nat.reducePow, rmaps, nsucc, List.flatten_cons, List.flatten_nil, Nat.reduceEqDiff, Nat.reduceLeDiff, Nat.reduceAdd, Nat.reduceMul, Nat.reduceSub, ↓reduceIte, reduceCtorEq, decide_true, decide_false]
  refine (containsFunc55 s.hosts 56 [] manyParts hsh FZs.nil (fun x => manyParts56 x)).go (FZs.two (FZ.hssV _) (FZ.fn FZs.nil FZs.nil)) ?_
  cases h3b : s.hosts.any manyParts
  rotate_left
  · simp only [h3b, Cd.cd34, Tk.t34, base0, base1, base2, base3, Option.isNone_none, Option.isNone_some, Nat.reduceBEq, true_or, or_true, false_or, or_false, Nat.reduceLT, Nat.reduceMod, Nat.reducePow, rmaps, nsucc, List.flatten_cons, List.flatten_nil, Nat.reduceEqDiff, Nat.reduceLeDiff, Nat.reduceAdd, Nat.reduceMul, Nat.reduceSub, ↓reduceIte, reduceCtorEq, decide_true, decide_false]
    exact fin_p (checkState3 h1 h22 (by rw [h3a, h3b]; rfl))
  have h4 := checkState4 h1 h22 (by rw [h3a, h3b]; rfl)
  simp only [h3b, plsV, List.length_map, Cd.cd34, Tk.t34, base0, base1, base2, base3, Option.isNone_none, Option.isNone_some, Nat.reduceBEq, true_or, or_true, false_or, or_false, Nat.reduceLT, Nat.reduceMod, Nat.reducePow, rmaps, nsucc, List.flatten_cons, List.flatten_nil, Nat.reduceEqDiff, Nat.reduceLeDiff, Nat.reduceAdd, Nat.reduceMul, Nat.reduceSub, ↓reduceIte, reduceCtorEq, decide_true, decide_false]
  refine LWP.loop [] (fun m f H' => ∃ i, m = s.placed.length - i ∧ (i ≤ s.placed.length) ∧ (∀ j, j < i → (placedEs s j == 0) = true) ∧ f.t 51 = .v (.int .i64 (i : Nat)) ∧ f.t 7 = .v (.int .i64 (worstP (s.placed.take i))) ∧ f.t 50 = .v (.int .i64 s.placed.length) ∧ f.t 49 = plsV s.placed ∧ f.t 3 = .box (stL s) ∧ f.t 2 = .box [.v (.int .i64 c.hosts), ints c.place, ints c.verd] ∧ f.ds = [] ∧ True) ?_ ?_ (m := s.placed.length - (0))
  · exact ⟨0, rfl, (by omega), (fun j hj => by omega), rfl, rfl, rfl, rfl, rfl, rfl, rfl, trivial⟩
  · rintro m f H' ⟨i, rfl, hi, hok2, f51, f7, f50, f49, f3, f2, hds, hH⟩
    by_cases hlt : i < s.placed.length
    · simp only [plsV, List.length_map, ltT hlt, inR hlt, Int.toNat_natCast, getD_map plR _ _ hlt, plR, f51, f7, f50, f49, f3, f2, hds, Cd.cd34, Tk.t34, base0, base1, base2, base3, Option.isNone_none, Option.isNone_some, Nat.reduceBEq, true_or, or_true, false_or, or_false, Nat.reduceLT, Nat.reduceMod, Nat.reducePow, rmaps, nsucc, List.flatten_cons, List.flatten_nil, Nat.reduceEqDiff, Nat.reduceLeDiff, Nat.reduceAdd, Nat.reduceMul, Nat.reduceSub, ↓reduceIte, reduceCtorEq, decide_true, decide_false]
      have hfail : ∀ x, placedEs s i = x → (x == 0) = false → checkState c s = ((i : Int), x) := fun x e he => by
        rw [h4, placedChk_at hlt hok2 (by rw [e]; exact he), e, if_pos (by simpa using he)]
      refine (within54 _ _ _).go (FZs.v3 _ _ _) ?_
      cases e1 : within (s.placed.getD i default).tr 0 3
      · simp only [e1, f51, f7, f50, f49, f3, f2, hds, Cd.cd34, Tk.t34, base0, base1, base2, base3, Option.isNone_none, Option.isNone_some, Nat.reduceBEq, true_or, or_true, false_or, or_false, Nat.reduceLT, Nat.reduceMod, Nat.reducePow, rmaps, nsucc, List.flatten_cons, List.flatten_nil, Nat.reduceEqDiff, Nat.reduceLeDiff, Nat.reduceAdd, Nat.reduceMul, Nat.reduceSub, ↓reduceIte, reduceCtorEq, decide_true, decide_false]
        exact fin_p (hfail 3 (by unfold placedEs placedE; rw [e1]; rfl) rfl)
      simp only [e1, f51, f7, f50, f49, f3, f2, hds, Cd.cd34, Tk.t34, base0, base1, base2, base3, Option.isNone_none, Option.isNone_some, Nat.reduceBEq, true_or, or_true, false_or, or_false, Nat.reduceLT, Nat.reduceMod, Nat.reducePow, rmaps, nsucc, List.flatten_cons, List.flatten_nil, Nat.reduceEqDiff, Nat.reduceLeDiff, Nat.reduceAdd, Nat.reduceMul, Nat.reduceSub, ↓reduceIte, reduceCtorEq, decide_true, decide_false]
      refine (isVerdict51 _).go (FZs.v1 _) ?_
      cases e2 : isVerdict (s.placed.getD i default).v
      · simp only [e2, f51, f7, f50, f49, f3, f2, hds, Cd.cd34, Tk.t34, base0, base1, base2, base3, Option.isNone_none, Option.isNone_some, Nat.reduceBEq, true_or, or_true, false_or, or_false, Nat.reduceLT, Nat.reduceMod, Nat.reducePow, rmaps, nsucc, List.flatten_cons, List.flatten_nil, Nat.reduceEqDiff, Nat.reduceLeDiff, Nat.reduceAdd, Nat.reduceMul, Nat.reduceSub, ↓reduceIte, reduceCtorEq, decide_true, decide_false]
        exact fin_p (hfail 3 (by unfold placedEs placedE; rw [e1, e2]; rfl) rfl)
      have hgo : placedEs s i = 0 → _ := fun e => until_succ hok2 (by rw [e]; rfl)
      cases e3 : (s.placed.getD i default).tk
      · cases e4 : ((s.placed.getD i default).v == 0)
        · simp only [e2, e3, e4, bne, f51, f7, f50, f49, f3, f2, hds, Cd.cd34, Tk.t34, base0, base1, base2, base3, Option.isNone_none, Option.isNone_some, Nat.reduceBEq, true_or, or_true, false_or, or_false, Nat.reduceLT, Nat.reduceMod, Nat.reducePow, rmaps, nsucc, List.flatten_cons, List.flatten_nil, Nat.reduceEqDiff, Nat.reduceLeDiff, Nat.reduceAdd, Nat.reduceMul, Nat.reduceSub, ↓reduceIte, reduceCtorEq, decide_true, decide_false]
          exact fin_p (hfail 28 (by unfold placedEs placedE; rw [e1, e2, e3, e4]; rfl) rfl)
        · simp only [e2, e3, e4, bne, f51, f7, f50, f49, f3, f2, hds, Cd.cd34, Tk.t34, base0, base1, base2, base3, Option.isNone_none, Option.isNone_some, Nat.reduceBEq, true_or, or_true, false_or, or_false, Nat.reduceLT, Nat.reduceMod, Nat.reducePow, rmaps, nsucc, List.flatten_cons, List.flatten_nil, Nat.reduceEqDiff, Nat.reduceLeDiff, Nat.reduceAdd, Nat.reduceMul, Nat.reduceSub, ↓reduceIte, reduceCtorEq, decide_true, decide_false]
          refine ⟨_, by omega, i + 1, rfl, by omega, hgo (by unfold placedEs placedE; rw [e1, e2, e3, e4]; rfl), ?_⟩
          (repeat' apply And.intro) <;> first | rfl | (rw [wrapS (by omega)]) | omega | assumption | (rw [worstP_succ hlt])
      · simp only [e2, e3, f51, f7, f50, f49, f3, f2, hds, Cd.cd34, Tk.t34, base0, base1, base2, base3, Option.isNone_none, Option.isNone_some, Nat.reduceBEq, true_or, or_true, false_or, or_false, Nat.reduceLT, Nat.reduceMod, Nat.reducePow, rmaps, nsucc, List.flatten_cons, List.flatten_nil, Nat.reduceEqDiff, Nat.reduceLeDiff, Nat.reduceAdd, Nat.reduceMul, Nat.reduceSub, ↓reduceIte, reduceCtorEq, decide_true, decide_false]
        refine ⟨_, by omega, i + 1, rfl, by omega, hgo (by unfold placedEs placedE; rw [e1, e2, e3]; rfl), ?_⟩
        (repeat' apply And.intro) <;> first | rfl | (rw [wrapS (by omega)]) | omega | assumption | (rw [worstP_succ hlt])
    have hk : i = s.placed.length := by omega
    subst hk
    rw [List.take_length] at f7
    rw [placedChk_end hok2] at h4
    cases h5 : (worstP s.placed == s.v)
    · simp only [ltF hlt, stL, show (s.v == worstP s.placed) = false from by rw [BEq.comm]; exact h5, bne, f51, f7, f50, f49, f3, f2, hds, Cd.cd34, Tk.t34, base0, base1, base2, base3, Option.isNone_none, Option.isNone_some, Nat.reduceBEq, true_or, or_true, false_or, or_false, Nat.reduceLT, Nat.reduceMod, Nat.reducePow, rmaps, nsucc, List.flatten_cons, List.flatten_nil, Nat.reduceEqDiff, Nat.reduceLeDiff, Nat.reduceAdd, Nat.reduceMul, Nat.reduceSub, ↓reduceIte, reduceCtorEq, decide_true, decide_false]
      exact fin_p (by rw [h4, h5]; rfl)
    rw [h5] at h4
    simp only [if_true] at h4
    rw [if_neg (by decide)] at h4
    simp only [ltF hlt, stL, show (s.v == worstP s.placed) = true from by rw [BEq.comm]; exact h5, hssV, List.length_map, bne, f51, f7, f50, f49, f3, f2, hds, Cd.cd34, Tk.t34, base0, base1, base2, base3, Option.isNone_none, Option.isNone_some, Nat.reduceBEq, true_or, or_true, false_or, or_false, Nat.reduceLT, Nat.reduceMod, Nat.reducePow, rmaps, nsucc, List.flatten_cons, List.flatten_nil, Nat.reduceEqDiff, Nat.reduceLeDiff, Nat.reduceAdd, Nat.reduceMul, Nat.reduceSub, ↓reduceIte, reduceCtorEq, decide_true, decide_false]
    refine LWP.loop [] (fun m f H' => ∃ i, m = s.hosts.length - i ∧ (i ≤ s.hosts.length) ∧ (∀ j, j < i → (hostsE c s j == 0) = true) ∧ f.t 88 = .v (.int .i64 (i : Nat)) ∧ f.t 87 = .v (.int .i64 s.hosts.length) ∧ f.t 86 = hssV s.hosts ∧ f.t 3 = .box (stL s) ∧ f.t 2 = .box [.v (.int .i64 c.hosts), ints c.place, ints c.verd] ∧ f.ds = [] ∧ True) ?_ ?_ (m := s.hosts.length - (0))
    · exact ⟨0, rfl, (by omega), (fun j hj => by omega), (by first | rfl | exact f88), (by first | rfl | exact f87), (by first | rfl | exact f86), (by first | rfl | exact f3), (by first | rfl | exact f2), rfl, trivial⟩
    · rintro m f H' ⟨i, rfl, hi, hok3, f88, f87, f86, f3, f2, hds, hH⟩
      by_cases hlt : i < s.hosts.length
      · have hbp := hs.q' i
        generalize hl : s.hosts.getD i default = h at hbp
        simp only [hssV, List.length_map, ltT hlt, inR hlt, Int.toNat_natCast, getD_map hsR _ _ hlt, hl, hsR, ptsV, f88, f87, f86, f3, f2, hds, Cd.cd34, Tk.t34, base0, base1, base2, base3, Option.isNone_none, Option.isNone_some, Nat.reduceBEq, true_or, or_true, false_or, or_false, Nat.reduceLT, Nat.reduceMod, Nat.reducePow, rmaps, nsucc, List.flatten_cons, List.flatten_nil, Nat.reduceEqDiff, Nat.reduceLeDiff, Nat.reduceAdd, Nat.reduceMul, Nat.reduceSub, ↓reduceIte, reduceCtorEq, decide_true, decide_false]
        obtain ⟨nm, hnm⟩ : ∃ nm, nm = H'.next := ⟨_, rfl⟩
        refine LWP.loop [] (fun m f H' => ∃ k, m = h.parts.length - k ∧ (k ≤ h.parts.length) ∧ (∀ j, j < k → (hostEs c i h.parts j == 0) = true) ∧ f.t 96 = .v (.int .i64 (k : Nat)) ∧ f.t 95 = .v (.int .i64 h.parts.length) ∧ f.t 94 = ptsV h.parts ∧ f.t 88 = .v (.int .i64 (i : Nat)) ∧ f.t 87 = .v (.int .i64 s.hosts.length) ∧ f.t 86 = hssV s.hosts ∧ f.t 11 = .ptr nm 0 ∧ f.t 10 = .v (.int .i64 (i : Nat)) ∧ f.t 3 = .box (stL s) ∧ f.t 2 = .box [.v (.int .i64 c.hosts), ints c.place, ints c.verd] ∧ f.ds = [] ∧ H'.own nm = some (.cells (hsR h)) ∧ nm < H'.next) ?_ ?_ (m := h.parts.length - (0))
        · exact ⟨0, rfl, (by omega), (fun j hj => by omega), (by first | rfl | exact f96), (by first | rfl | exact f95), (by first | rfl | exact f94), (by first | rfl | exact f88), (by first | rfl | exact f87), (by first | rfl | exact f86), by rw [hnm]; rfl, (by first | rfl | exact f10), (by first | rfl | exact f3), (by first | rfl | exact f2), rfl, by simp [hnm, hsR, ptsV]⟩
        · rintro m f H' ⟨k, rfl, hk, hok4, f96, f95, f94, f88, f87, f86, f11, f10, f3, f2, hds, ⟨hH,hnx⟩⟩
          by_cases hlk : k < h.parts.length
          · have hne : (nm = H'.next) = False := by simp; omega
            have hne1 : (nm = H'.next + 1) = False := by simp; omega
            have hkl : (k : Int) ≤ (h.parts.length : Int) := by omega
            simp only [ptsV, List.length_map, ltT hlk, inR hlk, Int.toNat_natCast, getD_map ptR _ _ hlk, ptR, hH, hne, hsR, ← List.map_take, List.drop_zero, hkl, f96, f95, f94, f88, f87, f86, f11, f10, f3, f2, hds, Cd.cd34, Tk.t34, base0, base1, base2, base3, Option.isNone_none, Option.isNone_some, Nat.reduceBEq, true_or, or_true, false_or, or_false, Nat.reduceLT, Nat.reduceMod, Nat.reducePow, rmaps, nsucc, List.flatten_cons, List.flatten_nil, Nat.reduceEqDiff, Nat.reduceLeDiff, Nat.reduceAdd, Nat.reduceMul, Nat.reduceSub, ↓reduceIte, reduceCtorEq, decide_true, decide_false]
            refine (partErr57 c i (h.parts.take k) (h.parts.getD k default) hc.p hv (by rw [List.length_take]; omega)).go' (FZs.four (FZ.caseV c) (FZ.v _) (FZ.ptsV _) (FZ.agg (FZs.ptR _))) ?_
            cases e6 : (hostEs c i h.parts k == 0)
            · simp only [show (partE c i (h.parts.take k) (h.parts.getD k default) == 0) = false from e6, bne, f96, f95, f94, f88, f87, f86, f11, f10, f3, f2, hds, Cd.cd34, Tk.t34, base0, base1, base2, base3, Option.isNone_none, Option.isNone_some, Nat.reduceBEq, true_or, or_true, false_or, or_false, Nat.reduceLT, Nat.reduceMod, Nat.reducePow, rmaps, nsucc, List.flatten_cons, List.flatten_nil, Nat.reduceEqDiff, Nat.reduceLeDiff, Nat.reduceAdd, Nat.reduceMul, Nat.reduceSub, ↓reduceIte, reduceCtorEq, decide_true, decide_false]
              have hhe : hostE c i h.parts = hostEs c i h.parts k := hostE_at hlk hok4 e6
              exact fin_p (by
                have h7 : hostsE c s i = hostEs c i h.parts k := by unfold hostsE; rw [hl]; exact hhe
                rw [h4, firstE_some hlt (by rw [h7]; exact e6) hok3]; exact congrArg (fun x => ((i : Int), x)) h7)
            · simp only [show (partE c i (h.parts.take k) (h.parts.getD k default) == 0) = true from e6, bne, hH, hne, hne1, f96, f95, f94, f88, f87, f86, f11, f10, f3, f2, hds, Cd.cd34, Tk.t34, base0, base1, base2, base3, Option.isNone_none, Option.isNone_some, Nat.reduceBEq, true_or, or_true, false_or, or_false, Nat.reduceLT, Nat.reduceMod, Nat.reducePow, rmaps, nsucc, List.flatten_cons, List.flatten_nil, Nat.reduceEqDiff, Nat.reduceLeDiff, Nat.reduceAdd, Nat.reduceMul, Nat.reduceSub, ↓reduceIte, reduceCtorEq, decide_true, decide_false]
              refine ⟨_, by omega, k + 1, rfl, by omega, until_succ hok4 e6, ?_⟩
              (repeat' apply And.intro) <;> first | rfl | (rw [wrapS (by omega)]) | omega | assumption
          have hk' : k = h.parts.length := by omega
          simp only [ltF hlk, f96, f95, f94, f88, f87, f86, f11, f10, f3, f2, hds, Cd.cd34, Tk.t34, base0, base1, base2, base3, Option.isNone_none, Option.isNone_some, Nat.reduceBEq, true_or, or_true, false_or, or_false, Nat.reduceLT, Nat.reduceMod, Nat.reducePow, rmaps, nsucc, List.flatten_cons, List.flatten_nil, Nat.reduceEqDiff, Nat.reduceLeDiff, Nat.reduceAdd, Nat.reduceMul, Nat.reduceSub, ↓reduceIte, reduceCtorEq, decide_true, decide_false]
          have h7 : hostsE c s i = 0 := by unfold hostsE; rw [hl]; exact hostE_end (by rw [← hk']; exact hok4)
          refine ⟨_, by omega, i + 1, rfl, by omega, until_succ hok3 (by rw [h7]; rfl), ?_⟩
          (repeat' apply And.intro) <;> first | rfl | (rw [wrapS (by omega)]) | omega | assumption
      have hi' : i = s.hosts.length := by omega
      subst hi'
      rw [firstE_none hok3] at h4
      simp only [ltF hlt, stL, pksV, List.length_map, f88, f87, f86, f3, f2, hds, Cd.cd34, Tk.t34, base0, base1, base2, base3, Option.isNone_none, Option.isNone_some, Nat.reduceBEq, true_or, or_true, false_or, or_false, Nat.reduceLT, Nat.reduceMod, Nat.reducePow, rmaps, nsucc, List.flatten_cons, List.flatten_nil, Nat.reduceEqDiff, Nat.reduceLeDiff, Nat.reduceAdd, Nat.reduceMul, Nat.reduceSub, ↓reduceIte, reduceCtorEq, decide_true, decide_false]
      refine LWP.loop [] (fun m f H' => ∃ i, m = s.net.length - i ∧ (i ≤ s.net.length) ∧ (∀ j, j < i → (netE c s j == 0) = true) ∧ f.t 118 = .v (.int .i64 (i : Nat)) ∧ f.t 117 = .v (.int .i64 s.net.length) ∧ f.t 116 = pksV s.net ∧ f.t 2 = .box [.v (.int .i64 c.hosts), ints c.place, ints c.verd] ∧ f.ds = [] ∧ True) ?_ ?_ (m := s.net.length - (0))
      · exact ⟨0, rfl, (by omega), (fun j hj => by omega), (by first | rfl | exact f118), (by first | rfl | exact f117), (by first | rfl | exact f116), (by first | rfl | exact f2), rfl, trivial⟩
      · rintro m f H' ⟨i, rfl, hi, hok5, f118, f117, f116, f2, hds, hH⟩
        by_cases hlt : i < s.net.length
        · simp only [stL, pksV, List.length_map, ltT hlt, inR hlt, Int.toNat_natCast, getD_map pkR _ _ hlt, pkR, f118, f117, f116, f2, hds, Cd.cd34, Tk.t34, base0, base1, base2, base3, Option.isNone_none, Option.isNone_some, Nat.reduceBEq, true_or, or_true, false_or, or_false, Nat.reduceLT, Nat.reduceMod, Nat.reducePow, rmaps, nsucc, List.flatten_cons, List.flatten_nil, Nat.reduceEqDiff, Nat.reduceLeDiff, Nat.reduceAdd, Nat.reduceMul, Nat.reduceSub, ↓reduceIte, reduceCtorEq, decide_true, decide_false]
          refine (packetErr58 c (s.net.getD i default) hc.p hv).go (FZs.two (FZ.caseV c) (FZ.agg (FZs.pkR _))) ?_
          cases h6 : (netE c s i == 0)
          · simp only [show (packetE c (s.net.getD i default) == 0) = false from h6, bne, f118, f117, f116, f2, hds, Cd.cd34, Tk.t34, base0, base1, base2, base3, Option.isNone_none, Option.isNone_some, Nat.reduceBEq, true_or, or_true, false_or, or_false, Nat.reduceLT, Nat.reduceMod, Nat.reducePow, rmaps, nsucc, List.flatten_cons, List.flatten_nil, Nat.reduceEqDiff, Nat.reduceLeDiff, Nat.reduceAdd, Nat.reduceMul, Nat.reduceSub, ↓reduceIte, reduceCtorEq, decide_true, decide_false]
            exact fin_p (by rw [h4, firstE_some hlt h6 hok5]; rfl)
          · simp only [show (packetE c (s.net.getD i default) == 0) = true from h6, bne, f118, f117, f116, f2, hds, Cd.cd34, Tk.t34, base0, base1, base2, base3, Option.isNone_none, Option.isNone_some, Nat.reduceBEq, true_or, or_true, false_or, or_false, Nat.reduceLT, Nat.reduceMod, Nat.reducePow, rmaps, nsucc, List.flatten_cons, List.flatten_nil, Nat.reduceEqDiff, Nat.reduceLeDiff, Nat.reduceAdd, Nat.reduceMul, Nat.reduceSub, ↓reduceIte, reduceCtorEq, decide_true, decide_false]
            refine ⟨_, by omega, i + 1, rfl, by omega, until_succ hok5 h6, ?_⟩
            (repeat' apply And.intro) <;> first | rfl | (rw [wrapS (by omega)]) | omega | assumption
        have hi' : i = s.net.length := by omega
        subst hi'
        rw [firstE_none hok5] at h4
        simp only [ltF hlt, f118, f117, f116, f2, hds, Cd.cd34, Tk.t34, base0, base1, base2, base3, Option.isNone_none, Option.isNone_some, Nat.reduceBEq, true_or, or_true, false_or, or_false, Nat.reduceLT, Nat.reduceMod, Nat.reducePow, rmaps, nsucc, List.flatten_cons, List.flatten_nil, Nat.reduceEqDiff, Nat.reduceLeDiff, Nat.reduceAdd, Nat.reduceMul, Nat.reduceSub, ↓reduceIte, reduceCtorEq, decide_true, decide_false]
        exact fin_p h4

theorem stateErr44 (c : Case) (s : Stt) (hc : SmallC c) (hs : SmallS s) : FCall Try.prog 44 [caseV c, stV s] (· = .v (.int .i64 (checkState c s).2)) := by
  refine ACall.enter [] Cd.fn44 (by simp) ?_
  simp only [caseV, stV, stL]
  simp only [Cd.cd44, Tk.t44, base0, base1, base2, base3, Option.isNone_none, Option.isNone_some, Nat.reduceBEq, true_or, or_true, false_or, or_false, Nat.reduceLT, Nat.reduceMod, Nat.reducePow, rmaps, nsucc, List.flatten_cons, List.flatten_nil, Nat.reduceEqDiff, Nat.reduceLeDiff, Nat.reduceAdd, Nat.reduceMul, Nat.reduceSub, ↓reduceIte, reduceCtorEq, decide_true, decide_false]
  refine (checkState34 c s hc hs).go (FZs.two (FZ.caseV c) (FZ.stV s)) ?_
  simp only [Cd.cd44, Tk.t44, base0, base1, base2, base3, Option.isNone_none, Option.isNone_some, Nat.reduceBEq, true_or, or_true, false_or, or_false, Nat.reduceLT, Nat.reduceMod, Nat.reducePow, rmaps, nsucc, List.flatten_cons, List.flatten_nil, Nat.reduceEqDiff, Nat.reduceLeDiff, Nat.reduceAdd, Nat.reduceMul, Nat.reduceSub, ↓reduceIte, reduceCtorEq, decide_true, decide_false]
  exact fin_v rfl
end Go.Proofs.Ytgmncggiblaciaa

/- Walks: what is possible. -/
namespace Go.Proofs.Ytgmncggiblaciaa
open Go Go.Proofs.Ytgmncggiblaciaa.Ab
set_option maxRecDepth 100000

theorem Valid.small {c : Case} {s : Stt} (h : Valid c s) : SmallS s :=
  ⟨by have := h.lp; have := h.ok.p6; omega, by have := h.lh; have := h.ok.h4; omega, by have := h.ln; omega, fun x hx => by
    obtain ⟨i, hi, rfl⟩ := mem_getD hx
    have := (h.hs i hi).len; have := h.ok.p6; omega⟩

theorem partOn67 (c : Case) (s : Stt) (h : Valid c s) (p : Int) (h0 : 0 ≤ p) (hp : p < (c.place.length : Int)) :
    FCall Try.prog 67 [caseV c, stV s, .v (.int .i64 p)] (· = .v (.int .i64 (ixOf (partAt c s p)))) := by
  refine ACall.enter [] Cd.fn67 (by simp) ?_
  obtain ⟨q1, q2, q3⟩ := h.hostIx h0 hp
  have e1 : 0 ≤ p ∧ p < (c.place.length : Int) := ⟨h0, hp⟩
  have e2 : 0 ≤ c.place.getD p.toNat 0 ∧ c.place.getD p.toNat 0 < (s.hosts.length : Int) := by omega
  simp only [caseV, stV, stL, hssV, ints]
  simp only [List.length_map, e1, getD_ints c.place p.toNat (by omega), e2, getD_map hsR s.hosts _ q2, hsR, Cd.cd67, Tk.t67, base0, base1, base2, base3, Option.isNone_none, Option.isNone_some, Nat.reduceBEq, true_or, or_true, false_or, or_false, Nat.reduceLT, Nat.reduceMod, Nat.reducePow, rmaps, nsucc, List.flatten_cons, List.flatten_nil, Nat.reduceEqDiff, Nat.reduceLeDiff, Nat.reduceAdd, Nat.reduceMul, Nat.reduceSub, ↓reduceIte, reduceCtorEq, decide_true, decide_false]
  have hpa : partAt c s p = partIx (s.hosts.getD (c.place.getD p.toNat 0).toNat default).parts p := rfl
  have hlen := h.small.q' (c.place.getD p.toNat 0).toNat
  rw [hpa]
  generalize hl : (s.hosts.getD (c.place.getD p.toNat 0).toNat default).parts = l at hlen ⊢
  refine LWP.loop [] (fun m f H' => ∃ i, m = l.length - i ∧ (i ≤ l.length) ∧ (∀ j, j < i → ((l.getD j default).part == p) = false) ∧ f.t 8 = .v (.int .i64 (i : Nat)) ∧ f.t 7 = ptsV l ∧ f.t 2 = .v (.int .i64 p) ∧ f.ds = [] ∧ True) ?_ ?_ (m := l.length - (0))
  · exact ⟨0, rfl, (by omega), (fun j hj => by omega), rfl, by rw [← hl]; rfl, rfl, rfl, trivial⟩
  · rintro m f H' ⟨i, rfl, hi, hno, f8, f7, f2, hds, hH⟩
    by_cases hlt : i < l.length
    · simp only [ptsV, List.length_map, ltT hlt, inR hlt, Int.toNat_natCast, getD_map ptR _ _ hlt, ptR, f8, f7, f2, hds, Cd.cd67, Tk.t67, base0, base1, base2, base3, Option.isNone_none, Option.isNone_some, Nat.reduceBEq, true_or, or_true, false_or, or_false, Nat.reduceLT, Nat.reduceMod, Nat.reducePow, rmaps, nsucc, List.flatten_cons, List.flatten_nil, Nat.reduceEqDiff, Nat.reduceLeDiff, Nat.reduceAdd, Nat.reduceMul, Nat.reduceSub, ↓reduceIte, reduceCtorEq, decide_true, decide_false]
      cases hx : ((l.getD i default).part == p)
      · simp only [hx, f8, f7, f2, hds, Cd.cd67, Tk.t67, base0, base1, base2, base3, Option.isNone_none, Option.isNone_some, Nat.reduceBEq, true_or, or_true, false_or, or_false, Nat.reduceLT, Nat.reduceMod, Nat.reducePow, rmaps, nsucc, List.flatten_cons, List.flatten_nil, Nat.reduceEqDiff, Nat.reduceLeDiff, Nat.reduceAdd, Nat.reduceMul, Nat.reduceSub, ↓reduceIte, reduceCtorEq, decide_true, decide_false]
        refine ⟨_, by omega, i + 1, rfl, by omega, until_succ hno hx, ?_⟩
        (repeat' apply And.intro) <;> first | rfl | (rw [wrapS (by omega)]) | omega | assumption
      · simp only [hx, f8, f7, f2, hds, Cd.cd67, Tk.t67, base0, base1, base2, base3, Option.isNone_none, Option.isNone_some, Nat.reduceBEq, true_or, or_true, false_or, or_false, Nat.reduceLT, Nat.reduceMod, Nat.reducePow, rmaps, nsucc, List.flatten_cons, List.flatten_nil, Nat.reduceEqDiff, Nat.reduceLeDiff, Nat.reduceAdd, Nat.reduceMul, Nat.reduceSub, ↓reduceIte, reduceCtorEq, decide_true, decide_false]
        refine fin_v ?_
        rw [show partIx l p = some i from firstIx_some hlt hx hno]; rfl
    · have hi' : i = l.length := by omega
      subst hi'
      simp only [ptsV, List.length_map, ltF hlt, f8, f7, f2, hds, Cd.cd67, Tk.t67, base0, base1, base2, base3, Option.isNone_none, Option.isNone_some, Nat.reduceBEq, true_or, or_true, false_or, or_false, Nat.reduceLT, Nat.reduceMod, Nat.reducePow, rmaps, nsucc, List.flatten_cons, List.flatten_nil, Nat.reduceEqDiff, Nat.reduceLeDiff, Nat.reduceAdd, Nat.reduceMul, Nat.reduceSub, ↓reduceIte, reduceCtorEq, decide_true, decide_false]
      refine fin_v ?_
      rw [show partIx l p = none from firstIx_none hno]; rfl

theorem partAt76 (c : Case) (s : Stt) (h : Valid c s) (p : Int) (h0 : 0 ≤ p) (hp : p < (c.place.length : Int)) :
    FCall Try.prog 76 [caseV c, stV s, .v (.int .i64 p)] (· = .v (.int .i64 (ixOf (partAt c s p)))) := by
  refine ACall.enter [] Cd.fn76 (by simp) ?_
  obtain ⟨q1, q2, q3⟩ := h.hostIx h0 hp
  have e1 : 0 ≤ p ∧ p < (c.place.length : Int) := ⟨h0, hp⟩
  have e2 : 0 ≤ c.place.getD p.toNat 0 ∧ c.place.getD p.toNat 0 < (s.hosts.length : Int) := by omega
  simp only [caseV, stV, stL, hssV, ints]
  simp only [List.length_map, e1, getD_ints c.place p.toNat (by omega), e2, getD_map hsR s.hosts _ q2, hsR, Cd.cd76, Tk.t76, base0, base1, base2, base3, Option.isNone_none, Option.isNone_some, Nat.reduceBEq, true_or, or_true, false_or, or_false, Nat.reduceLT, Nat.reduceMod, Nat.reducePow, rmaps, nsucc, List.flatten_cons, List.flatten_nil, Nat.reduceEqDiff, Nat.reduceLeDiff, Nat.reduceAdd, Nat.reduceMul, Nat.reduceSub, ↓reduceIte, reduceCtorEq, decide_true, decide_false]
  refine (indexFunc83 _ 84 [.box [.v (.int .i64 p)]] (fun x => x.part == p) (h.small.q' _) (FZs.one (FZ.box (FZs.v1 _))) (fun x => atPart84 x p)).go' (FZs.two (FZ.ptsV _) (FZ.fn FZs.nil (FZs.one (FZ.box (FZs.v1 _))))) ?_
  simp only [Cd.cd76, Tk.t76, base0, base1, base2, base3, Option.isNone_none, Option.isNone_some, Nat.reduceBEq, true_or, or_true, false_or, or_false, Nat.reduceLT, Nat.reduceMod, Nat.reducePow, rmaps, nsucc, List.flatten_cons, List.flatten_nil, Nat.reduceEqDiff, Nat.reduceLeDiff, Nat.reduceAdd, Nat.reduceMul, Nat.reduceSub, ↓reduceIte, reduceCtorEq, decide_true, decide_false]
  exact fin_v rfl

theorem possible_eq (c : Case) (s : Stt) (a : Ac) (h1 : (a.kind == 1) = false) (h2 : (a.kind == 2) = false) (h3 : (a.kind == 3) = false) (h6 : (a.kind == 6) = false) : isPossible c s a =
    if !within a.n 0 ((c.place.length : Int) - 1) then false else
  if a.kind == 0 then !(s.placed.getD a.n.toNat default).tk && decide ((s.placed.getD a.n.toNat default).tr < 3) else
  if a.kind == 7 then !(s.placed.getD a.n.toNat default).tk else tellable c s a := by
  unfold isPossible; rw [h1, h2, h3, h6]; rfl
section
variable (c : Case) (s : Stt) (h : Valid c s) (a : Ac)
include h
set_option maxHeartbeats 2000000 in
theorem canAct62 : FCall Try.prog 62 [caseV c, stV s, acV a] (· = .v (.bool (isPossible c s a))) := by
  refine ACall.enter [] Cd.fn62 (by simp) ?_
  have hsm := h.small
  have hlp := h.lp; have hlh := h.lh; have hok := h.ok
  have h4 := hok.h4; have h1' := hok.h1; have hp6 := hok.p6; have hln := h.ln
  have hw1 : IntKind.i64.wrap ((s.net.length : Int) - 1) = (s.net.length : Int) - 1 := wrapI (by omega) (by omega)
  have hw2 : IntKind.i64.wrap (c.hosts - 1) = c.hosts - 1 := wrapI (by omega) (by omega)
  have hw3 : IntKind.i64.wrap ((c.place.length : Int) - 1) = (c.place.length : Int) - 1 := wrapI (by omega) (by omega)
  simp only [caseV, stV, stL, acV, acR]
  cases k1 : (a.kind == 1)
  rotate_left
  · simp only [k1, pksV, List.length_map, hw1, Cd.cd62, Tk.t62, base0, base1, base2, base3, Option.isNone_none, Option.isNone_some, Nat.reduceBEq, true_or, or_true, false_or, or_false, Nat.reduceLT, Nat.reduceMod, Nat.reducePow, rmaps, nsucc, List.flatten_cons, List.flatten_nil, Nat.reduceEqDiff, Nat.reduceLeDiff, Nat.reduceAdd, Nat.reduceMul, Nat.reduceSub, ↓reduceIte, reduceCtorEq, decide_true, decide_false]
    refine (within29 _ _ _).go (FZs.v3 _ _ _) ?_
    simp only [Cd.cd62, Tk.t62, base0, base1, base2, base3, Option.isNone_none, Option.isNone_some, Nat.reduceBEq, true_or, or_true, false_or, or_false, Nat.reduceLT, Nat.reduceMod, Nat.reducePow, rmaps, nsucc, List.flatten_cons, List.flatten_nil, Nat.reduceEqDiff, Nat.reduceLeDiff, Nat.reduceAdd, Nat.reduceMul, Nat.reduceSub, ↓reduceIte, reduceCtorEq, decide_true, decide_false]
    exact fin_v (by unfold isPossible; rw [k1]; rfl)
  cases k2 : (a.kind == 2)
  rotate_left
  · simp only [k1, k2, pksV, List.length_map, hw1, Cd.cd62, Tk.t62, base0, base1, base2, base3, Option.isNone_none, Option.isNone_some, Nat.reduceBEq, true_or, or_true, false_or, or_false, Nat.reduceLT, Nat.reduceMod, Nat.reducePow, rmaps, nsucc, List.flatten_cons, List.flatten_nil, Nat.reduceEqDiff, Nat.reduceLeDiff, Nat.reduceAdd, Nat.reduceMul, Nat.reduceSub, ↓reduceIte, reduceCtorEq, decide_true, decide_false]
    refine (within29 _ _ _).go (FZs.v3 _ _ _) ?_
    simp only [Cd.cd62, Tk.t62, base0, base1, base2, base3, Option.isNone_none, Option.isNone_some, Nat.reduceBEq, true_or, or_true, false_or, or_false, Nat.reduceLT, Nat.reduceMod, Nat.reducePow, rmaps, nsucc, List.flatten_cons, List.flatten_nil, Nat.reduceEqDiff, Nat.reduceLeDiff, Nat.reduceAdd, Nat.reduceMul, Nat.reduceSub, ↓reduceIte, reduceCtorEq, decide_true, decide_false]
    exact fin_v (by unfold isPossible; rw [k1, k2]; rfl)
  cases k3 : (a.kind == 3)
  rotate_left
  · simp only [k1, k2, k3, pksV, List.length_map, hw1, Cd.cd62, Tk.t62, base0, base1, base2, base3, Option.isNone_none, Option.isNone_some, Nat.reduceBEq, true_or, or_true, false_or, or_false, Nat.reduceLT, Nat.reduceMod, Nat.reducePow, rmaps, nsucc, List.flatten_cons, List.flatten_nil, Nat.reduceEqDiff, Nat.reduceLeDiff, Nat.reduceAdd, Nat.reduceMul, Nat.reduceSub, ↓reduceIte, reduceCtorEq, decide_true, decide_false]
    refine (within29 _ _ _).go (FZs.v3 _ _ _) ?_
    cases e : within a.n 0 ((s.net.length : Int) - 1) <;> simp only [e, List.length_map, Cd.cd62, Tk.t62, base0, base1, base2, base3, Option.isNone_none, Option.isNone_some, Nat.reduceBEq, true_or, or_true, false_or, or_false, Nat.reduceLT, Nat.reduceMod, Nat.reducePow, rmaps, nsucc, List.flatten_cons, List.flatten_nil, Nat.reduceEqDiff, Nat.reduceLeDiff, Nat.reduceAdd, Nat.reduceMul, Nat.reduceSub, ↓reduceIte, reduceCtorEq, decide_true, decide_false] <;> exact fin_v (by unfold isPossible; rw [k1, k2, k3, e]; rfl)
  cases k6 : (a.kind == 6)
  rotate_left
  · simp only [k1, k2, k3, k6, List.length_map, hw2, Cd.cd62, Tk.t62, base0, base1, base2, base3, Option.isNone_none, Option.isNone_some, Nat.reduceBEq, true_or, or_true, false_or, or_false, Nat.reduceLT, Nat.reduceMod, Nat.reducePow, rmaps, nsucc, List.flatten_cons, List.flatten_nil, Nat.reduceEqDiff, Nat.reduceLeDiff, Nat.reduceAdd, Nat.reduceMul, Nat.reduceSub, ↓reduceIte, reduceCtorEq, decide_true, decide_false]
    refine (within29 _ _ _).go (FZs.v3 _ _ _) ?_
    cases e : within a.n 0 (c.hosts - 1)
    · simp only [e, Cd.cd62, Tk.t62, base0, base1, base2, base3, Option.isNone_none, Option.isNone_some, Nat.reduceBEq, true_or, or_true, false_or, or_false, Nat.reduceLT, Nat.reduceMod, Nat.reducePow, rmaps, nsucc, List.flatten_cons, List.flatten_nil, Nat.reduceEqDiff, Nat.reduceLeDiff, Nat.reduceAdd, Nat.reduceMul, Nat.reduceSub, ↓reduceIte, reduceCtorEq, decide_true, decide_false]
      exact fin_v (by unfold isPossible; rw [k1, k2, k3, k6, e]; rfl)
    · have w := within_iff.mp e
      have e2 : 0 ≤ a.n ∧ a.n < (s.hosts.length : Int) := by omega
      simp only [e, hssV, List.length_map, e2, getD_map hsR s.hosts a.n.toNat (by omega), hsR, Cd.cd62, Tk.t62, base0, base1, base2, base3, Option.isNone_none, Option.isNone_some, Nat.reduceBEq, true_or, or_true, false_or, or_false, Nat.reduceLT, Nat.reduceMod, Nat.reducePow, rmaps, nsucc, List.flatten_cons, List.flatten_nil, Nat.reduceEqDiff, Nat.reduceLeDiff, Nat.reduceAdd, Nat.reduceMul, Nat.reduceSub, ↓reduceIte, reduceCtorEq, decide_true, decide_false]
      exact fin_v (by unfold isPossible; rw [k1, k2, k3, k6, e]; rfl)
  have hpe := possible_eq c s a k1 k2 k3 k6
  simp only [k1, k2, k3, k6, ints, List.length_map, hw3, Cd.cd62, Tk.t62, base0, base1, base2, base3, Option.isNone_none, Option.isNone_some, Nat.reduceBEq, true_or, or_true, false_or, or_false, Nat.reduceLT, Nat.reduceMod, Nat.reducePow, rmaps, nsucc, List.flatten_cons, List.flatten_nil, Nat.reduceEqDiff, Nat.reduceLeDiff, Nat.reduceAdd, Nat.reduceMul, Nat.reduceSub, ↓reduceIte, reduceCtorEq, decide_true, decide_false]
  refine (within29 _ _ _).go (FZs.v3 _ _ _) ?_
  cases e : within a.n 0 ((c.place.length : Int) - 1)
  · simp only [e, Cd.cd62, Tk.t62, base0, base1, base2, base3, Option.isNone_none, Option.isNone_some, Nat.reduceBEq, true_or, or_true, false_or, or_false, Nat.reduceLT, Nat.reduceMod, Nat.reducePow, rmaps, nsucc, List.flatten_cons, List.flatten_nil, Nat.reduceEqDiff, Nat.reduceLeDiff, Nat.reduceAdd, Nat.reduceMul, Nat.reduceSub, ↓reduceIte, reduceCtorEq, decide_true, decide_false]
    exact fin_v (by rw [hpe, e]; rfl)
  rw [e] at hpe
  have w := within_iff.mp e
  have e2 : 0 ≤ a.n ∧ a.n < (s.placed.length : Int) := by omega
  have e3 : 0 ≤ a.n ∧ a.n < (c.place.length : Int) := by omega
  obtain ⟨q1, q2, q3⟩ := h.hostIx w.1 (by omega)
  have e4 : 0 ≤ c.place.getD a.n.toNat 0 ∧ c.place.getD a.n.toNat 0 < (s.hosts.length : Int) := by omega
  cases k0 : (a.kind == 0)
  rotate_left
  · cases et : (s.placed.getD a.n.toNat default).tk <;> simp only [e, k0, plsV, List.length_map, e2, getD_map plR s.placed a.n.toNat (by omega), plR, et, Cd.cd62, Tk.t62, base0, base1, base2, base3, Option.isNone_none, Option.isNone_some, Nat.reduceBEq, true_or, or_true, false_or, or_false, Nat.reduceLT, Nat.reduceMod, Nat.reducePow, rmaps, nsucc, List.flatten_cons, List.flatten_nil, Nat.reduceEqDiff, Nat.reduceLeDiff, Nat.reduceAdd, Nat.reduceMul, Nat.reduceSub, ↓reduceIte, reduceCtorEq, decide_true, decide_false] <;> exact fin_v (by rw [hpe, k0, et]; rfl)
  cases k7 : (a.kind == 7)
  rotate_left
  · simp only [e, k0, k7, plsV, List.length_map, e2, getD_map plR s.placed a.n.toNat (by omega), plR, Cd.cd62, Tk.t62, base0, base1, base2, base3, Option.isNone_none, Option.isNone_some, Nat.reduceBEq, true_or, or_true, false_or, or_false, Nat.reduceLT, Nat.reduceMod, Nat.reducePow, rmaps, nsucc, List.flatten_cons, List.flatten_nil, Nat.reduceEqDiff, Nat.reduceLeDiff, Nat.reduceAdd, Nat.reduceMul, Nat.reduceSub, ↓reduceIte, reduceCtorEq, decide_true, decide_false]
    exact fin_v (by rw [hpe, k0, k7]; rfl)
  have hpt : isPossible c s a = tellable c s a := by rw [hpe, k0, k7]; rfl
  have hho : hostOf c s a.n = s.hosts.getD (c.place.getD a.n.toNat 0).toNat default := rfl
  simp only [e, k0, k7, ints, hssV, List.length_map, e3, getD_ints c.place a.n.toNat (by omega), e4, getD_map hsR s.hosts _ q2, hsR, Cd.cd62, Tk.t62, base0, base1, base2, base3, Option.isNone_none, Option.isNone_some, Nat.reduceBEq, true_or, or_true, false_or, or_false, Nat.reduceLT, Nat.reduceMod, Nat.reducePow, rmaps, nsucc, List.flatten_cons, List.flatten_nil, Nat.reduceEqDiff, Nat.reduceLeDiff, Nat.reduceAdd, Nat.reduceMul, Nat.reduceSub, ↓reduceIte, reduceCtorEq, decide_true, decide_false]
  refine (partOn67 c s h a.n w.1 (by omega)).go (FZs.three (FZ.caseV c) (FZ.stV s) (FZ.v _)) ?_
  cases ep : partAt c s a.n with
  | none =>
    simp only [ixOf, Cd.cd62, Tk.t62, base0, base1, base2, base3, Option.isNone_none, Option.isNone_some, Nat.reduceBEq, true_or, or_true, false_or, or_false, Nat.reduceLT, Nat.reduceMod, Nat.reducePow, rmaps, nsucc, List.flatten_cons, List.flatten_nil, Nat.reduceEqDiff, Nat.reduceLeDiff, Nat.reduceAdd, Nat.reduceMul, Nat.reduceSub, ↓reduceIte, reduceCtorEq, decide_true, decide_false]
    exact fin_v (by rw [hpt]; unfold tellable; rw [ep])
  | some k =>
    obtain ⟨x1, x2⟩ := partIx_some ep
    rw [hho] at x1
    have ek : (((k : Nat) : Int) == -1) = false := by simp
    have hpt : isPossible c s a = if (hostOf c s a.n).lost then false else if a.kind == 4 then !((hostOf c s a.n).parts.getD k default).ended
        else ((hostOf c s a.n).parts.getD k default).ended && !((hostOf c s a.n).parts.getD k default).seen && decide (((hostOf c s a.n).parts.getD k default).tr < 3) := by
      rw [hpt]; unfold tellable; rw [ep]
    rw [hho] at hpt
    cases el : (s.hosts.getD (c.place.getD a.n.toNat 0).toNat default).lost
    rotate_left
    · simp only [ixOf, ek, el, Cd.cd62, Tk.t62, base0, base1, base2, base3, Option.isNone_none, Option.isNone_some, Nat.reduceBEq, true_or, or_true, false_or, or_false, Nat.reduceLT, Nat.reduceMod, Nat.reducePow, rmaps, nsucc, List.flatten_cons, List.flatten_nil, Nat.reduceEqDiff, Nat.reduceLeDiff, Nat.reduceAdd, Nat.reduceMul, Nat.reduceSub, ↓reduceIte, reduceCtorEq, decide_true, decide_false]
      exact fin_v (by rw [hpt, el]; rfl)
    cases k4 : (a.kind == 4)
    · cases ee : ((s.hosts.getD (c.place.getD a.n.toNat 0).toNat default).parts.getD k default).ended
      · simp only [ixOf, ek, el, k4, ptsV, List.length_map, inR x1, Int.toNat_natCast, getD_map ptR _ _ x1, ptR, ee, Cd.cd62, Tk.t62, base0, base1, base2, base3, Option.isNone_none, Option.isNone_some, Nat.reduceBEq, true_or, or_true, false_or, or_false, Nat.reduceLT, Nat.reduceMod, Nat.reducePow, rmaps, nsucc, List.flatten_cons, List.flatten_nil, Nat.reduceEqDiff, Nat.reduceLeDiff, Nat.reduceAdd, Nat.reduceMul, Nat.reduceSub, ↓reduceIte, reduceCtorEq, decide_true, decide_false]
        exact fin_v (by rw [hpt, el, k4, ee]; rfl)
      · cases es : ((s.hosts.getD (c.place.getD a.n.toNat 0).toNat default).parts.getD k default).seen
        · simp only [ixOf, ek, el, k4, ptsV, List.length_map, inR x1, Int.toNat_natCast, getD_map ptR _ _ x1, ptR, ee, es, Cd.cd62, Tk.t62, base0, base1, base2, base3, Option.isNone_none, Option.isNone_some, Nat.reduceBEq, true_or, or_true, false_or, or_false, Nat.reduceLT, Nat.reduceMod, Nat.reducePow, rmaps, nsucc, List.flatten_cons, List.flatten_nil, Nat.reduceEqDiff, Nat.reduceLeDiff, Nat.reduceAdd, Nat.reduceMul, Nat.reduceSub, ↓reduceIte, reduceCtorEq, decide_true, decide_false]
          exact fin_v (by rw [hpt, el, k4, ee, es]; rfl)
        · simp only [ixOf, ek, el, k4, ptsV, List.length_map, inR x1, Int.toNat_natCast, getD_map ptR _ _ x1, ptR, ee, es, Cd.cd62, Tk.t62, base0, base1, base2, base3, Option.isNone_none, Option.isNone_some, Nat.reduceBEq, true_or, or_true, false_or, or_false, Nat.reduceLT, Nat.reduceMod, Nat.reducePow, rmaps, nsucc, List.flatten_cons, List.flatten_nil, Nat.reduceEqDiff, Nat.reduceLeDiff, Nat.reduceAdd, Nat.reduceMul, Nat.reduceSub, ↓reduceIte, reduceCtorEq, decide_true, decide_false]
          exact fin_v (by rw [hpt, el, k4, ee, es]; rfl)
    · simp only [ixOf, ek, el, k4, ptsV, List.length_map, inR x1, Int.toNat_natCast, getD_map ptR _ _ x1, ptR, Cd.cd62, Tk.t62, base0, base1, base2, base3, Option.isNone_none, Option.isNone_some, Nat.reduceBEq, true_or, or_true, false_or, or_false, Nat.reduceLT, Nat.reduceMod, Nat.reducePow, rmaps, nsucc, List.flatten_cons, List.flatten_nil, Nat.reduceEqDiff, Nat.reduceLeDiff, Nat.reduceAdd, Nat.reduceMul, Nat.reduceSub, ↓reduceIte, reduceCtorEq, decide_true, decide_false]
      exact fin_v (by rw [hpt, el, k4]; rfl)
set_option maxHeartbeats 2000000 in
theorem isPossible50 : FCall Try.prog 50 [caseV c, stV s, acV a] (· = .v (.bool (isPossible c s a))) := by
  refine ACall.enter [] Cd.fn50 (by simp) ?_
  have hsm := h.small
  have hlp := h.lp; have hlh := h.lh; have hok := h.ok
  have h4 := hok.h4; have h1' := hok.h1; have hp6 := hok.p6; have hln := h.ln
  have hw1 : IntKind.i64.wrap ((s.net.length : Int) - 1) = (s.net.length : Int) - 1 := wrapI (by omega) (by omega)
  have hw2 : IntKind.i64.wrap (c.hosts - 1) = c.hosts - 1 := wrapI (by omega) (by omega)
  have hw3 : IntKind.i64.wrap ((c.place.length : Int) - 1) = (c.place.length : Int) - 1 := wrapI (by omega) (by omega)
  simp only [caseV, stV, stL, acV, acR]
  cases k1 : (a.kind == 1)
  rotate_left
  · simp only [k1, pksV, List.length_map, hw1, Cd.cd50, Tk.t50, base0, base1, base2, base3, Option.isNone_none, Option.isNone_some, Nat.reduceBEq, true_or, or_true, false_or, or_false, Nat.reduceLT, Nat.reduceMod, Nat.reducePow, rmaps, nsucc, List.flatten_cons, List.flatten_nil, Nat.reduceEqDiff, Nat.reduceLeDiff, Nat.reduceAdd, Nat.reduceMul, Nat.reduceSub, ↓reduceIte, reduceCtorEq, decide_true, decide_false]
    refine (within54 _ _ _).go (FZs.v3 _ _ _) ?_
    simp only [Cd.cd50, Tk.t50, base0, base1, base2, base3, Option.isNone_none, Option.isNone_some, Nat.reduceBEq, true_or, or_true, false_or, or_false, Nat.reduceLT, Nat.reduceMod, Nat.reducePow, rmaps, nsucc, List.flatten_cons, List.flatten_nil, Nat.reduceEqDiff, Nat.reduceLeDiff, Nat.reduceAdd, Nat.reduceMul, Nat.reduceSub, ↓reduceIte, reduceCtorEq, decide_true, decide_false]
    exact fin_v (by unfold isPossible; rw [k1]; rfl)
  cases k2 : (a.kind == 2)
  rotate_left
  · simp only [k1, k2, pksV, List.length_map, hw1, Cd.cd50, Tk.t50, base0, base1, base2, base3, Option.isNone_none, Option.isNone_some, Nat.reduceBEq, true_or, or_true, false_or, or_false, Nat.reduceLT, Nat.reduceMod, Nat.reducePow, rmaps, nsucc, List.flatten_cons, List.flatten_nil, Nat.reduceEqDiff, Nat.reduceLeDiff, Nat.reduceAdd, Nat.reduceMul, Nat.reduceSub, ↓reduceIte, reduceCtorEq, decide_true, decide_false]
    refine (within54 _ _ _).go (FZs.v3 _ _ _) ?_
    simp only [Cd.cd50, Tk.t50, base0, base1, base2, base3, Option.isNone_none, Option.isNone_some, Nat.reduceBEq, true_or, or_true, false_or, or_false, Nat.reduceLT, Nat.reduceMod, Nat.reducePow, rmaps, nsucc, List.flatten_cons, List.flatten_nil, Nat.reduceEqDiff, Nat.reduceLeDiff, Nat.reduceAdd, Nat.reduceMul, Nat.reduceSub, ↓reduceIte, reduceCtorEq, decide_true, decide_false]
    exact fin_v (by unfold isPossible; rw [k1, k2]; rfl)
  cases k3 : (a.kind == 3)
  rotate_left
  · simp only [k1, k2, k3, pksV, List.length_map, hw1, Cd.cd50, Tk.t50, base0, base1, base2, base3, Option.isNone_none, Option.isNone_some, Nat.reduceBEq, true_or, or_true, false_or, or_false, Nat.reduceLT, Nat.reduceMod, Nat.reducePow, rmaps, nsucc, List.flatten_cons, List.flatten_nil, Nat.reduceEqDiff, Nat.reduceLeDiff, Nat.reduceAdd, Nat.reduceMul, Nat.reduceSub, ↓reduceIte, reduceCtorEq, decide_true, decide_false]
    refine (within54 _ _ _).go (FZs.v3 _ _ _) ?_
    cases e : within a.n 0 ((s.net.length : Int) - 1) <;> simp only [e, List.length_map, Cd.cd50, Tk.t50, base0, base1, base2, base3, Option.isNone_none, Option.isNone_some, Nat.reduceBEq, true_or, or_true, false_or, or_false, Nat.reduceLT, Nat.reduceMod, Nat.reducePow, rmaps, nsucc, List.flatten_cons, List.flatten_nil, Nat.reduceEqDiff, Nat.reduceLeDiff, Nat.reduceAdd, Nat.reduceMul, Nat.reduceSub, ↓reduceIte, reduceCtorEq, decide_true, decide_false] <;> exact fin_v (by unfold isPossible; rw [k1, k2, k3, e]; rfl)
  cases k6 : (a.kind == 6)
  rotate_left
  · simp only [k1, k2, k3, k6, List.length_map, hw2, Cd.cd50, Tk.t50, base0, base1, base2, base3, Option.isNone_none, Option.isNone_some, Nat.reduceBEq, true_or, or_true, false_or, or_false, Nat.reduceLT, Nat.reduceMod, Nat.reducePow, rmaps, nsucc, List.flatten_cons, List.flatten_nil, Nat.reduceEqDiff, Nat.reduceLeDiff, Nat.reduceAdd, Nat.reduceMul, Nat.reduceSub, ↓reduceIte, reduceCtorEq, decide_true, decide_false]
    refine (within54 _ _ _).go (FZs.v3 _ _ _) ?_
    cases e : within a.n 0 (c.hosts - 1)
    · simp only [e, Cd.cd50, Tk.t50, base0, base1, base2, base3, Option.isNone_none, Option.isNone_some, Nat.reduceBEq, true_or, or_true, false_or, or_false, Nat.reduceLT, Nat.reduceMod, Nat.reducePow, rmaps, nsucc, List.flatten_cons, List.flatten_nil, Nat.reduceEqDiff, Nat.reduceLeDiff, Nat.reduceAdd, Nat.reduceMul, Nat.reduceSub, ↓reduceIte, reduceCtorEq, decide_true, decide_false]
      exact fin_v (by unfold isPossible; rw [k1, k2, k3, k6, e]; rfl)
    · have w := within_iff.mp e
      have e2 : 0 ≤ a.n ∧ a.n < (s.hosts.length : Int) := by omega
      simp only [e, hssV, List.length_map, e2, getD_map hsR s.hosts a.n.toNat (by omega), hsR, Cd.cd50, Tk.t50, base0, base1, base2, base3, Option.isNone_none, Option.isNone_some, Nat.reduceBEq, true_or, or_true, false_or, or_false, Nat.reduceLT, Nat.reduceMod, Nat.reducePow, rmaps, nsucc, List.flatten_cons, List.flatten_nil, Nat.reduceEqDiff, Nat.reduceLeDiff, Nat.reduceAdd, Nat.reduceMul, Nat.reduceSub, ↓reduceIte, reduceCtorEq, decide_true, decide_false]
      exact fin_v (by unfold isPossible; rw [k1, k2, k3, k6, e]; rfl)
  have hpe := possible_eq c s a k1 k2 k3 k6
  simp only [k1, k2, k3, k6, ints, List.length_map, hw3, Cd.cd50, Tk.t50, base0, base1, base2, base3, Option.isNone_none, Option.isNone_some, Nat.reduceBEq, true_or, or_true, false_or, or_false, Nat.reduceLT, Nat.reduceMod, Nat.reducePow, rmaps, nsucc, List.flatten_cons, List.flatten_nil, Nat.reduceEqDiff, Nat.reduceLeDiff, Nat.reduceAdd, Nat.reduceMul, Nat.reduceSub, ↓reduceIte, reduceCtorEq, decide_true, decide_false]
  refine (within54 _ _ _).go (FZs.v3 _ _ _) ?_
  cases e : within a.n 0 ((c.place.length : Int) - 1)
  · simp only [e, Cd.cd50, Tk.t50, base0, base1, base2, base3, Option.isNone_none, Option.isNone_some, Nat.reduceBEq, true_or, or_true, false_or, or_false, Nat.reduceLT, Nat.reduceMod, Nat.reducePow, rmaps, nsucc, List.flatten_cons, List.flatten_nil, Nat.reduceEqDiff, Nat.reduceLeDiff, Nat.reduceAdd, Nat.reduceMul, Nat.reduceSub, ↓reduceIte, reduceCtorEq, decide_true, decide_false]
    exact fin_v (by rw [hpe, e]; rfl)
  rw [e] at hpe
  have w := within_iff.mp e
  have e2 : 0 ≤ a.n ∧ a.n < (s.placed.length : Int) := by omega
  have e3 : 0 ≤ a.n ∧ a.n < (c.place.length : Int) := by omega
  obtain ⟨q1, q2, q3⟩ := h.hostIx w.1 (by omega)
  have e4 : 0 ≤ c.place.getD a.n.toNat 0 ∧ c.place.getD a.n.toNat 0 < (s.hosts.length : Int) := by omega
  cases k0 : (a.kind == 0)
  rotate_left
  · cases et : (s.placed.getD a.n.toNat default).tk <;> simp only [e, k0, plsV, List.length_map, e2, getD_map plR s.placed a.n.toNat (by omega), plR, et, Cd.cd50, Tk.t50, base0, base1, base2, base3, Option.isNone_none, Option.isNone_some, Nat.reduceBEq, true_or, or_true, false_or, or_false, Nat.reduceLT, Nat.reduceMod, Nat.reducePow, rmaps, nsucc, List.flatten_cons, List.flatten_nil, Nat.reduceEqDiff, Nat.reduceLeDiff, Nat.reduceAdd, Nat.reduceMul, Nat.reduceSub, ↓reduceIte, reduceCtorEq, decide_true, decide_false] <;> exact fin_v (by rw [hpe, k0, et]; rfl)
  cases k7 : (a.kind == 7)
  rotate_left
  · simp only [e, k0, k7, plsV, List.length_map, e2, getD_map plR s.placed a.n.toNat (by omega), plR, Cd.cd50, Tk.t50, base0, base1, base2, base3, Option.isNone_none, Option.isNone_some, Nat.reduceBEq, true_or, or_true, false_or, or_false, Nat.reduceLT, Nat.reduceMod, Nat.reducePow, rmaps, nsucc, List.flatten_cons, List.flatten_nil, Nat.reduceEqDiff, Nat.reduceLeDiff, Nat.reduceAdd, Nat.reduceMul, Nat.reduceSub, ↓reduceIte, reduceCtorEq, decide_true, decide_false]
    exact fin_v (by rw [hpe, k0, k7]; rfl)
  have hpt : isPossible c s a = tellable c s a := by rw [hpe, k0, k7]; rfl
  have hho : hostOf c s a.n = s.hosts.getD (c.place.getD a.n.toNat 0).toNat default := rfl
  simp only [e, k0, k7, ints, plsV, e2, getD_map plR s.placed a.n.toNat (by omega), plR, hssV, List.length_map, e3, getD_ints c.place a.n.toNat (by omega), e4, getD_map hsR s.hosts _ q2, hsR, Cd.cd50, Tk.t50, base0, base1, base2, base3, Option.isNone_none, Option.isNone_some, Nat.reduceBEq, true_or, or_true, false_or, or_false, Nat.reduceLT, Nat.reduceMod, Nat.reducePow, rmaps, nsucc, List.flatten_cons, List.flatten_nil, Nat.reduceEqDiff, Nat.reduceLeDiff, Nat.reduceAdd, Nat.reduceMul, Nat.reduceSub, ↓reduceIte, reduceCtorEq, decide_true, decide_false]
  refine (partAt76 c s h a.n w.1 (by omega)).go (FZs.three (FZ.caseV c) (FZ.stV s) (FZ.v _)) ?_
  cases ep : partAt c s a.n with
  | none =>
    simp only [ixOf, Cd.cd50, Tk.t50, base0, base1, base2, base3, Option.isNone_none, Option.isNone_some, Nat.reduceBEq, true_or, or_true, false_or, or_false, Nat.reduceLT, Nat.reduceMod, Nat.reducePow, rmaps, nsucc, List.flatten_cons, List.flatten_nil, Nat.reduceEqDiff, Nat.reduceLeDiff, Nat.reduceAdd, Nat.reduceMul, Nat.reduceSub, ↓reduceIte, reduceCtorEq, decide_true, decide_false]
    exact fin_v (by rw [hpt]; unfold tellable; rw [ep])
  | some k =>
    obtain ⟨x1, x2⟩ := partIx_some ep
    rw [hho] at x1
    have ek : decide (((k : Nat) : Int) < 0) = false := decide_eq_false (by omega)
    have hpt : isPossible c s a = if (hostOf c s a.n).lost then false else if a.kind == 4 then !((hostOf c s a.n).parts.getD k default).ended
        else ((hostOf c s a.n).parts.getD k default).ended && !((hostOf c s a.n).parts.getD k default).seen && decide (((hostOf c s a.n).parts.getD k default).tr < 3) := by
      rw [hpt]; unfold tellable; rw [ep]
    rw [hho] at hpt
    cases el : (s.hosts.getD (c.place.getD a.n.toNat 0).toNat default).lost
    rotate_left
    · simp only [ixOf, ek, el, Cd.cd50, Tk.t50, base0, base1, base2, base3, Option.isNone_none, Option.isNone_some, Nat.reduceBEq, true_or, or_true, false_or, or_false, Nat.reduceLT, Nat.reduceMod, Nat.reducePow, rmaps, nsucc, List.flatten_cons, List.flatten_nil, Nat.reduceEqDiff, Nat.reduceLeDiff, Nat.reduceAdd, Nat.reduceMul, Nat.reduceSub, ↓reduceIte, reduceCtorEq, decide_true, decide_false]
      exact fin_v (by rw [hpt, el]; rfl)
    cases k4 : (a.kind == 4)
    · cases ee : ((s.hosts.getD (c.place.getD a.n.toNat 0).toNat default).parts.getD k default).ended
      · simp only [ixOf, ek, el, k4, ptsV, List.length_map, inR x1, Int.toNat_natCast, getD_map ptR _ _ x1, ptR, ee, Cd.cd50, Tk.t50, base0, base1, base2, base3, Option.isNone_none, Option.isNone_some, Nat.reduceBEq, true_or, or_true, false_or, or_false, Nat.reduceLT, Nat.reduceMod, Nat.reducePow, rmaps, nsucc, List.flatten_cons, List.flatten_nil, Nat.reduceEqDiff, Nat.reduceLeDiff, Nat.reduceAdd, Nat.reduceMul, Nat.reduceSub, ↓reduceIte, reduceCtorEq, decide_true, decide_false]
        exact fin_v (by rw [hpt, el, k4, ee]; rfl)
      · cases es : ((s.hosts.getD (c.place.getD a.n.toNat 0).toNat default).parts.getD k default).seen
        · simp only [ixOf, ek, el, k4, ptsV, List.length_map, inR x1, Int.toNat_natCast, getD_map ptR _ _ x1, ptR, ee, es, Cd.cd50, Tk.t50, base0, base1, base2, base3, Option.isNone_none, Option.isNone_some, Nat.reduceBEq, true_or, or_true, false_or, or_false, Nat.reduceLT, Nat.reduceMod, Nat.reducePow, rmaps, nsucc, List.flatten_cons, List.flatten_nil, Nat.reduceEqDiff, Nat.reduceLeDiff, Nat.reduceAdd, Nat.reduceMul, Nat.reduceSub, ↓reduceIte, reduceCtorEq, decide_true, decide_false]
          exact fin_v (by rw [hpt, el, k4, ee, es]; rfl)
        · simp only [ixOf, ek, el, k4, ptsV, List.length_map, inR x1, Int.toNat_natCast, getD_map ptR _ _ x1, ptR, ee, es, Cd.cd50, Tk.t50, base0, base1, base2, base3, Option.isNone_none, Option.isNone_some, Nat.reduceBEq, true_or, or_true, false_or, or_false, Nat.reduceLT, Nat.reduceMod, Nat.reducePow, rmaps, nsucc, List.flatten_cons, List.flatten_nil, Nat.reduceEqDiff, Nat.reduceLeDiff, Nat.reduceAdd, Nat.reduceMul, Nat.reduceSub, ↓reduceIte, reduceCtorEq, decide_true, decide_false]
          exact fin_v (by rw [hpt, el, k4, ee, es]; rfl)
    · simp only [ixOf, ek, el, k4, ptsV, List.length_map, inR x1, Int.toNat_natCast, getD_map ptR _ _ x1, ptR, Cd.cd50, Tk.t50, base0, base1, base2, base3, Option.isNone_none, Option.isNone_some, Nat.reduceBEq, true_or, or_true, false_or, or_false, Nat.reduceLT, Nat.reduceMod, Nat.reducePow, rmaps, nsucc, List.flatten_cons, List.flatten_nil, Nat.reduceEqDiff, Nat.reduceLeDiff, Nat.reduceAdd, Nat.reduceMul, Nat.reduceSub, ↓reduceIte, reduceCtorEq, decide_true, decide_false]
      exact fin_v (by rw [hpt, el, k4]; rfl)
end
end Go.Proofs.Ytgmncggiblaciaa

/- Walks: acts that are possible. -/
namespace Go.Proofs.Ytgmncggiblaciaa
open Go Go.Proofs.Ytgmncggiblaciaa.Ab
set_option maxRecDepth 100000

theorem actErr37 (c : Case) (s : Stt) (h : Valid c s) (a : Ac) : FCall Try.prog 37 [caseV c, stV s, acV a] (· = .v (.int .i64 (actE c s a))) := by
  refine ACall.enter [] Cd.fn37 (by simp) ?_
  simp only [caseV, stV, stL, acV, acR]
  simp only [Cd.cd37, Tk.t37, base0, base1, base2, base3, Option.isNone_none, Option.isNone_some, Nat.reduceBEq, true_or, or_true, false_or, or_false, Nat.reduceLT, Nat.reduceMod, Nat.reducePow, rmaps, nsucc, List.flatten_cons, List.flatten_nil, Nat.reduceEqDiff, Nat.reduceLeDiff, Nat.reduceAdd, Nat.reduceMul, Nat.reduceSub, ↓reduceIte, reduceCtorEq, decide_true, decide_false]
  refine (within29 _ _ _).go (FZs.v3 _ _ _) ?_
  cases e1 : within a.kind 0 7
  · simp only [e1, Cd.cd37, Tk.t37, base0, base1, base2, base3, Option.isNone_none, Option.isNone_some, Nat.reduceBEq, true_or, or_true, false_or, or_false, Nat.reduceLT, Nat.reduceMod, Nat.reducePow, rmaps, nsucc, List.flatten_cons, List.flatten_nil, Nat.reduceEqDiff, Nat.reduceLeDiff, Nat.reduceAdd, Nat.reduceMul, Nat.reduceSub, ↓reduceIte, reduceCtorEq, decide_true, decide_false]
    exact fin_v (by unfold actE; rw [e1]; rfl)
  simp only [e1, Cd.cd37, Tk.t37, base0, base1, base2, base3, Option.isNone_none, Option.isNone_some, Nat.reduceBEq, true_or, or_true, false_or, or_false, Nat.reduceLT, Nat.reduceMod, Nat.reducePow, rmaps, nsucc, List.flatten_cons, List.flatten_nil, Nat.reduceEqDiff, Nat.reduceLeDiff, Nat.reduceAdd, Nat.reduceMul, Nat.reduceSub, ↓reduceIte, reduceCtorEq, decide_true, decide_false]
  refine (canAct62 c s h a).go (FZs.three (FZ.caseV c) (FZ.stV s) (FZ.acV a)) ?_
  simp only [Cd.cd37, Tk.t37, base0, base1, base2, base3, Option.isNone_none, Option.isNone_some, Nat.reduceBEq, true_or, or_true, false_or, or_false, Nat.reduceLT, Nat.reduceMod, Nat.reducePow, rmaps, nsucc, List.flatten_cons, List.flatten_nil, Nat.reduceEqDiff, Nat.reduceLeDiff, Nat.reduceAdd, Nat.reduceMul, Nat.reduceSub, ↓reduceIte, reduceCtorEq, decide_true, decide_false]
  refine (count63 _).go (FZs.v1 _) ?_
  cases e2 : isPossible c s a <;> simp only [Cd.cd37, Tk.t37, base0, base1, base2, base3, Option.isNone_none, Option.isNone_some, Nat.reduceBEq, true_or, or_true, false_or, or_false, Nat.reduceLT, Nat.reduceMod, Nat.reducePow, rmaps, nsucc, List.flatten_cons, List.flatten_nil, Nat.reduceEqDiff, Nat.reduceLeDiff, Nat.reduceAdd, Nat.reduceMul, Nat.reduceSub, ↓reduceIte, reduceCtorEq, decide_true, decide_false] <;> exact fin_v (by unfold actE; rw [e1, e2]; rfl)
theorem actErr45 (c : Case) (s : Stt) (h : Valid c s) (a : Ac) : FCall Try.prog 45 [caseV c, stV s, acV a] (· = .v (.int .i64 (actE c s a))) := by
  refine ACall.enter [] Cd.fn45 (by simp) ?_
  simp only [caseV, stV, stL, acV, acR]
  simp only [Cd.cd45, Tk.t45, base0, base1, base2, base3, Option.isNone_none, Option.isNone_some, Nat.reduceBEq, true_or, or_true, false_or, or_false, Nat.reduceLT, Nat.reduceMod, Nat.reducePow, rmaps, nsucc, List.flatten_cons, List.flatten_nil, Nat.reduceEqDiff, Nat.reduceLeDiff, Nat.reduceAdd, Nat.reduceMul, Nat.reduceSub, ↓reduceIte, reduceCtorEq, decide_true, decide_false]
  refine (within54 _ _ _).go (FZs.v3 _ _ _) ?_
  cases e1 : within a.kind 0 7
  · simp only [e1, Cd.cd45, Tk.t45, base0, base1, base2, base3, Option.isNone_none, Option.isNone_some, Nat.reduceBEq, true_or, or_true, false_or, or_false, Nat.reduceLT, Nat.reduceMod, Nat.reducePow, rmaps, nsucc, List.flatten_cons, List.flatten_nil, Nat.reduceEqDiff, Nat.reduceLeDiff, Nat.reduceAdd, Nat.reduceMul, Nat.reduceSub, ↓reduceIte, reduceCtorEq, decide_true, decide_false]
    exact fin_v (by unfold actE; rw [e1]; rfl)
  simp only [e1, Cd.cd45, Tk.t45, base0, base1, base2, base3, Option.isNone_none, Option.isNone_some, Nat.reduceBEq, true_or, or_true, false_or, or_false, Nat.reduceLT, Nat.reduceMod, Nat.reducePow, rmaps, nsucc, List.flatten_cons, List.flatten_nil, Nat.reduceEqDiff, Nat.reduceLeDiff, Nat.reduceAdd, Nat.reduceMul, Nat.reduceSub, ↓reduceIte, reduceCtorEq, decide_true, decide_false]
  refine (isPossible50 c s h a).go (FZs.three (FZ.caseV c) (FZ.stV s) (FZ.acV a)) ?_
  cases e2 : isPossible c s a <;> simp only [e2, Cd.cd45, Tk.t45, base0, base1, base2, base3, Option.isNone_none, Option.isNone_some, Nat.reduceBEq, true_or, or_true, false_or, or_false, Nat.reduceLT, Nat.reduceMod, Nat.reducePow, rmaps, nsucc, List.flatten_cons, List.flatten_nil, Nat.reduceEqDiff, Nat.reduceLeDiff, Nat.reduceAdd, Nat.reduceMul, Nat.reduceSub, ↓reduceIte, reduceCtorEq, decide_true, decide_false] <;> exact fin_v (by unfold actE; rw [e1, e2]; rfl)

/-! lists of acts -/
def actsK (c : Case) (s : Stt) (m k : Nat) : List Ac := ((List.range m).map fun n : Nat => (⟨k, n⟩ : Ac)).filter (isPossible c s)
def actsOf (c : Case) (s : Stt) (m : Nat) : List Ac := (List.range 8).flatMap (actsK c s m)
theorem actsK_succ (c : Case) (s : Stt) (m k : Nat) : actsK c s (m + 1) k = actsK c s m k ++ (if isPossible c s ⟨k, m⟩ then [⟨k, m⟩] else []) := by
  unfold actsK
  rw [List.range_succ, List.map_append, List.filter_append]
  congr 1
  simp only [List.map_cons, List.map_nil, List.filter_cons, List.filter_nil]
theorem flatMap_succ {α : Type} (f : Nat → List α) (k : Nat) : (List.range (k + 1)).flatMap f = (List.range k).flatMap f ++ f k := by
  rw [List.range_succ, List.flatMap_append]; simp
theorem room1 {b n : Nat} (h : b * (n + 1) ≤ 140737488355328) (h' : n + 1 ≤ 140737488355328) : roomA b (n + 1) = true := by
  unfold roomA; rw [Nat.mul_comm]; simp [h, h']

theorem actsK_le (c : Case) (s : Stt) (m k : Nat) : (actsK c s m k).length ≤ m := by
  unfold actsK; exact Nat.le_trans (List.length_filter_le _ _) (by simp)
theorem actsTo_le (c : Case) (s : Stt) (m : Nat) : ∀ k, ((List.range k).flatMap (actsK c s m)).length ≤ k * m
  | 0 => by simp
  | k + 1 => by
    rw [flatMap_succ, List.length_append, Nat.add_mul]
    have := actsTo_le c s m k; have := actsK_le c s m k; omega

set_option maxHeartbeats 1000000 in
theorem acts36 (c : Case) (s : Stt) (h : Valid c s) : FCall Try.prog 36 [caseV c, stV s] (· = acsV (actsOf c s 12)) := by
  refine ACall.enter [] Cd.fn36 (by simp) ?_
  simp only [caseV, stV, stL]
  simp only [Cd.cd36, Tk.t36, base0, base1, base2, base3, Option.isNone_none, Option.isNone_some, Nat.reduceBEq, true_or, or_true, false_or, or_false, Nat.reduceLT, Nat.reduceMod, Nat.reducePow, rmaps, nsucc, List.flatten_cons, List.flatten_nil, Nat.reduceEqDiff, Nat.reduceLeDiff, Nat.reduceAdd, Nat.reduceMul, Nat.reduceSub, ↓reduceIte, reduceCtorEq, decide_true, decide_false]
  refine LWP.loop [] (fun m f H' => ∃ k, m = 8 - k ∧ (k ≤ 8) ∧ f.t 6 = .v (.int .i64 (k : Nat)) ∧ f.t 3 = .box (stL s) ∧ f.t 2 = .box [.v (.int .i64 c.hosts), ints c.place, ints c.verd] ∧ f.ds = [] ∧ GrowE acR 2 H' (f.t 5) ((List.range k).flatMap (actsK c s 12))) ?_ ?_ (m := 8 - (0))
  · exact ⟨0, rfl, (by omega), rfl, rfl, rfl, rfl, GrowE.nil⟩
  · rintro m f H' ⟨k, rfl, hk, f6, f3, f2, hds, hG⟩
    by_cases hlt : k < 8
    · have e8 : decide ((k : Int) < 8) = true := by simp; omega
      simp only [e8, f6, f3, f2, hds, Cd.cd36, Tk.t36, base0, base1, base2, base3, Option.isNone_none, Option.isNone_some, Nat.reduceBEq, true_or, or_true, false_or, or_false, Nat.reduceLT, Nat.reduceMod, Nat.reducePow, rmaps, nsucc, List.flatten_cons, List.flatten_nil, Nat.reduceEqDiff, Nat.reduceLeDiff, Nat.reduceAdd, Nat.reduceMul, Nat.reduceSub, ↓reduceIte, reduceCtorEq, decide_true, decide_false]
      refine LWP.loop [] (fun m f H' => ∃ n, m = 12 - n ∧ (n ≤ 12) ∧ f.t 7 = .v (.int .i64 (n : Nat)) ∧ f.t 6 = .v (.int .i64 (k : Nat)) ∧ f.t 3 = .box (stL s) ∧ f.t 2 = .box [.v (.int .i64 c.hosts), ints c.place, ints c.verd] ∧ f.ds = [] ∧ GrowE acR 2 H' (f.t 5) ((List.range k).flatMap (actsK c s 12) ++ actsK c s n k)) ?_ ?_ (m := 12 - (0))
      · exact ⟨0, rfl, (by omega), (by first | rfl | exact f7), (by first | rfl | exact f6), (by first | rfl | exact f3), (by first | rfl | exact f2), rfl, by rw [show actsK c s 0 k = [] from rfl, List.append_nil]; exact hG⟩
      · rintro m f H' ⟨n, rfl, hn, f7, f6, f3, f2, hds, hG⟩
        by_cases hn12 : n < 12
        · have e12 : decide ((n : Int) < 12) = true := by simp; omega
          simp only [e12, stL, f7, f6, f3, f2, hds, Cd.cd36, Tk.t36, base0, base1, base2, base3, Option.isNone_none, Option.isNone_some, Nat.reduceBEq, true_or, or_true, false_or, or_false, Nat.reduceLT, Nat.reduceMod, Nat.reducePow, rmaps, nsucc, List.flatten_cons, List.flatten_nil, Nat.reduceEqDiff, Nat.reduceLeDiff, Nat.reduceAdd, Nat.reduceMul, Nat.reduceSub, ↓reduceIte, reduceCtorEq, decide_true, decide_false]
          refine (canAct62 c s h ⟨k, n⟩).go (FZs.three (FZ.caseV c) (FZ.stV s) (FZ.acV _)) ?_
          have hl := actsTo_le c s 12 k
          have hl2 := actsK_le c s n k
          have hsucc := actsK_succ c s n k
          cases ep : isPossible c s ⟨k, n⟩
          · rw [ep] at hsucc
            simp only [Bool.false_eq_true, if_false, List.append_nil] at hsucc
            simp only [ep, f7, f6, f3, f2, hds, Cd.cd36, Tk.t36, base0, base1, base2, base3, Option.isNone_none, Option.isNone_some, Nat.reduceBEq, true_or, or_true, false_or, or_false, Nat.reduceLT, Nat.reduceMod, Nat.reducePow, rmaps, nsucc, List.flatten_cons, List.flatten_nil, Nat.reduceEqDiff, Nat.reduceLeDiff, Nat.reduceAdd, Nat.reduceMul, Nat.reduceSub, ↓reduceIte, reduceCtorEq, decide_true, decide_false]
            refine ⟨_, by omega, n + 1, rfl, by omega, ?_⟩
            (repeat' apply And.intro) <;> first | rfl | (rw [wrapS (by omega)]) | omega | assumption | (rw [hsucc]; exact hG)
          · rw [ep] at hsucc
            simp only [if_true] at hsucc
            generalize hL : (List.range k).flatMap (actsK c s 12) ++ actsK c s n k = L at hG
            have hLl : L.length ≤ 108 := by rw [← hL, List.length_append]; omega
            have hL2 : (List.range k).flatMap (actsK c s 12) ++ actsK c s (n + 1) k = L ++ [⟨k, n⟩] := by rw [hsucc, ← List.append_assoc, hL]
            rcases hG with ⟨rfl, f5⟩ | ⟨t, f5, ht⟩
            · simp only [ep, f5, show roomA 16 1 = true from rfl, f7, f6, f3, f2, hds, Cd.cd36, Tk.t36, base0, base1, base2, base3, Option.isNone_none, Option.isNone_some, Nat.reduceBEq, true_or, or_true, false_or, or_false, Nat.reduceLT, Nat.reduceMod, Nat.reducePow, rmaps, nsucc, List.flatten_cons, List.flatten_nil, Nat.reduceEqDiff, Nat.reduceLeDiff, Nat.reduceAdd, Nat.reduceMul, Nat.reduceSub, ↓reduceIte, reduceCtorEq, decide_true, decide_false]
              refine ⟨_, by omega, n + 1, rfl, by omega, ?_⟩
              (repeat' apply And.intro) <;> first | rfl | (rw [wrapS (by omega)]) | omega | assumption | (rw [hL2]; exact GrowE.live rfl (by simp))
            · simp only [ep, f5, ht, List.length_map, room1 (b := 16) (n := L.length) (by omega) (by omega), f7, f6, f3, f2, hds, Cd.cd36, Tk.t36, base0, base1, base2, base3, Option.isNone_none, Option.isNone_some, Nat.reduceBEq, true_or, or_true, false_or, or_false, Nat.reduceLT, Nat.reduceMod, Nat.reducePow, rmaps, nsucc, List.flatten_cons, List.flatten_nil, Nat.reduceEqDiff, Nat.reduceLeDiff, Nat.reduceAdd, Nat.reduceMul, Nat.reduceSub, ↓reduceIte, reduceCtorEq, decide_true, decide_false]
              refine ⟨_, by omega, n + 1, rfl, by omega, ?_⟩
              (repeat' apply And.intro) <;> first | rfl | (rw [wrapS (by omega)]) | omega | assumption | (rw [hL2]; exact GrowE.live (by simp [acR]) (by simp))
        have hn' : n = 12 := by omega
        subst hn'
        simp only [show decide (((12 : Nat) : Int) < 12) = false from rfl, f7, f6, f3, f2, hds, Cd.cd36, Tk.t36, base0, base1, base2, base3, Option.isNone_none, Option.isNone_some, Nat.reduceBEq, true_or, or_true, false_or, or_false, Nat.reduceLT, Nat.reduceMod, Nat.reducePow, rmaps, nsucc, List.flatten_cons, List.flatten_nil, Nat.reduceEqDiff, Nat.reduceLeDiff, Nat.reduceAdd, Nat.reduceMul, Nat.reduceSub, ↓reduceIte, reduceCtorEq, decide_true, decide_false]
        refine ⟨_, by omega, k + 1, rfl, by omega, ?_⟩
        (repeat' apply And.intro) <;> first | rfl | (rw [wrapS (by omega)]) | omega | assumption | (rw [flatMap_succ]; exact hG)
    have hk' : k = 8 := by omega
    subst hk'
    simp only [show decide (((8 : Nat) : Int) < 8) = false from rfl, f6, f3, f2, hds, Cd.cd36, Tk.t36, base0, base1, base2, base3, Option.isNone_none, Option.isNone_some, Nat.reduceBEq, true_or, or_true, false_or, or_false, Nat.reduceLT, Nat.reduceMod, Nat.reducePow, rmaps, nsucc, List.flatten_cons, List.flatten_nil, Nat.reduceEqDiff, Nat.reduceLeDiff, Nat.reduceAdd, Nat.reduceMul, Nat.reduceSub, ↓reduceIte, reduceCtorEq, decide_true, decide_false]
    exact ⟨_, _, rfl, hG.view FZs.acR, FZ.acsV _, rfl⟩

theorem possible_lt {c : Case} {s : Stt} (h : Valid c s) {k n m : Nat} (hm1 : s.net.length ≤ m) (hm2 : c.place.length ≤ m) (hm3 : s.hosts.length ≤ m) (hn : m ≤ n) : isPossible c s ⟨k, n⟩ = false := by
  have hlh := h.lh
  have f : ∀ b : Int, b ≤ (n : Int) → within (n : Int) 0 (b - 1) = false := fun b hb => by
    cases e : within (n : Int) 0 (b - 1) with
    | false => rfl
    | true => have := within_iff.mp e; omega
  unfold isPossible
  simp only [f (s.net.length : Int) (by omega), f c.hosts (by omega), f (c.place.length : Int) (by omega), Bool.false_and, Bool.not_false, if_true]
  split
  · rfl
  split
  · rfl
  split <;> rfl
theorem filter_range_le {α : Type} (f : Nat → α) (p : α → Bool) {b : Nat} (hp : ∀ n, b ≤ n → p (f n) = false) : ∀ d, ((List.range (b + d)).map f).filter p = ((List.range b).map f).filter p
  | 0 => rfl
  | d + 1 => by
    rw [← Nat.add_assoc, List.range_succ, List.map_append, List.filter_append, filter_range_le f p hp d]
    simp [hp (b + d) (by omega)]
theorem actsOf_eq {c : Case} {s : Stt} (h : Valid c s) {m m' : Nat} (hm1 : s.net.length ≤ m) (hm2 : c.place.length ≤ m) (hm3 : s.hosts.length ≤ m) (hle : m ≤ m') : actsOf c s m' = actsOf c s m := by
  unfold actsOf
  congr 1
  funext k
  unfold actsK
  obtain ⟨d, rfl⟩ : ∃ d, m' = m + d := ⟨m' - m, by omega⟩
  exact filter_range_le _ _ (fun n hn => possible_lt h hm1 hm2 hm3 hn) d
def mostN (c : Case) (s : Stt) : Nat := max (max s.net.length c.place.length) s.hosts.length
theorem actsOf_12 {c : Case} {s : Stt} (h : Valid c s) : actsOf c s (mostN c s) = actsOf c s 12 := by
  have := h.ln; have := h.ok.p6; have := h.lh; have := h.ok.h4
  exact (actsOf_eq h (m := mostN c s) (m' := 12) (by unfold mostN; omega) (by unfold mostN; omega) (by unfold mostN; omega) (by unfold mostN; omega)).symm

set_option maxHeartbeats 1000000 in
theorem actsIn20 (c : Case) (s : Stt) (hc : SmallC c) (hs : SmallS s) : FCall Try.prog 20 [caseV c, stV s] (· = if (checkState c s).2 = 0 then .tup [acsV (actsOf c s 12), .v (.int .i64 0)] else .tup [acsV [], .v (.int .i64 (checkState c s).2)]) := by
  refine ACall.enter [] Cd.fn20 (by simp) ?_
  simp only [caseV, stV, stL]
  simp only [Cd.cd20, Tk.t20, base0, base1, base2, base3, Option.isNone_none, Option.isNone_some, Nat.reduceBEq, true_or, or_true, false_or, or_false, Nat.reduceLT, Nat.reduceMod, Nat.reducePow, rmaps, nsucc, List.flatten_cons, List.flatten_nil, Nat.reduceEqDiff, Nat.reduceLeDiff, Nat.reduceAdd, Nat.reduceMul, Nat.reduceSub, ↓reduceIte, reduceCtorEq, decide_true, decide_false]
  refine (stateErr44 c s hc hs).go (FZs.two (FZ.caseV c) (FZ.stV s)) ?_
  cases e1 : ((checkState c s).2 == 0)
  · simp only [e1, bne, Cd.cd20, Tk.t20, base0, base1, base2, base3, Option.isNone_none, Option.isNone_some, Nat.reduceBEq, true_or, or_true, false_or, or_false, Nat.reduceLT, Nat.reduceMod, Nat.reducePow, rmaps, nsucc, List.flatten_cons, List.flatten_nil, Nat.reduceEqDiff, Nat.reduceLeDiff, Nat.reduceAdd, Nat.reduceMul, Nat.reduceSub, ↓reduceIte, reduceCtorEq, decide_true, decide_false]
    refine ⟨_, .tup [acsV [], .v (.int .i64 (checkState c s).2)], rfl, Views.tup (Views.cons (View.nil 2) (Views.cons (FZ.v _).view Views.nil)), FZ.tup (FZs.two (FZ.acsV _) (FZ.v _)), ?_⟩
    rw [if_neg (by simpa using e1)]
  have h0 : (checkState c s).2 = 0 := by simpa using e1
  have h := checkState_ok.mp h0
  rw [if_pos h0]
  have hln := h.ln; have hp6 := h.ok.p6; have hlh := h.lh; have hh4 := h.ok.h4; have hh1 := h.ok.h1
  simp only [e1, bne, Cd.cd20, Tk.t20, base0, base1, base2, base3, Option.isNone_none, Option.isNone_some, Nat.reduceBEq, true_or, or_true, false_or, or_false, Nat.reduceLT, Nat.reduceMod, Nat.reducePow, rmaps, nsucc, List.flatten_cons, List.flatten_nil, Nat.reduceEqDiff, Nat.reduceLeDiff, Nat.reduceAdd, Nat.reduceMul, Nat.reduceSub, ↓reduceIte, reduceCtorEq, decide_true, decide_false]
  refine LWP.loop [] (fun m f H' => ∃ k, m = 8 - k ∧ (k ≤ 8) ∧ f.t 17 = .v (.int .i64 (k : Nat)) ∧ f.t 3 = .box (stL s) ∧ f.t 2 = .box [.v (.int .i64 c.hosts), ints c.place, ints c.verd] ∧ f.ds = [] ∧ GrowE acR 2 H' (f.t 7) ((List.range k).flatMap (actsK c s (mostN c s)))) ?_ ?_ (m := 8 - (0))
  · exact ⟨0, rfl, (by omega), rfl, rfl, rfl, rfl, GrowE.nil⟩
  · rintro m f H' ⟨k, rfl, hk, f17, f3, f2, hds, hG⟩
    by_cases hlt : k < 8
    · have e8 : decide ((k : Int) < 8) = true := by simp; omega
      have em : (if c.hosts > (if (c.place.length : Int) > (s.net.length : Int) then (c.place.length : Int) else (s.net.length : Int)) then c.hosts else (if (c.place.length : Int) > (s.net.length : Int) then (c.place.length : Int) else (s.net.length : Int))) = ((mostN c s : Nat) : Int) := by
        unfold mostN; split <;> split at * <;> omega
      simp only [e8, stL, pksV, ints, List.length_map, em, f17, f3, f2, hds, Cd.cd20, Tk.t20, base0, base1, base2, base3, Option.isNone_none, Option.isNone_some, Nat.reduceBEq, true_or, or_true, false_or, or_false, Nat.reduceLT, Nat.reduceMod, Nat.reducePow, rmaps, nsucc, List.flatten_cons, List.flatten_nil, Nat.reduceEqDiff, Nat.reduceLeDiff, Nat.reduceAdd, Nat.reduceMul, Nat.reduceSub, ↓reduceIte, reduceCtorEq, decide_true, decide_false]
      refine LWP.loop [] (fun m f H' => ∃ n, m = mostN c s - n ∧ (n ≤ mostN c s) ∧ f.t 29 = .v (.int .i64 (n : Nat)) ∧ f.t 28 = .v (.int .i64 (mostN c s : Nat)) ∧ f.t 17 = .v (.int .i64 (k : Nat)) ∧ f.t 8 = .v (.int .i64 (k : Nat)) ∧ f.t 3 = .box (stL s) ∧ f.t 2 = .box [.v (.int .i64 c.hosts), ints c.place, ints c.verd] ∧ f.ds = [] ∧ GrowE acR 2 H' (f.t 7) ((List.range k).flatMap (actsK c s (mostN c s)) ++ actsK c s n k)) ?_ ?_ (m := mostN c s - (0))
      · exact ⟨0, rfl, (by omega), (by first | rfl | exact f29), (by first | rfl | exact f28), (by first | rfl | exact f17), (by first | rfl | exact f8), (by first | rfl | exact f3), (by first | rfl | exact f2), rfl, by rw [show actsK c s 0 k = [] from rfl, List.append_nil]; exact hG⟩
      · rintro m f H' ⟨n, rfl, hn, f29, f28, f17, f8, f3, f2, hds, hG⟩
        have hm12 : mostN c s ≤ 12 := by unfold mostN; omega
        by_cases hn12 : n < mostN c s
        · simp only [ltT hn12, stL, f29, f28, f17, f8, f3, f2, hds, Cd.cd20, Tk.t20, base0, base1, base2, base3, Option.isNone_none, Option.isNone_some, Nat.reduceBEq, true_or, or_true, false_or, or_false, Nat.reduceLT, Nat.reduceMod, Nat.reducePow, rmaps, nsucc, List.flatten_cons, List.flatten_nil, Nat.reduceEqDiff, Nat.reduceLeDiff, Nat.reduceAdd, Nat.reduceMul, Nat.reduceSub, ↓reduceIte, reduceCtorEq, decide_true, decide_false]
          refine (isPossible50 c s h ⟨k, n⟩).go (FZs.three (FZ.caseV c) (FZ.stV s) (FZ.acV _)) ?_
          have hl := actsTo_le c s (mostN c s) k
          have hkm : k * mostN c s ≤ 8 * 12 := Nat.mul_le_mul (by omega) hm12
          have hl2 := actsK_le c s n k
          have hsucc := actsK_succ c s n k
          cases ep : isPossible c s ⟨k, n⟩
          · rw [ep] at hsucc
            simp only [Bool.false_eq_true, if_false, List.append_nil] at hsucc
            simp only [ep, f29, f28, f17, f8, f3, f2, hds, Cd.cd20, Tk.t20, base0, base1, base2, base3, Option.isNone_none, Option.isNone_some, Nat.reduceBEq, true_or, or_true, false_or, or_false, Nat.reduceLT, Nat.reduceMod, Nat.reducePow, rmaps, nsucc, List.flatten_cons, List.flatten_nil, Nat.reduceEqDiff, Nat.reduceLeDiff, Nat.reduceAdd, Nat.reduceMul, Nat.reduceSub, ↓reduceIte, reduceCtorEq, decide_true, decide_false]
            refine ⟨_, by omega, n + 1, rfl, by omega, ?_⟩
            (repeat' apply And.intro) <;> first | rfl | (rw [wrapS (by omega)]) | omega | assumption | (rw [hsucc]; exact hG)
          · rw [ep] at hsucc
            simp only [if_true] at hsucc
            generalize hL : (List.range k).flatMap (actsK c s (mostN c s)) ++ actsK c s n k = L at hG
            have hLl : L.length ≤ 108 := by rw [← hL, List.length_append]; omega
            have hL2 : (List.range k).flatMap (actsK c s (mostN c s)) ++ actsK c s (n + 1) k = L ++ [⟨k, n⟩] := by rw [hsucc, ← List.append_assoc, hL]
            rcases hG with ⟨rfl, f5⟩ | ⟨t, f5, ht⟩
            · simp only [ep, f5, show roomA 16 1 = true from rfl, f29, f28, f17, f8, f3, f2, hds, Cd.cd20, Tk.t20, base0, base1, base2, base3, Option.isNone_none, Option.isNone_some, Nat.reduceBEq, true_or, or_true, false_or, or_false, Nat.reduceLT, Nat.reduceMod, Nat.reducePow, rmaps, nsucc, List.flatten_cons, List.flatten_nil, Nat.reduceEqDiff, Nat.reduceLeDiff, Nat.reduceAdd, Nat.reduceMul, Nat.reduceSub, ↓reduceIte, reduceCtorEq, decide_true, decide_false]
              refine ⟨_, by omega, n + 1, rfl, by omega, ?_⟩
              (repeat' apply And.intro) <;> first | rfl | (rw [wrapS (by omega)]) | omega | assumption | (rw [hL2]; exact GrowE.live rfl (by simp))
            · simp only [ep, f5, ht, List.length_map, room1 (b := 16) (n := L.length) (by omega) (by omega), f29, f28, f17, f8, f3, f2, hds, Cd.cd20, Tk.t20, base0, base1, base2, base3, Option.isNone_none, Option.isNone_some, Nat.reduceBEq, true_or, or_true, false_or, or_false, Nat.reduceLT, Nat.reduceMod, Nat.reducePow, rmaps, nsucc, List.flatten_cons, List.flatten_nil, Nat.reduceEqDiff, Nat.reduceLeDiff, Nat.reduceAdd, Nat.reduceMul, Nat.reduceSub, ↓reduceIte, reduceCtorEq, decide_true, decide_false]
              refine ⟨_, by omega, n + 1, rfl, by omega, ?_⟩
              (repeat' apply And.intro) <;> first | rfl | (rw [wrapS (by omega)]) | omega | assumption | (rw [hL2]; exact GrowE.live (by simp [acR]) (by simp))
        have hn' : n = mostN c s := by omega
        simp only [ltF hn12, f29, f28, f17, f8, f3, f2, hds, Cd.cd20, Tk.t20, base0, base1, base2, base3, Option.isNone_none, Option.isNone_some, Nat.reduceBEq, true_or, or_true, false_or, or_false, Nat.reduceLT, Nat.reduceMod, Nat.reducePow, rmaps, nsucc, List.flatten_cons, List.flatten_nil, Nat.reduceEqDiff, Nat.reduceLeDiff, Nat.reduceAdd, Nat.reduceMul, Nat.reduceSub, ↓reduceIte, reduceCtorEq, decide_true, decide_false]
        refine ⟨_, by omega, k + 1, rfl, by omega, ?_⟩
        (repeat' apply And.intro) <;> first | rfl | (rw [wrapS (by omega)]) | omega | assumption | (rw [flatMap_succ]; rw [← hn'] at hG ⊢; exact hG)
    have hk' : k = 8 := by omega
    subst hk'
    simp only [show decide (((8 : Nat) : Int) < 8) = false from rfl, f17, f3, f2, hds, Cd.cd20, Tk.t20, base0, base1, base2, base3, Option.isNone_none, Option.isNone_some, Nat.reduceBEq, true_or, or_true, false_or, or_false, Nat.reduceLT, Nat.reduceMod, Nat.reducePow, rmaps, nsucc, List.flatten_cons, List.flatten_nil, Nat.reduceEqDiff, Nat.reduceLeDiff, Nat.reduceAdd, Nat.reduceMul, Nat.reduceSub, ↓reduceIte, reduceCtorEq, decide_true, decide_false]
    refine ⟨_, .tup [acsV (actsOf c s (mostN c s)), .v (.int .i64 0)], rfl, Views.tup (Views.cons (hG.view FZs.acR) (Views.cons (FZ.v _).view Views.nil)), FZ.tup (FZs.two (FZ.acsV _) (FZ.v _)), ?_⟩
    rw [actsOf_12 h]
end Go.Proofs.Ytgmncggiblaciaa

/- States that the program owns: where their parts lie. -/
namespace Go.Proofs.Ytgmncggiblaciaa
open Go Go.Proofs.Ytgmncggiblaciaa.Ab

structure OH where
  lost : Bool
  a : AV
  parts : List Pt
instance : Inhabited OH := ⟨⟨false, nilS, []⟩⟩
def hsO (x : OH) : List AV := [.v (.bool x.lost), x.a]
def OH.hs (x : OH) : Hs := ⟨x.lost, x.parts⟩
theorem plR_len (x : Pl) : (plR x).length = 4 := rfl
theorem ptR_len (x : Pt) : (ptR x).length = 5 := rfl
theorem pkR_len (x : Pk) : (pkR x).length = 4 := rfl
theorem hsO_len (x : OH) : (hsO x).length = 2 := rfl
def stO (s : Stt) (p h : Nat) (aq : AV) (o : List OH) : List AV := [.sl 4 p 0 s.placed.length, .v (.int .i64 s.v), .sl 2 h 0 o.length, aq]
structure OwnS (H : AH) (s : Stt) (p h : Nat) (aq : AV) (o : List OH) : Prop where
  hp : H.own p = some (.cells (flatE plR s.placed))
  hh : H.own h = some (.cells (flatE hsO o))
  eq : s.hosts = o.map OH.hs
  q : Arr pkR 4 H aq s.net
  m : ∀ x ∈ o, Arr ptR 5 H x.a x.parts
  ph : p ≠ h
  dq : ∀ n, nmA aq = some n → n ≠ p ∧ n ≠ h
  dm : ∀ x ∈ o, ∀ n, nmA x.a = some n → n ≠ p ∧ n ≠ h ∧ nmA aq ≠ some n
  dd : ∀ i j, i < o.length → j < o.length → i ≠ j → ∀ n, nmA (o.getD i default).a = some n → nmA (o.getD j default).a ≠ some n
/-- the names of a state -/
def NmS (p h : Nat) (aq : AV) (o : List OH) (n : Nat) : Prop := n = p ∨ n = h ∨ nmA aq = some n ∨ ∃ x ∈ o, nmA x.a = some n
def runL (c : List AV) (s : Stt) (p h : Nat) (aq : AV) (o : List OH) : List AV := c ++ stO s p h aq o
def caseL (c : Case) : List AV := [.v (.int .i64 c.hosts), ints c.place, ints c.verd]
/-- a state in a block, behind other cells -/
structure OwnX (B : Nat) (H : AH) (r : Nat) (c : List AV) (s : Stt) (p h : Nat) (aq : AV) (o : List OH) : Prop where
  rb : H.own r = some (.cells (runL c s p h aq o))
  st : OwnS H s p h aq o
  nr : ∀ n, NmS p h aq o n → n ≠ r ∧ B ≤ n ∧ n < H.next
  br : B ≤ r ∧ r < H.next
def OwnR (B : Nat) (H : AH) (r : Nat) (c : Case) (s : Stt) : Prop := ∃ p h aq o, OwnX B H r (caseL c) s p h aq o
/-- what lies below a number stays -/
structure Fr (B : Nat) (H H' : AH) : Prop where
  tip : H'.tip = H.tip
  next : H.next ≤ H'.next
  own : ∀ n, n < B → H'.own n = H.own n
theorem Fr.refl (B : Nat) (H : AH) : Fr B H H := ⟨rfl, Nat.le_refl _, fun _ _ => rfl⟩
theorem Fr.trans {B : Nat} {H H1 H2 : AH} (h : Fr B H H1) (h' : Fr B H1 H2) : Fr B H H2 := ⟨h'.tip.trans h.tip, Nat.le_trans h.next h'.next, fun n hn => (h'.own n hn).trans (h.own n hn)⟩

section
variable {B : Nat} {H H' : AH} {r : Nat} {c : List AV} {s : Stt} {p h : Nat} {aq : AV} {o : List OH}
theorem OwnX.np (x : OwnX B H r c s p h aq o) : p ≠ r ∧ B ≤ p ∧ p < H.next := x.nr p (.inl rfl)
theorem OwnX.nh (x : OwnX B H r c s p h aq o) : h ≠ r ∧ B ≤ h ∧ h < H.next := x.nr h (.inr (.inl rfl))
theorem OwnX.nq (x : OwnX B H r c s p h aq o) {n : Nat} (hn : nmA aq = some n) : n ≠ r ∧ B ≤ n ∧ n < H.next := x.nr n (.inr (.inr (.inl hn)))
theorem OwnX.no (x : OwnX B H r c s p h aq o) {y : OH} (hy : y ∈ o) {n : Nat} (hn : nmA y.a = some n) : n ≠ r ∧ B ≤ n ∧ n < H.next := x.nr n (.inr (.inr (.inr ⟨y, hy, hn⟩)))

/-- other packets -/
theorem OwnX.net (x : OwnX B H r c s p h aq o) {aq' : AV} {l : List Pk} (hx : H.next ≤ H'.next) (hr : H'.own r = some (.cells (runL c s p h aq' o))) (hq : Arr pkR 4 H' aq' l)
    (hn : nmA aq' = nmA aq ∨ (nmA aq' = some H.next ∧ H.next < H'.next)) (hk : ∀ m, m < H.next → m ≠ r → nmA aq ≠ some m → H'.own m = H.own m) :
    OwnX B H' r c { s with net := l } p h aq' o := by
  have hb := x.br
  have hne : ∀ n, NmS p h aq o n → nmA aq ≠ some n → H'.own n = H.own n := fun n hm h' => hk n (x.nr n hm).2.2 (x.nr n hm).1 h'
  refine ⟨hr, ⟨?_, ?_, x.st.eq, hq, fun y hy => (x.st.m y hy).mono fun n hn' => ?_, x.st.ph, fun n hn' => ?_, fun y hy n hn' => ?_, x.st.dd⟩, fun n hn' => ?_, ⟨hb.1, by omega⟩⟩
  · rw [hne p (.inl rfl) fun e => (x.st.dq _ e).1 rfl]; exact x.st.hp
  · rw [hne h (.inr (.inl rfl)) fun e => (x.st.dq _ e).2 rfl]; exact x.st.hh
  · exact hne n (.inr (.inr (.inr ⟨y, hy, hn'⟩))) (x.st.dm y hy n hn').2.2
  · rcases hn with hn | ⟨hn, _⟩
    · exact x.st.dq n (hn ▸ hn')
    · rw [hn] at hn'; cases hn'
      have := x.np; have := x.nh; omega
  · have h1 := x.st.dm y hy n hn'
    refine ⟨h1.1, h1.2.1, fun e => ?_⟩
    rcases hn with hn | ⟨hn, _⟩
    · rw [hn] at e; exact h1.2.2 e
    · rw [hn] at e; cases e
      have := x.no hy hn'; omega
  · rcases hn' with rfl | rfl | hn' | ⟨y, hy, hn'⟩
    · have := x.np; omega
    · have := x.nh; omega
    · rcases hn with hn | ⟨hn, hlt⟩
      · rw [hn] at hn'; have := x.nq hn'; omega
      · rw [hn] at hn'; cases hn'; omega
    · have := x.no hy hn'; omega

/-- other knowledge of the controller -/
theorem OwnX.placed (x : OwnX B H r c s p h aq o) {l : List Pl} {v : Int} (hx : H.next ≤ H'.next) (hl : l.length = s.placed.length) (hr : H'.own r = some (.cells (runL c { s with v := v } p h aq o))) (hp : H'.own p = some (.cells (flatE plR l)))
    (hk : ∀ m, m < H.next → m ≠ r → m ≠ p → H'.own m = H.own m) : OwnX B H' r c { s with placed := l, v := v } p h aq o := by
  have hb := x.br
  have hne : ∀ n, NmS p h aq o n → n ≠ p → H'.own n = H.own n := fun n hm h' => hk n (x.nr n hm).2.2 (x.nr n hm).1 h'
  refine ⟨by rw [hr]; simp only [runL, stO, hl], ⟨hp, ?_, x.st.eq, x.st.q.mono fun n hn' => ?_, fun y hy => (x.st.m y hy).mono fun n hn' => ?_, x.st.ph, x.st.dq, x.st.dm, x.st.dd⟩, fun n hn' => ?_, ⟨hb.1, by omega⟩⟩
  · rw [hne h (.inr (.inl rfl)) (Ne.symm x.st.ph)]; exact x.st.hh
  · exact hne n (.inr (.inr (.inl hn'))) (x.st.dq n hn').1
  · exact hne n (.inr (.inr (.inr ⟨y, hy, hn'⟩))) (x.st.dm y hy n hn').1
  · have := x.nr n hn'; omega

/-- another host -/
theorem OwnX.host (x : OwnX B H r c s p h aq o) {i : Nat} {y : OH} (hi : i < o.length) (hx : H.next ≤ H'.next) (hr : H'.own r = H.own r) (hh : H'.own h = some (.cells (flatE hsO (o.set i y)))) (hy : Arr ptR 5 H' y.a y.parts)
    (hn : nmA y.a = nmA (o.getD i default).a ∨ (nmA y.a = some H.next ∧ H.next < H'.next)) (hk : ∀ m, m < H.next → m ≠ h → nmA (o.getD i default).a ≠ some m → H'.own m = H.own m) :
    OwnX B H' r c { s with hosts := s.hosts.set i y.hs } p h aq (o.set i y) := by
  have hb := x.br
  have hmem : o.getD i default ∈ o := getD_mem hi
  have hold : ∀ n, nmA (o.getD i default).a = some n → NmS p h aq o n := fun n hn' => .inr (.inr (.inr ⟨_, hmem, hn'⟩))
  have hne : ∀ n, NmS p h aq o n → n ≠ h → nmA (o.getD i default).a ≠ some n → H'.own n = H.own n := fun n hm h' h'' => hk n (x.nr n hm).2.2 h' h''
  have hnew : ∀ n, nmA y.a = some n → nmA (o.getD i default).a = some n ∨ n = H.next := fun n hn' => by
    rcases hn with hn | ⟨hn, _⟩
    · exact .inl (hn ▸ hn')
    · rw [hn] at hn'; cases hn'; exact .inr rfl
  refine ⟨?_, ⟨?_, hh, ?_, x.st.q.mono fun n hn' => ?_, fun z hz => ?_, x.st.ph, x.st.dq, fun z hz n hn' => ?_, fun a b ha hb' hab n hn' => ?_⟩, fun n hn' => ?_, ⟨hb.1, by omega⟩⟩
  · rw [hr, x.rb]; simp only [runL, stO, List.length_set]
  · rw [hne p (.inl rfl) x.st.ph fun e => (x.st.dm _ hmem _ e).1 rfl]; exact x.st.hp
  · show s.hosts.set i y.hs = _
    rw [x.st.eq, List.map_set]
  · exact hne n (.inr (.inr (.inl hn'))) (x.st.dq n hn').2 fun e => (x.st.dm _ hmem _ e).2.2 hn'
  · obtain ⟨j, hj, rfl⟩ := mem_getD hz
    rw [List.length_set] at hj
    rw [getD_set hi]
    by_cases e : i = j
    · rw [if_pos e]; exact hy
    · rw [if_neg e]
      have hzj : o.getD j default ∈ o := getD_mem hj
      exact (x.st.m _ hzj).mono fun n hn' => hne n (.inr (.inr (.inr ⟨_, hzj, hn'⟩))) (x.st.dm _ hzj n hn').2.1 (x.st.dd j i hj hi (Ne.symm e) n hn')
  · obtain ⟨j, hj, rfl⟩ := mem_getD hz
    rw [List.length_set] at hj
    rw [getD_set hi] at hn'
    by_cases e : i = j
    · rw [if_pos e] at hn'
      rcases hnew n hn' with h1 | rfl
      · exact x.st.dm _ hmem n h1
      · exact ⟨by have := x.np; omega, by have := x.nh; omega, fun e => by have := x.nq e; omega⟩
    · rw [if_neg e] at hn'; exact x.st.dm _ (getD_mem hj) n hn'
  · rw [List.length_set] at ha hb'
    rw [getD_set hi] at hn' ⊢
    by_cases e1 : i = a <;> by_cases e2 : i = b
    · omega
    · rw [if_pos e1] at hn'; rw [if_neg e2]
      rcases hnew n hn' with h1 | rfl
      · exact x.st.dd i b hi hb' e2 n h1
      · intro e; have := x.no (getD_mem hb') e; omega
    · rw [if_neg e1] at hn'; rw [if_pos e2]
      intro e
      rcases hnew n e with h1 | rfl
      · exact x.st.dd i a hi ha e1 n h1 hn'
      · have := x.no (getD_mem ha) hn'; omega
    · rw [if_neg e1] at hn'; rw [if_neg e2]; exact x.st.dd a b ha hb' hab n hn'
  · rcases hn' with rfl | rfl | hn' | ⟨z, hz, hn'⟩
    · have := x.np; omega
    · have := x.nh; omega
    · have := x.nq hn'; omega
    · obtain ⟨j, hj, rfl⟩ := mem_getD hz
      rw [List.length_set] at hj
      rw [getD_set hi] at hn'
      by_cases e : i = j
      · rw [if_pos e] at hn'
        rcases hn with hn | ⟨hn, hlt⟩
        · rw [hn] at hn'; have := x.no hmem hn'; omega
        · rw [hn] at hn'; cases hn'; omega
      · rw [if_neg e] at hn'; have := x.no (getD_mem hj) hn'; omega

/-- what a state of the program's own reads as -/
theorem OwnS.view (x : OwnS H s p h aq o) : Views H (stO s p h aq o) (stL s) := by
  refine Views.cons ?_ (Views.cons (FZ.v _).view (Views.cons ?_ (Views.cons (x.q.view pkR_len FZs.pkR) Views.nil)))
  · exact (show Arr plR 4 H (.sl 4 p 0 s.placed.length) s.placed from .inr ⟨p, [], rfl, by rw [List.append_nil]; exact x.hp⟩).view plR_len FZs.plR
  · have hl : s.hosts.length = o.length := by rw [x.eq, List.length_map]
    refine View.sl x.hh (by rw [flatE_len hsO_len]; omega) (by simp [hl]) (fun i hi => ?_) fun i j hi hj => ?_
    · exact (congrArg List.length (getDmap hsR s.hosts i (by omega))).trans rfl
    · have e1 : (flatE hsO o).getD (0 + i * 2 + j) .any = (hsO (o.getD i default)).getD j .any := by
        have := flatE_get hsO_len o i j [] hi hj
        rw [List.append_nil] at this; rw [Nat.zero_add]; exact this
      have e2 : s.hosts.getD i default = (o.getD i default).hs := by
        rw [x.eq, List.getD_eq_getElem?_getD, List.getElem?_map, List.getElem?_eq_getElem hi, List.getD_eq_getElem?_getD, List.getElem?_eq_getElem hi]; rfl
      rw [e1, getDmap hsR s.hosts i (by omega), e2]
      have : j = 0 ∨ j = 1 := by omega
      rcases this with rfl | rfl
      · exact (FZ.v _).view
      · exact (x.m _ (getD_mem hi)).view ptR_len FZs.ptR
end
end Go.Proofs.Ytgmncggiblaciaa

/- Walks: what the program does to a state of its own. -/
namespace Go.Proofs.Ytgmncggiblaciaa
open Go Go.Proofs.Ytgmncggiblaciaa.Ab
set_option maxRecDepth 100000

def DoneR (B : Nat) (H : AH) (r : Nat) (c : Case) (s : Stt) (out : AOut) (H' : AH) : Prop := out = .ret (.tup []) ∧ Fr B H H' ∧ OwnR B H' r c s
theorem arr_cases {α : Type} {enc : α → List AV} {k : Nat} {H : AH} {a : AV} {l : List α} (h : Arr enc k H a l) : (a = nilS ∧ l = []) ∨ (a = .lst k [] .full ∧ l = []) ∨ ∃ n rest, a = .sl k n 0 l.length ∧ H.own n = some (.cells (flatE enc l ++ rest)) := by
  rcases h with ⟨h1, h2 | h2⟩ | h
  · exact .inl ⟨h2, h1⟩
  · exact .inr (.inl ⟨h2, h1⟩)
  · exact .inr (.inr h)

set_option maxHeartbeats 2000000 in
theorem send73 {B : Nat} {H : AH} {r : Nat} {c : Case} {s : Stt} (hR : OwnR B H r c s) (kind part verdict : Int) (h0 : 0 ≤ part) (hp : part < (c.place.length : Int)) (hn : s.net.length ≤ 12) :
    ACall Try.prog 73 [.ptr r 0, .v (.int .i64 kind), .v (.int .i64 part), .v (.int .i64 verdict)] H (DoneR B H r c { s with net := sendP s.net ⟨kind, c.place.getD part.toNat 0, part, verdict⟩ }) := by
  obtain ⟨p, h, aq, o, x⟩ := hR
  have hrb := x.rb
  simp only [runL, caseL, stO, List.cons_append, List.nil_append] at hrb
  have e1 : 0 ≤ part ∧ part < (c.place.length : Int) := ⟨h0, hp⟩
  have hg := getD_ints c.place part.toNat (by omega)
  refine ACall.enter [34] Cd.fn73 (by simp) ?_
  have hbr := x.br
  have hB : ∀ m, m < B → m ≠ r ∧ m ≠ H.next := fun m hm => by omega
  have hr1 : (r = H.next) = False := by simp; omega
  rcases arr_cases x.st.q with ⟨rfl, hl⟩ | ⟨rfl, hl⟩ | ⟨n, rest, rfl, hnm⟩
  · simp only [hrb, nilS, ints, List.length_map, e1, hg, show roomA 32 1 = true from rfl, hr1, show decide (((0 : Nat) : Int) < 12) = true from rfl, Cd.cd73, Tk.t73, base0, base1, base2, base3, Option.isNone_none, Option.isNone_some, Nat.reduceBEq, true_or, or_true, false_or, or_false, Nat.reduceLT, Nat.reduceMod, Nat.reducePow, rmaps, nsucc, List.flatten_cons, List.flatten_nil, Nat.reduceEqDiff, Nat.reduceLeDiff, Nat.reduceAdd, Nat.reduceMul, Nat.reduceSub, ↓reduceIte, reduceCtorEq, decide_true, decide_false]
    rw [show sendP s.net ⟨kind, c.place.getD part.toNat 0, part, verdict⟩ = [⟨kind, c.place.getD part.toNat 0, part, verdict⟩] from by rw [hl]; rfl]
    refine ⟨rfl, ⟨rfl, by simp, fun m hm => by simp [hB m hm]⟩, p, h, _, o, x.net (by simp) (by simp [runL, caseL, stO, ints]) (.inr ⟨H.next, [], rfl, by simp [hr1, Ne.symm (show r ≠ H.next by omega), flatE, pkR]⟩) (.inr ⟨rfl, by simp⟩) fun m h1 h2 h3 => by simp [h2, show m ≠ H.next by omega]⟩
  · simp only [hrb, nilS, ints, List.length_map, e1, hg, show roomA 32 1 = true from rfl, hr1, show decide (((0 : Nat) : Int) < 12) = true from rfl, Cd.cd73, Tk.t73, base0, base1, base2, base3, Option.isNone_none, Option.isNone_some, Nat.reduceBEq, true_or, or_true, false_or, or_false, Nat.reduceLT, Nat.reduceMod, Nat.reducePow, rmaps, nsucc, List.flatten_cons, List.flatten_nil, Nat.reduceEqDiff, Nat.reduceLeDiff, Nat.reduceAdd, Nat.reduceMul, Nat.reduceSub, ↓reduceIte, reduceCtorEq, decide_true, decide_false]
    rw [show sendP s.net ⟨kind, c.place.getD part.toNat 0, part, verdict⟩ = [⟨kind, c.place.getD part.toNat 0, part, verdict⟩] from by rw [hl]; rfl]
    refine ⟨rfl, ⟨rfl, by simp, fun m hm => by simp [hB m hm]⟩, p, h, _, o, x.net (by simp) (by simp [runL, caseL, stO, ints]) (.inr ⟨H.next, [], rfl, by simp [hr1, Ne.symm (show r ≠ H.next by omega), flatE, pkR]⟩) (.inr ⟨rfl, by simp⟩) fun m h1 h2 h3 => by simp [h2, show m ≠ H.next by omega]⟩
  · have hnq := x.nq (n := n) rfl
    by_cases hlt : s.net.length < 12
    · have hr2 : (r = n) = False := by simp; omega
      have hr3 : (n = H.next) = False := by simp; omega
      have elen : s.net.length * 4 ≤ (flatE pkR s.net ++ rest).length := by rw [List.length_append, flatE_len pkR_len]; omega
      have etk : List.take (s.net.length * 4) (flatE pkR s.net ++ rest) = flatE pkR s.net := by rw [← flatE_len pkR_len, List.take_left]
      simp only [hrb, hnm, ints, List.length_map, e1, hg, room1 (b := 32) (n := s.net.length) (by omega) (by omega), show decide ((s.net.length : Int) < 12) = true from decide_eq_true (by omega), hr1, hr2, hr3, elen, etk, Cd.cd73, Tk.t73, base0, base1, base2, base3, Option.isNone_none, Option.isNone_some, Nat.reduceBEq, true_or, or_true, false_or, or_false, Nat.reduceLT, Nat.reduceMod, Nat.reducePow, rmaps, nsucc, List.flatten_cons, List.flatten_nil, Nat.reduceEqDiff, Nat.reduceLeDiff, Nat.reduceAdd, Nat.reduceMul, Nat.reduceSub, ↓reduceIte, reduceCtorEq, decide_true, decide_false]
      rw [show sendP s.net ⟨kind, c.place.getD part.toNat 0, part, verdict⟩ = s.net ++ [⟨kind, c.place.getD part.toNat 0, part, verdict⟩] from if_pos hlt]
      refine ⟨rfl, ⟨rfl, by simp, fun m hm => by simp [hB m hm, show m ≠ n by omega]⟩, p, h, _, o, x.net (by simp) (by simp [runL, caseL, stO, ints]; rfl) (.inr ⟨H.next, [], by simp, ?_⟩) (.inr ⟨rfl, by simp⟩) fun m h1 h2 h3 => ?_⟩
      · simp [Ne.symm (show r ≠ H.next by omega), Ne.symm (show n ≠ H.next by omega), flatE_append]; rfl
      · simp [h2, show m ≠ H.next by omega, show m ≠ n from fun e => h3 (by rw [e]; rfl)]
    · simp only [hrb, show decide ((s.net.length : Int) < 12) = false from decide_eq_false (by omega), Cd.cd73, Tk.t73, base0, base1, base2, base3, Option.isNone_none, Option.isNone_some, Nat.reduceBEq, true_or, or_true, false_or, or_false, Nat.reduceLT, Nat.reduceMod, Nat.reducePow, rmaps, nsucc, List.flatten_cons, List.flatten_nil, Nat.reduceEqDiff, Nat.reduceLeDiff, Nat.reduceAdd, Nat.reduceMul, Nat.reduceSub, ↓reduceIte, reduceCtorEq, decide_true, decide_false]
      rw [show sendP s.net ⟨kind, c.place.getD part.toNat 0, part, verdict⟩ = s.net from if_neg hlt]
      exact ⟨rfl, Fr.refl _ _, p, h, _, o, x⟩

theorem flatE_splice' {α : Type} [Inhabited α] {enc : α → List AV} {k : Nat} (henc : ∀ a, (enc a).length = k) {l : List α} {i j : Nat} {a : AV} {x : α} (hi : i < l.length) (hj : j + 1 ≤ k) (hx : enc x = (enc (l.getD i default)).take j ++ (a :: (enc (l.getD i default)).drop (j + 1))) :
    (flatE enc l).take (i * k + j) ++ (a :: (flatE enc l).drop (i * k + j + 1)) = flatE enc (l.set i x) := by
  have := flatE_splice henc (rest := []) (cs := [a]) (x := x) hi hj hx
  simpa using this
theorem flatE_drop' {α : Type} [Inhabited α] {enc : α → List AV} {k : Nat} (henc : ∀ a, (enc a).length = k) {l : List α} {i j : Nat} (hi : i < l.length) (hj : j ≤ k) :
    (flatE enc l).drop (i * k + j) = (enc (l.getD i default)).drop j ++ flatE enc (l.drop (i + 1)) := by
  have := flatE_drop henc l i j [] hi hj
  simpa using this

theorem take77 {B : Nat} {H : AH} {r : Nat} {c : Case} {s : Stt} (hR : OwnR B H r c s) (part verdict : Int) (h0 : 0 ≤ part) (hp : part < (s.placed.length : Int)) :
    ACall Try.prog 77 [.ptr r 0, .v (.int .i64 part), .v (.int .i64 verdict)] H (DoneR B H r c (takeS s part verdict)) := by
  obtain ⟨p, h, aq, o, x⟩ := hR
  have hrb := x.rb
  simp only [runL, caseL, stO, List.cons_append, List.nil_append] at hrb
  have e1 : 0 ≤ part ∧ part < (s.placed.length : Int) := ⟨h0, hp⟩
  have hi : part.toNat < s.placed.length := by omega
  have hbr := x.br
  have hnp := x.np
  have hpr : (p = r) = False := by simp; omega
  have hrp : (r = p) = False := by simp; omega
  have hlen := flatE_len plR_len s.placed
  generalize hx0 : s.placed.getD part.toNat default = x0
  have l2 : part.toNat * 4 + 2 + 1 ≤ (flatE plR s.placed).length := by omega
  have s2 := flatE_splice' (enc := plR) (l := s.placed) (i := part.toNat) (j := 2) (a := .v (.bool true)) (x := { x0 with tk := true }) plR_len hi (by decide) (by rw [hx0]; rfl)
  have l3 : part.toNat * 4 + 3 + 1 ≤ (flatE plR (s.placed.set part.toNat { x0 with tk := true })).length := by rw [flatE_len plR_len, List.length_set]; omega
  have s3 := flatE_splice' (enc := plR) (l := s.placed.set part.toNat { x0 with tk := true }) (i := part.toNat) (j := 3) (a := .v (.int .i64 verdict)) (x := { x0 with tk := true, v := verdict }) plR_len (by rw [List.length_set]; exact hi) (by decide) (by rw [getD_set hi, if_pos rfl]; rfl)
  rw [List.set_set] at s3
  refine ACall.enter [] Cd.fn77 (by simp) ?_
  simp only [hrb, e1, x.st.hp, l2, s2, l3, s3, hpr, hrp, Cd.cd77, Tk.t77, base0, base1, base2, base3, Option.isNone_none, Option.isNone_some, Nat.reduceBEq, true_or, or_true, false_or, or_false, Nat.reduceLT, Nat.reduceMod, Nat.reducePow, rmaps, nsucc, List.flatten_cons, List.flatten_nil, Nat.reduceEqDiff, Nat.reduceLeDiff, Nat.reduceAdd, Nat.reduceMul, Nat.reduceSub, ↓reduceIte, reduceCtorEq, decide_true, decide_false]
  rw [show takeS s part verdict = { s with placed := s.placed.set part.toNat { x0 with tk := true, v := verdict }, v := if verdict > s.v then verdict else s.v } from by unfold takeS; rw [hx0]]
  exact ⟨rfl, ⟨rfl, Nat.le_refl _, fun m hm => by simp [show m ≠ r by omega, show m ≠ p by omega]⟩, p, h, aq, o, x.placed (Nat.le_refl _) (by simp) (by simp [runL, caseL, stO]) (by simp [hpr]) fun m h1 h2 h3 => by simp [h2, h3]⟩
end Go.Proofs.Ytgmncggiblaciaa

/- Walks: a packet is taken out. -/
namespace Go.Proofs.Ytgmncggiblaciaa
open Go Go.Proofs.Ytgmncggiblaciaa.Ab
set_option maxRecDepth 100000

theorem flatE_one_all {α : Type} {enc : α → List AV} (h : ∀ x, (enc x).all AV.one = true) (l : List α) : (flatE enc l).all AV.one = true := by
  unfold flatE
  rw [List.all_eq_true]
  intro a ha
  obtain ⟨r, hr, ha⟩ := List.mem_flatten.mp ha
  obtain ⟨x, _, rfl⟩ := List.mem_map.mp hr
  exact List.all_eq_true.mp (h x) a ha
theorem chunk_len (k : Nat) : ∀ (n : Nat) (l : List AV), (chunk k n l).length = n
  | 0, _ => rfl
  | n + 1, l => by simp [chunk, chunk_len k n]
theorem flatE_dropAll {α : Type} [Inhabited α] {enc : α → List AV} {k : Nat} (henc : ∀ a, (enc a).length = k) : ∀ (l : List α) (i : Nat) (rest : List AV), i ≤ l.length → (flatE enc l ++ rest).drop (i * k) = flatE enc (l.drop i) ++ rest
  | l, 0, rest, _ => by simp
  | [], i + 1, rest, h => by simp at h
  | x :: l, i + 1, rest, h => by
    have := flatE_dropAll henc l i rest (by simpa using h)
    simp only [flatE, List.map_cons, List.flatten_cons, List.drop_succ_cons, List.append_assoc] at this ⊢
    rw [← this, show (i + 1) * k = (enc x).length + i * k from by rw [henc, Nat.add_mul]; omega, List.drop_append, List.drop_of_length_le (by omega)]
    simp
theorem flatE_takeAll {α : Type} [Inhabited α] {enc : α → List AV} {k : Nat} (henc : ∀ a, (enc a).length = k) (l : List α) (i : Nat) (rest : List AV) (h : i ≤ l.length) : (flatE enc l ++ rest).take (i * k) = flatE enc (l.take i) := by
  have e : flatE enc l = flatE enc (l.take i) ++ flatE enc (l.drop i) := by rw [← flatE_append, List.take_append_drop]
  rw [e, List.append_assoc]
  have : i * k = (flatE enc (l.take i)).length := by rw [flatE_len henc, List.length_take]; congr 1; omega
  rw [this, List.take_left]

set_option maxHeartbeats 2000000 in
theorem delete74 {H : AH} {m : Nat} {l : List Pk} {rest : List AV} (hm : H.own m = some (.cells (flatE pkR l ++ rest))) (i : Nat) (hi : i < l.length) (hb : l.length < 2 ^ 40) :
    ACall Try.prog 74 [.sl 4 m 0 l.length, .v (.int .i64 (i : Nat)), .v (.int .i64 ((i : Int) + 1))] H (fun out H' => out = .ret (.sl 4 m 0 (l.length - 1)) ∧ H'.tip = H.tip ∧ H'.next = H.next ∧ (∀ n, n ≠ m → H'.own n = H.own n) ∧ ∃ rest', H'.own m = some (.cells (flatE pkR (l.eraseIdx i) ++ rest'))) := by
  refine ACall.enter [] Cd.fn74 (by simp) ?_
  have b1 : 0 ≤ (i : Int) ∧ (i : Int) ≤ (l.length : Int) := by omega
  have b2 : 0 ≤ (i : Int) + 1 ∧ (i : Int) + 1 ≤ (l.length : Int) := by omega
  have b3 : 0 ≤ (l.length : Int) ∧ (l.length : Int) ≤ (l.length : Int) := by omega
  have b4 : (0 : Int) ≤ (i : Int) ∧ (i : Int) ≤ ((i + 1 : Nat) : Int) := by omega
  have t1 : ((i : Int) + 1).toNat = i + 1 := by omega
  have n1 : ((i : Int) == (i : Int) + 1) = false := beq_eq_false_iff_ne.mpr (by omega)
  have L1 : (flatE pkR l ++ rest).length = l.length * 4 + rest.length := by rw [List.length_append, flatE_len pkR_len]
  have c4 := flatE_one_all (enc := pkR) (fun x => rfl) (l.drop (i + 1))
  have c6 : i * 4 ≤ (flatE pkR l ++ rest).length := by omega
  have c6' : (l.length - 1) * 4 ≤ (flatE pkR l ++ rest).length := by omega
  have c7 := flatE_takeAll pkR_len l i rest (by omega)
  have c8 : ((l.length : Int) ≤ ((l.length - 1 : Nat) : Int)) = False := by simp; omega
  have c10 : (0 : Int) ≤ (l.length : Int) := by omega
  have c11 : (0 : Int) ≤ ((l.length - 1 : Nat) : Int) ∧ ((l.length - 1 : Nat) : Int) ≤ (l.length : Int) := by omega
  have c13 : (l.length - 1 < l.length) = True := by simp; omega
  have c14 : l.length - (l.length - 1) = 1 := by omega
  have LD : (flatE pkR (l.drop (i + 1))).length = (l.length - (i + 1)) * 4 := by rw [flatE_len pkR_len, List.length_drop]
  have LT : (flatE pkR (l.take i)).length = i * 4 := by rw [flatE_len pkR_len, List.length_take]; congr 1; omega
  by_cases hlt : i + 1 < l.length
  · have c1 : (i + 1) * 4 + (l.length - (i + 1)) * 4 ≤ (flatE pkR l ++ rest).length := by omega
    have c3 : (chunk 4 (l.length - (i + 1)) (List.drop ((i + 1) * 4) (flatE pkR l ++ rest))).flatten = flatE pkR (l.drop (i + 1)) := by
      rw [chunk_flatten _ _ (by rw [List.length_drop]; omega), flatE_dropAll pkR_len l (i + 1) rest (by omega), flatE_takeAll pkR_len (l.drop (i + 1)) _ rest (by simp), List.take_of_length_le (by simp)]
    have c5 : i + (l.length - (i + 1)) = l.length - 1 := by omega
    have c9 : l.length * 4 ≤ (flatE pkR (List.take i l) ++ (flatE pkR (List.drop (i + 1) l) ++ List.drop (i * 4 + (l.length - (i + 1)) * 4) (flatE pkR l ++ rest))).length := by
      simp only [List.length_append, LD, LT, List.length_drop, L1]
      have := flatE_len pkR_len l; omega
    have c15 : ((if l.length - 1 = 0 then AV.sl 4 m 0 l.length else if l.length - 1 < l.length then AV.sl 4 m ((l.length - 1) * 4) (l.length - (l.length - 1)) else AV.lst 4 [] .unk)) = AV.sl 4 m ((l.length - 1) * 4) 1 := by
      rw [if_neg (by omega), if_pos (by omega), c14]
    have c16 : (l.length - 1) * 4 + 4 ≤ (flatE pkR (List.take i l) ++ (flatE pkR (List.drop (i + 1) l) ++ List.drop (i * 4 + (l.length - (i + 1)) * 4) (flatE pkR l ++ rest))).length := by omega
    simp only [hm, b1, b2, b3, b4, t1, n1, Int.toNat_natCast, hlt, c1, chunk_len, c3, c4, c5, c6, c6', c7, c8, c9, c10, c11, LD, c15, c16, Cd.cd74, Tk.t74, base0, base1, base2, base3, Option.isNone_none, Option.isNone_some, Nat.reduceBEq, true_or, or_true, false_or, or_false, Nat.reduceLT, Nat.reduceMod, Nat.reducePow, rmaps, nsucc, List.flatten_cons, List.flatten_nil, Nat.reduceEqDiff, Nat.reduceLeDiff, Nat.reduceAdd, Nat.reduceMul, Nat.reduceSub, ↓reduceIte, reduceCtorEq, decide_true, decide_false]
    refine ⟨fun n hn => by simp [hn], ?_⟩
    have he : flatE pkR (l.take i) ++ (flatE pkR (l.drop (i + 1)) ++ List.drop (i * 4 + (l.length - (i + 1)) * 4) (flatE pkR l ++ rest)) = flatE pkR (l.eraseIdx i) ++ List.drop (i * 4 + (l.length - (i + 1)) * 4) (flatE pkR l ++ rest) := by
      rw [List.eraseIdx_eq_take_drop_succ, flatE_append, List.append_assoc]
    rw [he]
    have hel : (l.eraseIdx i).length = l.length - 1 := by rw [List.length_eraseIdx, if_pos hi]
    rw [← hel, flatE_takeAll pkR_len (l.eraseIdx i) _ _ (Nat.le_refl _), List.take_length]
    exact ⟨_, by simp; rfl⟩
  · have hl : l.length = i + 1 := by omega
    have d8 : (((i + 1 : Nat) : Int) ≤ ((i : Nat) : Int)) = False := by simp; omega
    have d9 : (i + 1) * 4 ≤ (flatE pkR (List.take i l) ++ List.drop (i * 4) (flatE pkR l ++ rest)).length := by
      simp only [List.length_append, LT, List.length_drop, L1]
      have := flatE_len pkR_len l; omega
    have d10 : (0 : Int) ≤ ((i + 1 : Nat) : Int) := by omega
    have d12 : 0 ≤ (i : Int) ∧ (i : Int) ≤ ((i + 1 : Nat) : Int) := by omega
    have d13 : 0 ≤ (i : Int) + 1 ∧ (i : Int) + 1 ≤ ((i + 1 : Nat) : Int) := by omega
    have d14 : (0 : Int) ≤ ((i + 1 : Nat) : Int) ∧ ((i + 1 : Nat) : Int) ≤ ((i + 1 : Nat) : Int) := by omega
    have d15 : ((if i = 0 then AV.sl 4 m 0 (i + 1) else if i < i + 1 then AV.sl 4 m (i * 4) (i + 1 - i) else AV.lst 4 [] .unk)) = AV.sl 4 m (i * 4) 1 := by
      by_cases h0 : i = 0
      · subst h0; rfl
      · rw [if_neg h0, if_pos (by omega)]; congr 1; omega
    have d16 : i * 4 + 4 ≤ (flatE pkR (List.take i l) ++ List.drop (i * 4) (flatE pkR l ++ rest)).length := by omega
    simp only [hm, hl, d8, d9, d10, d12, d13, d14, d15, d16, t1, n1, Int.toNat_natCast, c6, c7, Nat.lt_irrefl, Nat.zero_mul, Cd.cd74, Tk.t74, base0, base1, base2, base3, Option.isNone_none, Option.isNone_some, Nat.reduceBEq, true_or, or_true, false_or, or_false, Nat.reduceLT, Nat.reduceMod, Nat.reducePow, rmaps, nsucc, List.flatten_cons, List.flatten_nil, Nat.reduceEqDiff, Nat.reduceLeDiff, Nat.reduceAdd, Nat.reduceMul, Nat.reduceSub, ↓reduceIte, reduceCtorEq, decide_true, decide_false]
    refine ⟨by rw [Nat.add_sub_cancel], fun n hn => by simp [hn], ?_⟩
    have he : l.eraseIdx i = l.take i := by rw [List.eraseIdx_eq_take_drop_succ, List.drop_of_length_le (by omega), List.append_nil]
    have htl : (l.take i).length = i := by rw [List.length_take]; omega
    have := flatE_takeAll pkR_len (l.take i) i (List.drop (i * 4) (flatE pkR l ++ rest)) (by omega)
    rw [this, List.take_of_length_le (by omega), he]
    exact ⟨_, rfl⟩
end Go.Proofs.Ytgmncggiblaciaa

/- Walks: a packet arrives. -/
namespace Go.Proofs.Ytgmncggiblaciaa
open Go Go.Proofs.Ytgmncggiblaciaa.Ab
set_option maxRecDepth 100000

theorem DoneR.go {P : Program} {m : FuncId} {args : List AV} {H H0 : AH} {B r : Nat} {c : Case} {s : Stt} {mu : List Nat} {Kt : Kont} {dst : Option Nat} {os : List COp} {f : AF} (h : ACall P m args H (DoneR B H0 r c s))
    (k : ∀ H', Fr B H0 H' → OwnR B H' r c s → cops P mu Kt os (f.put dst (.tup [])) H') : ACall P m args H (callK P mu Kt dst os f) :=
  h.mono fun out H' ⟨e, h1, h2⟩ => by subst e; exact k H' h1 h2
theorem DoneR.go' {P : Program} {m : FuncId} {args : List AV} {H H0 : AH} {B r : Nat} {c : Case} {s : Stt} {mu : List Nat} {Kt : Kont} {dst : Option Nat} {fm : AF} {ds : List DOp} {f : AF} {pd : List (Nat × Nat × ABlk)} {rd : List Nat} (h : ACall P m args H (DoneR B H0 r c s))
    (k : ∀ H', Fr B H0 H' → OwnR B H' r c s → dops P mu Kt fm ds (f.put dst (.tup [])) H' pd rd) : ACall P m args H (dcallK P mu Kt fm dst ds f pd rd) :=
  h.mono fun out H' ⟨e, h1, h2⟩ => by subst e; exact k H' h1 h2

theorem deliver0l {c : Case} {s : Stt} {k : Pk} (hk : k.kind = 0) (hl : (s.hosts.getD k.host.toNat default).lost = true) : deliverS c s k = s := by
  unfold deliverS; dsimp only; rw [if_pos (by simp [hk]), if_pos hl]
theorem deliver0s {c : Case} {s : Stt} {k : Pk} (hk : k.kind = 0) (hl : (s.hosts.getD k.host.toNat default).lost = false) {i : Nat} (hp : partAt c s k.part = some i) : deliverS c s k = { s with net := sendP s.net ⟨1, k.host, k.part, 0⟩ } := by
  unfold deliverS; dsimp only; rw [if_pos (by simp [hk]), if_neg (by rw [hl]; simp), hp]
theorem deliver0n {c : Case} {s : Stt} {k : Pk} (hk : k.kind = 0) (hl : (s.hosts.getD k.host.toNat default).lost = false) (hp : partAt c s k.part = none) :
    deliverS c s k = { setHost s k.host.toNat ⟨(s.hosts.getD k.host.toNat default).lost, (s.hosts.getD k.host.toNat default).parts ++ [⟨k.part, false, false, 0, 0⟩]⟩ with net := sendP s.net ⟨1, k.host, k.part, 0⟩ } := by
  unfold deliverS; dsimp only; rw [if_pos (by simp [hk]), if_neg (by rw [hl]; simp), hp]; rfl
theorem deliver1 {c : Case} {s : Stt} {k : Pk} (hk : k.kind = 1) : deliverS c s k = { s with placed := s.placed.set k.part.toNat { s.placed.getD k.part.toNat default with cr := true } } := by
  unfold deliverS; dsimp only; rw [if_neg (by simp [hk]), if_pos (by simp [hk])]
theorem deliver2 {c : Case} {s : Stt} {k : Pk} (hk : k.kind = 2) : deliverS c s k = { (if (s.placed.getD k.part.toNat default).tk then s else takeS s k.part k.v) with net := sendP (if (s.placed.getD k.part.toNat default).tk then s else takeS s k.part k.v).net ⟨3, k.host, k.part, 0⟩ } := by
  unfold deliverS; dsimp only; rw [if_neg (by simp [hk]), if_neg (by simp [hk]), if_pos (by simp [hk])]
theorem deliver3n {c : Case} {s : Stt} {k : Pk} (hk : k.kind = 3) (hp : partAt c s k.part = none) : deliverS c s k = s := by
  unfold deliverS; dsimp only; rw [if_neg (by simp [hk]), if_neg (by simp [hk]), if_neg (by simp [hk]), if_pos (by simp [hk]), hp]
theorem deliver3s {c : Case} {s : Stt} {k : Pk} (hk : k.kind = 3) {i : Nat} (hp : partAt c s k.part = some i) : deliverS c s k = if (s.hosts.getD k.host.toNat default).lost then s else if ((s.hosts.getD k.host.toNat default).parts.getD i default).ended then
    setHost s k.host.toNat ⟨(s.hosts.getD k.host.toNat default).lost, (s.hosts.getD k.host.toNat default).parts.set i { (s.hosts.getD k.host.toNat default).parts.getD i default with seen := true }⟩ else s := by
  unfold deliverS; dsimp only; rw [if_neg (by simp [hk]), if_neg (by simp [hk]), if_neg (by simp [hk]), if_pos (by simp [hk]), hp]

theorem flatE_same {α : Type} [Inhabited α] {enc : α → List AV} {l : List α} {i : Nat} {x : α} (hi : i < l.length) (hx : enc x = enc (l.getD i default)) : flatE enc (l.set i x) = flatE enc l := by
  unfold flatE
  congr 1
  apply List.ext_getElem
  · simp
  · intro j h1 h2
    simp only [List.length_map] at h2
    rw [List.getElem_map, List.getElem_map, List.getElem_set]
    split
    · rename_i e; subst e
      rw [hx, List.getD_eq_getElem?_getD, List.getElem?_eq_getElem hi]; rfl
    · rfl
theorem caseViews {H : AH} {c : Case} {s : Stt} {p h : Nat} {aq : AV} {o : List OH} (x : OwnS H s p h aq o) (n : Int) : Views H [.agg [.v (.int .i64 c.hosts), ints c.place, ints c.verd], .agg (stO s p h aq o), .v (.int .i64 n)] [caseV c, stV s, .v (.int .i64 n)] :=
  Views.cons (FZ.caseV c).view (Views.cons x.view.agg (Views.cons (FZ.v _).view Views.nil))

set_option maxHeartbeats 4000000 in
theorem deliver75 {B : Nat} {H : AH} {r : Nat} {c : Case} {s : Stt} (hR : OwnR B H r c s) (hV : Valid c s) (k : Pk) (hk : PkOk c k) :
    ACall Try.prog 75 [.ptr r 0, .agg (pkR k)] H (DoneR B H r c (deliverS c s k)) := by
  obtain ⟨p, h, aq, o, x⟩ := hR
  have hrb := x.rb
  simp only [runL, caseL, stO, List.cons_append, List.nil_append] at hrb
  have hlo : s.hosts.length = o.length := by rw [x.st.eq, List.length_map]
  have hlp := hV.lp; have hlh := hV.lh; have hln := hV.ln
  obtain ⟨q1, q2, q3⟩ := hV.hostIx hk.lo hk.hi
  rw [hk.pl] at q1 q2 q3
  have klo := hk.lo; have khi := hk.hi; have kk0 := hk.k0; have kk3 := hk.k3
  have e1 : 0 ≤ k.host ∧ k.host < (o.length : Int) := by omega
  have e2 : 0 ≤ k.part ∧ k.part < (s.placed.length : Int) := by omega
  have hi : k.host.toNat < o.length := by omega
  have hpi : k.part.toNat < s.placed.length := by omega
  have hbr := x.br; have hnp := x.np; have hnh := x.nh; have hph := x.st.ph
  have f1 : (p = r) = False := by simp; omega
  have f2 : (h = r) = False := by simp; omega
  have f3 : (r = h) = False := by simp; omega
  have f4 : (r = p) = False := by simp; omega
  have f5 : (r = H.next) = False := by simp; omega
  have f6 : (h = H.next) = False := by simp; omega
  have eh : s.hosts.getD k.host.toNat default = (o.getD k.host.toNat default).hs := by
    rw [x.st.eq, List.getD_eq_getElem?_getD, List.getElem?_map, List.getElem?_eq_getElem hi, List.getD_eq_getElem?_getD, List.getElem?_eq_getElem hi]; rfl
  have hpa : partAt c s k.part = partIx (o.getD k.host.toNat default).parts k.part := by unfold partAt hostOf; rw [hk.pl, eh]; rfl
  have hmem := x.st.m _ (getD_mem hi)
  have hdm := x.st.dm _ (getD_mem hi)
  have hno := fun n => x.no (getD_mem hi) (n := n)
  generalize hx0 : o.getD k.host.toNat default = x0 at eh hpa hmem hdm hno
  have d0 := flatE_drop' (enc := hsO) (l := o) (i := k.host.toNat) (j := 0) hsO_len hi (by decide)
  have d1 := flatE_drop' (enc := hsO) (l := o) (i := k.host.toNat) (j := 1) hsO_len hi (by decide)
  rw [hx0] at d0 d1
  simp only [Nat.add_zero, hsO, List.drop_zero, List.drop_succ_cons, List.cons_append, List.nil_append] at d0 d1
  have l1 : k.host.toNat * 2 + 1 + 1 ≤ (flatE hsO o).length := by rw [flatE_len hsO_len]; omega
  simp only [pkR]
  refine ACall.enter [44] Cd.fn75 (by simp) ?_
  simp only [hrb, e1, Cd.cd75, Tk.t75, base0, base1, base2, base3, Option.isNone_none, Option.isNone_some, Nat.reduceBEq, true_or, or_true, false_or, or_false, Nat.reduceLT, Nat.reduceMod, Nat.reducePow, rmaps, nsucc, List.flatten_cons, List.flatten_nil, Nat.reduceEqDiff, Nat.reduceLeDiff, Nat.reduceAdd, Nat.reduceMul, Nat.reduceSub, ↓reduceIte, reduceCtorEq, decide_true, decide_false]
  refine (partAt76 c s hV k.part klo khi).bgo' (caseViews x.st k.part) (Ground.v _) ?_
  rcases (by omega : k.kind = 0 ∨ k.kind = 1 ∨ k.kind = 2 ∨ k.kind = 3) with kk | kk | kk | kk
  · have g0 : (k.kind == 0) = true := by simp [kk]
    cases hl : x0.lost
    · cases hp : partAt c s k.part with
      | some i =>
        rw [deliver0s kk (by rw [eh]; exact hl) hp]
        simp only [g0, hrb, x.st.hh, d0, hl, ixOf, show decide (((i : Nat) : Int) < 0) = false from decide_eq_false (by omega), Cd.cd75, Tk.t75, base0, base1, base2, base3, Option.isNone_none, Option.isNone_some, Nat.reduceBEq, true_or, or_true, false_or, or_false, Nat.reduceLT, Nat.reduceMod, Nat.reducePow, rmaps, nsucc, List.flatten_cons, List.flatten_nil, Nat.reduceEqDiff, Nat.reduceLeDiff, Nat.reduceAdd, Nat.reduceMul, Nat.reduceSub, ↓reduceIte, reduceCtorEq, decide_true, decide_false]
        refine DoneR.go (send73 ⟨p, h, aq, o, x⟩ 1 k.part 0 klo khi hln) fun H' hF hR' => ?_
        simp only [Cd.cd75, Tk.t75, base0, base1, base2, base3, Option.isNone_none, Option.isNone_some, Nat.reduceBEq, true_or, or_true, false_or, or_false, Nat.reduceLT, Nat.reduceMod, Nat.reducePow, rmaps, nsucc, List.flatten_cons, List.flatten_nil, Nat.reduceEqDiff, Nat.reduceLeDiff, Nat.reduceAdd, Nat.reduceMul, Nat.reduceSub, ↓reduceIte, reduceCtorEq, decide_true, decide_false]
        rw [hk.pl] at hR'
        exact ⟨rfl, hF, hR'⟩
      | none =>
        rw [deliver0n kk (by rw [eh]; exact hl) hp, eh]
        rcases arr_cases hmem with ⟨ha, hl0⟩ | ⟨ha, hl0⟩ | ⟨n, rest, ha, hnm⟩
        · have s1 := flatE_splice' (enc := hsO) (l := o) (i := k.host.toNat) (j := 1) (a := .sl 5 H.next 0 1) (x := ⟨x0.lost, .sl 5 H.next 0 1, [⟨k.part, false, false, 0, 0⟩]⟩) hsO_len hi (by decide) (by rw [hx0]; rfl)
          simp only [g0, hrb, x.st.hh, d0, d1, hl, ixOf, show decide ((-1 : Int) < 0) = true from rfl, ha, nilS, show roomA 32 1 = true from rfl, f1, f2, f3, f4, f5, f6, l1, s1, Cd.cd75, Tk.t75, base0, base1, base2, base3, Option.isNone_none, Option.isNone_some, Nat.reduceBEq, true_or, or_true, false_or, or_false, Nat.reduceLT, Nat.reduceMod, Nat.reducePow, rmaps, nsucc, List.flatten_cons, List.flatten_nil, Nat.reduceEqDiff, Nat.reduceLeDiff, Nat.reduceAdd, Nat.reduceMul, Nat.reduceSub, ↓reduceIte, reduceCtorEq, decide_true, decide_false]
          refine DoneR.go (send73 (B := B) (s := setHost s k.host.toNat ⟨x0.lost, x0.parts ++ ([⟨k.part, false, false, 0, 0⟩] : List Pt)⟩) ?_ 1 k.part 0 klo khi hln) fun H' hF hR' => ?_
          · rw [hl0]
            refine ⟨p, h, aq, o.set k.host.toNat ⟨x0.lost, .sl 5 H.next 0 1, [⟨k.part, false, false, 0, 0⟩]⟩, ?_⟩
            exact x.host (y := ⟨x0.lost, .sl 5 H.next 0 1, [⟨k.part, false, false, 0, 0⟩]⟩) hi (by simp) (by simp [f3, f5]) (by simp [hl]) (.inr ⟨H.next, [], rfl, by simp [Ne.symm (show h ≠ H.next by omega), flatE, ptR]⟩) (.inr ⟨rfl, by simp⟩) fun m h1 h2 h3 => by simp [h2, show m ≠ H.next by omega]
          · simp only [Cd.cd75, Tk.t75, base0, base1, base2, base3, Option.isNone_none, Option.isNone_some, Nat.reduceBEq, true_or, or_true, false_or, or_false, Nat.reduceLT, Nat.reduceMod, Nat.reducePow, rmaps, nsucc, List.flatten_cons, List.flatten_nil, Nat.reduceEqDiff, Nat.reduceLeDiff, Nat.reduceAdd, Nat.reduceMul, Nat.reduceSub, ↓reduceIte, reduceCtorEq, decide_true, decide_false]
            rw [hk.pl] at hR'
            refine ⟨rfl, Fr.trans ?_ hF, hR'⟩
            exact ⟨rfl, by simp, fun m hm => by simp [show m ≠ h by omega, show m ≠ H.next by omega]⟩
        · have s1 := flatE_splice' (enc := hsO) (l := o) (i := k.host.toNat) (j := 1) (a := .sl 5 H.next 0 1) (x := ⟨x0.lost, .sl 5 H.next 0 1, [⟨k.part, false, false, 0, 0⟩]⟩) hsO_len hi (by decide) (by rw [hx0]; rfl)
          simp only [g0, hrb, x.st.hh, d0, d1, hl, ixOf, show decide ((-1 : Int) < 0) = true from rfl, ha, nilS, show roomA 32 1 = true from rfl, f1, f2, f3, f4, f5, f6, l1, s1, Cd.cd75, Tk.t75, base0, base1, base2, base3, Option.isNone_none, Option.isNone_some, Nat.reduceBEq, true_or, or_true, false_or, or_false, Nat.reduceLT, Nat.reduceMod, Nat.reducePow, rmaps, nsucc, List.flatten_cons, List.flatten_nil, Nat.reduceEqDiff, Nat.reduceLeDiff, Nat.reduceAdd, Nat.reduceMul, Nat.reduceSub, ↓reduceIte, reduceCtorEq, decide_true, decide_false]
          refine DoneR.go (send73 (B := B) (s := setHost s k.host.toNat ⟨x0.lost, x0.parts ++ ([⟨k.part, false, false, 0, 0⟩] : List Pt)⟩) ?_ 1 k.part 0 klo khi hln) fun H' hF hR' => ?_
          · rw [hl0]
            refine ⟨p, h, aq, o.set k.host.toNat ⟨x0.lost, .sl 5 H.next 0 1, [⟨k.part, false, false, 0, 0⟩]⟩, ?_⟩
            exact x.host (y := ⟨x0.lost, .sl 5 H.next 0 1, [⟨k.part, false, false, 0, 0⟩]⟩) hi (by simp) (by simp [f3, f5]) (by simp [hl]) (.inr ⟨H.next, [], rfl, by simp [Ne.symm (show h ≠ H.next by omega), flatE, ptR]⟩) (.inr ⟨rfl, by simp⟩) fun m h1 h2 h3 => by simp [h2, show m ≠ H.next by omega]
          · simp only [Cd.cd75, Tk.t75, base0, base1, base2, base3, Option.isNone_none, Option.isNone_some, Nat.reduceBEq, true_or, or_true, false_or, or_false, Nat.reduceLT, Nat.reduceMod, Nat.reducePow, rmaps, nsucc, List.flatten_cons, List.flatten_nil, Nat.reduceEqDiff, Nat.reduceLeDiff, Nat.reduceAdd, Nat.reduceMul, Nat.reduceSub, ↓reduceIte, reduceCtorEq, decide_true, decide_false]
            rw [hk.pl] at hR'
            refine ⟨rfl, Fr.trans ?_ hF, hR'⟩
            exact ⟨rfl, by simp, fun m hm => by simp [show m ≠ h by omega, show m ≠ H.next by omega]⟩
        · have hn := hno n (by rw [ha]; rfl)
          have hn2 := hdm n (by rw [ha]; rfl)
          have g1 : (n = r) = False := by simp; omega
          have g2 : (r = n) = False := by simp; omega
          have g3 : (n = h) = False := by simp; exact hn2.2.1
          have g4 : (h = n) = False := by simp; exact Ne.symm hn2.2.1
          have g5 : (n = H.next) = False := by simp; omega
          have hpl6 : x0.parts.length ≤ 6 := by
            have h1 := (hV.hs k.host.toNat (by omega)).len
            rw [eh] at h1
            have := hV.ok.p6
            exact Nat.le_trans h1 this
          have elen : x0.parts.length * 5 ≤ (flatE ptR x0.parts ++ rest).length := by rw [List.length_append, flatE_len ptR_len]; omega
          have etk : List.take (x0.parts.length * 5) (flatE ptR x0.parts ++ rest) = flatE ptR x0.parts := by rw [← flatE_len ptR_len, List.take_left]
          have s1 := flatE_splice' (enc := hsO) (l := o) (i := k.host.toNat) (j := 1) (a := .sl 5 H.next 0 (x0.parts.length + 1)) (x := ⟨x0.lost, .sl 5 H.next 0 (x0.parts.length + 1), x0.parts ++ ([⟨k.part, false, false, 0, 0⟩] : List Pt)⟩) hsO_len hi (by decide) (by rw [hx0]; rfl)
          simp only [g0, hrb, x.st.hh, d0, d1, hl, ixOf, show decide ((-1 : Int) < 0) = true from rfl, ha, hnm, elen, etk, room1 (b := 32) (n := x0.parts.length) (by omega) (by omega), f1, f2, f3, f4, f5, f6, g1, g2, g3, g4, g5, l1, s1, Cd.cd75, Tk.t75, base0, base1, base2, base3, Option.isNone_none, Option.isNone_some, Nat.reduceBEq, true_or, or_true, false_or, or_false, Nat.reduceLT, Nat.reduceMod, Nat.reducePow, rmaps, nsucc, List.flatten_cons, List.flatten_nil, Nat.reduceEqDiff, Nat.reduceLeDiff, Nat.reduceAdd, Nat.reduceMul, Nat.reduceSub, ↓reduceIte, reduceCtorEq, decide_true, decide_false]
          refine DoneR.go (send73 (B := B) (s := setHost s k.host.toNat ⟨x0.lost, x0.parts ++ ([⟨k.part, false, false, 0, 0⟩] : List Pt)⟩) ?_ 1 k.part 0 klo khi hln) fun H' hF hR' => ?_
          · refine ⟨p, h, aq, o.set k.host.toNat ⟨x0.lost, .sl 5 H.next 0 (x0.parts.length + 1), x0.parts ++ ([⟨k.part, false, false, 0, 0⟩] : List Pt)⟩, ?_⟩
            exact x.host (y := ⟨x0.lost, .sl 5 H.next 0 (x0.parts.length + 1), x0.parts ++ ([⟨k.part, false, false, 0, 0⟩] : List Pt)⟩) hi (by simp) (by simp [f3, f5, g2]) (by simp [hl])
              (.inr ⟨H.next, [], by simp, by simp [Ne.symm (show h ≠ H.next by omega), Ne.symm (show n ≠ H.next by omega), flatE_append]; rfl⟩) (.inr ⟨rfl, by simp⟩) fun m h1 h2 h3 => by
              rw [hx0, ha] at h3
              simp [h2, show m ≠ H.next by omega, show m ≠ n from fun e => h3 (by rw [e]; rfl)]
          · simp only [Cd.cd75, Tk.t75, base0, base1, base2, base3, Option.isNone_none, Option.isNone_some, Nat.reduceBEq, true_or, or_true, false_or, or_false, Nat.reduceLT, Nat.reduceMod, Nat.reducePow, rmaps, nsucc, List.flatten_cons, List.flatten_nil, Nat.reduceEqDiff, Nat.reduceLeDiff, Nat.reduceAdd, Nat.reduceMul, Nat.reduceSub, ↓reduceIte, reduceCtorEq, decide_true, decide_false]
            rw [hk.pl] at hR'
            refine ⟨rfl, Fr.trans ?_ hF, hR'⟩
            exact ⟨rfl, by simp, fun m hm => by simp [show m ≠ h by omega, show m ≠ H.next by omega, show m ≠ n by omega]⟩
    · rw [deliver0l kk (by rw [eh]; exact hl)]
      simp only [g0, hrb, x.st.hh, d0, hl, Cd.cd75, Tk.t75, base0, base1, base2, base3, Option.isNone_none, Option.isNone_some, Nat.reduceBEq, true_or, or_true, false_or, or_false, Nat.reduceLT, Nat.reduceMod, Nat.reducePow, rmaps, nsucc, List.flatten_cons, List.flatten_nil, Nat.reduceEqDiff, Nat.reduceLeDiff, Nat.reduceAdd, Nat.reduceMul, Nat.reduceSub, ↓reduceIte, reduceCtorEq, decide_true, decide_false]
      exact ⟨rfl, Fr.refl _ _, p, h, aq, o, x⟩
  · have g0 : (k.kind == 0) = false := by simp [kk]
    have g1 : (k.kind == 1) = true := by simp [kk]
    rw [deliver1 kk]
    have l2 : k.part.toNat * 4 + 1 + 1 ≤ (flatE plR s.placed).length := by rw [flatE_len plR_len]; omega
    generalize hp0 : s.placed.getD k.part.toNat default = p0
    have s1 := flatE_splice' (enc := plR) (l := s.placed) (i := k.part.toNat) (j := 1) (a := .v (.bool true)) (x := { p0 with cr := true }) plR_len hpi (by decide) (by rw [hp0]; rfl)
    simp only [g0, g1, hrb, e2, x.st.hp, l2, s1, Cd.cd75, Tk.t75, base0, base1, base2, base3, Option.isNone_none, Option.isNone_some, Nat.reduceBEq, true_or, or_true, false_or, or_false, Nat.reduceLT, Nat.reduceMod, Nat.reducePow, rmaps, nsucc, List.flatten_cons, List.flatten_nil, Nat.reduceEqDiff, Nat.reduceLeDiff, Nat.reduceAdd, Nat.reduceMul, Nat.reduceSub, ↓reduceIte, reduceCtorEq, decide_true, decide_false]
    exact ⟨rfl, ⟨rfl, Nat.le_refl _, fun m hm => by simp [show m ≠ p by omega]⟩, p, h, aq, o, x.placed (v := s.v) (Nat.le_refl _) (by simp) (by simp [f4, runL, caseL, stO, hrb]) (by simp) fun m h1 h2 h3 => by simp [h3]⟩
  · have g0 : (k.kind == 0) = false := by simp [kk]
    have g1 : (k.kind == 1) = false := by simp [kk]
    have g2 : (k.kind == 2) = true := by simp [kk]
    rw [deliver2 kk]
    have d2 := flatE_drop' (enc := plR) (l := s.placed) (i := k.part.toNat) (j := 2) plR_len hpi (by decide)
    simp only [plR, List.drop_zero, List.drop_succ_cons, List.cons_append, List.nil_append] at d2
    cases ht : (s.placed.getD k.part.toNat default).tk
    · simp only [Bool.false_eq_true, if_false]
      simp only [g0, g1, g2, hrb, e2, x.st.hp, d2, ht, Cd.cd75, Tk.t75, base0, base1, base2, base3, Option.isNone_none, Option.isNone_some, Nat.reduceBEq, true_or, or_true, false_or, or_false, Nat.reduceLT, Nat.reduceMod, Nat.reducePow, rmaps, nsucc, List.flatten_cons, List.flatten_nil, Nat.reduceEqDiff, Nat.reduceLeDiff, Nat.reduceAdd, Nat.reduceMul, Nat.reduceSub, ↓reduceIte, reduceCtorEq, decide_true, decide_false]
      refine DoneR.go (take77 ⟨p, h, aq, o, x⟩ k.part k.v klo (by omega)) fun H1 hF1 hR1 => ?_
      simp only [Cd.cd75, Tk.t75, base0, base1, base2, base3, Option.isNone_none, Option.isNone_some, Nat.reduceBEq, true_or, or_true, false_or, or_false, Nat.reduceLT, Nat.reduceMod, Nat.reducePow, rmaps, nsucc, List.flatten_cons, List.flatten_nil, Nat.reduceEqDiff, Nat.reduceLeDiff, Nat.reduceAdd, Nat.reduceMul, Nat.reduceSub, ↓reduceIte, reduceCtorEq, decide_true, decide_false]
      refine DoneR.go (send73 hR1 3 k.part 0 klo khi hln) fun H' hF hR' => ?_
      simp only [Cd.cd75, Tk.t75, base0, base1, base2, base3, Option.isNone_none, Option.isNone_some, Nat.reduceBEq, true_or, or_true, false_or, or_false, Nat.reduceLT, Nat.reduceMod, Nat.reducePow, rmaps, nsucc, List.flatten_cons, List.flatten_nil, Nat.reduceEqDiff, Nat.reduceLeDiff, Nat.reduceAdd, Nat.reduceMul, Nat.reduceSub, ↓reduceIte, reduceCtorEq, decide_true, decide_false]
      rw [hk.pl] at hR'
      exact ⟨rfl, hF1.trans hF, hR'⟩
    · simp only [if_true]
      simp only [g0, g1, g2, hrb, e2, x.st.hp, d2, ht, Cd.cd75, Tk.t75, base0, base1, base2, base3, Option.isNone_none, Option.isNone_some, Nat.reduceBEq, true_or, or_true, false_or, or_false, Nat.reduceLT, Nat.reduceMod, Nat.reducePow, rmaps, nsucc, List.flatten_cons, List.flatten_nil, Nat.reduceEqDiff, Nat.reduceLeDiff, Nat.reduceAdd, Nat.reduceMul, Nat.reduceSub, ↓reduceIte, reduceCtorEq, decide_true, decide_false]
      refine DoneR.go (send73 ⟨p, h, aq, o, x⟩ 3 k.part 0 klo khi hln) fun H' hF hR' => ?_
      simp only [Cd.cd75, Tk.t75, base0, base1, base2, base3, Option.isNone_none, Option.isNone_some, Nat.reduceBEq, true_or, or_true, false_or, or_false, Nat.reduceLT, Nat.reduceMod, Nat.reducePow, rmaps, nsucc, List.flatten_cons, List.flatten_nil, Nat.reduceEqDiff, Nat.reduceLeDiff, Nat.reduceAdd, Nat.reduceMul, Nat.reduceSub, ↓reduceIte, reduceCtorEq, decide_true, decide_false]
      rw [hk.pl] at hR'
      exact ⟨rfl, hF, hR'⟩
  · have g0 : (k.kind == 0) = false := by simp [kk]
    have g1 : (k.kind == 1) = false := by simp [kk]
    have g2 : (k.kind == 2) = false := by simp [kk]
    have g3 : (k.kind == 3) = true := by simp [kk]
    cases hp : partAt c s k.part with
    | none =>
      rw [deliver3n kk hp]
      cases hl : x0.lost
      · simp only [g0, g1, g2, g3, hrb, x.st.hh, d0, hl, ixOf, show decide ((-1 : Int) ≥ 0) = false from rfl, Cd.cd75, Tk.t75, base0, base1, base2, base3, Option.isNone_none, Option.isNone_some, Nat.reduceBEq, true_or, or_true, false_or, or_false, Nat.reduceLT, Nat.reduceMod, Nat.reducePow, rmaps, nsucc, List.flatten_cons, List.flatten_nil, Nat.reduceEqDiff, Nat.reduceLeDiff, Nat.reduceAdd, Nat.reduceMul, Nat.reduceSub, ↓reduceIte, reduceCtorEq, decide_true, decide_false]
        exact ⟨rfl, Fr.refl _ _, p, h, aq, o, x⟩
      · simp only [g0, g1, g2, g3, hrb, x.st.hh, d0, hl, ixOf, Cd.cd75, Tk.t75, base0, base1, base2, base3, Option.isNone_none, Option.isNone_some, Nat.reduceBEq, true_or, or_true, false_or, or_false, Nat.reduceLT, Nat.reduceMod, Nat.reducePow, rmaps, nsucc, List.flatten_cons, List.flatten_nil, Nat.reduceEqDiff, Nat.reduceLeDiff, Nat.reduceAdd, Nat.reduceMul, Nat.reduceSub, ↓reduceIte, reduceCtorEq, decide_true, decide_false]
        exact ⟨rfl, Fr.refl _ _, p, h, aq, o, x⟩
    | some j =>
      rw [deliver3s kk hp, eh]
      rw [hpa] at hp
      obtain ⟨j1, j2⟩ := partIx_some hp
      have hj0 : decide (((j : Nat) : Int) ≥ 0) = true := decide_eq_true (by omega)
      obtain ⟨n, rest, ha, hnm⟩ := hmem.own (by omega)
      have hn := hno n (by rw [ha]; rfl)
      have hn2 := hdm n (by rw [ha]; rfl)
      cases hl : x0.lost
      · have d5 := flatE_drop (enc := ptR) ptR_len x0.parts j 1 rest j1 (by decide)
        simp only [ptR, List.drop_zero, List.drop_succ_cons, List.cons_append, List.nil_append] at d5
        simp only [show x0.hs.lost = false from hl, Bool.false_eq_true, if_false]
        cases he : (x0.parts.getD j default).ended
        · simp only [show (x0.hs.parts.getD j default).ended = false from he, Bool.false_eq_true, if_false]
          simp only [g0, g1, g2, g3, hrb, x.st.hh, d0, d1, hl, ixOf, hj0, ha, inR j1, Int.toNat_natCast, hnm, d5, he, Cd.cd75, Tk.t75, base0, base1, base2, base3, Option.isNone_none, Option.isNone_some, Nat.reduceBEq, true_or, or_true, false_or, or_false, Nat.reduceLT, Nat.reduceMod, Nat.reducePow, rmaps, nsucc, List.flatten_cons, List.flatten_nil, Nat.reduceEqDiff, Nat.reduceLeDiff, Nat.reduceAdd, Nat.reduceMul, Nat.reduceSub, ↓reduceIte, reduceCtorEq, decide_true, decide_false]
          exact ⟨rfl, Fr.refl _ _, p, h, aq, o, x⟩
        · simp only [show (x0.hs.parts.getD j default).ended = true from he, if_true]
          have l5 : j * 5 + 2 + 1 ≤ (flatE ptR x0.parts ++ rest).length := by rw [List.length_append, flatE_len ptR_len]; omega
          have s5 := flatE_splice (enc := ptR) (k := 5) (l := x0.parts) (i := j) (j := 2) (rest := rest) (cs := [.v (.bool true)]) (x := { x0.parts.getD j default with seen := true }) ptR_len j1 (by decide) rfl
          simp only [List.cons_append, List.nil_append, List.length_cons, List.length_nil, Nat.zero_add] at s5
          simp only [g0, g1, g2, g3, hrb, x.st.hh, d0, d1, hl, ixOf, hj0, ha, inR j1, Int.toNat_natCast, hnm, d5, he, l5, s5, Cd.cd75, Tk.t75, base0, base1, base2, base3, Option.isNone_none, Option.isNone_some, Nat.reduceBEq, true_or, or_true, false_or, or_false, Nat.reduceLT, Nat.reduceMod, Nat.reducePow, rmaps, nsucc, List.flatten_cons, List.flatten_nil, Nat.reduceEqDiff, Nat.reduceLeDiff, Nat.reduceAdd, Nat.reduceMul, Nat.reduceSub, ↓reduceIte, reduceCtorEq, decide_true, decide_false]
          refine ⟨rfl, ⟨rfl, Nat.le_refl _, fun m hm => by simp [show m ≠ n by omega]⟩, p, h, aq, o.set k.host.toNat ⟨false, .sl 5 n 0 x0.parts.length, x0.parts.set j ⟨(x0.parts.getD j default).part, true, true, (x0.parts.getD j default).v, (x0.parts.getD j default).tr⟩⟩, ?_⟩
          refine x.host (i := k.host.toNat) (y := ⟨false, .sl 5 n 0 x0.parts.length, x0.parts.set j ⟨(x0.parts.getD j default).part, true, true, (x0.parts.getD j default).v, (x0.parts.getD j default).tr⟩⟩) hi (Nat.le_refl _) (by simp [show r ≠ n by omega]) ?_ (.inr ⟨n, rest, by simp, by simp⟩) (.inl (by rw [hx0, ha])) fun m h1 h2 h3 => ?_
          · simp only [show (h = n) = False from by simp; exact Ne.symm hn2.2.1, if_false]
            rw [x.st.hh, flatE_same hi (by rw [hx0]; simp [hsO, hl, ha])]
          · rw [hx0, ha] at h3
            simp [show m ≠ n from fun e => h3 (by rw [e]; rfl)]
      · simp only [show x0.hs.lost = true from hl, if_true]
        simp only [g0, g1, g2, g3, hrb, x.st.hh, d0, hl, ixOf, Cd.cd75, Tk.t75, base0, base1, base2, base3, Option.isNone_none, Option.isNone_some, Nat.reduceBEq, true_or, or_true, false_or, or_false, Nat.reduceLT, Nat.reduceMod, Nat.reducePow, rmaps, nsucc, List.flatten_cons, List.flatten_nil, Nat.reduceEqDiff, Nat.reduceLeDiff, Nat.reduceAdd, Nat.reduceMul, Nat.reduceSub, ↓reduceIte, reduceCtorEq, decide_true, decide_false]
        exact ⟨rfl, Fr.refl _ _, p, h, aq, o, x⟩
end Go.Proofs.Ytgmncggiblaciaa

/- Walks: acts. -/
namespace Go.Proofs.Ytgmncggiblaciaa
open Go Go.Proofs.Ytgmncggiblaciaa.Ab
set_option maxRecDepth 100000

theorem OwnX.frame {B : Nat} {H H' : AH} {r : Nat} {c : List AV} {s : Stt} {p h : Nat} {aq : AV} {o : List OH} (x : OwnX B H r c s p h aq o) (hn : H.next ≤ H'.next) (hk : ∀ m, m < H.next → H'.own m = H.own m) : OwnX B H' r c s p h aq o := by
  have hb := x.br
  have e := fun n (hm : NmS p h aq o n) => hk n (x.nr n hm).2.2
  exact ⟨by rw [hk r hb.2]; exact x.rb, ⟨by rw [e p (.inl rfl)]; exact x.st.hp, by rw [e h (.inr (.inl rfl))]; exact x.st.hh, x.st.eq, x.st.q.mono fun n hq => e n (.inr (.inr (.inl hq))),
    fun y hy => (x.st.m y hy).mono fun n hm => e n (.inr (.inr (.inr ⟨y, hy, hm⟩))), x.st.ph, x.st.dq, x.st.dm, x.st.dd⟩, fun n hm => by have := x.nr n hm; omega, ⟨hb.1, by omega⟩⟩
theorem le4 (n : Nat) : (4 ≤ n + 1 + 1 + 1 + 1) = True := by simp
theorem tell_some {c : Case} {s : Stt} {a : Ac} (hp : isPossible c s a = true) (h : a.kind = 4 ∨ a.kind = 5) : ∃ k, partAt c s a.n = some k := by
  have w := within_iff.mpr (possible_in hp (by omega))
  have : tellable c s a = true := by
    unfold isPossible at hp
    rcases h with e | e <;> simpa [e, w] using hp
  unfold tellable at this
  cases e : partAt c s a.n with
  | none => rw [e] at this; cases this
  | some k => exact ⟨k, rfl⟩

theorem act0 {c : Case} {s : Stt} {a : Ac} (k : a.kind = 0) : actS c s a = { s with placed := s.placed.set a.n.toNat { s.placed.getD a.n.toNat default with tr := (s.placed.getD a.n.toNat default).tr + 1 }, net := sendP s.net ⟨0, c.place.getD a.n.toNat 0, a.n, 0⟩ } := by
  unfold actS; rw [if_pos (by simp [k])]
theorem act1 {c : Case} {s : Stt} {a : Ac} (k : a.kind = 1) : actS c s a = deliverS c { s with net := s.net.eraseIdx a.n.toNat } (s.net.getD a.n.toNat default) := by
  unfold actS; rw [if_neg (by simp [k]), if_pos (by simp [k])]
theorem act2 {c : Case} {s : Stt} {a : Ac} (k : a.kind = 2) : actS c s a = { s with net := s.net.eraseIdx a.n.toNat } := by
  unfold actS; rw [if_neg (by simp [k]), if_neg (by simp [k]), if_pos (by simp [k])]
theorem act3 {c : Case} {s : Stt} {a : Ac} (k : a.kind = 3) : actS c s a = { s with net := sendP s.net (s.net.getD a.n.toNat default) } := by
  unfold actS; rw [if_neg (by simp [k]), if_neg (by simp [k]), if_neg (by simp [k]), if_pos (by simp [k])]
theorem act45 {c : Case} {s : Stt} {a : Ac} (k : a.kind = 4 ∨ a.kind = 5) {i : Nat} (hp : partAt c s a.n = some i) : actS c s a =
    { setHost s (c.place.getD a.n.toNat 0).toNat ⟨(hostOf c s a.n).lost, (hostOf c s a.n).parts.set i ⟨((hostOf c s a.n).parts.getD i default).part, true, ((hostOf c s a.n).parts.getD i default).seen, c.verd.getD a.n.toNat 0, ((hostOf c s a.n).parts.getD i default).tr + 1⟩⟩ with
        net := sendP s.net ⟨2, c.place.getD a.n.toNat 0, a.n, c.verd.getD a.n.toNat 0⟩ } := by
  unfold actS
  rw [if_neg (by simp; omega), if_neg (by simp; omega), if_neg (by simp; omega), if_neg (by simp; omega), if_pos (by simp; omega), hp]
theorem act6 {c : Case} {s : Stt} {a : Ac} (k : a.kind = 6) : actS c s a = setHost s a.n.toNat { s.hosts.getD a.n.toNat default with lost := true } := by
  unfold actS; rw [if_neg (by simp [k]), if_neg (by simp [k]), if_neg (by simp [k]), if_neg (by simp [k]), if_neg (by simp [k]), if_pos (by simp [k])]
theorem act7 {c : Case} {s : Stt} {a : Ac} (k : a.kind = 7) : actS c s a = takeS s a.n 4 := by
  unfold actS; rw [if_neg (by simp [k]), if_neg (by simp [k]), if_neg (by simp [k]), if_neg (by simp [k]), if_neg (by simp [k]), if_neg (by simp [k]), if_pos (by simp [k])]

theorem getD_mapH (o : List OH) (i : Nat) (hi : i < o.length) : (o.map OH.hs).getD i default = (o.getD i default).hs := by
  rw [List.getD_eq_getElem?_getD, List.getElem?_map, List.getElem?_eq_getElem hi, List.getD_eq_getElem?_getD, List.getElem?_eq_getElem hi]; rfl
theorem DelR.go' {P : Program} {m : FuncId} {args : List AV} {H : AH} {R : AH → Prop} {v : AV} {mu : List Nat} {Kt : Kont} {dst : Option Nat} {fm : AF} {ds : List DOp} {f : AF} {pd : List (Nat × Nat × ABlk)} {rd : List Nat} (h : ACall P m args H (fun out H' => out = .ret v ∧ R H'))
    (k : ∀ H', R H' → dops P mu Kt fm ds (f.put dst v) H' pd rd) : ACall P m args H (dcallK P mu Kt fm dst ds f pd rd) :=
  h.mono fun out H' ⟨e, h1⟩ => by subst e; exact k H' h1

section
variable {B : Nat} {H : AH} {r : Nat} {c : Case} {s : Stt} (hV : Valid c s) (a : Ac)
include hV
set_option maxHeartbeats 4000000 in
theorem act47 (hR : OwnR B H r c s) (ha : actE c s a = 0) : ACall Try.prog 47 [.ptr r 0, .agg (acR a)] H (DoneR B H r c (actS c s a)) := by
  obtain ⟨⟨hk0, hk7⟩, hp⟩ := actE_ok.mp ha
  obtain ⟨p, h, aq, o, x⟩ := hR
  have hrb := x.rb
  simp only [runL, caseL, stO, List.cons_append, List.nil_append] at hrb
  have hlo : s.hosts.length = o.length := by rw [x.st.eq, List.length_map]
  have hlp := hV.lp; have hlh := hV.lh; have hln := hV.ln; have hp6 := hV.ok.p6; have hvl := hV.ok.vl
  have hbr := x.br; have hnp := x.np; have hnh := x.nh; have hph := x.st.ph
  have f1 : (p = r) = False := by simp; omega
  have f2 : (h = r) = False := by simp; omega
  have f3 : (r = h) = False := by simp; omega
  have f4 : (r = p) = False := by simp; omega
  have f5 : (r = H.next) = False := by simp; omega
  have f6 : (h = H.next) = False := by simp; omega
  simp only [acR]
  refine ACall.enter [91] Cd.fn47 (by simp) ?_
  rcases (by omega : a.kind = 0 ∨ a.kind = 1 ∨ a.kind = 2 ∨ a.kind = 3 ∨ (a.kind = 4 ∨ a.kind = 5) ∨ a.kind = 6 ∨ a.kind = 7) with kk | kk | kk | kk | kk | kk | kk
  · have g0 : (a.kind == 0) = true := by simp [kk]
    have w := possible_in hp (by omega)
    have e1 : 0 ≤ a.n ∧ a.n < (s.placed.length : Int) := by omega
    have hi : a.n.toNat < s.placed.length := by omega
    have hpl := hV.pget hi
    rw [act0 kk]
    generalize hx0 : s.placed.getD a.n.toNat default = x0 at hpl
    have d0 := flatE_drop' (enc := plR) (l := s.placed) (i := a.n.toNat) (j := 0) plR_len hi (by decide)
    have l0 : a.n.toNat * 4 + 1 ≤ (flatE plR s.placed).length := by rw [flatE_len plR_len]; omega
    have s0 := flatE_splice' (enc := plR) (l := s.placed) (i := a.n.toNat) (j := 0) (a := .v (.int .i64 (x0.tr + 1))) (x := { x0 with tr := x0.tr + 1 }) plR_len hi (by decide) (by rw [hx0]; rfl)
    rw [hx0] at d0
    simp only [Nat.add_zero, plR, List.drop_zero, List.drop_succ_cons, List.cons_append, List.nil_append] at d0
    simp only [Nat.add_zero] at s0
    have hw : IntKind.i64.wrap (x0.tr + 1) = x0.tr + 1 := wrapI (by have := hpl.t0; omega) (by have := hpl.t3; omega)
    simp only [g0, hrb, e1, x.st.hp, d0, hw, l0, s0, Cd.cd47, Tk.t47, base0, base1, base2, base3, Option.isNone_none, Option.isNone_some, Nat.reduceBEq, true_or, or_true, false_or, or_false, Nat.reduceLT, Nat.reduceMod, Nat.reducePow, rmaps, nsucc, List.flatten_cons, List.flatten_nil, Nat.reduceEqDiff, Nat.reduceLeDiff, Nat.reduceAdd, Nat.reduceMul, Nat.reduceSub, ↓reduceIte, reduceCtorEq, decide_true, decide_false]
    refine DoneR.go (send73 (B := B) (c := c) (s := { s with placed := s.placed.set a.n.toNat { x0 with tr := x0.tr + 1 } }) ?_ 0 a.n 0 w.1 (by omega) hln) fun H' hF hR' => ?_
    · refine ⟨p, h, aq, o, ?_⟩
      exact x.placed (v := s.v) (Nat.le_refl _) (by simp) (by simp [f4, runL, caseL, stO, hrb]) (by simp) fun m h1 h2 h3 => by simp [h3]
    · simp only [Cd.cd47, Tk.t47, base0, base1, base2, base3, Option.isNone_none, Option.isNone_some, Nat.reduceBEq, true_or, or_true, false_or, or_false, Nat.reduceLT, Nat.reduceMod, Nat.reducePow, rmaps, nsucc, List.flatten_cons, List.flatten_nil, Nat.reduceEqDiff, Nat.reduceLeDiff, Nat.reduceAdd, Nat.reduceMul, Nat.reduceSub, ↓reduceIte, reduceCtorEq, decide_true, decide_false]
      refine ⟨rfl, Fr.trans ?_ hF, hR'⟩
      exact ⟨rfl, Nat.le_refl _, fun m hm => by simp [show m ≠ p by omega]⟩
  · have g0 : (a.kind == 0) = false := by simp [kk]
    have g1 : (a.kind == 1) = true := by simp [kk]
    have w := possible_net hp (by omega)
    have hi : a.n.toNat < s.net.length := by omega
    have e1 : 0 ≤ a.n ∧ a.n < (s.net.length : Int) := by omega
    obtain ⟨n, rest, rfl, hnm⟩ := x.st.q.own (by omega)
    have hn := x.nq (n := n) rfl
    have h1 : (n = H.next) = False := by simp; omega
    have h2 : (r = n) = False := by simp; omega
    rw [act1 kk]
    have hvn : Valid c { s with net := s.net.eraseIdx a.n.toNat } := hV.net (by rw [List.length_eraseIdx]; split <;> omega) fun q hq => hV.nt q (List.mem_of_mem_eraseIdx hq)
    have hko := hV.nt _ (getD_mem hi)
    generalize hx0 : s.net.getD a.n.toNat default = x0 at hko
    have d0 := flatE_drop (enc := pkR) pkR_len s.net a.n.toNat 0 rest hi (by decide)
    rw [hx0] at d0
    simp only [Nat.add_zero, pkR, List.drop_zero, List.drop_succ_cons, List.cons_append, List.nil_append] at d0
    have hw : IntKind.i64.wrap (a.n + 1) = (a.n.toNat : Int) + 1 := by rw [wrapI (by omega) (by omega)]; omega
    have hw2 : (a.n.toNat : Int) = a.n := by omega
    simp only [g0, g1, hrb, e1, hnm, d0, le4, f5, h1, hw, Cd.cd47, Tk.t47, base0, base1, base2, base3, Option.isNone_none, Option.isNone_some, Nat.reduceBEq, true_or, or_true, false_or, or_false, Nat.reduceLT, Nat.reduceMod, Nat.reducePow, rmaps, nsucc, List.flatten_cons, List.flatten_nil, Nat.reduceEqDiff, Nat.reduceLeDiff, Nat.reduceAdd, Nat.reduceMul, Nat.reduceSub, ↓reduceIte, reduceCtorEq, decide_true, decide_false]
    rw [show AV.v (.int .i64 a.n) = .v (.int .i64 (a.n.toNat : Int)) from by rw [hw2]]
    refine DelR.go' (delete74 (l := s.net) (m := n) (rest := rest) (by simp [h1, hnm]) a.n.toNat hi (by omega)) fun H2 hH2 => ?_
    obtain ⟨t2, nx2, o2, rest', m2⟩ := hH2
    have hr2 := o2 r (by omega)
    have hnx := o2 H.next (by omega)
    simp only [f5, if_true, if_false, hrb] at hr2 hnx
    simp only [hr2, hnx, f5, h1, h2, Ne.symm (show r ≠ H.next by omega), Cd.cd47, Tk.t47, base0, base1, base2, base3, Option.isNone_none, Option.isNone_some, Nat.reduceBEq, true_or, or_true, false_or, or_false, Nat.reduceLT, Nat.reduceMod, Nat.reducePow, rmaps, nsucc, List.flatten_cons, List.flatten_nil, Nat.reduceEqDiff, Nat.reduceLeDiff, Nat.reduceAdd, Nat.reduceMul, Nat.reduceSub, ↓reduceIte, reduceCtorEq, decide_true, decide_false]
    refine DoneR.go (deliver75 (B := B) (s := { s with net := s.net.eraseIdx a.n.toNat }) ?_ hvn x0 hko) fun H' hF hR' => ?_
    · refine ⟨p, h, .sl 4 n 0 (s.net.length - 1), o, ?_⟩
      have hel : (s.net.eraseIdx a.n.toNat).length = s.net.length - 1 := by rw [List.length_eraseIdx, if_pos hi]
      exact x.net (aq' := .sl 4 n 0 (s.net.length - 1)) (by simp at nx2; simp; omega) (by simp [runL, caseL, stO]) (.inr ⟨n, rest', by rw [hel], by simp [Ne.symm (show r ≠ n by omega), m2]⟩) (.inl rfl) fun m q1 q2 q3 => by
        have q3 : m ≠ n := fun e => q3 (by rw [e]; rfl)
        have := o2 m q3
        simp [q2, this, show m ≠ H.next by omega]
    · simp only [Cd.cd47, Tk.t47, base0, base1, base2, base3, Option.isNone_none, Option.isNone_some, Nat.reduceBEq, true_or, or_true, false_or, or_false, Nat.reduceLT, Nat.reduceMod, Nat.reducePow, rmaps, nsucc, List.flatten_cons, List.flatten_nil, Nat.reduceEqDiff, Nat.reduceLeDiff, Nat.reduceAdd, Nat.reduceMul, Nat.reduceSub, ↓reduceIte, reduceCtorEq, decide_true, decide_false]
      refine ⟨rfl, Fr.trans ?_ hF, hR'⟩
      exact ⟨t2, by simp at nx2; simp; omega, fun m hm => by
        have := o2 m (by omega)
        simp [show m ≠ r by omega, this, show m ≠ H.next by omega]⟩
  · have g0 : (a.kind == 0) = false := by simp [kk]
    have g1 : (a.kind == 1) = false := by simp [kk]
    have g2 : (a.kind == 2) = true := by simp [kk]
    have w := possible_net hp (by omega)
    have hi : a.n.toNat < s.net.length := by omega
    obtain ⟨n, rest, rfl, hnm⟩ := x.st.q.own (by omega)
    have hn := x.nq (n := n) rfl
    have h2 : (r = n) = False := by simp; omega
    rw [act2 kk]
    have hw : IntKind.i64.wrap (a.n + 1) = (a.n.toNat : Int) + 1 := by rw [wrapI (by omega) (by omega)]; omega
    have hw2 : a.n = (a.n.toNat : Int) := by omega
    simp only [g0, g1, g2, hrb, hw, Cd.cd47, Tk.t47, base0, base1, base2, base3, Option.isNone_none, Option.isNone_some, Nat.reduceBEq, true_or, or_true, false_or, or_false, Nat.reduceLT, Nat.reduceMod, Nat.reducePow, rmaps, nsucc, List.flatten_cons, List.flatten_nil, Nat.reduceEqDiff, Nat.reduceLeDiff, Nat.reduceAdd, Nat.reduceMul, Nat.reduceSub, ↓reduceIte, reduceCtorEq, decide_true, decide_false]
    rw [show AV.v (.int .i64 a.n) = .v (.int .i64 (a.n.toNat : Int)) from by rw [← hw2]]
    refine DelR.go' (delete74 (l := s.net) (m := n) (rest := rest) hnm a.n.toNat hi (by omega)) fun H2 hH2 => ?_
    obtain ⟨t2, nx2, o2, rest', m2⟩ := hH2
    have hr2 := o2 r (by omega)
    rw [hrb] at hr2
    simp only [hr2, Cd.cd47, Tk.t47, base0, base1, base2, base3, Option.isNone_none, Option.isNone_some, Nat.reduceBEq, true_or, or_true, false_or, or_false, Nat.reduceLT, Nat.reduceMod, Nat.reducePow, rmaps, nsucc, List.flatten_cons, List.flatten_nil, Nat.reduceEqDiff, Nat.reduceLeDiff, Nat.reduceAdd, Nat.reduceMul, Nat.reduceSub, ↓reduceIte, reduceCtorEq, decide_true, decide_false]
    have hel : (s.net.eraseIdx a.n.toNat).length = s.net.length - 1 := by rw [List.length_eraseIdx, if_pos hi]
    refine ⟨rfl, ⟨t2, by simp [nx2], fun m hm => by simp [show m ≠ r by omega, o2 m (by omega)]⟩, p, h, .sl 4 n 0 (s.net.length - 1), o, ?_⟩
    exact x.net (aq' := .sl 4 n 0 (s.net.length - 1)) (by simp [nx2]) (by simp [runL, caseL, stO]) (.inr ⟨n, rest', by rw [hel], by simp [Ne.symm (show r ≠ n by omega), m2]⟩) (.inl rfl) fun m q1 q2 q3 => by
      have q3 : m ≠ n := fun e => q3 (by rw [e]; rfl)
      simp [q2, o2 m q3]
  · have g0 : (a.kind == 0) = false := by simp [kk]
    have g1 : (a.kind == 1) = false := by simp [kk]
    have g2 : (a.kind == 2) = false := by simp [kk]
    have g3 : (a.kind == 3) = true := by simp [kk]
    have w := possible_net hp (by omega)
    have hi : a.n.toNat < s.net.length := by omega
    have e1 : 0 ≤ a.n ∧ a.n < (s.net.length : Int) := by omega
    have hlt : s.net.length < 12 := by
      unfold isPossible at hp
      rw [if_neg (by simp [kk]), if_pos (by simp [kk])] at hp
      simp only [Bool.and_eq_true, decide_eq_true_eq] at hp
      omega
    obtain ⟨n, rest, rfl, hnm⟩ := x.st.q.own (by omega)
    have hn := x.nq (n := n) rfl
    have h2 : (r = n) = False := by simp; omega
    have h3 : (n = H.next) = False := by simp; omega
    rw [act3 kk]
    generalize hx0 : s.net.getD a.n.toNat default = x0
    have d0 := flatE_drop (enc := pkR) pkR_len s.net a.n.toNat 0 rest hi (by decide)
    rw [hx0] at d0
    simp only [Nat.add_zero, pkR, List.drop_zero, List.drop_succ_cons, List.cons_append, List.nil_append] at d0
    have elen : s.net.length * 4 ≤ (flatE pkR s.net ++ rest).length := by rw [List.length_append, flatE_len pkR_len]; omega
    have etk : List.take (s.net.length * 4) (flatE pkR s.net ++ rest) = flatE pkR s.net := by rw [← flatE_len pkR_len, List.take_left]
    simp only [g0, g1, g2, g3, hrb, e1, hnm, d0, le4, elen, etk, room1 (b := 32) (n := s.net.length) (by omega) (by omega), f5, h2, h3, Cd.cd47, Tk.t47, base0, base1, base2, base3, Option.isNone_none, Option.isNone_some, Nat.reduceBEq, true_or, or_true, false_or, or_false, Nat.reduceLT, Nat.reduceMod, Nat.reducePow, rmaps, nsucc, List.flatten_cons, List.flatten_nil, Nat.reduceEqDiff, Nat.reduceLeDiff, Nat.reduceAdd, Nat.reduceMul, Nat.reduceSub, ↓reduceIte, reduceCtorEq, decide_true, decide_false]
    rw [show sendP s.net x0 = s.net ++ [x0] from if_pos hlt]
    refine ⟨rfl, ⟨rfl, by simp, fun m hm => by simp [show m ≠ r by omega, show m ≠ n by omega, show m ≠ H.next by omega]⟩, p, h, .sl 4 H.next 0 (s.net.length + 1), o, ?_⟩
    exact x.net (aq' := .sl 4 H.next 0 (s.net.length + 1)) (by simp) (by simp [runL, caseL, stO]) (.inr ⟨H.next, [], by simp, by simp [Ne.symm (show r ≠ H.next by omega), Ne.symm (show n ≠ H.next by omega), flatE_append]; rfl⟩) (.inr ⟨rfl, by simp⟩) fun m q1 q2 q3 => by
      have q3 : m ≠ n := fun e => q3 (by rw [e]; rfl)
      simp [q2, q3, show m ≠ H.next by omega]
  · have g0 : (a.kind == 0) = false := by simp; omega
    have g1 : (a.kind == 1) = false := by simp; omega
    have g2 : (a.kind == 2) = false := by simp; omega
    have g3 : (a.kind == 3) = false := by simp; omega
    have w := possible_in hp (by omega)
    obtain ⟨i, hpt⟩ := tell_some hp kk
    obtain ⟨q1, q2, q3⟩ := hV.hostIx w.1 (by omega)
    have hi : (c.place.getD a.n.toNat 0).toNat < o.length := by omega
    have e1 : 0 ≤ a.n ∧ a.n < (c.place.length : Int) := by omega
    have e2 : 0 ≤ c.place.getD a.n.toNat 0 ∧ c.place.getD a.n.toNat 0 < (o.length : Int) := by omega
    have e3 : 0 ≤ a.n ∧ a.n < (c.verd.length : Int) := by omega
    rw [act45 kk hpt]
    have eh : hostOf c s a.n = (o.getD (c.place.getD a.n.toNat 0).toNat default).hs := by
      unfold hostOf
      rw [x.st.eq, getD_mapH _ _ hi]
    have hpa : partIx (o.getD (c.place.getD a.n.toNat 0).toNat default).parts a.n = some i := by
      have := hpt; unfold partAt at this; rw [eh] at this; exact this
    obtain ⟨i1, i2⟩ := partIx_some hpa
    have hpok := hV.hs _ q2
    rw [show s.hosts.getD (c.place.getD a.n.toNat 0).toNat default = (o.getD (c.place.getD a.n.toNat 0).toNat default).hs from eh] at hpok
    have hpto := hpok.1 _ (getD_mem (l := (o.getD (c.place.getD a.n.toNat 0).toNat default).hs.parts) i1)
    have hmem := x.st.m _ (getD_mem hi)
    have hdm := x.st.dm _ (getD_mem hi)
    have hno := fun n => x.no (getD_mem hi) (n := n)
    rw [eh]
    have d1 := flatE_drop' (enc := hsO) (l := o) (i := (c.place.getD a.n.toNat 0).toNat) (j := 1) hsO_len hi (by decide)
    generalize hx0 : o.getD (c.place.getD a.n.toNat 0).toNat default = x0 at i1 i2 hmem hdm hno hpto d1
    simp only [hsO, List.drop_zero, List.drop_succ_cons, List.cons_append, List.nil_append] at d1
    obtain ⟨n, rest, hxa, hnm⟩ := hmem.own (by omega)
    have hn := hno n (by rw [hxa]; rfl)
    have hn2 := hdm n (by rw [hxa]; rfl)
    rw [hxa] at d1
    have g4 : (if a.kind == 4 then true else a.kind == 5) = true := by rcases kk with e | e <;> simp [e]
    generalize hy0 : x0.parts.getD i default = y0
    have hy0' : x0.hs.parts.getD i default = y0 := hy0
    rw [hy0'] at hpto ⊢
    have e4 : (0 : Int) ≤ (i : Int) ∧ (i : Int) < (x0.parts.length : Int) := by omega
    have gg := getD_ints c.place a.n.toNat (by omega)
    have gv := getD_ints c.verd a.n.toNat (by omega)
    have hwt : IntKind.i64.wrap (y0.tr + 1) = y0.tr + 1 := by
      cases hye : y0.ended
      · have := hpto.ne hye; exact wrapI (by omega) (by omega)
      · have := hpto.en hye; exact wrapI (by omega) (by omega)
    have hnr : (n = r) = False := by simp; omega
    have hrn : (r = n) = False := by simp; omega
    have hnh' : (h = n) = False := by simp; exact Ne.symm hn2.2.1
    have hpn : (p = n) = False := by simp; exact Ne.symm hn2.1
    have hk4 : (a.kind == 4) = true ∨ ((a.kind == 4) = false ∧ (a.kind == 5) = true) := by rcases kk with e | e <;> simp [e]
    let v0 := c.verd.getD a.n.toNat 0
    have l1 : i * 5 + 1 + 1 ≤ (flatE ptR x0.parts ++ rest).length := by rw [List.length_append, flatE_len ptR_len]; omega
    have s1 := flatE_splice (enc := ptR) (k := 5) (l := x0.parts) (i := i) (j := 1) (rest := rest) (cs := [.v (.bool true)]) (x := ⟨y0.part, true, y0.seen, y0.v, y0.tr⟩) ptR_len i1 (by simp) (by rw [hy0]; rfl)
    have l2 : i * 5 + 3 + 1 ≤ (flatE ptR (x0.parts.set i ⟨y0.part, true, y0.seen, y0.v, y0.tr⟩) ++ rest).length := by rw [List.length_append, flatE_len ptR_len, List.length_set]; omega
    have s2 := flatE_splice (enc := ptR) (k := 5) (l := x0.parts.set i ⟨y0.part, true, y0.seen, y0.v, y0.tr⟩) (i := i) (j := 3) (rest := rest) (cs := [.v (.int .i64 (c.verd.getD a.n.toNat 0))]) (x := ⟨y0.part, true, y0.seen, c.verd.getD a.n.toNat 0, y0.tr⟩) ptR_len (by rw [List.length_set]; exact i1) (by simp) (by rw [getD_set i1, if_pos rfl]; rfl)
    rw [List.set_set] at s2
    have d4 := flatE_drop (enc := ptR) ptR_len (x0.parts.set i ⟨y0.part, true, y0.seen, c.verd.getD a.n.toNat 0, y0.tr⟩) i 4 rest (by rw [List.length_set]; exact i1) (by decide)
    rw [getD_set i1, if_pos rfl] at d4
    have l3 : i * 5 + 4 + 1 ≤ (flatE ptR (x0.parts.set i ⟨y0.part, true, y0.seen, c.verd.getD a.n.toNat 0, y0.tr⟩) ++ rest).length := by rw [List.length_append, flatE_len ptR_len, List.length_set]; omega
    have s3 := flatE_splice (enc := ptR) (k := 5) (l := x0.parts.set i ⟨y0.part, true, y0.seen, c.verd.getD a.n.toNat 0, y0.tr⟩) (i := i) (j := 4) (rest := rest) (cs := [.v (.int .i64 (y0.tr + 1))]) (x := ⟨y0.part, true, y0.seen, c.verd.getD a.n.toNat 0, y0.tr + 1⟩) ptR_len (by rw [List.length_set]; exact i1) (by simp) (by rw [getD_set i1, if_pos rfl]; rfl)
    rw [List.set_set] at s3
    have d5 := flatE_drop (enc := ptR) ptR_len (x0.parts.set i ⟨y0.part, true, y0.seen, c.verd.getD a.n.toNat 0, y0.tr + 1⟩) i 3 rest (by rw [List.length_set]; exact i1) (by decide)
    rw [getD_set i1, if_pos rfl] at d5
    simp only [ptR, List.drop_zero, List.drop_succ_cons, List.cons_append, List.nil_append, List.length_cons, List.length_nil, Nat.zero_add] at s1 s2 s3 d4 d5
    rcases hk4 with g4 | ⟨g4, g5⟩
    · simp only [g0, g1, g2, g3, g4, hrb, e1, gg, e2, x.st.hh, d1, ints, List.length_map, Cd.cd47, Tk.t47, base0, base1, base2, base3, Option.isNone_none, Option.isNone_some, Nat.reduceBEq, true_or, or_true, false_or, or_false, Nat.reduceLT, Nat.reduceMod, Nat.reducePow, rmaps, nsucc, List.flatten_cons, List.flatten_nil, Nat.reduceEqDiff, Nat.reduceLeDiff, Nat.reduceAdd, Nat.reduceMul, Nat.reduceSub, ↓reduceIte, reduceCtorEq, decide_true, decide_false]
      refine (partAt76 c s hV a.n w.1 (by omega)).bgoQ (caseViews x.st a.n) (Ground.v _) ?_
      rw [hpt]
      simp only [ixOf, e4, Int.toNat_natCast, hrb, hnm, l1, s1, hrn, e3, gv, ints, List.length_map, l2, s2, d4, hwt, l3, s3, d5, Cd.cd47, Tk.t47, base0, base1, base2, base3, Option.isNone_none, Option.isNone_some, Nat.reduceBEq, true_or, or_true, false_or, or_false, Nat.reduceLT, Nat.reduceMod, Nat.reducePow, rmaps, nsucc, List.flatten_cons, List.flatten_nil, Nat.reduceEqDiff, Nat.reduceLeDiff, Nat.reduceAdd, Nat.reduceMul, Nat.reduceSub, ↓reduceIte, reduceCtorEq, decide_true, decide_false]
      refine DoneR.go' (send73 (B := B) (c := c) (s := setHost s (c.place.getD a.n.toNat 0).toNat ⟨x0.lost, x0.parts.set i ⟨y0.part, true, y0.seen, c.verd.getD a.n.toNat 0, y0.tr + 1⟩⟩) ?_ 2 a.n (c.verd.getD a.n.toNat 0) w.1 (by omega) hln) fun H' hF hR' => ?_
      · refine ⟨p, h, aq, o.set (c.place.getD a.n.toNat 0).toNat ⟨x0.lost, .sl 5 n 0 x0.parts.length, x0.parts.set i ⟨y0.part, true, y0.seen, c.verd.getD a.n.toNat 0, y0.tr + 1⟩⟩, ?_⟩
        exact x.host (i := (c.place.getD a.n.toNat 0).toNat) (y := ⟨x0.lost, .sl 5 n 0 x0.parts.length, x0.parts.set i ⟨y0.part, true, y0.seen, c.verd.getD a.n.toNat 0, y0.tr + 1⟩⟩) hi (Nat.le_refl _) (by simp [show r ≠ n by omega])
          (by simp only [hnh', if_false]; rw [x.st.hh, flatE_same hi (by rw [hx0]; simp [hsO, hxa])]) (.inr ⟨n, rest, by simp, by simp⟩) (.inl (by rw [hx0, hxa])) fun m q1 q2 q3 => by
          rw [hx0, hxa] at q3
          simp [show m ≠ n from fun e => q3 (by rw [e]; rfl)]
      · simp only [Cd.cd47, Tk.t47, base0, base1, base2, base3, Option.isNone_none, Option.isNone_some, Nat.reduceBEq, true_or, or_true, false_or, or_false, Nat.reduceLT, Nat.reduceMod, Nat.reducePow, rmaps, nsucc, List.flatten_cons, List.flatten_nil, Nat.reduceEqDiff, Nat.reduceLeDiff, Nat.reduceAdd, Nat.reduceMul, Nat.reduceSub, ↓reduceIte, reduceCtorEq, decide_true, decide_false]
        refine ⟨rfl, Fr.trans ?_ hF, hR'⟩
        exact ⟨rfl, Nat.le_refl _, fun m hm => by simp [show m ≠ n by omega]⟩
    · simp only [g0, g1, g2, g3, g4, g5, hrb, e1, gg, e2, x.st.hh, d1, ints, List.length_map, Cd.cd47, Tk.t47, base0, base1, base2, base3, Option.isNone_none, Option.isNone_some, Nat.reduceBEq, true_or, or_true, false_or, or_false, Nat.reduceLT, Nat.reduceMod, Nat.reducePow, rmaps, nsucc, List.flatten_cons, List.flatten_nil, Nat.reduceEqDiff, Nat.reduceLeDiff, Nat.reduceAdd, Nat.reduceMul, Nat.reduceSub, ↓reduceIte, reduceCtorEq, decide_true, decide_false]
      refine (partAt76 c s hV a.n w.1 (by omega)).bgoQ (caseViews x.st a.n) (Ground.v _) ?_
      rw [hpt]
      simp only [ixOf, e4, Int.toNat_natCast, hrb, hnm, l1, s1, hrn, e3, gv, ints, List.length_map, l2, s2, d4, hwt, l3, s3, d5, Cd.cd47, Tk.t47, base0, base1, base2, base3, Option.isNone_none, Option.isNone_some, Nat.reduceBEq, true_or, or_true, false_or, or_false, Nat.reduceLT, Nat.reduceMod, Nat.reducePow, rmaps, nsucc, List.flatten_cons, List.flatten_nil, Nat.reduceEqDiff, Nat.reduceLeDiff, Nat.reduceAdd, Nat.reduceMul, Nat.reduceSub, ↓reduceIte, reduceCtorEq, decide_true, decide_false]
      refine DoneR.go' (send73 (B := B) (c := c) (s := setHost s (c.place.getD a.n.toNat 0).toNat ⟨x0.lost, x0.parts.set i ⟨y0.part, true, y0.seen, c.verd.getD a.n.toNat 0, y0.tr + 1⟩⟩) ?_ 2 a.n (c.verd.getD a.n.toNat 0) w.1 (by omega) hln) fun H' hF hR' => ?_
      · refine ⟨p, h, aq, o.set (c.place.getD a.n.toNat 0).toNat ⟨x0.lost, .sl 5 n 0 x0.parts.length, x0.parts.set i ⟨y0.part, true, y0.seen, c.verd.getD a.n.toNat 0, y0.tr + 1⟩⟩, ?_⟩
        exact x.host (i := (c.place.getD a.n.toNat 0).toNat) (y := ⟨x0.lost, .sl 5 n 0 x0.parts.length, x0.parts.set i ⟨y0.part, true, y0.seen, c.verd.getD a.n.toNat 0, y0.tr + 1⟩⟩) hi (Nat.le_refl _) (by simp [show r ≠ n by omega])
          (by simp only [hnh', if_false]; rw [x.st.hh, flatE_same hi (by rw [hx0]; simp [hsO, hxa])]) (.inr ⟨n, rest, by simp, by simp⟩) (.inl (by rw [hx0, hxa])) fun m q1 q2 q3 => by
          rw [hx0, hxa] at q3
          simp [show m ≠ n from fun e => q3 (by rw [e]; rfl)]
      · simp only [Cd.cd47, Tk.t47, base0, base1, base2, base3, Option.isNone_none, Option.isNone_some, Nat.reduceBEq, true_or, or_true, false_or, or_false, Nat.reduceLT, Nat.reduceMod, Nat.reducePow, rmaps, nsucc, List.flatten_cons, List.flatten_nil, Nat.reduceEqDiff, Nat.reduceLeDiff, Nat.reduceAdd, Nat.reduceMul, Nat.reduceSub, ↓reduceIte, reduceCtorEq, decide_true, decide_false]
        refine ⟨rfl, Fr.trans ?_ hF, hR'⟩
        exact ⟨rfl, Nat.le_refl _, fun m hm => by simp [show m ≠ n by omega]⟩
  · have g0 : (a.kind == 0) = false := by simp [kk]
    have g1 : (a.kind == 1) = false := by simp [kk]
    have g2 : (a.kind == 2) = false := by simp [kk]
    have g3 : (a.kind == 3) = false := by simp [kk]
    have g4 : (a.kind == 4) = false := by simp [kk]
    have g5 : (a.kind == 5) = false := by simp [kk]
    have g6 : (a.kind == 6) = true := by simp [kk]
    have w : 0 ≤ a.n ∧ a.n ≤ c.hosts - 1 := by
      unfold isPossible at hp
      rw [if_neg (by simp [kk]), if_neg (by simp [kk]), if_pos (by simp [kk])] at hp
      simp only [Bool.and_eq_true] at hp
      exact within_iff.mp hp.1
    have hi : a.n.toNat < o.length := by omega
    have e1 : 0 ≤ a.n ∧ a.n < (o.length : Int) := by omega
    rw [act6 kk, x.st.eq, getD_mapH _ _ hi]
    have hmem := x.st.m _ (getD_mem hi)
    have hdm := x.st.dm _ (getD_mem hi)
    generalize hx0 : o.getD a.n.toNat default = x0 at hmem hdm
    have l0 : a.n.toNat * 2 + 1 ≤ (flatE hsO o).length := by rw [flatE_len hsO_len]; omega
    have s0 := flatE_splice' (enc := hsO) (l := o) (i := a.n.toNat) (j := 0) (a := .v (.bool true)) (x := ⟨true, x0.a, x0.parts⟩) hsO_len hi (by decide) (by rw [hx0]; rfl)
    simp only [Nat.add_zero] at s0
    simp only [g0, g1, g2, g3, g4, g5, g6, hrb, e1, x.st.hh, l0, s0, Cd.cd47, Tk.t47, base0, base1, base2, base3, Option.isNone_none, Option.isNone_some, Nat.reduceBEq, true_or, or_true, false_or, or_false, Nat.reduceLT, Nat.reduceMod, Nat.reducePow, rmaps, nsucc, List.flatten_cons, List.flatten_nil, Nat.reduceEqDiff, Nat.reduceLeDiff, Nat.reduceAdd, Nat.reduceMul, Nat.reduceSub, ↓reduceIte, reduceCtorEq, decide_true, decide_false]
    refine ⟨rfl, ⟨rfl, Nat.le_refl _, fun m hm => by simp [show m ≠ h by omega]⟩, p, h, aq, o.set a.n.toNat ⟨true, x0.a, x0.parts⟩, ?_⟩
    exact x.host (i := a.n.toNat) (y := ⟨true, x0.a, x0.parts⟩) hi (Nat.le_refl _) (by simp [f3]) (by simp) (hmem.mono fun n hn => by simp [(hdm n hn).2.1]) (.inl (by rw [hx0])) fun m q1 q2 q3 => by simp [q2]
  · have g0 : (a.kind == 0) = false := by simp [kk]
    have g1 : (a.kind == 1) = false := by simp [kk]
    have g2 : (a.kind == 2) = false := by simp [kk]
    have g3 : (a.kind == 3) = false := by simp [kk]
    have g4 : (a.kind == 4) = false := by simp [kk]
    have g5 : (a.kind == 5) = false := by simp [kk]
    have g6 : (a.kind == 6) = false := by simp [kk]
    have g7 : (a.kind == 7) = true := by simp [kk]
    have w := possible_in hp (by omega)
    rw [act7 kk]
    simp only [g0, g1, g2, g3, g4, g5, g6, g7, Cd.cd47, Tk.t47, base0, base1, base2, base3, Option.isNone_none, Option.isNone_some, Nat.reduceBEq, true_or, or_true, false_or, or_false, Nat.reduceLT, Nat.reduceMod, Nat.reducePow, rmaps, nsucc, List.flatten_cons, List.flatten_nil, Nat.reduceEqDiff, Nat.reduceLeDiff, Nat.reduceAdd, Nat.reduceMul, Nat.reduceSub, ↓reduceIte, reduceCtorEq, decide_true, decide_false]
    refine DoneR.go (take77 ⟨p, h, aq, o, x⟩ a.n 4 w.1 (by omega)) fun H' hF hR' => ?_
    simp only [Cd.cd47, Tk.t47, base0, base1, base2, base3, Option.isNone_none, Option.isNone_some, Nat.reduceBEq, true_or, or_true, false_or, or_false, Nat.reduceLT, Nat.reduceMod, Nat.reducePow, rmaps, nsucc, List.flatten_cons, List.flatten_nil, Nat.reduceEqDiff, Nat.reduceLeDiff, Nat.reduceAdd, Nat.reduceMul, Nat.reduceSub, ↓reduceIte, reduceCtorEq, decide_true, decide_false]
    exact ⟨rfl, hF, hR'⟩
end
end Go.Proofs.Ytgmncggiblaciaa

/- Walks: copies, states at the start. -/
namespace Go.Proofs.Ytgmncggiblaciaa
open Go Go.Proofs.Ytgmncggiblaciaa.Ab
set_option maxRecDepth 100000

/-- a new list of the call's own -/
def NewA {α : Type} (enc : α → List AV) (k : Nat) (H : AH) (l : List α) (v : AV) (H' : AH) : Prop :=
  ((l = [] ∧ (v = nilS ∨ v = .lst k [] .full)) ∨ ∃ n, v = .sl k n 0 l.length ∧ H'.own n = some (.cells (flatE enc l))) ∧ H'.tip = H.tip ∧ H.next ≤ H'.next ∧ (∀ n, n < H.next → H'.own n = H.own n) ∧ ∀ n, nmA v = some n → H.next ≤ n ∧ n < H'.next
theorem NewA.nil {α : Type} {enc : α → List AV} {k : Nat} {H : AH} {v : AV} (h : v = nilS ∨ v = .lst k [] .full) : NewA enc k H ([] : List α) v H :=
  ⟨.inl ⟨rfl, h⟩, rfl, Nat.le_refl _, fun _ _ => rfl, fun n hn => by rcases h with rfl | rfl <;> cases hn⟩
theorem NewA.arr {α : Type} {enc : α → List AV} {k : Nat} {H H' : AH} {l : List α} {v : AV} (h : NewA enc k H l v H') : Arr enc k H' v l := by
  rcases h.1 with h | ⟨n, e, h⟩
  · exact .inl h
  · exact .inr ⟨n, [], e, by rw [List.append_nil]; exact h⟩
theorem NewA.sl {α : Type} {enc : α → List AV} {k : Nat} {H H' : AH} {l : List α} {v : AV} (h : NewA enc k H l v H') (hl : 0 < l.length) : ∃ n, v = .sl k n 0 l.length ∧ H'.own n = some (.cells (flatE enc l)) ∧ H.next ≤ n ∧ n < H'.next := by
  rcases h.1 with ⟨rfl, _⟩ | ⟨n, e, h1⟩
  · simp at hl
  · exact ⟨n, e, h1, h.2.2.2.2 n (by rw [e]; rfl)⟩
theorem NewA.goQ {P : Program} {m : FuncId} {args : List AV} {H : AH} {α : Type} {enc : α → List AV} {k : Nat} {l : List α} {mu : List Nat} {Kt : Kont} {dst : Option Nat} {fm : AF} {ds : List DOp} {f : AF} {pd : List (Nat × Nat × ABlk)} {rd : List Nat}
    (h : ACall P m args H (fun out H' => ∃ v, out = .ret v ∧ NewA enc k H l v H')) (hrd : ∀ n ∈ rd, n < H.next) (h' : ∀ v H', NewA enc k H l v H' → dops P mu Kt fm ds (f.put dst v) H' pd rd) : ACall P m args H (dcallQ P mu Kt fm dst ds f H pd rd) :=
  h.mono fun out H' hx => by
    obtain ⟨v, rfl, hn⟩ := hx
    exact ⟨fun n hr => hn.2.2.2.1 n (hrd n hr), h' v H' hn⟩
theorem NewA.go' {P : Program} {m : FuncId} {args : List AV} {H : AH} {α : Type} {enc : α → List AV} {k : Nat} {l : List α} {mu : List Nat} {Kt : Kont} {dst : Option Nat} {fm : AF} {ds : List DOp} {f : AF} {pd : List (Nat × Nat × ABlk)} {rd : List Nat}
    (h : ACall P m args H (fun out H' => ∃ v, out = .ret v ∧ NewA enc k H l v H')) (h' : ∀ v H', NewA enc k H l v H' → dops P mu Kt fm ds (f.put dst v) H' pd rd) : ACall P m args H (dcallK P mu Kt fm dst ds f pd rd) :=
  h.mono fun out H' hx => by
    obtain ⟨v, rfl, hn⟩ := hx
    exact h' v H' hn

theorem clone69 (l : List Pl) (H : AH) (hb : l.length < 2 ^ 40) : ACall Try.prog 69 [plsV l] H (fun out H' => ∃ v, out = .ret v ∧ NewA plR 4 H l v H') := by
  by_cases h0 : l = []
  · subst h0
    refine ACall.split ?_ ?_
    · refine ACall.enter [7] Cd.fn69 (by simp) ?_
      simp only [Cd.cd69, Tk.t69, base0, base1, base2, base3, Option.isNone_none, Option.isNone_some, Nat.reduceBEq, true_or, or_true, false_or, or_false, Nat.reduceLT, Nat.reduceMod, Nat.reducePow, rmaps, nsucc, List.flatten_cons, List.flatten_nil, Nat.reduceEqDiff, Nat.reduceLeDiff, Nat.reduceAdd, Nat.reduceMul, Nat.reduceSub, ↓reduceIte, reduceCtorEq, decide_true, decide_false]
      exact ⟨_, rfl, NewA.nil (.inl rfl)⟩
    · refine ACall.enter [7] Cd.fn69 (by simp) ?_
      simp only [Cd.cd69, Tk.t69, base0, base1, base2, base3, Option.isNone_none, Option.isNone_some, Nat.reduceBEq, true_or, or_true, false_or, or_false, Nat.reduceLT, Nat.reduceMod, Nat.reducePow, rmaps, nsucc, List.flatten_cons, List.flatten_nil, Nat.reduceEqDiff, Nat.reduceLeDiff, Nat.reduceAdd, Nat.reduceMul, Nat.reduceSub, ↓reduceIte, reduceCtorEq, decide_true, decide_false]
      exact ⟨_, rfl, NewA.nil (.inr rfl)⟩
  · have hl : 0 < l.length := List.length_pos_iff.mpr h0
    have hl' : (l.length = 0) = False := by simp; exact h0
    have hr : roomA 24 l.length = true := room_of (by omega) (by omega)
    refine ACall.enter [7] Cd.fn69 (by simp) ?_
    simp only [plsV, List.length_map, hl, hl', hr, Cd.cd69, Tk.t69, base0, base1, base2, base3, Option.isNone_none, Option.isNone_some, Nat.reduceBEq, true_or, or_true, false_or, or_false, Nat.reduceLT, Nat.reduceMod, Nat.reducePow, rmaps, nsucc, List.flatten_cons, List.flatten_nil, Nat.reduceEqDiff, Nat.reduceLeDiff, Nat.reduceAdd, Nat.reduceMul, Nat.reduceSub, ↓reduceIte, reduceCtorEq, decide_true, decide_false]
    exact ⟨_, rfl, .inr ⟨H.next, rfl, by simp [flatE]⟩, rfl, by simp, fun n hn => by simp [show n ≠ H.next by omega], fun n hn => by cases hn; simp⟩

theorem clone70 (l : List Hs) (H : AH) (hb : l.length < 2 ^ 40) : ACall Try.prog 70 [hssV l] H (fun out H' => ∃ v, out = .ret v ∧ NewA hsR 2 H l v H') := by
  by_cases h0 : l = []
  · subst h0
    refine ACall.split ?_ ?_
    · refine ACall.enter [7] Cd.fn70 (by simp) ?_
      simp only [Cd.cd70, Tk.t70, base0, base1, base2, base3, Option.isNone_none, Option.isNone_some, Nat.reduceBEq, true_or, or_true, false_or, or_false, Nat.reduceLT, Nat.reduceMod, Nat.reducePow, rmaps, nsucc, List.flatten_cons, List.flatten_nil, Nat.reduceEqDiff, Nat.reduceLeDiff, Nat.reduceAdd, Nat.reduceMul, Nat.reduceSub, ↓reduceIte, reduceCtorEq, decide_true, decide_false]
      exact ⟨_, rfl, NewA.nil (.inl rfl)⟩
    · refine ACall.enter [7] Cd.fn70 (by simp) ?_
      simp only [Cd.cd70, Tk.t70, base0, base1, base2, base3, Option.isNone_none, Option.isNone_some, Nat.reduceBEq, true_or, or_true, false_or, or_false, Nat.reduceLT, Nat.reduceMod, Nat.reducePow, rmaps, nsucc, List.flatten_cons, List.flatten_nil, Nat.reduceEqDiff, Nat.reduceLeDiff, Nat.reduceAdd, Nat.reduceMul, Nat.reduceSub, ↓reduceIte, reduceCtorEq, decide_true, decide_false]
      exact ⟨_, rfl, NewA.nil (.inr rfl)⟩
  · have hl : 0 < l.length := List.length_pos_iff.mpr h0
    have hl' : (l.length = 0) = False := by simp; exact h0
    have hr : roomA 32 l.length = true := room_of (by omega) (by omega)
    refine ACall.enter [7] Cd.fn70 (by simp) ?_
    simp only [hssV, List.length_map, hl, hl', hr, Cd.cd70, Tk.t70, base0, base1, base2, base3, Option.isNone_none, Option.isNone_some, Nat.reduceBEq, true_or, or_true, false_or, or_false, Nat.reduceLT, Nat.reduceMod, Nat.reducePow, rmaps, nsucc, List.flatten_cons, List.flatten_nil, Nat.reduceEqDiff, Nat.reduceLeDiff, Nat.reduceAdd, Nat.reduceMul, Nat.reduceSub, ↓reduceIte, reduceCtorEq, decide_true, decide_false]
    exact ⟨_, rfl, .inr ⟨H.next, rfl, by simp [flatE]⟩, rfl, by simp, fun n hn => by simp [show n ≠ H.next by omega], fun n hn => by cases hn; simp⟩

theorem clone71 (l : List Pk) (H : AH) (hb : l.length < 2 ^ 40) : ACall Try.prog 71 [pksV l] H (fun out H' => ∃ v, out = .ret v ∧ NewA pkR 4 H l v H') := by
  by_cases h0 : l = []
  · subst h0
    refine ACall.split ?_ ?_
    · refine ACall.enter [7] Cd.fn71 (by simp) ?_
      simp only [Cd.cd71, Tk.t71, base0, base1, base2, base3, Option.isNone_none, Option.isNone_some, Nat.reduceBEq, true_or, or_true, false_or, or_false, Nat.reduceLT, Nat.reduceMod, Nat.reducePow, rmaps, nsucc, List.flatten_cons, List.flatten_nil, Nat.reduceEqDiff, Nat.reduceLeDiff, Nat.reduceAdd, Nat.reduceMul, Nat.reduceSub, ↓reduceIte, reduceCtorEq, decide_true, decide_false]
      exact ⟨_, rfl, NewA.nil (.inl rfl)⟩
    · refine ACall.enter [7] Cd.fn71 (by simp) ?_
      simp only [Cd.cd71, Tk.t71, base0, base1, base2, base3, Option.isNone_none, Option.isNone_some, Nat.reduceBEq, true_or, or_true, false_or, or_false, Nat.reduceLT, Nat.reduceMod, Nat.reducePow, rmaps, nsucc, List.flatten_cons, List.flatten_nil, Nat.reduceEqDiff, Nat.reduceLeDiff, Nat.reduceAdd, Nat.reduceMul, Nat.reduceSub, ↓reduceIte, reduceCtorEq, decide_true, decide_false]
      exact ⟨_, rfl, NewA.nil (.inr rfl)⟩
  · have hl : 0 < l.length := List.length_pos_iff.mpr h0
    have hl' : (l.length = 0) = False := by simp; exact h0
    have hr : roomA 32 l.length = true := room_of (by omega) (by omega)
    refine ACall.enter [7] Cd.fn71 (by simp) ?_
    simp only [pksV, List.length_map, hl, hl', hr, Cd.cd71, Tk.t71, base0, base1, base2, base3, Option.isNone_none, Option.isNone_some, Nat.reduceBEq, true_or, or_true, false_or, or_false, Nat.reduceLT, Nat.reduceMod, Nat.reducePow, rmaps, nsucc, List.flatten_cons, List.flatten_nil, Nat.reduceEqDiff, Nat.reduceLeDiff, Nat.reduceAdd, Nat.reduceMul, Nat.reduceSub, ↓reduceIte, reduceCtorEq, decide_true, decide_false]
    exact ⟨_, rfl, .inr ⟨H.next, rfl, by simp [flatE]⟩, rfl, by simp, fun n hn => by simp [show n ≠ H.next by omega], fun n hn => by cases hn; simp⟩

theorem clone72 (l : List Pt) (H : AH) (hb : l.length < 2 ^ 40) : ACall Try.prog 72 [ptsV l] H (fun out H' => ∃ v, out = .ret v ∧ NewA ptR 5 H l v H') := by
  by_cases h0 : l = []
  · subst h0
    refine ACall.split ?_ ?_
    · refine ACall.enter [7] Cd.fn72 (by simp) ?_
      simp only [Cd.cd72, Tk.t72, base0, base1, base2, base3, Option.isNone_none, Option.isNone_some, Nat.reduceBEq, true_or, or_true, false_or, or_false, Nat.reduceLT, Nat.reduceMod, Nat.reducePow, rmaps, nsucc, List.flatten_cons, List.flatten_nil, Nat.reduceEqDiff, Nat.reduceLeDiff, Nat.reduceAdd, Nat.reduceMul, Nat.reduceSub, ↓reduceIte, reduceCtorEq, decide_true, decide_false]
      exact ⟨_, rfl, NewA.nil (.inl rfl)⟩
    · refine ACall.enter [7] Cd.fn72 (by simp) ?_
      simp only [Cd.cd72, Tk.t72, base0, base1, base2, base3, Option.isNone_none, Option.isNone_some, Nat.reduceBEq, true_or, or_true, false_or, or_false, Nat.reduceLT, Nat.reduceMod, Nat.reducePow, rmaps, nsucc, List.flatten_cons, List.flatten_nil, Nat.reduceEqDiff, Nat.reduceLeDiff, Nat.reduceAdd, Nat.reduceMul, Nat.reduceSub, ↓reduceIte, reduceCtorEq, decide_true, decide_false]
      exact ⟨_, rfl, NewA.nil (.inr rfl)⟩
  · have hl : 0 < l.length := List.length_pos_iff.mpr h0
    have hl' : (l.length = 0) = False := by simp; exact h0
    have hr : roomA 32 l.length = true := room_of (by omega) (by omega)
    refine ACall.enter [7] Cd.fn72 (by simp) ?_
    simp only [ptsV, List.length_map, hl, hl', hr, Cd.cd72, Tk.t72, base0, base1, base2, base3, Option.isNone_none, Option.isNone_some, Nat.reduceBEq, true_or, or_true, false_or, or_false, Nat.reduceLT, Nat.reduceMod, Nat.reducePow, rmaps, nsucc, List.flatten_cons, List.flatten_nil, Nat.reduceEqDiff, Nat.reduceLeDiff, Nat.reduceAdd, Nat.reduceMul, Nat.reduceSub, ↓reduceIte, reduceCtorEq, decide_true, decide_false]
    exact ⟨_, rfl, .inr ⟨H.next, rfl, by simp [flatE]⟩, rfl, by simp, fun n hn => by simp [show n ≠ H.next by omega], fun n hn => by cases hn; simp⟩
end Go.Proofs.Ytgmncggiblaciaa

/- Walks: a state of the call's own. -/
namespace Go.Proofs.Ytgmncggiblaciaa
open Go Go.Proofs.Ytgmncggiblaciaa.Ab
set_option maxRecDepth 100000

/-- a state of which the first hosts are the call's own -/
structure OwnI (B : Nat) (H : AH) (s : Stt) (i : Nat) (p h : Nat) (aq : AV) (o : List OH) : Prop where
  hp : H.own p = some (.cells (flatE plR s.placed))
  hh : H.own h = some (.cells (flatE hsO o))
  eq : s.hosts = o.map OH.hs
  q : Arr pkR 4 H aq s.net
  m : ∀ j, j < i → j < o.length → Arr ptR 5 H (o.getD j default).a (o.getD j default).parts
  m2 : ∀ j, i ≤ j → j < o.length → (o.getD j default).a = ptsV (o.getD j default).parts
  ph : p ≠ h
  dq : ∀ n, nmA aq = some n → n ≠ p ∧ n ≠ h
  dm : ∀ j, j < o.length → ∀ n, nmA (o.getD j default).a = some n → n ≠ p ∧ n ≠ h ∧ nmA aq ≠ some n
  dd : ∀ i j, i < o.length → j < o.length → i ≠ j → ∀ n, nmA (o.getD i default).a = some n → nmA (o.getD j default).a ≠ some n
  lp : B ≤ p ∧ p < H.next
  lh : B ≤ h ∧ h < H.next
  lq : ∀ n, nmA aq = some n → B ≤ n ∧ n < H.next
  lm : ∀ j, j < o.length → ∀ n, nmA (o.getD j default).a = some n → B ≤ n ∧ n < H.next

theorem OwnI.step {B : Nat} {H H1 H2 : AH} {s : Stt} {i p h : Nat} {aq v : AV} {o : List OH} (x : OwnI B H s i p h aq o) (hi : i < o.length) (hn : NewA ptR 5 H (o.getD i default).parts v H1)
    (hh : H2.own h = some (.cells (flatE hsO (o.set i ⟨(o.getD i default).lost, v, (o.getD i default).parts⟩)))) (hk : ∀ n, n ≠ h → H2.own n = H1.own n) (hx : H1.next ≤ H2.next) :
    OwnI B H2 s (i + 1) p h aq (o.set i ⟨(o.getD i default).lost, v, (o.getD i default).parts⟩) := by
  have ha := hn.arr
  obtain ⟨_, ht, hnx, hown, hnew⟩ := hn
  have hlp := x.lp; have hlh := x.lh
  have hke : ∀ n, n < H.next → n ≠ h → H2.own n = H.own n := fun n h1 h2 => (hk n h2).trans (hown n h1)
  refine ⟨?_, hh, ?_, x.q.mono fun n hn => ?_, fun j hj hjl => ?_, fun j hj hjl => ?_, x.ph, x.dq, fun j hjl n hn => ?_, fun a b ha' hb' hab n hn => ?_, by omega, by omega, fun n hn => ?_, fun j hjl n hn => ?_⟩
  · rw [hke p hlp.2 x.ph]; exact x.hp
  · rw [x.eq, List.map_set]
    apply List.ext_getElem?; intro j
    rw [List.getElem?_set]
    split
    · rename_i e; subst e
      rw [if_pos (by simpa using hi), List.getElem?_map, List.getElem?_eq_getElem hi, List.getD_eq_getElem?_getD, List.getElem?_eq_getElem hi]; rfl
    · rfl
  · exact hke n (x.lq n hn).2 (x.dq n hn).2
  · rw [List.length_set] at hjl
    rw [getD_set hi]
    by_cases e : i = j
    · rw [if_pos e]
      refine ha.mono fun n hn => hk n fun e => ?_
      have := hnew n hn; omega
    · rw [if_neg e]
      exact (x.m j (by omega) hjl).mono fun n hn => hke n (x.lm j hjl n hn).2 (x.dm j hjl n hn).2.1
  · rw [List.length_set] at hjl
    rw [getD_set hi, if_neg (by omega)]; exact x.m2 j (by omega) hjl
  · rw [List.length_set] at hjl
    rw [getD_set hi] at hn
    by_cases e : i = j
    · rw [if_pos e] at hn
      have := hnew n hn
      exact ⟨by omega, by omega, fun e => by have := x.lq n e; omega⟩
    · rw [if_neg e] at hn; exact x.dm j hjl n hn
  · rw [List.length_set] at ha' hb'
    rw [getD_set hi] at hn ⊢
    by_cases e1 : i = a <;> by_cases e2 : i = b
    · omega
    · rw [if_pos e1] at hn; rw [if_neg e2]
      have := hnew n hn
      intro e; have := x.lm b hb' n e; omega
    · rw [if_neg e1] at hn; rw [if_pos e2]
      intro e
      have := hnew n e; have := x.lm a ha' n hn; omega
    · rw [if_neg e1] at hn; rw [if_neg e2]; exact x.dd a b ha' hb' hab n hn
  · have := x.lq n hn; omega
  · rw [List.length_set] at hjl
    rw [getD_set hi] at hn
    by_cases e : i = j
    · rw [if_pos e] at hn; have := hnew n hn; omega
    · rw [if_neg e] at hn; have := x.lm j hjl n hn; omega

/-- a state of the call's own, new -/
structure NewS (H : AH) (s : Stt) (cs : List AV) (H' : AH) : Prop where
  ex : ∃ p h aq o, cs = stO s p h aq o ∧ OwnS H' s p h aq o ∧ ∀ n, NmS p h aq o n → H.next ≤ n ∧ n < H'.next
  tip : H'.tip = H.tip
  next : H.next ≤ H'.next
  own : ∀ n, n < H.next → H'.own n = H.own n

theorem OwnI.own {B : Nat} {H : AH} {s : Stt} {p h : Nat} {aq : AV} {o : List OH} (x : OwnI B H s o.length p h aq o) : OwnS H s p h aq o :=
  ⟨x.hp, x.hh, x.eq, x.q, fun y hy => by
    obtain ⟨j, hj, rfl⟩ := mem_getD hy
    exact x.m j hj hj, x.ph, x.dq, fun y hy => by
    obtain ⟨j, hj, rfl⟩ := mem_getD hy
    exact x.dm j hj, x.dd⟩
theorem OwnS.frame {H H' : AH} {s : Stt} {p h : Nat} {aq : AV} {o : List OH} (x : OwnS H s p h aq o) (hk : ∀ n, NmS p h aq o n → H'.own n = H.own n) : OwnS H' s p h aq o :=
  ⟨by rw [hk p (.inl rfl)]; exact x.hp, by rw [hk h (.inr (.inl rfl))]; exact x.hh, x.eq, x.q.mono fun n hn => hk n (.inr (.inr (.inl hn))), fun y hy => (x.m y hy).mono fun n hn => hk n (.inr (.inr (.inr ⟨y, hy, hn⟩))), x.ph, x.dq, x.dm, x.dd⟩
theorem OwnI.names {B : Nat} {H : AH} {s : Stt} {i p h : Nat} {aq : AV} {o : List OH} (x : OwnI B H s i p h aq o) : ∀ n, NmS p h aq o n → B ≤ n ∧ n < H.next := by
  intro n hn
  rcases hn with rfl | rfl | hn | ⟨y, hy, hn⟩
  · exact x.lp
  · exact x.lh
  · exact x.lq n hn
  · obtain ⟨j, hj, rfl⟩ := mem_getD hy
    exact x.lm j hj n hn
def ohF (x : Hs) : OH := ⟨x.lost, ptsV x.parts, x.parts⟩
theorem flat_ohF (l : List Hs) : flatE hsO (l.map ohF) = flatE hsR l := by
  unfold flatE; rw [List.map_map]; rfl

set_option maxHeartbeats 1000000 in
theorem own46 (s : Stt) (H : AH) (hs : SmallS s) (h1 : 0 < s.placed.length) (h2 : 0 < s.hosts.length) : ACall Try.prog 46 [stV s] H (fun out H' => ∃ cs, out = .ret (.agg cs) ∧ NewS H s cs H') := by
  have hsh := hs.h
  simp only [stV, stL]
  refine ACall.enter [1] Cd.fn46 (by simp) ?_
  simp only [Cd.cd46, Tk.t46, base0, base1, base2, base3, Option.isNone_none, Option.isNone_some, Nat.reduceBEq, true_or, or_true, false_or, or_false, Nat.reduceLT, Nat.reduceMod, Nat.reducePow, rmaps, nsucc, List.flatten_cons, List.flatten_nil, Nat.reduceEqDiff, Nat.reduceLeDiff, Nat.reduceAdd, Nat.reduceMul, Nat.reduceSub, ↓reduceIte, reduceCtorEq, decide_true, decide_false]
  refine NewA.goQ (clone69 s.placed _ hs.p) (by simp; omega) fun v1 H1 hn1 => ?_
  have y1 : H.next + 1 + 1 ≤ H1.next := hn1.2.2.1
  simp only [Cd.cd46, Tk.t46, base0, base1, base2, base3, Option.isNone_none, Option.isNone_some, Nat.reduceBEq, true_or, or_true, false_or, or_false, Nat.reduceLT, Nat.reduceMod, Nat.reducePow, rmaps, nsucc, List.flatten_cons, List.flatten_nil, Nat.reduceEqDiff, Nat.reduceLeDiff, Nat.reduceAdd, Nat.reduceMul, Nat.reduceSub, ↓reduceIte, reduceCtorEq, decide_true, decide_false]
  refine NewA.goQ (clone70 s.hosts _ hs.h) (by simp; omega) fun v2 H2 hn2 => ?_
  simp only [Cd.cd46, Tk.t46, base0, base1, base2, base3, Option.isNone_none, Option.isNone_some, Nat.reduceBEq, true_or, or_true, false_or, or_false, Nat.reduceLT, Nat.reduceMod, Nat.reducePow, rmaps, nsucc, List.flatten_cons, List.flatten_nil, Nat.reduceEqDiff, Nat.reduceLeDiff, Nat.reduceAdd, Nat.reduceMul, Nat.reduceSub, ↓reduceIte, reduceCtorEq, decide_true, decide_false]
  refine NewA.go' (clone71 s.net _ hs.n) fun v3 H3 hn3 => ?_
  obtain ⟨p, rfl, hp, p1, p2⟩ := hn1.sl h1
  obtain ⟨h, rfl, hh, q1, q2⟩ := hn2.sl h2
  have k1 := hn1.2.2.2.1; have x1 := hn1.2.2.1; have t1 := hn1.2.1
  have k2 := hn2.2.2.2.1; have x2 := hn2.2.2.1; have t2 := hn2.2.1
  have k3 := hn3.2.2.2.1; have x3 := hn3.2.2.1; have t3 := hn3.2.1; have w3 := hn3.2.2.2.2
  have a3 := hn3.arr
  simp only at k1 x1 t1 p1
  have ho1 : H3.own H.next = some (.cells [plsV s.placed, .v (.int .i64 s.v), hssV s.hosts, pksV s.net]) := by
    rw [k3 _ (by omega), k2 _ (by omega), k1 _ (by omega)]; simp
  have ho2 : H3.own (H.next + 1) = some (.cells [.v (.slice none 0 0), .v (.int .i64 0), .v (.slice none 0 0), .v (.slice none 0 0)]) := by
    rw [k3 _ (by omega), k2 _ (by omega), k1 _ (by omega)]; simp
  have hn3o : ∀ n, nmA v3 = some n → H2.next ≤ n ∧ n < H3.next := fun n hn => w3 n hn
  have one3 : AV.one v3 = true := by
    rcases hn3.1 with ⟨_, rfl | rfl⟩ | ⟨n, rfl, _⟩ <;> rfl
  generalize hB : H.next + 1 + 1 = B at p1 x1 k1
  have hI : OwnI B H3 s 0 p h v3 (s.hosts.map ohF) := by
    refine ⟨by rw [k3 _ (by omega), k2 _ (by omega)]; exact hp, by rw [k3 _ (by omega), hh, flat_ohF], ?_, a3, fun j hj => by omega, fun j _ hj => ?_, by omega, fun n hn => ?_, fun j hj n hn => ?_, fun a b ha' hb' _ n hn => ?_, by omega, by omega, fun n hn => ?_, fun j hj n hn => ?_⟩
    · rw [List.map_map]
      have : (OH.hs ∘ ohF) = id := by funext x; rfl
      rw [this, List.map_id]
    · rw [List.length_map] at hj
      rw [List.getD_eq_getElem?_getD, List.getElem?_map, List.getElem?_eq_getElem hj]; rfl
    · have := w3 n hn; omega
    all_goals first
      | (have := w3 n hn; omega)
      | (exfalso
         first
           | (rw [List.length_map] at hj; rw [List.getD_eq_getElem?_getD, List.getElem?_map, List.getElem?_eq_getElem hj] at hn; cases hn)
           | (rw [List.length_map] at ha'; rw [List.getD_eq_getElem?_getD, List.getElem?_map, List.getElem?_eq_getElem ha'] at hn; cases hn))
  obtain ⟨v3', hv3⟩ : ∃ v3', v3' = v3 := ⟨_, rfl⟩
  rw [← hv3] at hI
  have e3 := hn3.1
  rcases e3 with ⟨_, rfl | rfl⟩ | ⟨n3, rfl, _⟩
  all_goals
    simp only [ho1, nilS, one3, Cd.cd46, Tk.t46, base0, base1, base2, base3, Option.isNone_none, Option.isNone_some, Nat.reduceBEq, true_or, or_true, false_or, or_false, Nat.reduceLT, Nat.reduceMod, Nat.reducePow, rmaps, nsucc, List.flatten_cons, List.flatten_nil, Nat.reduceEqDiff, Nat.reduceLeDiff, Nat.reduceAdd, Nat.reduceMul, Nat.reduceSub, ↓reduceIte, reduceCtorEq, decide_true, decide_false]
    obtain ⟨n1, hn1e⟩ : ∃ n1, n1 = H.next := ⟨_, rfl⟩
    refine LWP.loop [] (fun m f H' => ∃ i, m = s.hosts.length - i ∧ (i ≤ s.hosts.length) ∧ f.t 19 = .v (.int .i64 (i : Nat)) ∧ f.t 18 = .v (.int .i64 s.hosts.length) ∧ f.t 1 = .ptr n1 0 ∧ f.t 2 = .ptr (n1 + 1) 0 ∧ f.ds = [] ∧ ∃ o, OwnI B H' s i p h v3' o ∧ H'.own n1 = some (.cells [.sl 4 p 0 s.placed.length, .v (.int .i64 s.v), .sl 2 h 0 s.hosts.length, v3']) ∧ H'.own (n1 + 1) = some (.cells [.v (.slice none 0 0), .v (.int .i64 0), .v (.slice none 0 0), .v (.slice none 0 0)]) ∧ H'.tip = H.tip ∧ B ≤ H'.next ∧ (∀ n, n < H.next → H'.own n = H.own n)) ?_ ?_ (m := s.hosts.length - (0))
    · exact ⟨0, rfl, (by omega), rfl, rfl, by rw [hn1e]; rfl, by rw [hn1e]; rfl, rfl, by refine ⟨_, ⟨?_, ?_, hI.eq, hI.q.mono fun n hn => ?_, fun j hj => by omega, hI.m2, hI.ph, hI.dq, hI.dm, hI.dd, hI.lp, hI.lh, hI.lq, hI.lm⟩, ?_, ?_, ?_, ?_, fun n hn => ?_⟩ <;> first   | (simp [show p ≠ H.next by omega]; exact hI.hp)   | (simp [show h ≠ H.next by omega]; exact hI.hh)   | (have := hI.lq n hn; simp [show n ≠ H.next by omega])   | (simp [hn1e, hv3, nilS]; done)   | (simp [hn1e]; exact ho2)   | (simp [t3, t2, t1]; done)   | (simp; omega)   | (simp [show n ≠ H.next by omega]; rw [k3 _ (by omega), k2 _ (by omega), k1 _ (by omega)]; simp [show n ≠ H.next by omega, show n ≠ H.next + 1 by omega])⟩
    · rintro m f H' ⟨i, rfl, hi, f19, f18, f1, f2, hds, ⟨o,hI2,hb1,hb2,ht4,hx4,hk4⟩⟩
      have hol : o.length = s.hosts.length := by rw [hI2.eq, List.length_map]
      have hlp := hI2.lp; have hlh := hI2.lh
      by_cases hlt : i < s.hosts.length
      · have hlo : i < o.length := by omega
        have hm2 := hI2.m2 i (Nat.le_refl _) hlo
        have d1 := flatE_drop' (enc := hsO) (l := o) (i := i) (j := 1) hsO_len hlo (by decide)
        have hpb := hs.q' i
        have ehs : s.hosts.getD i default = (o.getD i default).hs := by rw [hI2.eq, getD_mapH _ _ hlo]
        rw [ehs] at hpb
        generalize hx0 : o.getD i default = x0 at hm2 d1 hpb
        simp only [hsO, List.drop_zero, List.drop_succ_cons, List.cons_append, List.nil_append, hm2] at d1
        simp only [ltT hlt, inR hlt, Int.toNat_natCast, hb1, hI2.hh, d1, f19, f18, f1, f2, hds, Cd.cd46, Tk.t46, base0, base1, base2, base3, Option.isNone_none, Option.isNone_some, Nat.reduceBEq, true_or, or_true, false_or, or_false, Nat.reduceLT, Nat.reduceMod, Nat.reducePow, rmaps, nsucc, List.flatten_cons, List.flatten_nil, Nat.reduceEqDiff, Nat.reduceLeDiff, Nat.reduceAdd, Nat.reduceMul, Nat.reduceSub, ↓reduceIte, reduceCtorEq, decide_true, decide_false]
        refine NewA.goQ (clone72 x0.parts _ hpb) (by simp; omega) fun v H5 hn5 => ?_
        have l1 : i * 2 + 1 + 1 ≤ (flatE hsO o).length := by rw [flatE_len hsO_len]; omega
        have s1 := flatE_splice' (enc := hsO) (l := o) (i := i) (j := 1) (a := v) (x := ⟨x0.lost, v, x0.parts⟩) hsO_len hlo (by decide) (by rw [hx0]; rfl)
        have k5 := hn5.2.2.2.1; have x5 := hn5.2.2.1; have t5 := hn5.2.1
        have hh5 : H5.own h = some (.cells (flatE hsO o)) := by rw [k5 h hlh.2]; exact hI2.hh
        have hb15 : H5.own n1 = some (.cells [.sl 4 p 0 s.placed.length, .v (.int .i64 s.v), .sl 2 h 0 s.hosts.length, v3']) := by rw [k5 n1 (by omega)]; exact hb1
        have hb25 := hb2; rw [← k5 (n1 + 1) (by omega)] at hb25
        have hnh1 : (n1 = h) = False := by simp; omega
        have hnh2 : (n1 + 1 = h) = False := by simp; omega
        obtain ⟨v', hv'⟩ : ∃ v', v' = v := ⟨_, rfl⟩
        have hst := OwnI.step (H1 := H5) (v := v) (H2 := { H5 with own := fun m => if m = h then some (.cells (flatE hsO (o.set i ⟨x0.lost, v, x0.parts⟩))) else H5.own m }) hI2 hlo (by rw [hx0]; exact hn5) (by rw [hx0]; simp) (fun n hn => by simp [hn]) (Nat.le_refl _)
        rw [hx0] at hst
        have e5 := hn5.1
        rcases e5 with ⟨_, rfl | rfl⟩ | ⟨n5, rfl, _⟩
        all_goals
          try simp only [nilS] at s1 hst
          simp only [ltT hlt, inR hlt, Int.toNat_natCast, hh5, nilS, l1, s1, hb15, f19, f18, f1, f2, hds, Cd.cd46, Tk.t46, base0, base1, base2, base3, Option.isNone_none, Option.isNone_some, Nat.reduceBEq, true_or, or_true, false_or, or_false, Nat.reduceLT, Nat.reduceMod, Nat.reducePow, rmaps, nsucc, List.flatten_cons, List.flatten_nil, Nat.reduceEqDiff, Nat.reduceLeDiff, Nat.reduceAdd, Nat.reduceMul, Nat.reduceSub, ↓reduceIte, reduceCtorEq, decide_true, decide_false]
          refine ⟨_, by omega, i + 1, rfl, by omega, by rw [wrapS (by omega)], ?_⟩
          refine ⟨_, hst, ?_⟩
          refine ⟨?_, ?_, ?_, ?_, fun n hn => ?_⟩
          · rw [if_neg (by omega)]
          · rw [if_neg (by omega)]; exact hb25
          · exact t5.trans ht4
          · omega
          · first | rw [if_neg (by omega)] | rw [show ∀ a : Option ABlk, (if n = h then a else H5.own n) = H5.own n from fun a => if_neg (by omega)]
            rw [k5 n (by omega), hk4 n hn]
      · have hio : i = o.length := by omega
        subst hio
        subst hv3
        have hnn : (n1 = n1 + 1) = False := by simp
        simp only [ltF hlt, hb1, hb2, hnn, nilS, f19, f18, f1, f2, hds, Cd.cd46, Tk.t46, base0, base1, base2, base3, Option.isNone_none, Option.isNone_some, Nat.reduceBEq, true_or, or_true, false_or, or_false, Nat.reduceLT, Nat.reduceMod, Nat.reducePow, rmaps, nsucc, List.flatten_cons, List.flatten_nil, Nat.reduceEqDiff, Nat.reduceLeDiff, Nat.reduceAdd, Nat.reduceMul, Nat.reduceSub, ↓reduceIte, reduceCtorEq, decide_true, decide_false]
        refine ⟨_, rfl, ⟨p, h, _, o, ?_, hI2.own.frame fun n hn => ?_, fun n hn => ?_⟩, by simp [ht4], by simp; omega, fun n hn => ?_⟩
        · rw [stO, hol] <;> rfl
        · have := hI2.names n hn
          simp [show n ≠ n1 + 1 by omega]
        · have := hI2.names n hn
          simp; omega
        · simp [show n ≠ n1 + 1 by omega]; exact hk4 n hn
end Go.Proofs.Ytgmncggiblaciaa

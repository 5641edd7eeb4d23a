/- Part 2 of a proof: conformChain holds for every input; no condition. -/
import Derived.Test.YtchpcjmgifnmdaaDoorProg
import Derived.KernelRfl
import Derived.DeepKeys3
import Derived.Test.YtchpcjmgifnmdaaDoorCards
import Derived.Test.YtchpcjmgifnmdaaDoorTie
import Derived.ProofKit
import Derived.OpenShut
import Derived.SizedLaws
import Derived.Deep.DeepHandedRow
import Derived.Lib.LaidTab
import Derived.Test.YtchpcjmgifnmdaaDoorGl
import Derived.Test.YtchpcjmgifnmdaaDoorAb0
import Derived.Test.YtchpcjmgifnmdaaDoorAb1
import Derived.Test.YtchpcjmgifnmdaaDoorAb2
import Derived.Test.YtchpcjmgifnmdaaDoorAb3
import Derived.Test.YtchpcjmgifnmdaaDoorAb4
import Derived.Test.YtchpcjmgifnmdaaDoorAb5
import Derived.Test.YtchpcjmgifnmdaaDoorAb6
import Derived.Test.YtchpcjmgifnmdaaDoorAb7
import Derived.Test.YtchpcjmgifnmdaaDoorAb8
import Derived.Test.YtchpcjmgifnmdaaDoorAb8a
import Derived.Test.YtchpcjmgifnmdaaDoorAb8b
import Derived.Test.YtchpcjmgifnmdaaDoorAb8c
import Derived.Test.YtchpcjmgifnmdaaDoorAb8m
import Derived.Test.YtchpcjmgifnmdaaDoorAb8d
import Derived.Test.YtchpcjmgifnmdaaDoorAb9
import Derived.Test.YtchpcjmgifnmdaaDoorAb10
import Derived.Test.YtchpcjmgifnmdaaDoorAb11
import Derived.Test.YtchpcjmgifnmdaaDoorAb12
import Derived.Test.YtchpcjmgifnmdaaDoorAb13
import Derived.Test.YtchpcjmgifnmdaaDoorAb14
import Derived.Test.YtchpcjmgifnmdaaDoorAb15
import Derived.Test.YtchpcjmgifnmdaaDoorAb16
import Derived.Test.YtchpcjmgifnmdaaDoorAb17
import Derived.Test.YtchpcjmgifnmdaaDoorAb18
import Derived.Test.YtchpcjmgifnmdaaDoorAb19
import Derived.Test.YtchpcjmgifnmdaaDoorAb20
import Derived.Test.YtchpcjmgifnmdaaDoorAb23
import Derived.Test.YtchpcjmgifnmdaaDoorQe1
set_option linter.unusedSimpArgs false
set_option linter.unusedVariables false
set_option linter.defProp false
/- Walks: systems are checked, by the program and by the reference. -/
namespace Go.Proofs.YtchpcjmgifnmdaaDoor
open Go Go.Proofs.YtchpcjmgifnmdaaDoor.Ab
set_option maxRecDepth 100000
set_option linter.unusedSimpArgs false

theorem check_head {x : Re} (h : headErr x = true) : checkR x = (0, 3) := by unfold checkR; rw [if_pos h]
theorem check_large {x : Re} (h : headErr x = false) (h2 : 80 < x.mv.length) : checkR x = (0, 2) := by unfold checkR; rw [if_neg (by simp [h]), if_pos h2]
theorem check_move {x : Re} (h : headErr x = false) (h2 : ¬ 80 < x.mv.length) {i : Nat} (hi : i < x.mv.length) (hz : ∀ j, j < i → mvErr x j = 0) {e : Int} (he : mvErr x i = e) (hn : e ≠ 0) : checkR x = ((i : Int), e) := by
  unfold checkR
  rw [if_neg (by simp [h]), if_neg h2, firstIx_some hi (by simpa [he] using hn) fun j hj => by show (mvErr x j != 0) = false; rw [hz j hj]; rfl]
  simp [he]
theorem check_ok {x : Re} (h : headErr x = false) (h2 : ¬ 80 < x.mv.length) (hz : ∀ j, j < x.mv.length → mvErr x j = 0) : checkR x = (0, 0) := by
  unfold checkR
  rw [if_neg (by simp [h]), if_neg h2, firstIx_none fun j hj => by show (mvErr x j != 0) = false; rw [hz j hj]; rfl]
theorem mvErr_kind {x : Re} {i : Nat} (h : within (x.mv.getD i default).kd 0 2 = false) : mvErr x i = 4 := by
  unfold mvErr
  generalize x.mv.getD i default = m at *
  simp only [h, Bool.not_false, if_true]
theorem mvErr_range {x : Re} {i : Nat} (h : within (x.mv.getD i default).kd 0 2 = true)
    (h2 : within (x.mv.getD i default).fr 0 (IntKind.i64.wrap (x.st - 1)) = false ∨ within (x.mv.getD i default).to 0 (IntKind.i64.wrap (x.st - 1)) = false ∨ within (x.mv.getD i default).lb 0 (IntKind.i64.wrap (labels x (x.mv.getD i default) - 1)) = false) : mvErr x i = 3 := by
  unfold mvErr
  generalize x.mv.getD i default = m at *
  simp only [h, Bool.not_true, Bool.false_eq_true, if_false]
  rw [if_pos]
  rcases h2 with h | h | h <;> simp [h]
theorem mvErr_ord {x : Re} {i : Nat} (h : within (x.mv.getD i default).kd 0 2 = true)
    (h2 : within (x.mv.getD i default).fr 0 (IntKind.i64.wrap (x.st - 1)) = true) (h3 : within (x.mv.getD i default).to 0 (IntKind.i64.wrap (x.st - 1)) = true) (h4 : within (x.mv.getD i default).lb 0 (IntKind.i64.wrap (labels x (x.mv.getD i default) - 1)) = true) :
    mvErr x i = if decide (0 < i) && decide (0 ≤ cmpMv (x.mv.getD (i - 1) default) (x.mv.getD i default)) then 14 else 0 := by
  unfold mvErr
  simp only [h, h2, h3, h4, Bool.not_true, Bool.false_eq_true, if_false, Bool.or_false]
theorem kd_in {k : Int} : within k 0 2 = true ↔ k = 0 ∨ k = 1 ∨ k = 2 := by rw [within_iff]; omega
theorem kd_out {k : Int} (h0 : k ≠ 0) (h1 : k ≠ 1) (h2 : k ≠ 2) : within k 0 2 = false := by
  cases h : within k 0 2 with
  | false => rfl
  | true => rw [kd_in] at h; omega
set_option maxHeartbeats 2000000 in
theorem check23 (x : Re) : FCall Tryd.prog 23 [reV x] (· = .tup [.v (.int .i64 (checkR x).1), .v (.int .i64 (checkR x).2)]) := by
  simp only [reV, reL, mvsV]
  refine ACall.enter [] Cd.fn23 (by simp) ?_
  simp only [Cd.cd23, Tk.t23, base0, base1, base2, base3, Option.isNone_none, Option.isNone_some, Nat.reduceBEq, true_or, or_true, false_or, or_false, Nat.reduceLT, Nat.reduceMod, Nat.reducePow, rmaps, nsucc, List.flatten_cons, List.flatten_nil, Nat.reduceEqDiff, Nat.reduceLeDiff, Nat.reduceAdd, Nat.reduceMul, Nat.reduceSub, ↓reduceIte, reduceCtorEq, decide_true, decide_false]
  first | refine FCall.go (spans66 _ _ _) (FZs.v3 _ _ _) ?_ | refine FCall.go' (spans66 _ _ _) (FZs.v3 _ _ _) ?_ | refine FCall.goQ (spans66 _ _ _) (FZs.v3 _ _ _) ?_
  cases h1 : within x.st 1 10
  · simp only [Cd.cd23, Tk.t23, base0, base1, base2, base3, Option.isNone_none, Option.isNone_some, Nat.reduceBEq, true_or, or_true, false_or, or_false, Nat.reduceLT, Nat.reduceMod, Nat.reducePow, rmaps, nsucc, List.flatten_cons, List.flatten_nil, Nat.reduceEqDiff, Nat.reduceLeDiff, Nat.reduceAdd, Nat.reduceMul, Nat.reduceSub, ↓reduceIte, reduceCtorEq, decide_true, decide_false]
    exact fin_p (check_head (by simp [headErr, h1]))
  simp only [Cd.cd23, Tk.t23, base0, base1, base2, base3, Option.isNone_none, Option.isNone_some, Nat.reduceBEq, true_or, or_true, false_or, or_false, Nat.reduceLT, Nat.reduceMod, Nat.reducePow, rmaps, nsucc, List.flatten_cons, List.flatten_nil, Nat.reduceEqDiff, Nat.reduceLeDiff, Nat.reduceAdd, Nat.reduceMul, Nat.reduceSub, ↓reduceIte, reduceCtorEq, decide_true, decide_false]
  first | refine FCall.go (spans66 _ _ _) (FZs.v3 _ _ _) ?_ | refine FCall.go' (spans66 _ _ _) (FZs.v3 _ _ _) ?_ | refine FCall.goQ (spans66 _ _ _) (FZs.v3 _ _ _) ?_
  cases h2 : within x.s0 0 (IntKind.i64.wrap (x.st - 1))
  · simp only [Cd.cd23, Tk.t23, base0, base1, base2, base3, Option.isNone_none, Option.isNone_some, Nat.reduceBEq, true_or, or_true, false_or, or_false, Nat.reduceLT, Nat.reduceMod, Nat.reducePow, rmaps, nsucc, List.flatten_cons, List.flatten_nil, Nat.reduceEqDiff, Nat.reduceLeDiff, Nat.reduceAdd, Nat.reduceMul, Nat.reduceSub, ↓reduceIte, reduceCtorEq, decide_true, decide_false]
    exact fin_p (check_head (by simp [headErr, h2]))
  simp only [Cd.cd23, Tk.t23, base0, base1, base2, base3, Option.isNone_none, Option.isNone_some, Nat.reduceBEq, true_or, or_true, false_or, or_false, Nat.reduceLT, Nat.reduceMod, Nat.reducePow, rmaps, nsucc, List.flatten_cons, List.flatten_nil, Nat.reduceEqDiff, Nat.reduceLeDiff, Nat.reduceAdd, Nat.reduceMul, Nat.reduceSub, ↓reduceIte, reduceCtorEq, decide_true, decide_false]
  first | refine FCall.go (spans66 _ _ _) (FZs.v3 _ _ _) ?_ | refine FCall.go' (spans66 _ _ _) (FZs.v3 _ _ _) ?_ | refine FCall.goQ (spans66 _ _ _) (FZs.v3 _ _ _) ?_
  cases h3 : within x.inp 0 4
  · simp only [Cd.cd23, Tk.t23, base0, base1, base2, base3, Option.isNone_none, Option.isNone_some, Nat.reduceBEq, true_or, or_true, false_or, or_false, Nat.reduceLT, Nat.reduceMod, Nat.reducePow, rmaps, nsucc, List.flatten_cons, List.flatten_nil, Nat.reduceEqDiff, Nat.reduceLeDiff, Nat.reduceAdd, Nat.reduceMul, Nat.reduceSub, ↓reduceIte, reduceCtorEq, decide_true, decide_false]
    exact fin_p (check_head (by simp [headErr, h3]))
  simp only [Cd.cd23, Tk.t23, base0, base1, base2, base3, Option.isNone_none, Option.isNone_some, Nat.reduceBEq, true_or, or_true, false_or, or_false, Nat.reduceLT, Nat.reduceMod, Nat.reducePow, rmaps, nsucc, List.flatten_cons, List.flatten_nil, Nat.reduceEqDiff, Nat.reduceLeDiff, Nat.reduceAdd, Nat.reduceMul, Nat.reduceSub, ↓reduceIte, reduceCtorEq, decide_true, decide_false]
  first | refine FCall.go (spans66 _ _ _) (FZs.v3 _ _ _) ?_ | refine FCall.go' (spans66 _ _ _) (FZs.v3 _ _ _) ?_ | refine FCall.goQ (spans66 _ _ _) (FZs.v3 _ _ _) ?_
  cases h4 : within x.out 0 4
  · simp only [Cd.cd23, Tk.t23, base0, base1, base2, base3, Option.isNone_none, Option.isNone_some, Nat.reduceBEq, true_or, or_true, false_or, or_false, Nat.reduceLT, Nat.reduceMod, Nat.reducePow, rmaps, nsucc, List.flatten_cons, List.flatten_nil, Nat.reduceEqDiff, Nat.reduceLeDiff, Nat.reduceAdd, Nat.reduceMul, Nat.reduceSub, ↓reduceIte, reduceCtorEq, decide_true, decide_false]
    exact fin_p (check_head (by simp [headErr, h4]))
  have hh : headErr x = false := by simp [headErr, h1, h2, h3, h4]
  by_cases h5 : 80 < x.mv.length
  · simp only [List.length_map, show decide (((x.mv.length : Nat) : Int) > 80) = true from decide_eq_true (by omega), Cd.cd23, Tk.t23, base0, base1, base2, base3, Option.isNone_none, Option.isNone_some, Nat.reduceBEq, true_or, or_true, false_or, or_false, Nat.reduceLT, Nat.reduceMod, Nat.reducePow, rmaps, nsucc, List.flatten_cons, List.flatten_nil, Nat.reduceEqDiff, Nat.reduceLeDiff, Nat.reduceAdd, Nat.reduceMul, Nat.reduceSub, ↓reduceIte, reduceCtorEq, decide_true, decide_false]
    exact fin_p (check_large hh h5)
  simp only [List.length_map, show decide (((x.mv.length : Nat) : Int) > 80) = false from decide_eq_false (by omega), Cd.cd23, Tk.t23, base0, base1, base2, base3, Option.isNone_none, Option.isNone_some, Nat.reduceBEq, true_or, or_true, false_or, or_false, Nat.reduceLT, Nat.reduceMod, Nat.reducePow, rmaps, nsucc, List.flatten_cons, List.flatten_nil, Nat.reduceEqDiff, Nat.reduceLeDiff, Nat.reduceAdd, Nat.reduceMul, Nat.reduceSub, ↓reduceIte, reduceCtorEq, decide_true, decide_false]
  refine LWP.loop [] (fun m f H' => ∃ i, m = x.mv.length - i ∧ (i ≤ x.mv.length) ∧ (∀ j, j < i → mvErr x j = 0) ∧ f.t 1 = .box [.v (.int .i64 x.st), .v (.int .i64 x.s0), .v (.int .i64 x.inp), .v (.int .i64 x.out), .lst 4 (x.mv.map mvR) .unk] ∧ f.t 37 = .lst 4 (x.mv.map mvR) .unk ∧ f.t 38 = .v (.int .i64 (x.mv.length : Nat)) ∧ f.t 39 = .v (.int .i64 (i : Nat)) ∧ f.ds = [] ∧ True) ?_ ?_ (m := x.mv.length - (0))
  · exact ⟨0, rfl, (by omega), (fun j hj => by omega), rfl, rfl, rfl, rfl, rfl, trivial⟩
  · rintro m f H' ⟨i, rfl, hi, hz, f1, f37, f38, f39, hds, hH⟩
    by_cases hlt : i < x.mv.length
    · have hg := getD_map mvR x.mv i hlt
      generalize hm : x.mv.getD i default = mi at hg
      have ek : within mi.kd 0 2 = true → ∀ e, (labels x mi = e) → within mi.fr 0 (IntKind.i64.wrap (x.st - 1)) = false ∨ within mi.to 0 (IntKind.i64.wrap (x.st - 1)) = false ∨ within mi.lb 0 (IntKind.i64.wrap (e - 1)) = false → checkR x = ((i : Int), 3) := fun hk e he h => by
        subst he; subst hm
        exact check_move hh h5 hlt hz (mvErr_range hk h) (by omega)
      have fin : ∀ e, labels x mi = e → within mi.kd 0 2 = true → within mi.fr 0 (IntKind.i64.wrap (x.st - 1)) = true → within mi.to 0 (IntKind.i64.wrap (x.st - 1)) = true → within mi.lb 0 (IntKind.i64.wrap (e - 1)) = true →
          mvErr x i = if decide (0 < i) && decide (0 ≤ cmpMv (x.mv.getD (i - 1) default) mi) then 14 else 0 := fun e he a b c d => by
        subst he; subst hm; exact mvErr_ord a b c d
      by_cases k0 : mi.kd = 0
      · simp only [ltT hlt, List.length_map, inR hlt, Int.toNat_natCast, hg, mvR, show (mi.kd == 0) = true from beq_iff_eq.mpr k0, f1, f37, f38, f39, hds, Cd.cd23, Tk.t23, base0, base1, base2, base3, Option.isNone_none, Option.isNone_some, Nat.reduceBEq, true_or, or_true, false_or, or_false, Nat.reduceLT, Nat.reduceMod, Nat.reducePow, rmaps, nsucc, List.flatten_cons, List.flatten_nil, Nat.reduceEqDiff, Nat.reduceLeDiff, Nat.reduceAdd, Nat.reduceMul, Nat.reduceSub, ↓reduceIte, reduceCtorEq, decide_true, decide_false]
        first | refine FCall.go (spans66 _ _ _) (FZs.v3 _ _ _) ?_ | refine FCall.go' (spans66 _ _ _) (FZs.v3 _ _ _) ?_ | refine FCall.goQ (spans66 _ _ _) (FZs.v3 _ _ _) ?_
        cases r1 : within mi.fr 0 (IntKind.i64.wrap (x.st - 1))
        · simp only [f1, f37, f38, f39, hds, Cd.cd23, Tk.t23, base0, base1, base2, base3, Option.isNone_none, Option.isNone_some, Nat.reduceBEq, true_or, or_true, false_or, or_false, Nat.reduceLT, Nat.reduceMod, Nat.reducePow, rmaps, nsucc, List.flatten_cons, List.flatten_nil, Nat.reduceEqDiff, Nat.reduceLeDiff, Nat.reduceAdd, Nat.reduceMul, Nat.reduceSub, ↓reduceIte, reduceCtorEq, decide_true, decide_false]
          exact fin_p (ek (kd_in.mpr (.inl k0)) x.inp (by unfold labels; rw [if_pos k0]) (.inl r1))
        simp only [f1, f37, f38, f39, hds, Cd.cd23, Tk.t23, base0, base1, base2, base3, Option.isNone_none, Option.isNone_some, Nat.reduceBEq, true_or, or_true, false_or, or_false, Nat.reduceLT, Nat.reduceMod, Nat.reducePow, rmaps, nsucc, List.flatten_cons, List.flatten_nil, Nat.reduceEqDiff, Nat.reduceLeDiff, Nat.reduceAdd, Nat.reduceMul, Nat.reduceSub, ↓reduceIte, reduceCtorEq, decide_true, decide_false]
        first | refine FCall.go (spans66 _ _ _) (FZs.v3 _ _ _) ?_ | refine FCall.go' (spans66 _ _ _) (FZs.v3 _ _ _) ?_ | refine FCall.goQ (spans66 _ _ _) (FZs.v3 _ _ _) ?_
        cases r2 : within mi.to 0 (IntKind.i64.wrap (x.st - 1))
        · simp only [f1, f37, f38, f39, hds, Cd.cd23, Tk.t23, base0, base1, base2, base3, Option.isNone_none, Option.isNone_some, Nat.reduceBEq, true_or, or_true, false_or, or_false, Nat.reduceLT, Nat.reduceMod, Nat.reducePow, rmaps, nsucc, List.flatten_cons, List.flatten_nil, Nat.reduceEqDiff, Nat.reduceLeDiff, Nat.reduceAdd, Nat.reduceMul, Nat.reduceSub, ↓reduceIte, reduceCtorEq, decide_true, decide_false]
          exact fin_p (ek (kd_in.mpr (.inl k0)) x.inp (by unfold labels; rw [if_pos k0]) (.inr (.inl r2)))
        simp only [f1, f37, f38, f39, hds, Cd.cd23, Tk.t23, base0, base1, base2, base3, Option.isNone_none, Option.isNone_some, Nat.reduceBEq, true_or, or_true, false_or, or_false, Nat.reduceLT, Nat.reduceMod, Nat.reducePow, rmaps, nsucc, List.flatten_cons, List.flatten_nil, Nat.reduceEqDiff, Nat.reduceLeDiff, Nat.reduceAdd, Nat.reduceMul, Nat.reduceSub, ↓reduceIte, reduceCtorEq, decide_true, decide_false]
        first | refine FCall.go (spans66 _ _ _) (FZs.v3 _ _ _) ?_ | refine FCall.go' (spans66 _ _ _) (FZs.v3 _ _ _) ?_ | refine FCall.goQ (spans66 _ _ _) (FZs.v3 _ _ _) ?_
        cases r3 : within mi.lb 0 (IntKind.i64.wrap (x.inp - 1))
        · simp only [f1, f37, f38, f39, hds, Cd.cd23, Tk.t23, base0, base1, base2, base3, Option.isNone_none, Option.isNone_some, Nat.reduceBEq, true_or, or_true, false_or, or_false, Nat.reduceLT, Nat.reduceMod, Nat.reducePow, rmaps, nsucc, List.flatten_cons, List.flatten_nil, Nat.reduceEqDiff, Nat.reduceLeDiff, Nat.reduceAdd, Nat.reduceMul, Nat.reduceSub, ↓reduceIte, reduceCtorEq, decide_true, decide_false]
          exact fin_p (ek (kd_in.mpr (.inl k0)) x.inp (by unfold labels; rw [if_pos k0]) (.inr (.inr r3)))
        have hf := fin x.inp (by unfold labels; rw [if_pos k0]) (kd_in.mpr (.inl k0)) r1 r2 r3
        by_cases hi0 : 0 < i
        · have hl1 : i - 1 < x.mv.length := by omega
          have hw : IntKind.i64.wrap ((i : Int) - 1) = ((i - 1 : Nat) : Int) := by rw [wrapI (by omega) (by omega)]; omega
          have hg1 := getD_map mvR x.mv (i - 1) hl1
          simp only [List.length_map, show decide (((i : Nat) : Int) > 0) = true from decide_eq_true (by omega), hw, inR hl1, Int.toNat_natCast, hg1, mvR, f1, f37, f38, f39, hds, Cd.cd23, Tk.t23, base0, base1, base2, base3, Option.isNone_none, Option.isNone_some, Nat.reduceBEq, true_or, or_true, false_or, or_false, Nat.reduceLT, Nat.reduceMod, Nat.reducePow, rmaps, nsucc, List.flatten_cons, List.flatten_nil, Nat.reduceEqDiff, Nat.reduceLeDiff, Nat.reduceAdd, Nat.reduceMul, Nat.reduceSub, ↓reduceIte, reduceCtorEq, decide_true, decide_false]
          refine (cmpMv67 (x.mv.getD (i - 1) default) mi).go' (FZs.two (FZ.mvV _) (FZ.mvV _)) ?_
          by_cases hc : 0 ≤ cmpMv (x.mv.getD (i - 1) default) mi
          · simp only [show decide (cmpMv (x.mv.getD (i - 1) default) mi ≥ 0) = true from decide_eq_true hc, f1, f37, f38, f39, hds, Cd.cd23, Tk.t23, base0, base1, base2, base3, Option.isNone_none, Option.isNone_some, Nat.reduceBEq, true_or, or_true, false_or, or_false, Nat.reduceLT, Nat.reduceMod, Nat.reducePow, rmaps, nsucc, List.flatten_cons, List.flatten_nil, Nat.reduceEqDiff, Nat.reduceLeDiff, Nat.reduceAdd, Nat.reduceMul, Nat.reduceSub, ↓reduceIte, reduceCtorEq, decide_true, decide_false]
            exact fin_p (check_move hh h5 hlt hz (by rw [hf, decide_eq_true hi0, decide_eq_true hc]; rfl) (by omega))
          · simp only [show decide (cmpMv (x.mv.getD (i - 1) default) mi ≥ 0) = false from decide_eq_false hc, f1, f37, f38, f39, hds, Cd.cd23, Tk.t23, base0, base1, base2, base3, Option.isNone_none, Option.isNone_some, Nat.reduceBEq, true_or, or_true, false_or, or_false, Nat.reduceLT, Nat.reduceMod, Nat.reducePow, rmaps, nsucc, List.flatten_cons, List.flatten_nil, Nat.reduceEqDiff, Nat.reduceLeDiff, Nat.reduceAdd, Nat.reduceMul, Nat.reduceSub, ↓reduceIte, reduceCtorEq, decide_true, decide_false]
            refine ⟨_, by omega, i + 1, rfl, by omega, ?_⟩
            (repeat' apply And.intro) <;> first | rfl | (rw [wrapS (by omega)]) | omega | assumption | (exact allS hz (by rw [hf, decide_eq_false hc]; simp))
        · simp only [show decide (((i : Nat) : Int) > 0) = false from decide_eq_false (by omega), f1, f37, f38, f39, hds, Cd.cd23, Tk.t23, base0, base1, base2, base3, Option.isNone_none, Option.isNone_some, Nat.reduceBEq, true_or, or_true, false_or, or_false, Nat.reduceLT, Nat.reduceMod, Nat.reducePow, rmaps, nsucc, List.flatten_cons, List.flatten_nil, Nat.reduceEqDiff, Nat.reduceLeDiff, Nat.reduceAdd, Nat.reduceMul, Nat.reduceSub, ↓reduceIte, reduceCtorEq, decide_true, decide_false]
          refine ⟨_, by omega, i + 1, rfl, by omega, ?_⟩
          (repeat' apply And.intro) <;> first | rfl | (rw [wrapS (by omega)]) | omega | assumption | (exact allS hz (by rw [hf, decide_eq_false hi0]; simp))
      by_cases k1 : mi.kd = 1
      · simp only [ltT hlt, List.length_map, inR hlt, Int.toNat_natCast, hg, mvR, show (mi.kd == 0) = false from beq_eq_false_iff_ne.mpr k0, show (mi.kd == 1) = true from beq_iff_eq.mpr k1, f1, f37, f38, f39, hds, Cd.cd23, Tk.t23, base0, base1, base2, base3, Option.isNone_none, Option.isNone_some, Nat.reduceBEq, true_or, or_true, false_or, or_false, Nat.reduceLT, Nat.reduceMod, Nat.reducePow, rmaps, nsucc, List.flatten_cons, List.flatten_nil, Nat.reduceEqDiff, Nat.reduceLeDiff, Nat.reduceAdd, Nat.reduceMul, Nat.reduceSub, ↓reduceIte, reduceCtorEq, decide_true, decide_false]
        first | refine FCall.go (spans66 _ _ _) (FZs.v3 _ _ _) ?_ | refine FCall.go' (spans66 _ _ _) (FZs.v3 _ _ _) ?_ | refine FCall.goQ (spans66 _ _ _) (FZs.v3 _ _ _) ?_
        cases r1 : within mi.fr 0 (IntKind.i64.wrap (x.st - 1))
        · simp only [f1, f37, f38, f39, hds, Cd.cd23, Tk.t23, base0, base1, base2, base3, Option.isNone_none, Option.isNone_some, Nat.reduceBEq, true_or, or_true, false_or, or_false, Nat.reduceLT, Nat.reduceMod, Nat.reducePow, rmaps, nsucc, List.flatten_cons, List.flatten_nil, Nat.reduceEqDiff, Nat.reduceLeDiff, Nat.reduceAdd, Nat.reduceMul, Nat.reduceSub, ↓reduceIte, reduceCtorEq, decide_true, decide_false]
          exact fin_p (ek (kd_in.mpr (.inr (.inl k1))) x.out (by unfold labels; rw [if_neg k0, if_pos k1]) (.inl r1))
        simp only [f1, f37, f38, f39, hds, Cd.cd23, Tk.t23, base0, base1, base2, base3, Option.isNone_none, Option.isNone_some, Nat.reduceBEq, true_or, or_true, false_or, or_false, Nat.reduceLT, Nat.reduceMod, Nat.reducePow, rmaps, nsucc, List.flatten_cons, List.flatten_nil, Nat.reduceEqDiff, Nat.reduceLeDiff, Nat.reduceAdd, Nat.reduceMul, Nat.reduceSub, ↓reduceIte, reduceCtorEq, decide_true, decide_false]
        first | refine FCall.go (spans66 _ _ _) (FZs.v3 _ _ _) ?_ | refine FCall.go' (spans66 _ _ _) (FZs.v3 _ _ _) ?_ | refine FCall.goQ (spans66 _ _ _) (FZs.v3 _ _ _) ?_
        cases r2 : within mi.to 0 (IntKind.i64.wrap (x.st - 1))
        · simp only [f1, f37, f38, f39, hds, Cd.cd23, Tk.t23, base0, base1, base2, base3, Option.isNone_none, Option.isNone_some, Nat.reduceBEq, true_or, or_true, false_or, or_false, Nat.reduceLT, Nat.reduceMod, Nat.reducePow, rmaps, nsucc, List.flatten_cons, List.flatten_nil, Nat.reduceEqDiff, Nat.reduceLeDiff, Nat.reduceAdd, Nat.reduceMul, Nat.reduceSub, ↓reduceIte, reduceCtorEq, decide_true, decide_false]
          exact fin_p (ek (kd_in.mpr (.inr (.inl k1))) x.out (by unfold labels; rw [if_neg k0, if_pos k1]) (.inr (.inl r2)))
        simp only [f1, f37, f38, f39, hds, Cd.cd23, Tk.t23, base0, base1, base2, base3, Option.isNone_none, Option.isNone_some, Nat.reduceBEq, true_or, or_true, false_or, or_false, Nat.reduceLT, Nat.reduceMod, Nat.reducePow, rmaps, nsucc, List.flatten_cons, List.flatten_nil, Nat.reduceEqDiff, Nat.reduceLeDiff, Nat.reduceAdd, Nat.reduceMul, Nat.reduceSub, ↓reduceIte, reduceCtorEq, decide_true, decide_false]
        first | refine FCall.go (spans66 _ _ _) (FZs.v3 _ _ _) ?_ | refine FCall.go' (spans66 _ _ _) (FZs.v3 _ _ _) ?_ | refine FCall.goQ (spans66 _ _ _) (FZs.v3 _ _ _) ?_
        cases r3 : within mi.lb 0 (IntKind.i64.wrap (x.out - 1))
        · simp only [f1, f37, f38, f39, hds, Cd.cd23, Tk.t23, base0, base1, base2, base3, Option.isNone_none, Option.isNone_some, Nat.reduceBEq, true_or, or_true, false_or, or_false, Nat.reduceLT, Nat.reduceMod, Nat.reducePow, rmaps, nsucc, List.flatten_cons, List.flatten_nil, Nat.reduceEqDiff, Nat.reduceLeDiff, Nat.reduceAdd, Nat.reduceMul, Nat.reduceSub, ↓reduceIte, reduceCtorEq, decide_true, decide_false]
          exact fin_p (ek (kd_in.mpr (.inr (.inl k1))) x.out (by unfold labels; rw [if_neg k0, if_pos k1]) (.inr (.inr r3)))
        have hf := fin x.out (by unfold labels; rw [if_neg k0, if_pos k1]) (kd_in.mpr (.inr (.inl k1))) r1 r2 r3
        by_cases hi0 : 0 < i
        · have hl1 : i - 1 < x.mv.length := by omega
          have hw : IntKind.i64.wrap ((i : Int) - 1) = ((i - 1 : Nat) : Int) := by rw [wrapI (by omega) (by omega)]; omega
          have hg1 := getD_map mvR x.mv (i - 1) hl1
          simp only [List.length_map, show decide (((i : Nat) : Int) > 0) = true from decide_eq_true (by omega), hw, inR hl1, Int.toNat_natCast, hg1, mvR, f1, f37, f38, f39, hds, Cd.cd23, Tk.t23, base0, base1, base2, base3, Option.isNone_none, Option.isNone_some, Nat.reduceBEq, true_or, or_true, false_or, or_false, Nat.reduceLT, Nat.reduceMod, Nat.reducePow, rmaps, nsucc, List.flatten_cons, List.flatten_nil, Nat.reduceEqDiff, Nat.reduceLeDiff, Nat.reduceAdd, Nat.reduceMul, Nat.reduceSub, ↓reduceIte, reduceCtorEq, decide_true, decide_false]
          refine (cmpMv67 (x.mv.getD (i - 1) default) mi).go' (FZs.two (FZ.mvV _) (FZ.mvV _)) ?_
          by_cases hc : 0 ≤ cmpMv (x.mv.getD (i - 1) default) mi
          · simp only [show decide (cmpMv (x.mv.getD (i - 1) default) mi ≥ 0) = true from decide_eq_true hc, f1, f37, f38, f39, hds, Cd.cd23, Tk.t23, base0, base1, base2, base3, Option.isNone_none, Option.isNone_some, Nat.reduceBEq, true_or, or_true, false_or, or_false, Nat.reduceLT, Nat.reduceMod, Nat.reducePow, rmaps, nsucc, List.flatten_cons, List.flatten_nil, Nat.reduceEqDiff, Nat.reduceLeDiff, Nat.reduceAdd, Nat.reduceMul, Nat.reduceSub, ↓reduceIte, reduceCtorEq, decide_true, decide_false]
            exact fin_p (check_move hh h5 hlt hz (by rw [hf, decide_eq_true hi0, decide_eq_true hc]; rfl) (by omega))
          · simp only [show decide (cmpMv (x.mv.getD (i - 1) default) mi ≥ 0) = false from decide_eq_false hc, f1, f37, f38, f39, hds, Cd.cd23, Tk.t23, base0, base1, base2, base3, Option.isNone_none, Option.isNone_some, Nat.reduceBEq, true_or, or_true, false_or, or_false, Nat.reduceLT, Nat.reduceMod, Nat.reducePow, rmaps, nsucc, List.flatten_cons, List.flatten_nil, Nat.reduceEqDiff, Nat.reduceLeDiff, Nat.reduceAdd, Nat.reduceMul, Nat.reduceSub, ↓reduceIte, reduceCtorEq, decide_true, decide_false]
            refine ⟨_, by omega, i + 1, rfl, by omega, ?_⟩
            (repeat' apply And.intro) <;> first | rfl | (rw [wrapS (by omega)]) | omega | assumption | (exact allS hz (by rw [hf, decide_eq_false hc]; simp))
        · simp only [show decide (((i : Nat) : Int) > 0) = false from decide_eq_false (by omega), f1, f37, f38, f39, hds, Cd.cd23, Tk.t23, base0, base1, base2, base3, Option.isNone_none, Option.isNone_some, Nat.reduceBEq, true_or, or_true, false_or, or_false, Nat.reduceLT, Nat.reduceMod, Nat.reducePow, rmaps, nsucc, List.flatten_cons, List.flatten_nil, Nat.reduceEqDiff, Nat.reduceLeDiff, Nat.reduceAdd, Nat.reduceMul, Nat.reduceSub, ↓reduceIte, reduceCtorEq, decide_true, decide_false]
          refine ⟨_, by omega, i + 1, rfl, by omega, ?_⟩
          (repeat' apply And.intro) <;> first | rfl | (rw [wrapS (by omega)]) | omega | assumption | (exact allS hz (by rw [hf, decide_eq_false hi0]; simp))
      by_cases k2 : mi.kd = 2
      · simp only [ltT hlt, List.length_map, inR hlt, Int.toNat_natCast, hg, mvR, show (mi.kd == 0) = false from beq_eq_false_iff_ne.mpr k0, show (mi.kd == 1) = false from beq_eq_false_iff_ne.mpr k1, show (mi.kd == 2) = true from beq_iff_eq.mpr k2, f1, f37, f38, f39, hds, Cd.cd23, Tk.t23, base0, base1, base2, base3, Option.isNone_none, Option.isNone_some, Nat.reduceBEq, true_or, or_true, false_or, or_false, Nat.reduceLT, Nat.reduceMod, Nat.reducePow, rmaps, nsucc, List.flatten_cons, List.flatten_nil, Nat.reduceEqDiff, Nat.reduceLeDiff, Nat.reduceAdd, Nat.reduceMul, Nat.reduceSub, ↓reduceIte, reduceCtorEq, decide_true, decide_false]
        first | refine FCall.go (spans66 _ _ _) (FZs.v3 _ _ _) ?_ | refine FCall.go' (spans66 _ _ _) (FZs.v3 _ _ _) ?_ | refine FCall.goQ (spans66 _ _ _) (FZs.v3 _ _ _) ?_
        cases r1 : within mi.fr 0 (IntKind.i64.wrap (x.st - 1))
        · simp only [f1, f37, f38, f39, hds, Cd.cd23, Tk.t23, base0, base1, base2, base3, Option.isNone_none, Option.isNone_some, Nat.reduceBEq, true_or, or_true, false_or, or_false, Nat.reduceLT, Nat.reduceMod, Nat.reducePow, rmaps, nsucc, List.flatten_cons, List.flatten_nil, Nat.reduceEqDiff, Nat.reduceLeDiff, Nat.reduceAdd, Nat.reduceMul, Nat.reduceSub, ↓reduceIte, reduceCtorEq, decide_true, decide_false]
          exact fin_p (ek (kd_in.mpr (.inr (.inr k2))) 1 (by unfold labels; rw [if_neg k0, if_neg k1]) (.inl r1))
        simp only [f1, f37, f38, f39, hds, Cd.cd23, Tk.t23, base0, base1, base2, base3, Option.isNone_none, Option.isNone_some, Nat.reduceBEq, true_or, or_true, false_or, or_false, Nat.reduceLT, Nat.reduceMod, Nat.reducePow, rmaps, nsucc, List.flatten_cons, List.flatten_nil, Nat.reduceEqDiff, Nat.reduceLeDiff, Nat.reduceAdd, Nat.reduceMul, Nat.reduceSub, ↓reduceIte, reduceCtorEq, decide_true, decide_false]
        first | refine FCall.go (spans66 _ _ _) (FZs.v3 _ _ _) ?_ | refine FCall.go' (spans66 _ _ _) (FZs.v3 _ _ _) ?_ | refine FCall.goQ (spans66 _ _ _) (FZs.v3 _ _ _) ?_
        cases r2 : within mi.to 0 (IntKind.i64.wrap (x.st - 1))
        · simp only [f1, f37, f38, f39, hds, Cd.cd23, Tk.t23, base0, base1, base2, base3, Option.isNone_none, Option.isNone_some, Nat.reduceBEq, true_or, or_true, false_or, or_false, Nat.reduceLT, Nat.reduceMod, Nat.reducePow, rmaps, nsucc, List.flatten_cons, List.flatten_nil, Nat.reduceEqDiff, Nat.reduceLeDiff, Nat.reduceAdd, Nat.reduceMul, Nat.reduceSub, ↓reduceIte, reduceCtorEq, decide_true, decide_false]
          exact fin_p (ek (kd_in.mpr (.inr (.inr k2))) 1 (by unfold labels; rw [if_neg k0, if_neg k1]) (.inr (.inl r2)))
        simp only [f1, f37, f38, f39, hds, Cd.cd23, Tk.t23, base0, base1, base2, base3, Option.isNone_none, Option.isNone_some, Nat.reduceBEq, true_or, or_true, false_or, or_false, Nat.reduceLT, Nat.reduceMod, Nat.reducePow, rmaps, nsucc, List.flatten_cons, List.flatten_nil, Nat.reduceEqDiff, Nat.reduceLeDiff, Nat.reduceAdd, Nat.reduceMul, Nat.reduceSub, ↓reduceIte, reduceCtorEq, decide_true, decide_false]
        first | refine FCall.go (spans66 _ _ _) (FZs.v3 _ _ _) ?_ | refine FCall.go' (spans66 _ _ _) (FZs.v3 _ _ _) ?_ | refine FCall.goQ (spans66 _ _ _) (FZs.v3 _ _ _) ?_
        cases r3 : within mi.lb 0 (IntKind.i64.wrap (1 - 1))
        · simp only [f1, f37, f38, f39, hds, Cd.cd23, Tk.t23, base0, base1, base2, base3, Option.isNone_none, Option.isNone_some, Nat.reduceBEq, true_or, or_true, false_or, or_false, Nat.reduceLT, Nat.reduceMod, Nat.reducePow, rmaps, nsucc, List.flatten_cons, List.flatten_nil, Nat.reduceEqDiff, Nat.reduceLeDiff, Nat.reduceAdd, Nat.reduceMul, Nat.reduceSub, ↓reduceIte, reduceCtorEq, decide_true, decide_false]
          exact fin_p (ek (kd_in.mpr (.inr (.inr k2))) 1 (by unfold labels; rw [if_neg k0, if_neg k1]) (.inr (.inr r3)))
        have hf := fin 1 (by unfold labels; rw [if_neg k0, if_neg k1]) (kd_in.mpr (.inr (.inr k2))) r1 r2 r3
        by_cases hi0 : 0 < i
        · have hl1 : i - 1 < x.mv.length := by omega
          have hw : IntKind.i64.wrap ((i : Int) - 1) = ((i - 1 : Nat) : Int) := by rw [wrapI (by omega) (by omega)]; omega
          have hg1 := getD_map mvR x.mv (i - 1) hl1
          simp only [List.length_map, show decide (((i : Nat) : Int) > 0) = true from decide_eq_true (by omega), hw, inR hl1, Int.toNat_natCast, hg1, mvR, f1, f37, f38, f39, hds, Cd.cd23, Tk.t23, base0, base1, base2, base3, Option.isNone_none, Option.isNone_some, Nat.reduceBEq, true_or, or_true, false_or, or_false, Nat.reduceLT, Nat.reduceMod, Nat.reducePow, rmaps, nsucc, List.flatten_cons, List.flatten_nil, Nat.reduceEqDiff, Nat.reduceLeDiff, Nat.reduceAdd, Nat.reduceMul, Nat.reduceSub, ↓reduceIte, reduceCtorEq, decide_true, decide_false]
          refine (cmpMv67 (x.mv.getD (i - 1) default) mi).go' (FZs.two (FZ.mvV _) (FZ.mvV _)) ?_
          by_cases hc : 0 ≤ cmpMv (x.mv.getD (i - 1) default) mi
          · simp only [show decide (cmpMv (x.mv.getD (i - 1) default) mi ≥ 0) = true from decide_eq_true hc, f1, f37, f38, f39, hds, Cd.cd23, Tk.t23, base0, base1, base2, base3, Option.isNone_none, Option.isNone_some, Nat.reduceBEq, true_or, or_true, false_or, or_false, Nat.reduceLT, Nat.reduceMod, Nat.reducePow, rmaps, nsucc, List.flatten_cons, List.flatten_nil, Nat.reduceEqDiff, Nat.reduceLeDiff, Nat.reduceAdd, Nat.reduceMul, Nat.reduceSub, ↓reduceIte, reduceCtorEq, decide_true, decide_false]
            exact fin_p (check_move hh h5 hlt hz (by rw [hf, decide_eq_true hi0, decide_eq_true hc]; rfl) (by omega))
          · simp only [show decide (cmpMv (x.mv.getD (i - 1) default) mi ≥ 0) = false from decide_eq_false hc, f1, f37, f38, f39, hds, Cd.cd23, Tk.t23, base0, base1, base2, base3, Option.isNone_none, Option.isNone_some, Nat.reduceBEq, true_or, or_true, false_or, or_false, Nat.reduceLT, Nat.reduceMod, Nat.reducePow, rmaps, nsucc, List.flatten_cons, List.flatten_nil, Nat.reduceEqDiff, Nat.reduceLeDiff, Nat.reduceAdd, Nat.reduceMul, Nat.reduceSub, ↓reduceIte, reduceCtorEq, decide_true, decide_false]
            refine ⟨_, by omega, i + 1, rfl, by omega, ?_⟩
            (repeat' apply And.intro) <;> first | rfl | (rw [wrapS (by omega)]) | omega | assumption | (exact allS hz (by rw [hf, decide_eq_false hc]; simp))
        · simp only [show decide (((i : Nat) : Int) > 0) = false from decide_eq_false (by omega), f1, f37, f38, f39, hds, Cd.cd23, Tk.t23, base0, base1, base2, base3, Option.isNone_none, Option.isNone_some, Nat.reduceBEq, true_or, or_true, false_or, or_false, Nat.reduceLT, Nat.reduceMod, Nat.reducePow, rmaps, nsucc, List.flatten_cons, List.flatten_nil, Nat.reduceEqDiff, Nat.reduceLeDiff, Nat.reduceAdd, Nat.reduceMul, Nat.reduceSub, ↓reduceIte, reduceCtorEq, decide_true, decide_false]
          refine ⟨_, by omega, i + 1, rfl, by omega, ?_⟩
          (repeat' apply And.intro) <;> first | rfl | (rw [wrapS (by omega)]) | omega | assumption | (exact allS hz (by rw [hf, decide_eq_false hi0]; simp))
      · simp only [ltT hlt, List.length_map, inR hlt, Int.toNat_natCast, hg, mvR, show (mi.kd == 0) = false from beq_eq_false_iff_ne.mpr k0, show (mi.kd == 1) = false from beq_eq_false_iff_ne.mpr k1, show (mi.kd == 2) = false from beq_eq_false_iff_ne.mpr k2, f1, f37, f38, f39, hds, Cd.cd23, Tk.t23, base0, base1, base2, base3, Option.isNone_none, Option.isNone_some, Nat.reduceBEq, true_or, or_true, false_or, or_false, Nat.reduceLT, Nat.reduceMod, Nat.reducePow, rmaps, nsucc, List.flatten_cons, List.flatten_nil, Nat.reduceEqDiff, Nat.reduceLeDiff, Nat.reduceAdd, Nat.reduceMul, Nat.reduceSub, ↓reduceIte, reduceCtorEq, decide_true, decide_false]
        exact fin_p (check_move hh h5 hlt hz (mvErr_kind (by rw [hm]; exact kd_out k0 k1 k2)) (by omega))
    · have hi' : i = x.mv.length := by omega
      simp only [ltF hlt, f1, f37, f38, f39, hds, Cd.cd23, Tk.t23, base0, base1, base2, base3, Option.isNone_none, Option.isNone_some, Nat.reduceBEq, true_or, or_true, false_or, or_false, Nat.reduceLT, Nat.reduceMod, Nat.reducePow, rmaps, nsucc, List.flatten_cons, List.flatten_nil, Nat.reduceEqDiff, Nat.reduceLeDiff, Nat.reduceAdd, Nat.reduceMul, Nat.reduceSub, ↓reduceIte, reduceCtorEq, decide_true, decide_false]
      exact fin_p (check_ok hh h5 (by rw [← hi']; exact hz))
end Go.Proofs.YtchpcjmgifnmdaaDoor

/- Walks: the reference checks systems. -/
namespace Go.Proofs.YtchpcjmgifnmdaaDoor
open Go Go.Proofs.YtchpcjmgifnmdaaDoor.Ab
set_option maxRecDepth 100000
set_option linter.unusedSimpArgs false

theorem sysErr70 (x : Re) : FCall Tryd.prog 70 [reV x] (· = .v (.int .i64 (errR x))) := by
  simp only [reV, reL, mvsV]
  refine ACall.enter [] Cd.fn70 (by simp) ?_
  simp only [Cd.cd70, Tk.t70, base0, base1, base2, base3, Option.isNone_none, Option.isNone_some, Nat.reduceBEq, true_or, or_true, false_or, or_false, Nat.reduceLT, Nat.reduceMod, Nat.reducePow, rmaps, nsucc, List.flatten_cons, List.flatten_nil, Nat.reduceEqDiff, Nat.reduceLeDiff, Nat.reduceAdd, Nat.reduceMul, Nat.reduceSub, ↓reduceIte, reduceCtorEq, decide_true, decide_false]
  refine (check23 x).go (FZs.one (FZ.reV x)) ?_
  simp only [Cd.cd70, Tk.t70, base0, base1, base2, base3, Option.isNone_none, Option.isNone_some, Nat.reduceBEq, true_or, or_true, false_or, or_false, Nat.reduceLT, Nat.reduceMod, Nat.reducePow, rmaps, nsucc, List.flatten_cons, List.flatten_nil, Nat.reduceEqDiff, Nat.reduceLeDiff, Nat.reduceAdd, Nat.reduceMul, Nat.reduceSub, ↓reduceIte, reduceCtorEq, decide_true, decide_false]
  exact fin_v rfl
def bothR (x y : Re) : Int := orI (errR x) (orI (errR y) (if decide (x.inp = y.inp) && decide (x.out = y.out) then 0 else 6))
theorem orL3 (a b c : Int) : orL [a, b, c] = orI a (orI b c) := by
  simp only [orL, orI]
  by_cases h1 : a = 0 <;> by_cases h2 : b = 0 <;> by_cases h3 : c = 0 <;> simp [h1, h2, h3]
theorem both58 (x y : Re) : FCall Tryd.prog 58 [reV x, reV y] (· = .v (.int .i64 (bothR x y))) := by
  simp only [reV, reL, mvsV]
  refine ACall.enter [] Cd.fn58 (by simp) ?_
  simp only [Cd.cd58, Tk.t58, base0, base1, base2, base3, Option.isNone_none, Option.isNone_some, Nat.reduceBEq, true_or, or_true, false_or, or_false, Nat.reduceLT, Nat.reduceMod, Nat.reducePow, rmaps, nsucc, List.flatten_cons, List.flatten_nil, Nat.reduceEqDiff, Nat.reduceLeDiff, Nat.reduceAdd, Nat.reduceMul, Nat.reduceSub, ↓reduceIte, reduceCtorEq, decide_true, decide_false]
  refine (sysErr70 x).go' (FZs.one (FZ.reV x)) ?_
  simp only [Cd.cd58, Tk.t58, base0, base1, base2, base3, Option.isNone_none, Option.isNone_some, Nat.reduceBEq, true_or, or_true, false_or, or_false, Nat.reduceLT, Nat.reduceMod, Nat.reducePow, rmaps, nsucc, List.flatten_cons, List.flatten_nil, Nat.reduceEqDiff, Nat.reduceLeDiff, Nat.reduceAdd, Nat.reduceMul, Nat.reduceSub, ↓reduceIte, reduceCtorEq, decide_true, decide_false]
  refine (sysErr70 y).go' (FZs.one (FZ.reV y)) ?_
  have fin : ∀ b, (decide (x.inp = y.inp) && decide (x.out = y.out)) = b → orL [errR x, errR y, if b = true then 0 else 6] = bothR x y := fun b hb => by subst hb; rw [orL3]; rfl
  by_cases h1 : x.inp = y.inp
  · by_cases h2 : x.out = y.out
    · have hb : (decide (x.inp = y.inp) && decide (x.out = y.out)) = true := by simp [h1, h2]
      have hf := fin _ hb
      have h := or82 [errR x, errR y, if true = true then 0 else 6] (by simp) .full
      have hz : FZ _ := FZ.intL (l := [errR x, errR y, if true = true then 0 else 6]) (tip := .full) rfl
      simp only [List.map_cons, List.map_nil, intR] at h hz
      simp only [show (x.inp == y.inp) = true from beq_iff_eq.mpr h1, show (x.out == y.out) = true from beq_iff_eq.mpr h2, Cd.cd58, Tk.t58, base0, base1, base2, base3, Option.isNone_none, Option.isNone_some, Nat.reduceBEq, true_or, or_true, false_or, or_false, Nat.reduceLT, Nat.reduceMod, Nat.reducePow, rmaps, nsucc, List.flatten_cons, List.flatten_nil, Nat.reduceEqDiff, Nat.reduceLeDiff, Nat.reduceAdd, Nat.reduceMul, Nat.reduceSub, ↓reduceIte, reduceCtorEq, decide_true, decide_false]
      first | refine FCall.go (unless61 _ _) (FZs.v2 _ _) ?_ | refine FCall.go' (unless61 _ _) (FZs.v2 _ _) ?_ | refine FCall.goQ (unless61 _ _) (FZs.v2 _ _) ?_
      simp only [Cd.cd58, Tk.t58, base0, base1, base2, base3, Option.isNone_none, Option.isNone_some, Nat.reduceBEq, true_or, or_true, false_or, or_false, Nat.reduceLT, Nat.reduceMod, Nat.reducePow, rmaps, nsucc, List.flatten_cons, List.flatten_nil, Nat.reduceEqDiff, Nat.reduceLeDiff, Nat.reduceAdd, Nat.reduceMul, Nat.reduceSub, ↓reduceIte, reduceCtorEq, decide_true, decide_false]
      first | refine FCall.go h (FZs.one hz) ?_ | refine FCall.go' h (FZs.one hz) ?_ | refine FCall.goQ h (FZs.one hz) ?_
      simp only [Cd.cd58, Tk.t58, base0, base1, base2, base3, Option.isNone_none, Option.isNone_some, Nat.reduceBEq, true_or, or_true, false_or, or_false, Nat.reduceLT, Nat.reduceMod, Nat.reducePow, rmaps, nsucc, List.flatten_cons, List.flatten_nil, Nat.reduceEqDiff, Nat.reduceLeDiff, Nat.reduceAdd, Nat.reduceMul, Nat.reduceSub, ↓reduceIte, reduceCtorEq, decide_true, decide_false]
      exact fin_v (by rw [← hf]; rfl)
    · have hb : (decide (x.inp = y.inp) && decide (x.out = y.out)) = false := by simp [h2]
      have hf := fin _ hb
      have h := or82 [errR x, errR y, if false = true then 0 else 6] (by simp) .full
      have hz : FZ _ := FZ.intL (l := [errR x, errR y, if false = true then 0 else 6]) (tip := .full) rfl
      simp only [List.map_cons, List.map_nil, intR] at h hz
      simp only [show (x.inp == y.inp) = true from beq_iff_eq.mpr h1, show (x.out == y.out) = false from beq_eq_false_iff_ne.mpr h2, Cd.cd58, Tk.t58, base0, base1, base2, base3, Option.isNone_none, Option.isNone_some, Nat.reduceBEq, true_or, or_true, false_or, or_false, Nat.reduceLT, Nat.reduceMod, Nat.reducePow, rmaps, nsucc, List.flatten_cons, List.flatten_nil, Nat.reduceEqDiff, Nat.reduceLeDiff, Nat.reduceAdd, Nat.reduceMul, Nat.reduceSub, ↓reduceIte, reduceCtorEq, decide_true, decide_false]
      first | refine FCall.go (unless61 _ _) (FZs.v2 _ _) ?_ | refine FCall.go' (unless61 _ _) (FZs.v2 _ _) ?_ | refine FCall.goQ (unless61 _ _) (FZs.v2 _ _) ?_
      simp only [Cd.cd58, Tk.t58, base0, base1, base2, base3, Option.isNone_none, Option.isNone_some, Nat.reduceBEq, true_or, or_true, false_or, or_false, Nat.reduceLT, Nat.reduceMod, Nat.reducePow, rmaps, nsucc, List.flatten_cons, List.flatten_nil, Nat.reduceEqDiff, Nat.reduceLeDiff, Nat.reduceAdd, Nat.reduceMul, Nat.reduceSub, ↓reduceIte, reduceCtorEq, decide_true, decide_false]
      first | refine FCall.go h (FZs.one hz) ?_ | refine FCall.go' h (FZs.one hz) ?_ | refine FCall.goQ h (FZs.one hz) ?_
      simp only [Cd.cd58, Tk.t58, base0, base1, base2, base3, Option.isNone_none, Option.isNone_some, Nat.reduceBEq, true_or, or_true, false_or, or_false, Nat.reduceLT, Nat.reduceMod, Nat.reducePow, rmaps, nsucc, List.flatten_cons, List.flatten_nil, Nat.reduceEqDiff, Nat.reduceLeDiff, Nat.reduceAdd, Nat.reduceMul, Nat.reduceSub, ↓reduceIte, reduceCtorEq, decide_true, decide_false]
      exact fin_v (by rw [← hf]; rfl)
  · have hb : (decide (x.inp = y.inp) && decide (x.out = y.out)) = false := by simp [h1]
    have hf := fin _ hb
    have h := or82 [errR x, errR y, if false = true then 0 else 6] (by simp) .full
    have hz : FZ _ := FZ.intL (l := [errR x, errR y, if false = true then 0 else 6]) (tip := .full) rfl
    simp only [List.map_cons, List.map_nil, intR] at h hz
    simp only [show (x.inp == y.inp) = false from beq_eq_false_iff_ne.mpr h1, Cd.cd58, Tk.t58, base0, base1, base2, base3, Option.isNone_none, Option.isNone_some, Nat.reduceBEq, true_or, or_true, false_or, or_false, Nat.reduceLT, Nat.reduceMod, Nat.reducePow, rmaps, nsucc, List.flatten_cons, List.flatten_nil, Nat.reduceEqDiff, Nat.reduceLeDiff, Nat.reduceAdd, Nat.reduceMul, Nat.reduceSub, ↓reduceIte, reduceCtorEq, decide_true, decide_false]
    first | refine FCall.go (unless61 _ _) (FZs.v2 _ _) ?_ | refine FCall.go' (unless61 _ _) (FZs.v2 _ _) ?_ | refine FCall.goQ (unless61 _ _) (FZs.v2 _ _) ?_
    simp only [Cd.cd58, Tk.t58, base0, base1, base2, base3, Option.isNone_none, Option.isNone_some, Nat.reduceBEq, true_or, or_true, false_or, or_false, Nat.reduceLT, Nat.reduceMod, Nat.reducePow, rmaps, nsucc, List.flatten_cons, List.flatten_nil, Nat.reduceEqDiff, Nat.reduceLeDiff, Nat.reduceAdd, Nat.reduceMul, Nat.reduceSub, ↓reduceIte, reduceCtorEq, decide_true, decide_false]
    first | refine FCall.go h (FZs.one hz) ?_ | refine FCall.go' h (FZs.one hz) ?_ | refine FCall.goQ h (FZs.one hz) ?_
    simp only [Cd.cd58, Tk.t58, base0, base1, base2, base3, Option.isNone_none, Option.isNone_some, Nat.reduceBEq, true_or, or_true, false_or, or_false, Nat.reduceLT, Nat.reduceMod, Nat.reducePow, rmaps, nsucc, List.flatten_cons, List.flatten_nil, Nat.reduceEqDiff, Nat.reduceLeDiff, Nat.reduceAdd, Nat.reduceMul, Nat.reduceSub, ↓reduceIte, reduceCtorEq, decide_true, decide_false]
    exact fin_v (by rw [← hf]; rfl)
theorem list69 (m : Mv) : FCall Tryd.prog 69 [mvV m] (· = ints [m.fr, m.kd, m.lb, m.to]) := by
  simp only [mvV, mvR]
  refine ACall.enter [] Cd.fn69 (by simp) ?_
  simp only [Cd.cd69, Tk.t69, base0, base1, base2, base3, Option.isNone_none, Option.isNone_some, Nat.reduceBEq, true_or, or_true, false_or, or_false, Nat.reduceLT, Nat.reduceMod, Nat.reducePow, rmaps, nsucc, List.flatten_cons, List.flatten_nil, Nat.reduceEqDiff, Nat.reduceLeDiff, Nat.reduceAdd, Nat.reduceMul, Nat.reduceSub, ↓reduceIte, reduceCtorEq, decide_true, decide_false]
  exact ⟨_, _, rfl, View.tip (fun r hr => by
    simp only [List.mem_cons, List.not_mem_nil, or_false] at hr
    rcases hr with rfl | rfl | rfl | rfl <;> exact FZs.v1 _), FZ.ints [m.fr, m.kd, m.lb, m.to], rfl⟩
def cmpL (a b : List Int) : Int := match firstIx a.length (fun i => a.getD i 0 != b.getD i 0) with
  | some i => if b.getD i 0 < a.getD i 0 then 1 else -1
  | none => 0
theorem cmpL4 (a b : Mv) : cmpL [a.fr, a.kd, a.lb, a.to] [b.fr, b.kd, b.lb, b.to] = cmpMv a b := by
  obtain ⟨a1, a2, a3, a4⟩ := a
  obtain ⟨b1, b2, b3, b4⟩ := b
  have hr : List.range 4 = [0, 1, 2, 3] := rfl
  unfold cmpL firstIx cmpMv
  simp only [List.length_cons, List.length_nil, Nat.zero_add, Nat.reduceAdd, hr, List.find?_cons, List.find?_nil, List.getD_cons_zero, List.getD_cons_succ]
  have key : ∀ p q : Int, p ≠ q → (if q < p then (1 : Int) else -1) = cmpI p q ∧ cmpI p q ≠ 0 := fun p q h => by
    unfold cmpI; constructor
    · split <;> split <;> omega
    · split
      · omega
      · split <;> omega
  have key0 : ∀ p q : Int, p = q → cmpI p q = 0 := fun p q h => by subst h; simp [cmpI]
  by_cases h1 : a1 = b1
  · rw [key0 _ _ h1, show orI 0 (orI (cmpI a2 b2) (orI (cmpI a3 b3) (cmpI a4 b4))) = orI (cmpI a2 b2) (orI (cmpI a3 b3) (cmpI a4 b4)) from rfl, show (a1 != b1) = false from by simp [h1]]
    by_cases h2 : a2 = b2
    · rw [key0 _ _ h2, show orI 0 (orI (cmpI a3 b3) (cmpI a4 b4)) = orI (cmpI a3 b3) (cmpI a4 b4) from rfl, show (a2 != b2) = false from by simp [h2]]
      by_cases h3 : a3 = b3
      · rw [key0 _ _ h3, show orI 0 (cmpI a4 b4) = cmpI a4 b4 from rfl, show (a3 != b3) = false from by simp [h3]]
        by_cases h4 : a4 = b4
        · rw [key0 _ _ h4, show (a4 != b4) = false from by simp [h4]]
        · rw [show (a4 != b4) = true from by simp [h4]]
          exact (key _ _ h4).1
      · rw [show (a3 != b3) = true from by simp [h3]]
        simp only [List.getD_cons_zero, List.getD_cons_succ]
        rw [(key _ _ h3).1, orI, if_pos (key _ _ h3).2]
    · rw [show (a2 != b2) = true from by simp [h2]]
      simp only [List.getD_cons_zero, List.getD_cons_succ]
      rw [(key _ _ h2).1, orI, if_pos (key _ _ h2).2]
  · rw [show (a1 != b1) = true from by simp [h1]]
    simp only [List.getD_cons_zero, List.getD_cons_succ]
    rw [(key _ _ h1).1, orI, if_pos (key _ _ h1).2]
theorem cmp68 (a b : List Int) (hl : a.length ≤ 100) (hab : b.length = a.length) : FCall Tryd.prog 68 [ints a, ints b] (· = .v (.int .i64 (cmpL a b))) := by
  simp only [ints]
  refine ACall.enter [] Cd.fn68 (by simp) ?_
  simp only [Cd.cd68, Tk.t68, base0, base1, base2, base3, Option.isNone_none, Option.isNone_some, Nat.reduceBEq, true_or, or_true, false_or, or_false, Nat.reduceLT, Nat.reduceMod, Nat.reducePow, rmaps, nsucc, List.flatten_cons, List.flatten_nil, Nat.reduceEqDiff, Nat.reduceLeDiff, Nat.reduceAdd, Nat.reduceMul, Nat.reduceSub, ↓reduceIte, reduceCtorEq, decide_true, decide_false]
  refine LWP.loop [] (fun m f H' => ∃ i, m = a.length - i ∧ (i ≤ a.length) ∧ (∀ j, j < i → (a.getD j 0 != b.getD j 0) = false) ∧ f.t 0 = .lst 1 (a.map fun x => [.v (.int .i64 x)]) .unk ∧ f.t 1 = .lst 1 (b.map fun x => [.v (.int .i64 x)]) .unk ∧ f.t 5 = .v (.int .i64 (i : Nat)) ∧ f.ds = [] ∧ H' = AH.none) ?_ ?_ (m := a.length - (0))
  · exact ⟨0, rfl, (by omega), (fun j hj => by omega), rfl, rfl, rfl, rfl, rfl⟩
  · rintro m f H' ⟨i, rfl, hi, hz, f0, f1, f5, hds, rfl⟩
    by_cases hlt : i < a.length
    · by_cases hn : a.getD i 0 = b.getD i 0
      · simp only [List.length_map, ltT hlt, inR hlt, hab, Int.toNat_natCast, getD_ints a i hlt, getD_ints b i (by omega), show (a.getD i 0 != b.getD i 0) = false from by rw [hn]; simp, f0, f1, f5, hds, Cd.cd68, Tk.t68, base0, base1, base2, base3, Option.isNone_none, Option.isNone_some, Nat.reduceBEq, true_or, or_true, false_or, or_false, Nat.reduceLT, Nat.reduceMod, Nat.reducePow, rmaps, nsucc, List.flatten_cons, List.flatten_nil, Nat.reduceEqDiff, Nat.reduceLeDiff, Nat.reduceAdd, Nat.reduceMul, Nat.reduceSub, ↓reduceIte, reduceCtorEq, decide_true, decide_false]
        refine ⟨_, by omega, i + 1, rfl, by omega, ?_⟩
        (repeat' apply And.intro) <;> first | rfl | (rw [wrapS (by omega)]) | omega | assumption | (exact allS hz (by rw [hn]; simp))
      · have hb : (a.getD i 0 != b.getD i 0) = true := by simpa using hn
        by_cases hg : b.getD i 0 < a.getD i 0
        · simp only [List.length_map, ltT hlt, inR hlt, hab, Int.toNat_natCast, getD_ints a i hlt, getD_ints b i (by omega), hb, show decide (a.getD i 0 > b.getD i 0) = true from decide_eq_true hg, f0, f1, f5, hds, Cd.cd68, Tk.t68, base0, base1, base2, base3, Option.isNone_none, Option.isNone_some, Nat.reduceBEq, true_or, or_true, false_or, or_false, Nat.reduceLT, Nat.reduceMod, Nat.reducePow, rmaps, nsucc, List.flatten_cons, List.flatten_nil, Nat.reduceEqDiff, Nat.reduceLeDiff, Nat.reduceAdd, Nat.reduceMul, Nat.reduceSub, ↓reduceIte, reduceCtorEq, decide_true, decide_false]
          first | refine FCall.go (count107 _) (FZs.v1 _) ?_ | refine FCall.go' (count107 _) (FZs.v1 _) ?_ | refine FCall.goQ (count107 _) (FZs.v1 _) ?_
          simp only [f0, f1, f5, hds, Cd.cd68, Tk.t68, base0, base1, base2, base3, Option.isNone_none, Option.isNone_some, Nat.reduceBEq, true_or, or_true, false_or, or_false, Nat.reduceLT, Nat.reduceMod, Nat.reducePow, rmaps, nsucc, List.flatten_cons, List.flatten_nil, Nat.reduceEqDiff, Nat.reduceLeDiff, Nat.reduceAdd, Nat.reduceMul, Nat.reduceSub, ↓reduceIte, reduceCtorEq, decide_true, decide_false]
          exact fin_v (by rw [cmpL, firstIx_some hlt hb hz]; simp only [if_pos hg]; rfl)
        · simp only [List.length_map, ltT hlt, inR hlt, hab, Int.toNat_natCast, getD_ints a i hlt, getD_ints b i (by omega), hb, show decide (a.getD i 0 > b.getD i 0) = false from decide_eq_false hg, f0, f1, f5, hds, Cd.cd68, Tk.t68, base0, base1, base2, base3, Option.isNone_none, Option.isNone_some, Nat.reduceBEq, true_or, or_true, false_or, or_false, Nat.reduceLT, Nat.reduceMod, Nat.reducePow, rmaps, nsucc, List.flatten_cons, List.flatten_nil, Nat.reduceEqDiff, Nat.reduceLeDiff, Nat.reduceAdd, Nat.reduceMul, Nat.reduceSub, ↓reduceIte, reduceCtorEq, decide_true, decide_false]
          first | refine FCall.go (count107 _) (FZs.v1 _) ?_ | refine FCall.go' (count107 _) (FZs.v1 _) ?_ | refine FCall.goQ (count107 _) (FZs.v1 _) ?_
          simp only [f0, f1, f5, hds, Cd.cd68, Tk.t68, base0, base1, base2, base3, Option.isNone_none, Option.isNone_some, Nat.reduceBEq, true_or, or_true, false_or, or_false, Nat.reduceLT, Nat.reduceMod, Nat.reducePow, rmaps, nsucc, List.flatten_cons, List.flatten_nil, Nat.reduceEqDiff, Nat.reduceLeDiff, Nat.reduceAdd, Nat.reduceMul, Nat.reduceSub, ↓reduceIte, reduceCtorEq, decide_true, decide_false]
          exact fin_v (by rw [cmpL, firstIx_some hlt hb hz]; simp only [if_neg hg]; rfl)
    · have hi' : i = a.length := by omega
      subst hi'
      simp only [List.length_map, ltF hlt, hab, show decide (((a.length : Nat) : Int) > ((a.length : Nat) : Int)) = false from decide_eq_false (by omega), show decide (((a.length : Nat) : Int) < ((a.length : Nat) : Int)) = false from decide_eq_false (by omega), f0, f1, f5, hds, Cd.cd68, Tk.t68, base0, base1, base2, base3, Option.isNone_none, Option.isNone_some, Nat.reduceBEq, true_or, or_true, false_or, or_false, Nat.reduceLT, Nat.reduceMod, Nat.reducePow, rmaps, nsucc, List.flatten_cons, List.flatten_nil, Nat.reduceEqDiff, Nat.reduceLeDiff, Nat.reduceAdd, Nat.reduceMul, Nat.reduceSub, ↓reduceIte, reduceCtorEq, decide_true, decide_false]
      first | refine FCall.go (count107 _) (FZs.v1 _) ?_ | refine FCall.go' (count107 _) (FZs.v1 _) ?_ | refine FCall.goQ (count107 _) (FZs.v1 _) ?_
      simp only [List.length_map, hab, show decide (((a.length : Nat) : Int) < ((a.length : Nat) : Int)) = false from decide_eq_false (by omega), f0, f1, f5, hds, Cd.cd68, Tk.t68, base0, base1, base2, base3, Option.isNone_none, Option.isNone_some, Nat.reduceBEq, true_or, or_true, false_or, or_false, Nat.reduceLT, Nat.reduceMod, Nat.reducePow, rmaps, nsucc, List.flatten_cons, List.flatten_nil, Nat.reduceEqDiff, Nat.reduceLeDiff, Nat.reduceAdd, Nat.reduceMul, Nat.reduceSub, ↓reduceIte, reduceCtorEq, decide_true, decide_false]
      first | refine FCall.go (count107 _) (FZs.v1 _) ?_ | refine FCall.go' (count107 _) (FZs.v1 _) ?_ | refine FCall.goQ (count107 _) (FZs.v1 _) ?_
      simp only [f0, f1, f5, hds, Cd.cd68, Tk.t68, base0, base1, base2, base3, Option.isNone_none, Option.isNone_some, Nat.reduceBEq, true_or, or_true, false_or, or_false, Nat.reduceLT, Nat.reduceMod, Nat.reducePow, rmaps, nsucc, List.flatten_cons, List.flatten_nil, Nat.reduceEqDiff, Nat.reduceLeDiff, Nat.reduceAdd, Nat.reduceMul, Nat.reduceSub, ↓reduceIte, reduceCtorEq, decide_true, decide_false]
      exact fin_v (by rw [cmpL, firstIx_none hz]; rfl)
theorem cmp68m (a b : Mv) : FCall Tryd.prog 68 [ints [a.fr, a.kd, a.lb, a.to], ints [b.fr, b.kd, b.lb, b.to]] (· = .v (.int .i64 (cmpMv a b))) := by
  rw [← cmpL4]; exact cmp68 _ _ (by simp) rfl
def quietR (x : Re) (a : Int) : Bool := x.mv.all fun m => decide (m.fr ≠ a) || decide (m.kd = 0)
end Go.Proofs.YtchpcjmgifnmdaaDoor

/- Walks: the reference checks systems, each move. -/
namespace Go.Proofs.YtchpcjmgifnmdaaDoor
open Go Go.Proofs.YtchpcjmgifnmdaaDoor.Ab
set_option maxRecDepth 100000
set_option linter.unusedSimpArgs false

set_option maxHeartbeats 2000000 in
theorem react24 (x : Re) : FCall Tryd.prog 24 [reV x] (· = .tup [.v (.int .i64 (checkR x).1), .v (.int .i64 (checkR x).2)]) := by
  simp only [reV, reL, mvsV]
  refine ACall.enter [] Cd.fn24 (by simp) ?_
  simp only [Cd.cd24, Tk.t24, base0, base1, base2, base3, Option.isNone_none, Option.isNone_some, Nat.reduceBEq, true_or, or_true, false_or, or_false, Nat.reduceLT, Nat.reduceMod, Nat.reducePow, rmaps, nsucc, List.flatten_cons, List.flatten_nil, Nat.reduceEqDiff, Nat.reduceLeDiff, Nat.reduceAdd, Nat.reduceMul, Nat.reduceSub, ↓reduceIte, reduceCtorEq, decide_true, decide_false]
  first | refine FCall.go (within36 _ _ _) (FZs.v3 _ _ _) ?_ | refine FCall.go' (within36 _ _ _) (FZs.v3 _ _ _) ?_ | refine FCall.goQ (within36 _ _ _) (FZs.v3 _ _ _) ?_
  cases h1 : within x.st 1 10
  · simp only [Cd.cd24, Tk.t24, base0, base1, base2, base3, Option.isNone_none, Option.isNone_some, Nat.reduceBEq, true_or, or_true, false_or, or_false, Nat.reduceLT, Nat.reduceMod, Nat.reducePow, rmaps, nsucc, List.flatten_cons, List.flatten_nil, Nat.reduceEqDiff, Nat.reduceLeDiff, Nat.reduceAdd, Nat.reduceMul, Nat.reduceSub, ↓reduceIte, reduceCtorEq, decide_true, decide_false]
    exact fin_p (check_head (by simp [headErr, h1]))
  simp only [Cd.cd24, Tk.t24, base0, base1, base2, base3, Option.isNone_none, Option.isNone_some, Nat.reduceBEq, true_or, or_true, false_or, or_false, Nat.reduceLT, Nat.reduceMod, Nat.reducePow, rmaps, nsucc, List.flatten_cons, List.flatten_nil, Nat.reduceEqDiff, Nat.reduceLeDiff, Nat.reduceAdd, Nat.reduceMul, Nat.reduceSub, ↓reduceIte, reduceCtorEq, decide_true, decide_false]
  first | refine FCall.go (within36 _ _ _) (FZs.v3 _ _ _) ?_ | refine FCall.go' (within36 _ _ _) (FZs.v3 _ _ _) ?_ | refine FCall.goQ (within36 _ _ _) (FZs.v3 _ _ _) ?_
  cases h2 : within x.s0 0 (IntKind.i64.wrap (x.st - 1))
  · simp only [Cd.cd24, Tk.t24, base0, base1, base2, base3, Option.isNone_none, Option.isNone_some, Nat.reduceBEq, true_or, or_true, false_or, or_false, Nat.reduceLT, Nat.reduceMod, Nat.reducePow, rmaps, nsucc, List.flatten_cons, List.flatten_nil, Nat.reduceEqDiff, Nat.reduceLeDiff, Nat.reduceAdd, Nat.reduceMul, Nat.reduceSub, ↓reduceIte, reduceCtorEq, decide_true, decide_false]
    exact fin_p (check_head (by simp [headErr, h2]))
  simp only [Cd.cd24, Tk.t24, base0, base1, base2, base3, Option.isNone_none, Option.isNone_some, Nat.reduceBEq, true_or, or_true, false_or, or_false, Nat.reduceLT, Nat.reduceMod, Nat.reducePow, rmaps, nsucc, List.flatten_cons, List.flatten_nil, Nat.reduceEqDiff, Nat.reduceLeDiff, Nat.reduceAdd, Nat.reduceMul, Nat.reduceSub, ↓reduceIte, reduceCtorEq, decide_true, decide_false]
  first | refine FCall.go (within36 _ _ _) (FZs.v3 _ _ _) ?_ | refine FCall.go' (within36 _ _ _) (FZs.v3 _ _ _) ?_ | refine FCall.goQ (within36 _ _ _) (FZs.v3 _ _ _) ?_
  cases h3 : within x.inp 0 4
  · simp only [Cd.cd24, Tk.t24, base0, base1, base2, base3, Option.isNone_none, Option.isNone_some, Nat.reduceBEq, true_or, or_true, false_or, or_false, Nat.reduceLT, Nat.reduceMod, Nat.reducePow, rmaps, nsucc, List.flatten_cons, List.flatten_nil, Nat.reduceEqDiff, Nat.reduceLeDiff, Nat.reduceAdd, Nat.reduceMul, Nat.reduceSub, ↓reduceIte, reduceCtorEq, decide_true, decide_false]
    exact fin_p (check_head (by simp [headErr, h3]))
  simp only [Cd.cd24, Tk.t24, base0, base1, base2, base3, Option.isNone_none, Option.isNone_some, Nat.reduceBEq, true_or, or_true, false_or, or_false, Nat.reduceLT, Nat.reduceMod, Nat.reducePow, rmaps, nsucc, List.flatten_cons, List.flatten_nil, Nat.reduceEqDiff, Nat.reduceLeDiff, Nat.reduceAdd, Nat.reduceMul, Nat.reduceSub, ↓reduceIte, reduceCtorEq, decide_true, decide_false]
  first | refine FCall.go (within36 _ _ _) (FZs.v3 _ _ _) ?_ | refine FCall.go' (within36 _ _ _) (FZs.v3 _ _ _) ?_ | refine FCall.goQ (within36 _ _ _) (FZs.v3 _ _ _) ?_
  cases h4 : within x.out 0 4
  · simp only [Cd.cd24, Tk.t24, base0, base1, base2, base3, Option.isNone_none, Option.isNone_some, Nat.reduceBEq, true_or, or_true, false_or, or_false, Nat.reduceLT, Nat.reduceMod, Nat.reducePow, rmaps, nsucc, List.flatten_cons, List.flatten_nil, Nat.reduceEqDiff, Nat.reduceLeDiff, Nat.reduceAdd, Nat.reduceMul, Nat.reduceSub, ↓reduceIte, reduceCtorEq, decide_true, decide_false]
    exact fin_p (check_head (by simp [headErr, h4]))
  have hh : headErr x = false := by simp [headErr, h1, h2, h3, h4]
  by_cases h5 : 80 < x.mv.length
  · simp only [List.length_map, show decide (((x.mv.length : Nat) : Int) > 80) = true from decide_eq_true (by omega), Cd.cd24, Tk.t24, base0, base1, base2, base3, Option.isNone_none, Option.isNone_some, Nat.reduceBEq, true_or, or_true, false_or, or_false, Nat.reduceLT, Nat.reduceMod, Nat.reducePow, rmaps, nsucc, List.flatten_cons, List.flatten_nil, Nat.reduceEqDiff, Nat.reduceLeDiff, Nat.reduceAdd, Nat.reduceMul, Nat.reduceSub, ↓reduceIte, reduceCtorEq, decide_true, decide_false]
    exact fin_p (check_large hh h5)
  simp only [List.length_map, show decide (((x.mv.length : Nat) : Int) > 80) = false from decide_eq_false (by omega), Cd.cd24, Tk.t24, base0, base1, base2, base3, Option.isNone_none, Option.isNone_some, Nat.reduceBEq, true_or, or_true, false_or, or_false, Nat.reduceLT, Nat.reduceMod, Nat.reducePow, rmaps, nsucc, List.flatten_cons, List.flatten_nil, Nat.reduceEqDiff, Nat.reduceLeDiff, Nat.reduceAdd, Nat.reduceMul, Nat.reduceSub, ↓reduceIte, reduceCtorEq, decide_true, decide_false]
  refine LWP.loop [] (fun m f H' => ∃ i, m = x.mv.length - i ∧ (i ≤ x.mv.length) ∧ (∀ j, j < i → mvErr x j = 0) ∧ f.t 1 = .box [.v (.int .i64 x.st), .v (.int .i64 x.s0), .v (.int .i64 x.inp), .v (.int .i64 x.out), .lst 4 (x.mv.map mvR) .unk] ∧ f.t 4 = .v (.int .i64 (i : Nat)) ∧ f.ds = [] ∧ True) ?_ ?_ (m := x.mv.length - (0))
  · exact ⟨0, rfl, (by omega), (fun j hj => by omega), rfl, rfl, rfl, trivial⟩
  · rintro m f H' ⟨i, rfl, hi, hz, f1, f4, hds, hH⟩
    by_cases hlt : i < x.mv.length
    · have hg := getD_map mvR x.mv i hlt
      generalize hm : x.mv.getD i default = mi at hg
      have ek : within mi.kd 0 2 = true → ∀ e, (labels x mi = e) → within mi.fr 0 (IntKind.i64.wrap (x.st - 1)) = false ∨ within mi.to 0 (IntKind.i64.wrap (x.st - 1)) = false ∨ within mi.lb 0 (IntKind.i64.wrap (e - 1)) = false → checkR x = ((i : Int), 3) := fun hk e he h => by
        subst he; subst hm
        exact check_move hh h5 hlt hz (mvErr_range hk h) (by omega)
      have fin : ∀ e, labels x mi = e → within mi.kd 0 2 = true → within mi.fr 0 (IntKind.i64.wrap (x.st - 1)) = true → within mi.to 0 (IntKind.i64.wrap (x.st - 1)) = true → within mi.lb 0 (IntKind.i64.wrap (e - 1)) = true →
          mvErr x i = if decide (0 < i) && decide (0 ≤ cmpMv (x.mv.getD (i - 1) default) mi) then 14 else 0 := fun e he a b c d => by
        subst he; subst hm; exact mvErr_ord a b c d
      by_cases k0 : mi.kd = 0
      · simp only [ltT hlt, List.length_map, inR hlt, Int.toNat_natCast, hg, mvR, f1, f4, hds, Cd.cd24, Tk.t24, base0, base1, base2, base3, Option.isNone_none, Option.isNone_some, Nat.reduceBEq, true_or, or_true, false_or, or_false, Nat.reduceLT, Nat.reduceMod, Nat.reducePow, rmaps, nsucc, List.flatten_cons, List.flatten_nil, Nat.reduceEqDiff, Nat.reduceLeDiff, Nat.reduceAdd, Nat.reduceMul, Nat.reduceSub, ↓reduceIte, reduceCtorEq, decide_true, decide_false]
        first | refine FCall.go (within36 _ _ _) (FZs.v3 _ _ _) ?_ | refine FCall.go' (within36 _ _ _) (FZs.v3 _ _ _) ?_ | refine FCall.goQ (within36 _ _ _) (FZs.v3 _ _ _) ?_
        rw [(kd_in.mpr (.inl k0))]
        simp only [show (mi.kd == 0) = true from beq_iff_eq.mpr k0, show (mi.kd == 1) = false from beq_eq_false_iff_ne.mpr (by omega), f1, f4, hds, Cd.cd24, Tk.t24, base0, base1, base2, base3, Option.isNone_none, Option.isNone_some, Nat.reduceBEq, true_or, or_true, false_or, or_false, Nat.reduceLT, Nat.reduceMod, Nat.reducePow, rmaps, nsucc, List.flatten_cons, List.flatten_nil, Nat.reduceEqDiff, Nat.reduceLeDiff, Nat.reduceAdd, Nat.reduceMul, Nat.reduceSub, ↓reduceIte, reduceCtorEq, decide_true, decide_false]
        first | refine FCall.go (within36 _ _ _) (FZs.v3 _ _ _) ?_ | refine FCall.go' (within36 _ _ _) (FZs.v3 _ _ _) ?_ | refine FCall.goQ (within36 _ _ _) (FZs.v3 _ _ _) ?_
        cases r1 : within mi.fr 0 (IntKind.i64.wrap (x.st - 1))
        · simp only [f1, f4, hds, Cd.cd24, Tk.t24, base0, base1, base2, base3, Option.isNone_none, Option.isNone_some, Nat.reduceBEq, true_or, or_true, false_or, or_false, Nat.reduceLT, Nat.reduceMod, Nat.reducePow, rmaps, nsucc, List.flatten_cons, List.flatten_nil, Nat.reduceEqDiff, Nat.reduceLeDiff, Nat.reduceAdd, Nat.reduceMul, Nat.reduceSub, ↓reduceIte, reduceCtorEq, decide_true, decide_false]
          exact fin_p (ek (kd_in.mpr (.inl k0)) x.inp (by unfold labels; rw [if_pos k0]) (.inl r1))
        simp only [f1, f4, hds, Cd.cd24, Tk.t24, base0, base1, base2, base3, Option.isNone_none, Option.isNone_some, Nat.reduceBEq, true_or, or_true, false_or, or_false, Nat.reduceLT, Nat.reduceMod, Nat.reducePow, rmaps, nsucc, List.flatten_cons, List.flatten_nil, Nat.reduceEqDiff, Nat.reduceLeDiff, Nat.reduceAdd, Nat.reduceMul, Nat.reduceSub, ↓reduceIte, reduceCtorEq, decide_true, decide_false]
        first | refine FCall.go (within36 _ _ _) (FZs.v3 _ _ _) ?_ | refine FCall.go' (within36 _ _ _) (FZs.v3 _ _ _) ?_ | refine FCall.goQ (within36 _ _ _) (FZs.v3 _ _ _) ?_
        cases r2 : within mi.to 0 (IntKind.i64.wrap (x.st - 1))
        · simp only [f1, f4, hds, Cd.cd24, Tk.t24, base0, base1, base2, base3, Option.isNone_none, Option.isNone_some, Nat.reduceBEq, true_or, or_true, false_or, or_false, Nat.reduceLT, Nat.reduceMod, Nat.reducePow, rmaps, nsucc, List.flatten_cons, List.flatten_nil, Nat.reduceEqDiff, Nat.reduceLeDiff, Nat.reduceAdd, Nat.reduceMul, Nat.reduceSub, ↓reduceIte, reduceCtorEq, decide_true, decide_false]
          exact fin_p (ek (kd_in.mpr (.inl k0)) x.inp (by unfold labels; rw [if_pos k0]) (.inr (.inl r2)))
        simp only [f1, f4, hds, Cd.cd24, Tk.t24, base0, base1, base2, base3, Option.isNone_none, Option.isNone_some, Nat.reduceBEq, true_or, or_true, false_or, or_false, Nat.reduceLT, Nat.reduceMod, Nat.reducePow, rmaps, nsucc, List.flatten_cons, List.flatten_nil, Nat.reduceEqDiff, Nat.reduceLeDiff, Nat.reduceAdd, Nat.reduceMul, Nat.reduceSub, ↓reduceIte, reduceCtorEq, decide_true, decide_false]
        first | refine FCall.go (within36 _ _ _) (FZs.v3 _ _ _) ?_ | refine FCall.go' (within36 _ _ _) (FZs.v3 _ _ _) ?_ | refine FCall.goQ (within36 _ _ _) (FZs.v3 _ _ _) ?_
        cases r3 : within mi.lb 0 (IntKind.i64.wrap (x.inp - 1))
        · simp only [f1, f4, hds, Cd.cd24, Tk.t24, base0, base1, base2, base3, Option.isNone_none, Option.isNone_some, Nat.reduceBEq, true_or, or_true, false_or, or_false, Nat.reduceLT, Nat.reduceMod, Nat.reducePow, rmaps, nsucc, List.flatten_cons, List.flatten_nil, Nat.reduceEqDiff, Nat.reduceLeDiff, Nat.reduceAdd, Nat.reduceMul, Nat.reduceSub, ↓reduceIte, reduceCtorEq, decide_true, decide_false]
          exact fin_p (ek (kd_in.mpr (.inl k0)) x.inp (by unfold labels; rw [if_pos k0]) (.inr (.inr r3)))
        have hf := fin x.inp (by unfold labels; rw [if_pos k0]) (kd_in.mpr (.inl k0)) r1 r2 r3
        by_cases hi0 : 0 < i
        · have hl1 : i - 1 < x.mv.length := by omega
          have hw : IntKind.i64.wrap ((i : Int) - 1) = ((i - 1 : Nat) : Int) := by rw [wrapI (by omega) (by omega)]; omega
          have hg1 := getD_map mvR x.mv (i - 1) hl1
          simp only [List.length_map, show decide (((i : Nat) : Int) > 0) = true from decide_eq_true (by omega), hw, inR hl1, Int.toNat_natCast, hg1, mvR, f1, f4, hds, Cd.cd24, Tk.t24, base0, base1, base2, base3, Option.isNone_none, Option.isNone_some, Nat.reduceBEq, true_or, or_true, false_or, or_false, Nat.reduceLT, Nat.reduceMod, Nat.reducePow, rmaps, nsucc, List.flatten_cons, List.flatten_nil, Nat.reduceEqDiff, Nat.reduceLeDiff, Nat.reduceAdd, Nat.reduceMul, Nat.reduceSub, ↓reduceIte, reduceCtorEq, decide_true, decide_false]
          first | refine FCall.go (list69 (x.mv.getD (i - 1) default)) (FZs.one (FZ.mvV _)) ?_ | refine FCall.go' (list69 (x.mv.getD (i - 1) default)) (FZs.one (FZ.mvV _)) ?_ | refine FCall.goQ (list69 (x.mv.getD (i - 1) default)) (FZs.one (FZ.mvV _)) ?_
          simp only [f1, f4, hds, Cd.cd24, Tk.t24, base0, base1, base2, base3, Option.isNone_none, Option.isNone_some, Nat.reduceBEq, true_or, or_true, false_or, or_false, Nat.reduceLT, Nat.reduceMod, Nat.reducePow, rmaps, nsucc, List.flatten_cons, List.flatten_nil, Nat.reduceEqDiff, Nat.reduceLeDiff, Nat.reduceAdd, Nat.reduceMul, Nat.reduceSub, ↓reduceIte, reduceCtorEq, decide_true, decide_false]
          first | refine FCall.go (list69 mi) (FZs.one (FZ.mvV _)) ?_ | refine FCall.go' (list69 mi) (FZs.one (FZ.mvV _)) ?_ | refine FCall.goQ (list69 mi) (FZs.one (FZ.mvV _)) ?_
          simp only [f1, f4, hds, Cd.cd24, Tk.t24, base0, base1, base2, base3, Option.isNone_none, Option.isNone_some, Nat.reduceBEq, true_or, or_true, false_or, or_false, Nat.reduceLT, Nat.reduceMod, Nat.reducePow, rmaps, nsucc, List.flatten_cons, List.flatten_nil, Nat.reduceEqDiff, Nat.reduceLeDiff, Nat.reduceAdd, Nat.reduceMul, Nat.reduceSub, ↓reduceIte, reduceCtorEq, decide_true, decide_false]
          first | refine FCall.go (cmp68m (x.mv.getD (i - 1) default) mi) (FZs.two (FZ.ints _) (FZ.ints _)) ?_ | refine FCall.go' (cmp68m (x.mv.getD (i - 1) default) mi) (FZs.two (FZ.ints _) (FZ.ints _)) ?_ | refine FCall.goQ (cmp68m (x.mv.getD (i - 1) default) mi) (FZs.two (FZ.ints _) (FZ.ints _)) ?_
          by_cases hc : 0 ≤ cmpMv (x.mv.getD (i - 1) default) mi
          · simp only [show decide (cmpMv (x.mv.getD (i - 1) default) mi ≥ 0) = true from decide_eq_true hc, f1, f4, hds, Cd.cd24, Tk.t24, base0, base1, base2, base3, Option.isNone_none, Option.isNone_some, Nat.reduceBEq, true_or, or_true, false_or, or_false, Nat.reduceLT, Nat.reduceMod, Nat.reducePow, rmaps, nsucc, List.flatten_cons, List.flatten_nil, Nat.reduceEqDiff, Nat.reduceLeDiff, Nat.reduceAdd, Nat.reduceMul, Nat.reduceSub, ↓reduceIte, reduceCtorEq, decide_true, decide_false]
            exact fin_p (check_move hh h5 hlt hz (by rw [hf, decide_eq_true hi0, decide_eq_true hc]; rfl) (by omega))
          · simp only [show decide (cmpMv (x.mv.getD (i - 1) default) mi ≥ 0) = false from decide_eq_false hc, f1, f4, hds, Cd.cd24, Tk.t24, base0, base1, base2, base3, Option.isNone_none, Option.isNone_some, Nat.reduceBEq, true_or, or_true, false_or, or_false, Nat.reduceLT, Nat.reduceMod, Nat.reducePow, rmaps, nsucc, List.flatten_cons, List.flatten_nil, Nat.reduceEqDiff, Nat.reduceLeDiff, Nat.reduceAdd, Nat.reduceMul, Nat.reduceSub, ↓reduceIte, reduceCtorEq, decide_true, decide_false]
            refine ⟨_, by omega, i + 1, rfl, by omega, ?_⟩
            (repeat' apply And.intro) <;> first | rfl | (rw [wrapS (by omega)]) | omega | assumption | (exact allS hz (by rw [hf, decide_eq_false hc]; simp))
        · simp only [show decide (((i : Nat) : Int) > 0) = false from decide_eq_false (by omega), f1, f4, hds, Cd.cd24, Tk.t24, base0, base1, base2, base3, Option.isNone_none, Option.isNone_some, Nat.reduceBEq, true_or, or_true, false_or, or_false, Nat.reduceLT, Nat.reduceMod, Nat.reducePow, rmaps, nsucc, List.flatten_cons, List.flatten_nil, Nat.reduceEqDiff, Nat.reduceLeDiff, Nat.reduceAdd, Nat.reduceMul, Nat.reduceSub, ↓reduceIte, reduceCtorEq, decide_true, decide_false]
          refine ⟨_, by omega, i + 1, rfl, by omega, ?_⟩
          (repeat' apply And.intro) <;> first | rfl | (rw [wrapS (by omega)]) | omega | assumption | (exact allS hz (by rw [hf, decide_eq_false hi0]; simp))
      by_cases k1 : mi.kd = 1
      · simp only [ltT hlt, List.length_map, inR hlt, Int.toNat_natCast, hg, mvR, f1, f4, hds, Cd.cd24, Tk.t24, base0, base1, base2, base3, Option.isNone_none, Option.isNone_some, Nat.reduceBEq, true_or, or_true, false_or, or_false, Nat.reduceLT, Nat.reduceMod, Nat.reducePow, rmaps, nsucc, List.flatten_cons, List.flatten_nil, Nat.reduceEqDiff, Nat.reduceLeDiff, Nat.reduceAdd, Nat.reduceMul, Nat.reduceSub, ↓reduceIte, reduceCtorEq, decide_true, decide_false]
        first | refine FCall.go (within36 _ _ _) (FZs.v3 _ _ _) ?_ | refine FCall.go' (within36 _ _ _) (FZs.v3 _ _ _) ?_ | refine FCall.goQ (within36 _ _ _) (FZs.v3 _ _ _) ?_
        rw [(kd_in.mpr (.inr (.inl k1)))]
        simp only [show (mi.kd == 0) = false from beq_eq_false_iff_ne.mpr k0, show (mi.kd == 1) = true from beq_iff_eq.mpr k1, f1, f4, hds, Cd.cd24, Tk.t24, base0, base1, base2, base3, Option.isNone_none, Option.isNone_some, Nat.reduceBEq, true_or, or_true, false_or, or_false, Nat.reduceLT, Nat.reduceMod, Nat.reducePow, rmaps, nsucc, List.flatten_cons, List.flatten_nil, Nat.reduceEqDiff, Nat.reduceLeDiff, Nat.reduceAdd, Nat.reduceMul, Nat.reduceSub, ↓reduceIte, reduceCtorEq, decide_true, decide_false]
        first | refine FCall.go (within36 _ _ _) (FZs.v3 _ _ _) ?_ | refine FCall.go' (within36 _ _ _) (FZs.v3 _ _ _) ?_ | refine FCall.goQ (within36 _ _ _) (FZs.v3 _ _ _) ?_
        cases r1 : within mi.fr 0 (IntKind.i64.wrap (x.st - 1))
        · simp only [f1, f4, hds, Cd.cd24, Tk.t24, base0, base1, base2, base3, Option.isNone_none, Option.isNone_some, Nat.reduceBEq, true_or, or_true, false_or, or_false, Nat.reduceLT, Nat.reduceMod, Nat.reducePow, rmaps, nsucc, List.flatten_cons, List.flatten_nil, Nat.reduceEqDiff, Nat.reduceLeDiff, Nat.reduceAdd, Nat.reduceMul, Nat.reduceSub, ↓reduceIte, reduceCtorEq, decide_true, decide_false]
          exact fin_p (ek (kd_in.mpr (.inr (.inl k1))) x.out (by unfold labels; rw [if_neg k0, if_pos k1]) (.inl r1))
        simp only [f1, f4, hds, Cd.cd24, Tk.t24, base0, base1, base2, base3, Option.isNone_none, Option.isNone_some, Nat.reduceBEq, true_or, or_true, false_or, or_false, Nat.reduceLT, Nat.reduceMod, Nat.reducePow, rmaps, nsucc, List.flatten_cons, List.flatten_nil, Nat.reduceEqDiff, Nat.reduceLeDiff, Nat.reduceAdd, Nat.reduceMul, Nat.reduceSub, ↓reduceIte, reduceCtorEq, decide_true, decide_false]
        first | refine FCall.go (within36 _ _ _) (FZs.v3 _ _ _) ?_ | refine FCall.go' (within36 _ _ _) (FZs.v3 _ _ _) ?_ | refine FCall.goQ (within36 _ _ _) (FZs.v3 _ _ _) ?_
        cases r2 : within mi.to 0 (IntKind.i64.wrap (x.st - 1))
        · simp only [f1, f4, hds, Cd.cd24, Tk.t24, base0, base1, base2, base3, Option.isNone_none, Option.isNone_some, Nat.reduceBEq, true_or, or_true, false_or, or_false, Nat.reduceLT, Nat.reduceMod, Nat.reducePow, rmaps, nsucc, List.flatten_cons, List.flatten_nil, Nat.reduceEqDiff, Nat.reduceLeDiff, Nat.reduceAdd, Nat.reduceMul, Nat.reduceSub, ↓reduceIte, reduceCtorEq, decide_true, decide_false]
          exact fin_p (ek (kd_in.mpr (.inr (.inl k1))) x.out (by unfold labels; rw [if_neg k0, if_pos k1]) (.inr (.inl r2)))
        simp only [f1, f4, hds, Cd.cd24, Tk.t24, base0, base1, base2, base3, Option.isNone_none, Option.isNone_some, Nat.reduceBEq, true_or, or_true, false_or, or_false, Nat.reduceLT, Nat.reduceMod, Nat.reducePow, rmaps, nsucc, List.flatten_cons, List.flatten_nil, Nat.reduceEqDiff, Nat.reduceLeDiff, Nat.reduceAdd, Nat.reduceMul, Nat.reduceSub, ↓reduceIte, reduceCtorEq, decide_true, decide_false]
        first | refine FCall.go (within36 _ _ _) (FZs.v3 _ _ _) ?_ | refine FCall.go' (within36 _ _ _) (FZs.v3 _ _ _) ?_ | refine FCall.goQ (within36 _ _ _) (FZs.v3 _ _ _) ?_
        cases r3 : within mi.lb 0 (IntKind.i64.wrap (x.out - 1))
        · simp only [f1, f4, hds, Cd.cd24, Tk.t24, base0, base1, base2, base3, Option.isNone_none, Option.isNone_some, Nat.reduceBEq, true_or, or_true, false_or, or_false, Nat.reduceLT, Nat.reduceMod, Nat.reducePow, rmaps, nsucc, List.flatten_cons, List.flatten_nil, Nat.reduceEqDiff, Nat.reduceLeDiff, Nat.reduceAdd, Nat.reduceMul, Nat.reduceSub, ↓reduceIte, reduceCtorEq, decide_true, decide_false]
          exact fin_p (ek (kd_in.mpr (.inr (.inl k1))) x.out (by unfold labels; rw [if_neg k0, if_pos k1]) (.inr (.inr r3)))
        have hf := fin x.out (by unfold labels; rw [if_neg k0, if_pos k1]) (kd_in.mpr (.inr (.inl k1))) r1 r2 r3
        by_cases hi0 : 0 < i
        · have hl1 : i - 1 < x.mv.length := by omega
          have hw : IntKind.i64.wrap ((i : Int) - 1) = ((i - 1 : Nat) : Int) := by rw [wrapI (by omega) (by omega)]; omega
          have hg1 := getD_map mvR x.mv (i - 1) hl1
          simp only [List.length_map, show decide (((i : Nat) : Int) > 0) = true from decide_eq_true (by omega), hw, inR hl1, Int.toNat_natCast, hg1, mvR, f1, f4, hds, Cd.cd24, Tk.t24, base0, base1, base2, base3, Option.isNone_none, Option.isNone_some, Nat.reduceBEq, true_or, or_true, false_or, or_false, Nat.reduceLT, Nat.reduceMod, Nat.reducePow, rmaps, nsucc, List.flatten_cons, List.flatten_nil, Nat.reduceEqDiff, Nat.reduceLeDiff, Nat.reduceAdd, Nat.reduceMul, Nat.reduceSub, ↓reduceIte, reduceCtorEq, decide_true, decide_false]
          first | refine FCall.go (list69 (x.mv.getD (i - 1) default)) (FZs.one (FZ.mvV _)) ?_ | refine FCall.go' (list69 (x.mv.getD (i - 1) default)) (FZs.one (FZ.mvV _)) ?_ | refine FCall.goQ (list69 (x.mv.getD (i - 1) default)) (FZs.one (FZ.mvV _)) ?_
          simp only [f1, f4, hds, Cd.cd24, Tk.t24, base0, base1, base2, base3, Option.isNone_none, Option.isNone_some, Nat.reduceBEq, true_or, or_true, false_or, or_false, Nat.reduceLT, Nat.reduceMod, Nat.reducePow, rmaps, nsucc, List.flatten_cons, List.flatten_nil, Nat.reduceEqDiff, Nat.reduceLeDiff, Nat.reduceAdd, Nat.reduceMul, Nat.reduceSub, ↓reduceIte, reduceCtorEq, decide_true, decide_false]
          first | refine FCall.go (list69 mi) (FZs.one (FZ.mvV _)) ?_ | refine FCall.go' (list69 mi) (FZs.one (FZ.mvV _)) ?_ | refine FCall.goQ (list69 mi) (FZs.one (FZ.mvV _)) ?_
          simp only [f1, f4, hds, Cd.cd24, Tk.t24, base0, base1, base2, base3, Option.isNone_none, Option.isNone_some, Nat.reduceBEq, true_or, or_true, false_or, or_false, Nat.reduceLT, Nat.reduceMod, Nat.reducePow, rmaps, nsucc, List.flatten_cons, List.flatten_nil, Nat.reduceEqDiff, Nat.reduceLeDiff, Nat.reduceAdd, Nat.reduceMul, Nat.reduceSub, ↓reduceIte, reduceCtorEq, decide_true, decide_false]
          first | refine FCall.go (cmp68m (x.mv.getD (i - 1) default) mi) (FZs.two (FZ.ints _) (FZ.ints _)) ?_ | refine FCall.go' (cmp68m (x.mv.getD (i - 1) default) mi) (FZs.two (FZ.ints _) (FZ.ints _)) ?_ | refine FCall.goQ (cmp68m (x.mv.getD (i - 1) default) mi) (FZs.two (FZ.ints _) (FZ.ints _)) ?_
          by_cases hc : 0 ≤ cmpMv (x.mv.getD (i - 1) default) mi
          · simp only [show decide (cmpMv (x.mv.getD (i - 1) default) mi ≥ 0) = true from decide_eq_true hc, f1, f4, hds, Cd.cd24, Tk.t24, base0, base1, base2, base3, Option.isNone_none, Option.isNone_some, Nat.reduceBEq, true_or, or_true, false_or, or_false, Nat.reduceLT, Nat.reduceMod, Nat.reducePow, rmaps, nsucc, List.flatten_cons, List.flatten_nil, Nat.reduceEqDiff, Nat.reduceLeDiff, Nat.reduceAdd, Nat.reduceMul, Nat.reduceSub, ↓reduceIte, reduceCtorEq, decide_true, decide_false]
            exact fin_p (check_move hh h5 hlt hz (by rw [hf, decide_eq_true hi0, decide_eq_true hc]; rfl) (by omega))
          · simp only [show decide (cmpMv (x.mv.getD (i - 1) default) mi ≥ 0) = false from decide_eq_false hc, f1, f4, hds, Cd.cd24, Tk.t24, base0, base1, base2, base3, Option.isNone_none, Option.isNone_some, Nat.reduceBEq, true_or, or_true, false_or, or_false, Nat.reduceLT, Nat.reduceMod, Nat.reducePow, rmaps, nsucc, List.flatten_cons, List.flatten_nil, Nat.reduceEqDiff, Nat.reduceLeDiff, Nat.reduceAdd, Nat.reduceMul, Nat.reduceSub, ↓reduceIte, reduceCtorEq, decide_true, decide_false]
            refine ⟨_, by omega, i + 1, rfl, by omega, ?_⟩
            (repeat' apply And.intro) <;> first | rfl | (rw [wrapS (by omega)]) | omega | assumption | (exact allS hz (by rw [hf, decide_eq_false hc]; simp))
        · simp only [show decide (((i : Nat) : Int) > 0) = false from decide_eq_false (by omega), f1, f4, hds, Cd.cd24, Tk.t24, base0, base1, base2, base3, Option.isNone_none, Option.isNone_some, Nat.reduceBEq, true_or, or_true, false_or, or_false, Nat.reduceLT, Nat.reduceMod, Nat.reducePow, rmaps, nsucc, List.flatten_cons, List.flatten_nil, Nat.reduceEqDiff, Nat.reduceLeDiff, Nat.reduceAdd, Nat.reduceMul, Nat.reduceSub, ↓reduceIte, reduceCtorEq, decide_true, decide_false]
          refine ⟨_, by omega, i + 1, rfl, by omega, ?_⟩
          (repeat' apply And.intro) <;> first | rfl | (rw [wrapS (by omega)]) | omega | assumption | (exact allS hz (by rw [hf, decide_eq_false hi0]; simp))
      by_cases k2 : mi.kd = 2
      · simp only [ltT hlt, List.length_map, inR hlt, Int.toNat_natCast, hg, mvR, f1, f4, hds, Cd.cd24, Tk.t24, base0, base1, base2, base3, Option.isNone_none, Option.isNone_some, Nat.reduceBEq, true_or, or_true, false_or, or_false, Nat.reduceLT, Nat.reduceMod, Nat.reducePow, rmaps, nsucc, List.flatten_cons, List.flatten_nil, Nat.reduceEqDiff, Nat.reduceLeDiff, Nat.reduceAdd, Nat.reduceMul, Nat.reduceSub, ↓reduceIte, reduceCtorEq, decide_true, decide_false]
        first | refine FCall.go (within36 _ _ _) (FZs.v3 _ _ _) ?_ | refine FCall.go' (within36 _ _ _) (FZs.v3 _ _ _) ?_ | refine FCall.goQ (within36 _ _ _) (FZs.v3 _ _ _) ?_
        rw [(kd_in.mpr (.inr (.inr k2)))]
        simp only [show (mi.kd == 0) = false from beq_eq_false_iff_ne.mpr k0, show (mi.kd == 1) = false from beq_eq_false_iff_ne.mpr k1, f1, f4, hds, Cd.cd24, Tk.t24, base0, base1, base2, base3, Option.isNone_none, Option.isNone_some, Nat.reduceBEq, true_or, or_true, false_or, or_false, Nat.reduceLT, Nat.reduceMod, Nat.reducePow, rmaps, nsucc, List.flatten_cons, List.flatten_nil, Nat.reduceEqDiff, Nat.reduceLeDiff, Nat.reduceAdd, Nat.reduceMul, Nat.reduceSub, ↓reduceIte, reduceCtorEq, decide_true, decide_false]
        first | refine FCall.go (within36 _ _ _) (FZs.v3 _ _ _) ?_ | refine FCall.go' (within36 _ _ _) (FZs.v3 _ _ _) ?_ | refine FCall.goQ (within36 _ _ _) (FZs.v3 _ _ _) ?_
        cases r1 : within mi.fr 0 (IntKind.i64.wrap (x.st - 1))
        · simp only [f1, f4, hds, Cd.cd24, Tk.t24, base0, base1, base2, base3, Option.isNone_none, Option.isNone_some, Nat.reduceBEq, true_or, or_true, false_or, or_false, Nat.reduceLT, Nat.reduceMod, Nat.reducePow, rmaps, nsucc, List.flatten_cons, List.flatten_nil, Nat.reduceEqDiff, Nat.reduceLeDiff, Nat.reduceAdd, Nat.reduceMul, Nat.reduceSub, ↓reduceIte, reduceCtorEq, decide_true, decide_false]
          exact fin_p (ek (kd_in.mpr (.inr (.inr k2))) 1 (by unfold labels; rw [if_neg k0, if_neg k1]) (.inl r1))
        simp only [f1, f4, hds, Cd.cd24, Tk.t24, base0, base1, base2, base3, Option.isNone_none, Option.isNone_some, Nat.reduceBEq, true_or, or_true, false_or, or_false, Nat.reduceLT, Nat.reduceMod, Nat.reducePow, rmaps, nsucc, List.flatten_cons, List.flatten_nil, Nat.reduceEqDiff, Nat.reduceLeDiff, Nat.reduceAdd, Nat.reduceMul, Nat.reduceSub, ↓reduceIte, reduceCtorEq, decide_true, decide_false]
        first | refine FCall.go (within36 _ _ _) (FZs.v3 _ _ _) ?_ | refine FCall.go' (within36 _ _ _) (FZs.v3 _ _ _) ?_ | refine FCall.goQ (within36 _ _ _) (FZs.v3 _ _ _) ?_
        cases r2 : within mi.to 0 (IntKind.i64.wrap (x.st - 1))
        · simp only [f1, f4, hds, Cd.cd24, Tk.t24, base0, base1, base2, base3, Option.isNone_none, Option.isNone_some, Nat.reduceBEq, true_or, or_true, false_or, or_false, Nat.reduceLT, Nat.reduceMod, Nat.reducePow, rmaps, nsucc, List.flatten_cons, List.flatten_nil, Nat.reduceEqDiff, Nat.reduceLeDiff, Nat.reduceAdd, Nat.reduceMul, Nat.reduceSub, ↓reduceIte, reduceCtorEq, decide_true, decide_false]
          exact fin_p (ek (kd_in.mpr (.inr (.inr k2))) 1 (by unfold labels; rw [if_neg k0, if_neg k1]) (.inr (.inl r2)))
        simp only [f1, f4, hds, Cd.cd24, Tk.t24, base0, base1, base2, base3, Option.isNone_none, Option.isNone_some, Nat.reduceBEq, true_or, or_true, false_or, or_false, Nat.reduceLT, Nat.reduceMod, Nat.reducePow, rmaps, nsucc, List.flatten_cons, List.flatten_nil, Nat.reduceEqDiff, Nat.reduceLeDiff, Nat.reduceAdd, Nat.reduceMul, Nat.reduceSub, ↓reduceIte, reduceCtorEq, decide_true, decide_false]
        first | refine FCall.go (within36 _ _ _) (FZs.v3 _ _ _) ?_ | refine FCall.go' (within36 _ _ _) (FZs.v3 _ _ _) ?_ | refine FCall.goQ (within36 _ _ _) (FZs.v3 _ _ _) ?_
        cases r3 : within mi.lb 0 0
        · simp only [f1, f4, hds, Cd.cd24, Tk.t24, base0, base1, base2, base3, Option.isNone_none, Option.isNone_some, Nat.reduceBEq, true_or, or_true, false_or, or_false, Nat.reduceLT, Nat.reduceMod, Nat.reducePow, rmaps, nsucc, List.flatten_cons, List.flatten_nil, Nat.reduceEqDiff, Nat.reduceLeDiff, Nat.reduceAdd, Nat.reduceMul, Nat.reduceSub, ↓reduceIte, reduceCtorEq, decide_true, decide_false]
          exact fin_p (ek (kd_in.mpr (.inr (.inr k2))) 1 (by unfold labels; rw [if_neg k0, if_neg k1]) (.inr (.inr (show within mi.lb 0 (IntKind.i64.wrap (1 - 1)) = false from r3))))
        have hf := fin 1 (by unfold labels; rw [if_neg k0, if_neg k1]) (kd_in.mpr (.inr (.inr k2))) r1 r2 (show within mi.lb 0 (IntKind.i64.wrap (1 - 1)) = true from r3)
        by_cases hi0 : 0 < i
        · have hl1 : i - 1 < x.mv.length := by omega
          have hw : IntKind.i64.wrap ((i : Int) - 1) = ((i - 1 : Nat) : Int) := by rw [wrapI (by omega) (by omega)]; omega
          have hg1 := getD_map mvR x.mv (i - 1) hl1
          simp only [List.length_map, show decide (((i : Nat) : Int) > 0) = true from decide_eq_true (by omega), hw, inR hl1, Int.toNat_natCast, hg1, mvR, f1, f4, hds, Cd.cd24, Tk.t24, base0, base1, base2, base3, Option.isNone_none, Option.isNone_some, Nat.reduceBEq, true_or, or_true, false_or, or_false, Nat.reduceLT, Nat.reduceMod, Nat.reducePow, rmaps, nsucc, List.flatten_cons, List.flatten_nil, Nat.reduceEqDiff, Nat.reduceLeDiff, Nat.reduceAdd, Nat.reduceMul, Nat.reduceSub, ↓reduceIte, reduceCtorEq, decide_true, decide_false]
          first | refine FCall.go (list69 (x.mv.getD (i - 1) default)) (FZs.one (FZ.mvV _)) ?_ | refine FCall.go' (list69 (x.mv.getD (i - 1) default)) (FZs.one (FZ.mvV _)) ?_ | refine FCall.goQ (list69 (x.mv.getD (i - 1) default)) (FZs.one (FZ.mvV _)) ?_
          simp only [f1, f4, hds, Cd.cd24, Tk.t24, base0, base1, base2, base3, Option.isNone_none, Option.isNone_some, Nat.reduceBEq, true_or, or_true, false_or, or_false, Nat.reduceLT, Nat.reduceMod, Nat.reducePow, rmaps, nsucc, List.flatten_cons, List.flatten_nil, Nat.reduceEqDiff, Nat.reduceLeDiff, Nat.reduceAdd, Nat.reduceMul, Nat.reduceSub, ↓reduceIte, reduceCtorEq, decide_true, decide_false]
          first | refine FCall.go (list69 mi) (FZs.one (FZ.mvV _)) ?_ | refine FCall.go' (list69 mi) (FZs.one (FZ.mvV _)) ?_ | refine FCall.goQ (list69 mi) (FZs.one (FZ.mvV _)) ?_
          simp only [f1, f4, hds, Cd.cd24, Tk.t24, base0, base1, base2, base3, Option.isNone_none, Option.isNone_some, Nat.reduceBEq, true_or, or_true, false_or, or_false, Nat.reduceLT, Nat.reduceMod, Nat.reducePow, rmaps, nsucc, List.flatten_cons, List.flatten_nil, Nat.reduceEqDiff, Nat.reduceLeDiff, Nat.reduceAdd, Nat.reduceMul, Nat.reduceSub, ↓reduceIte, reduceCtorEq, decide_true, decide_false]
          first | refine FCall.go (cmp68m (x.mv.getD (i - 1) default) mi) (FZs.two (FZ.ints _) (FZ.ints _)) ?_ | refine FCall.go' (cmp68m (x.mv.getD (i - 1) default) mi) (FZs.two (FZ.ints _) (FZ.ints _)) ?_ | refine FCall.goQ (cmp68m (x.mv.getD (i - 1) default) mi) (FZs.two (FZ.ints _) (FZ.ints _)) ?_
          by_cases hc : 0 ≤ cmpMv (x.mv.getD (i - 1) default) mi
          · simp only [show decide (cmpMv (x.mv.getD (i - 1) default) mi ≥ 0) = true from decide_eq_true hc, f1, f4, hds, Cd.cd24, Tk.t24, base0, base1, base2, base3, Option.isNone_none, Option.isNone_some, Nat.reduceBEq, true_or, or_true, false_or, or_false, Nat.reduceLT, Nat.reduceMod, Nat.reducePow, rmaps, nsucc, List.flatten_cons, List.flatten_nil, Nat.reduceEqDiff, Nat.reduceLeDiff, Nat.reduceAdd, Nat.reduceMul, Nat.reduceSub, ↓reduceIte, reduceCtorEq, decide_true, decide_false]
            exact fin_p (check_move hh h5 hlt hz (by rw [hf, decide_eq_true hi0, decide_eq_true hc]; rfl) (by omega))
          · simp only [show decide (cmpMv (x.mv.getD (i - 1) default) mi ≥ 0) = false from decide_eq_false hc, f1, f4, hds, Cd.cd24, Tk.t24, base0, base1, base2, base3, Option.isNone_none, Option.isNone_some, Nat.reduceBEq, true_or, or_true, false_or, or_false, Nat.reduceLT, Nat.reduceMod, Nat.reducePow, rmaps, nsucc, List.flatten_cons, List.flatten_nil, Nat.reduceEqDiff, Nat.reduceLeDiff, Nat.reduceAdd, Nat.reduceMul, Nat.reduceSub, ↓reduceIte, reduceCtorEq, decide_true, decide_false]
            refine ⟨_, by omega, i + 1, rfl, by omega, ?_⟩
            (repeat' apply And.intro) <;> first | rfl | (rw [wrapS (by omega)]) | omega | assumption | (exact allS hz (by rw [hf, decide_eq_false hc]; simp))
        · simp only [show decide (((i : Nat) : Int) > 0) = false from decide_eq_false (by omega), f1, f4, hds, Cd.cd24, Tk.t24, base0, base1, base2, base3, Option.isNone_none, Option.isNone_some, Nat.reduceBEq, true_or, or_true, false_or, or_false, Nat.reduceLT, Nat.reduceMod, Nat.reducePow, rmaps, nsucc, List.flatten_cons, List.flatten_nil, Nat.reduceEqDiff, Nat.reduceLeDiff, Nat.reduceAdd, Nat.reduceMul, Nat.reduceSub, ↓reduceIte, reduceCtorEq, decide_true, decide_false]
          refine ⟨_, by omega, i + 1, rfl, by omega, ?_⟩
          (repeat' apply And.intro) <;> first | rfl | (rw [wrapS (by omega)]) | omega | assumption | (exact allS hz (by rw [hf, decide_eq_false hi0]; simp))
      · simp only [ltT hlt, List.length_map, inR hlt, Int.toNat_natCast, hg, mvR, f1, f4, hds, Cd.cd24, Tk.t24, base0, base1, base2, base3, Option.isNone_none, Option.isNone_some, Nat.reduceBEq, true_or, or_true, false_or, or_false, Nat.reduceLT, Nat.reduceMod, Nat.reducePow, rmaps, nsucc, List.flatten_cons, List.flatten_nil, Nat.reduceEqDiff, Nat.reduceLeDiff, Nat.reduceAdd, Nat.reduceMul, Nat.reduceSub, ↓reduceIte, reduceCtorEq, decide_true, decide_false]
        first | refine FCall.go (within36 _ _ _) (FZs.v3 _ _ _) ?_ | refine FCall.go' (within36 _ _ _) (FZs.v3 _ _ _) ?_ | refine FCall.goQ (within36 _ _ _) (FZs.v3 _ _ _) ?_
        rw [kd_out k0 k1 k2]
        simp only [f1, f4, hds, Cd.cd24, Tk.t24, base0, base1, base2, base3, Option.isNone_none, Option.isNone_some, Nat.reduceBEq, true_or, or_true, false_or, or_false, Nat.reduceLT, Nat.reduceMod, Nat.reducePow, rmaps, nsucc, List.flatten_cons, List.flatten_nil, Nat.reduceEqDiff, Nat.reduceLeDiff, Nat.reduceAdd, Nat.reduceMul, Nat.reduceSub, ↓reduceIte, reduceCtorEq, decide_true, decide_false]
        exact fin_p (check_move hh h5 hlt hz (mvErr_kind (by rw [hm]; exact kd_out k0 k1 k2)) (by omega))
    · have hi' : i = x.mv.length := by omega
      simp only [List.length_map, ltF hlt, f1, f4, hds, Cd.cd24, Tk.t24, base0, base1, base2, base3, Option.isNone_none, Option.isNone_some, Nat.reduceBEq, true_or, or_true, false_or, or_false, Nat.reduceLT, Nat.reduceMod, Nat.reducePow, rmaps, nsucc, List.flatten_cons, List.flatten_nil, Nat.reduceEqDiff, Nat.reduceLeDiff, Nat.reduceAdd, Nat.reduceMul, Nat.reduceSub, ↓reduceIte, reduceCtorEq, decide_true, decide_false]
      exact fin_p (check_ok hh h5 (by rw [← hi']; exact hz))
theorem err27 (x : Re) : FCall Tryd.prog 27 [reV x] (· = .v (.int .i64 (errR x))) := by
  simp only [reV, reL, mvsV]
  refine ACall.enter [] Cd.fn27 (by simp) ?_
  simp only [Cd.cd27, Tk.t27, base0, base1, base2, base3, Option.isNone_none, Option.isNone_some, Nat.reduceBEq, true_or, or_true, false_or, or_false, Nat.reduceLT, Nat.reduceMod, Nat.reducePow, rmaps, nsucc, List.flatten_cons, List.flatten_nil, Nat.reduceEqDiff, Nat.reduceLeDiff, Nat.reduceAdd, Nat.reduceMul, Nat.reduceSub, ↓reduceIte, reduceCtorEq, decide_true, decide_false]
  refine (react24 x).go (FZs.one (FZ.reV x)) ?_
  simp only [Cd.cd27, Tk.t27, base0, base1, base2, base3, Option.isNone_none, Option.isNone_some, Nat.reduceBEq, true_or, or_true, false_or, or_false, Nat.reduceLT, Nat.reduceMod, Nat.reducePow, rmaps, nsucc, List.flatten_cons, List.flatten_nil, Nat.reduceEqDiff, Nat.reduceLeDiff, Nat.reduceAdd, Nat.reduceMul, Nat.reduceSub, ↓reduceIte, reduceCtorEq, decide_true, decide_false]
  exact fin_v rfl
theorem two20 (x y : Re) : FCall Tryd.prog 20 [reV x, reV y] (· = .v (.int .i64 (bothR x y))) := by
  simp only [reV, reL, mvsV]
  refine ACall.enter [] Cd.fn20 (by simp) ?_
  simp only [Cd.cd20, Tk.t20, base0, base1, base2, base3, Option.isNone_none, Option.isNone_some, Nat.reduceBEq, true_or, or_true, false_or, or_false, Nat.reduceLT, Nat.reduceMod, Nat.reducePow, rmaps, nsucc, List.flatten_cons, List.flatten_nil, Nat.reduceEqDiff, Nat.reduceLeDiff, Nat.reduceAdd, Nat.reduceMul, Nat.reduceSub, ↓reduceIte, reduceCtorEq, decide_true, decide_false]
  refine (err27 x).go (FZs.one (FZ.reV x)) ?_
  by_cases e1 : errR x = 0
  · simp only [show (errR x != 0) = false from by rw [e1]; rfl, Cd.cd20, Tk.t20, base0, base1, base2, base3, Option.isNone_none, Option.isNone_some, Nat.reduceBEq, true_or, or_true, false_or, or_false, Nat.reduceLT, Nat.reduceMod, Nat.reducePow, rmaps, nsucc, List.flatten_cons, List.flatten_nil, Nat.reduceEqDiff, Nat.reduceLeDiff, Nat.reduceAdd, Nat.reduceMul, Nat.reduceSub, ↓reduceIte, reduceCtorEq, decide_true, decide_false]
    refine (err27 y).go (FZs.one (FZ.reV y)) ?_
    by_cases e2 : errR y = 0
    · by_cases h1 : x.inp = y.inp
      · by_cases h2 : x.out = y.out
        · simp only [show (errR y != 0) = false from by rw [e2]; rfl, show (x.inp != y.inp) = false from by simp [h1], show (x.out != y.out) = false from by simp [h2], Cd.cd20, Tk.t20, base0, base1, base2, base3, Option.isNone_none, Option.isNone_some, Nat.reduceBEq, true_or, or_true, false_or, or_false, Nat.reduceLT, Nat.reduceMod, Nat.reducePow, rmaps, nsucc, List.flatten_cons, List.flatten_nil, Nat.reduceEqDiff, Nat.reduceLeDiff, Nat.reduceAdd, Nat.reduceMul, Nat.reduceSub, ↓reduceIte, reduceCtorEq, decide_true, decide_false]
          exact fin_v (by rw [bothR, e1, e2, decide_eq_true h1, decide_eq_true h2]; rfl)
        · simp only [show (errR y != 0) = false from by rw [e2]; rfl, show (x.inp != y.inp) = false from by simp [h1], show (x.out != y.out) = true from by simp [h2], Cd.cd20, Tk.t20, base0, base1, base2, base3, Option.isNone_none, Option.isNone_some, Nat.reduceBEq, true_or, or_true, false_or, or_false, Nat.reduceLT, Nat.reduceMod, Nat.reducePow, rmaps, nsucc, List.flatten_cons, List.flatten_nil, Nat.reduceEqDiff, Nat.reduceLeDiff, Nat.reduceAdd, Nat.reduceMul, Nat.reduceSub, ↓reduceIte, reduceCtorEq, decide_true, decide_false]
          exact fin_v (by rw [bothR, e1, e2, decide_eq_false h2]; simp [orI])
      · simp only [show (errR y != 0) = false from by rw [e2]; rfl, show (x.inp != y.inp) = true from by simp [h1], Cd.cd20, Tk.t20, base0, base1, base2, base3, Option.isNone_none, Option.isNone_some, Nat.reduceBEq, true_or, or_true, false_or, or_false, Nat.reduceLT, Nat.reduceMod, Nat.reducePow, rmaps, nsucc, List.flatten_cons, List.flatten_nil, Nat.reduceEqDiff, Nat.reduceLeDiff, Nat.reduceAdd, Nat.reduceMul, Nat.reduceSub, ↓reduceIte, reduceCtorEq, decide_true, decide_false]
        exact fin_v (by rw [bothR, e1, e2, decide_eq_false h1]; simp [orI])
    · simp only [bneT e2, Cd.cd20, Tk.t20, base0, base1, base2, base3, Option.isNone_none, Option.isNone_some, Nat.reduceBEq, true_or, or_true, false_or, or_false, Nat.reduceLT, Nat.reduceMod, Nat.reducePow, rmaps, nsucc, List.flatten_cons, List.flatten_nil, Nat.reduceEqDiff, Nat.reduceLeDiff, Nat.reduceAdd, Nat.reduceMul, Nat.reduceSub, ↓reduceIte, reduceCtorEq, decide_true, decide_false]
      exact fin_v (by rw [bothR, e1]; simp [orI, e2])
  · simp only [bneT e1, Cd.cd20, Tk.t20, base0, base1, base2, base3, Option.isNone_none, Option.isNone_some, Nat.reduceBEq, true_or, or_true, false_or, or_false, Nat.reduceLT, Nat.reduceMod, Nat.reducePow, rmaps, nsucc, List.flatten_cons, List.flatten_nil, Nat.reduceEqDiff, Nat.reduceLeDiff, Nat.reduceAdd, Nat.reduceMul, Nat.reduceSub, ↓reduceIte, reduceCtorEq, decide_true, decide_false]
    exact fin_v (by rw [bothR, orI, if_pos e1])
end Go.Proofs.YtchpcjmgifnmdaaDoor

/- Walks: what a system does with sets of states. -/
namespace Go.Proofs.YtchpcjmgifnmdaaDoor
open Go Go.Proofs.YtchpcjmgifnmdaaDoor.Ab
set_option maxRecDepth 100000
set_option linter.unusedSimpArgs false

/-- a system by states, as the program keeps it -/
def rowU (k : Nat) (f : Nat → Nat) : AV := .lst 1 ((List.range k).map fun e => [uv (f e)]) .unk
def byV (x : Re) : AV := .lst 1 ((List.range (nst x)).map fun a => [rowU (silc x) (byM x a)]) .unk
def silV (x : Re) : AV := rowU (nst x) (silM x)
def sysL (x : Re) : List AV := reL x ++ [byV x, silV x]
def sysV (x : Re) : AV := .box (sysL x)
theorem FZ.rowU (k : Nat) (f : Nat → Nat) : FZ (rowU k f) := FZ.lst rfl fun r hr => by
  obtain ⟨x, _, rfl⟩ := List.mem_map.mp hr
  exact FZs.v1 _
theorem FZ.byV (x : Re) : FZ (byV x) := FZ.lst rfl fun r hr => by
  obtain ⟨a, _, rfl⟩ := List.mem_map.mp hr
  exact FZs.one (FZ.rowU _ _)
theorem FZs.append {a b : List AV} (h : FZs a) (h' : FZs b) : FZs (a ++ b) := fun c hc => by
  rcases List.mem_append.mp hc with hc | hc
  · exact h c hc
  · exact h' c hc
theorem FZ.sysV (x : Re) : FZ (sysV x) := FZ.box (FZs.append (FZs.reL x) (FZs.two (FZ.byV x) (FZ.rowU _ _)))
theorem getD_range {β : Type} (f : Nat → List β) (k : Nat) (i : Nat) (h : i < k) : ((List.range k).map f).getD i [] = f i := by
  rw [List.getD_eq_getElem?_getD, List.getElem?_map, List.getElem?_range h]; rfl
theorem sys_eq (x : Re) : sysL x = [.v (.int .i64 x.st), .v (.int .i64 x.s0), .v (.int .i64 x.inp), .v (.int .i64 x.out), .lst 4 (x.mv.map mvR) .unk, .lst 1 ((List.range (nst x)).map fun a => [rowU (silc x) (byM x a)]) .unk, .lst 1 ((List.range (nst x)).map fun e => [uv (silM x e)]) .unk] := rfl
theorem silc_eq {x : Re} (hx : Ok x) : IntKind.i64.wrap (x.inp + x.out) = ((silc x : Nat) : Int) := by
  have := hx.inp; have := hx.out
  rw [wrapI (by omega) (by omega)]; unfold silc; omega
theorem silence73 (x : Re) (hx : Ok x) : FCall Tryd.prog 73 [sysV x] (· = .v (.int .i64 (silc x : Nat))) := by
  simp only [sysV, sys_eq]
  refine ACall.enter [] Cd.fn73 (by simp) ?_
  simp only [silc_eq hx, Cd.cd73, Tk.t73, base0, base1, base2, base3, Option.isNone_none, Option.isNone_some, Nat.reduceBEq, true_or, or_true, false_or, or_false, Nat.reduceLT, Nat.reduceMod, Nat.reducePow, rmaps, nsucc, List.flatten_cons, List.flatten_nil, Nat.reduceEqDiff, Nat.reduceLeDiff, Nat.reduceAdd, Nat.reduceMul, Nat.reduceSub, ↓reduceIte, reduceCtorEq, decide_true, decide_false]
  exact fin_v rfl
theorem foldl_succ {α β : Type} [Inhabited α] (f : β → α → β) (z : β) {l : List α} {i : Nat} (h : i < l.length) : (l.take (i + 1)).foldl f z = f ((l.take i).foldl f z) (l.getD i default) := by
  have : l.take (i + 1) = l.take i ++ [l.getD i default] := by
    rw [List.take_add_one, List.getElem?_eq_getElem h, List.getD_eq_getElem?_getD, List.getElem?_eq_getElem h]; rfl
  rw [this, List.foldl_append]; rfl
def stepP (x : Re) (l i : Nat) : Nat := ((bitsN l).take i).foldl (fun acc a => if true then acc ||| silM x a else acc) l
theorem stepP_lt {x : Re} (hx : Ok x) {l : Nat} (h : l < 2 ^ nst x) (i : Nat) : stepP x l i < 2 ^ nst x := foldor_lt (fun _ => true) _ _ _ h fun a _ _ => silM_lt hx a
theorem stepP_succ (x : Re) (l : Nat) {i : Nat} (h : i < (bitsN l).length) : stepP x l (i + 1) = stepP x l i ||| silM x ((bitsN l).getD i 0) := by
  unfold stepP; rw [foldl_succ _ _ h]; rfl
theorem getD_bits {l i : Nat} (h : i < (bitsN l).length) : ((bitsI l).map fun x => [AV.v (.int .i64 x)]).getD i [] = [.v (.int .i64 (((bitsN l).getD i 0 : Nat) : Int))] := by
  rw [getD_ints _ _ (by unfold bitsI; simpa using h)]
  unfold bitsI
  simp [List.getD_eq_getElem?_getD, List.getElem?_map, List.getElem?_eq_getElem h]
theorem bits_at {l i : Nat} (h : i < (bitsN l).length) : (bitsN l).getD i 0 ∈ bitsN l := by
  rw [List.getD_eq_getElem?_getD, List.getElem?_eq_getElem h]; exact List.getElem_mem h
theorem bitsI_len (l : Nat) : (bitsI l).length = (bitsN l).length := by unfold bitsI; simp
theorem bitsN_len (l : Nat) : (bitsN l).length ≤ 10 := by rw [← bitsI_len]; exact setL_len l
theorem eqU {a b : Nat} : ((a : Int) == (b : Int)) = decide (a = b) := by
  by_cases h : a = b
  · subst h; simp
  · simp [h]; omega
set_option maxHeartbeats 1000000 in
theorem closed75 (x : Re) (hx : Ok x) (l : Nat) (hl : l < 2 ^ nst x) : FCall Tryd.prog 75 [sysV x, uv l] (· = uv (cl x l)) := by
  simp only [sysV, sys_eq, uv]
  refine ACall.enter [1] Cd.fn75 (by simp) ?_
  simp only [Cd.cd75, Tk.t75, base0, base1, base2, base3, Option.isNone_none, Option.isNone_some, Nat.reduceBEq, true_or, or_true, false_or, or_false, Nat.reduceLT, Nat.reduceMod, Nat.reducePow, rmaps, nsucc, List.flatten_cons, List.flatten_nil, Nat.reduceEqDiff, Nat.reduceLeDiff, Nat.reduceAdd, Nat.reduceMul, Nat.reduceSub, ↓reduceIte, reduceCtorEq, decide_true, decide_false]
  refine LWP.loop [] (fun m f H' => ∃ c k, m = 1024 - c + 0 ∧ (c < 2 ^ nst x) ∧ (clF x k c = cl x l) ∧ (1024 - c ≤ k) ∧ f.t 0 = .box [.v (.int .i64 x.st), .v (.int .i64 x.s0), .v (.int .i64 x.inp), .v (.int .i64 x.out), .lst 4 (x.mv.map mvR) .unk, .lst 1 ((List.range (nst x)).map fun a => [rowU (silc x) (byM x a)]) .unk, .lst 1 ((List.range (nst x)).map fun e => [.v (.int .u64 (silM x e : Nat))]) .unk] ∧ f.t 1 = .v (.int .u64 (c : Nat)) ∧ f.ds = [] ∧ True) ?_ ?_ (m := 1024 - (l) + 0)
  · exact ⟨l, 1024, rfl, (hl), (rfl), (by omega), rfl, rfl, rfl, trivial⟩
  · rintro m f H' ⟨c, k, rfl, hc, hk, hk2, f0, f1, hds, hH⟩
    have hc' := hx.pw hc
    simp only [f0, f1, hds, Cd.cd75, Tk.t75, base0, base1, base2, base3, Option.isNone_none, Option.isNone_some, Nat.reduceBEq, true_or, or_true, false_or, or_false, Nat.reduceLT, Nat.reduceMod, Nat.reducePow, rmaps, nsucc, List.flatten_cons, List.flatten_nil, Nat.reduceEqDiff, Nat.reduceLeDiff, Nat.reduceAdd, Nat.reduceMul, Nat.reduceSub, ↓reduceIte, reduceCtorEq, decide_true, decide_false]
    refine (states62 c hc').go (FZs.v1 _) ?_
    simp only [setV, ints, List.length_map, bitsI_len, f0, f1, hds, Cd.cd75, Tk.t75, base0, base1, base2, base3, Option.isNone_none, Option.isNone_some, Nat.reduceBEq, true_or, or_true, false_or, or_false, Nat.reduceLT, Nat.reduceMod, Nat.reducePow, rmaps, nsucc, List.flatten_cons, List.flatten_nil, Nat.reduceEqDiff, Nat.reduceLeDiff, Nat.reduceAdd, Nat.reduceMul, Nat.reduceSub, ↓reduceIte, reduceCtorEq, decide_true, decide_false]
    refine LWP.loop [] (fun m f H' => ∃ i, m = (bitsN c).length - i ∧ (i ≤ (bitsN c).length) ∧ f.t 0 = .box [.v (.int .i64 x.st), .v (.int .i64 x.s0), .v (.int .i64 x.inp), .v (.int .i64 x.out), .lst 4 (x.mv.map mvR) .unk, .lst 1 ((List.range (nst x)).map fun a => [rowU (silc x) (byM x a)]) .unk, .lst 1 ((List.range (nst x)).map fun e => [.v (.int .u64 (silM x e : Nat))]) .unk] ∧ f.t 1 = .v (.int .u64 (c : Nat)) ∧ f.t 5 = .v (.int .u64 (stepP x c i : Nat)) ∧ f.t 10 = .lst 1 ((bitsI c).map fun x => [.v (.int .i64 x)]) .unk ∧ f.t 11 = .v (.int .i64 ((bitsN c).length : Nat)) ∧ f.t 12 = .v (.int .i64 (i : Nat)) ∧ f.ds = [] ∧ True) ?_ ?_ (m := (bitsN c).length - (0))
    · exact ⟨0, rfl, (by omega), f0, f1, by rfl, (by first | rfl | exact f10), (by first | rfl | exact f11), (by first | rfl | exact f12), rfl, trivial⟩
    · rintro m f H' ⟨i, rfl, hi, f0, f1, f5, f10, f11, f12, hds, hH2⟩
      have hbl := bitsN_len c
      by_cases hlt : i < (bitsN c).length
      · have ha := bits_n hx hc (bitsN_bit (bits_at hlt))
        have hs1 := hx.pw (stepP_lt hx hc i)
        have hs2 := hx.pw (silM_lt hx ((bitsN c).getD i 0))
        simp only [ltT hlt, List.length_map, bitsI_len, inR hlt, Int.toNat_natCast, getD_bits hlt, List.length_range, inR ha, getD_range _ _ _ ha, orU hs1 hs2, f0, f1, f5, f10, f11, f12, hds, Cd.cd75, Tk.t75, base0, base1, base2, base3, Option.isNone_none, Option.isNone_some, Nat.reduceBEq, true_or, or_true, false_or, or_false, Nat.reduceLT, Nat.reduceMod, Nat.reducePow, rmaps, nsucc, List.flatten_cons, List.flatten_nil, Nat.reduceEqDiff, Nat.reduceLeDiff, Nat.reduceAdd, Nat.reduceMul, Nat.reduceSub, ↓reduceIte, reduceCtorEq, decide_true, decide_false]
        refine ⟨_, by omega, i + 1, rfl, by omega, ?_⟩
        (repeat' apply And.intro) <;> first | rfl | (rw [wrapS (by omega)]) | omega | assumption | (rw [stepP_succ x c hlt])
      · have hi' : i = (bitsN c).length := by omega
        have hst : stepP x c i = stepM x c := by subst hi'; unfold stepP stepM; rw [List.take_length]
        by_cases he : stepM x c = c
        · simp only [ltF hlt, hst, eqU, decide_eq_true he, f0, f1, f5, f10, f11, f12, hds, Cd.cd75, Tk.t75, base0, base1, base2, base3, Option.isNone_none, Option.isNone_some, Nat.reduceBEq, true_or, or_true, false_or, or_false, Nat.reduceLT, Nat.reduceMod, Nat.reducePow, rmaps, nsucc, List.flatten_cons, List.flatten_nil, Nat.reduceEqDiff, Nat.reduceLeDiff, Nat.reduceAdd, Nat.reduceMul, Nat.reduceSub, ↓reduceIte, reduceCtorEq, decide_true, decide_false]
          have e : cl x l = c := by rw [← hk]; exact clF_of_fix he
          exact fin_v (by rw [e])
        · simp only [ltF hlt, hst, eqU, decide_eq_false he, f0, f1, f5, f10, f11, f12, hds, Cd.cd75, Tk.t75, base0, base1, base2, base3, Option.isNone_none, Option.isNone_some, Nat.reduceBEq, true_or, or_true, false_or, or_false, Nat.reduceLT, Nat.reduceMod, Nat.reducePow, rmaps, nsucc, List.flatten_cons, List.flatten_nil, Nat.reduceEqDiff, Nat.reduceLeDiff, Nat.reduceAdd, Nat.reduceMul, Nat.reduceSub, ↓reduceIte, reduceCtorEq, decide_true, decide_false]
          have h1 := stepM_ge (x := x) c
          have h2 := hx.pw (stepM_lt hx hc)
          cases k with
          | zero => omega
          | succ k =>
            have hk3 : clF x k (stepM x c) = cl x l := by rw [← hk, clF, if_neg he]
            exact ⟨_, by omega, stepM x c, k, rfl, stepM_lt hx hc, hk3, by omega, rfl⟩
end Go.Proofs.YtchpcjmgifnmdaaDoor

/- Walks: what a system does after events. -/
namespace Go.Proofs.YtchpcjmgifnmdaaDoor
open Go Go.Proofs.YtchpcjmgifnmdaaDoor.Ab
set_option maxRecDepth 100000
set_option linter.unusedSimpArgs false

def boxV (x : Re) : AV := .box [.v (.int .i64 x.st), .v (.int .i64 x.s0), .v (.int .i64 x.inp), .v (.int .i64 x.out), .lst 4 (x.mv.map mvR) .unk, .lst 1 ((List.range (nst x)).map fun a => [.lst 1 ((List.range (silc x)).map fun e => [.v (.int .u64 (byM x a e : Nat))]) .unk]) .unk, .lst 1 ((List.range (nst x)).map fun e => [.v (.int .u64 (silM x e : Nat))]) .unk]
theorem box_eq (x : Re) : sysV x = boxV x := rfl
theorem neU {a b : Nat} : ((a : Int) != (b : Int)) = decide (a ≠ b) := by
  by_cases h : a = b
  · subst h; simp
  · simp [h]; omega
theorem neU0 {a : Nat} : ((a : Int) != 0) = decide (a ≠ 0) := neU (b := 0)
theorem eqU0 {a : Nat} : ((a : Int) == 0) = decide (a = 0) := eqU (b := 0)
theorem quiet108 (x : Re) (hx : Ok x) (a : Nat) (ha : a < nst x) : FCall Tryd.prog 108 [sysV x, .v (.int .i64 (a : Nat))] (· = .v (.bool (quietM x a))) := by
  have hinp := hx.inp
  have hout := hx.out
  simp only [box_eq, boxV]
  refine ACall.enter [] Cd.fn108 (by simp) ?_
  simp only [Cd.cd108, Tk.t108, base0, base1, base2, base3, Option.isNone_none, Option.isNone_some, Nat.reduceBEq, true_or, or_true, false_or, or_false, Nat.reduceLT, Nat.reduceMod, Nat.reducePow, rmaps, nsucc, List.flatten_cons, List.flatten_nil, Nat.reduceEqDiff, Nat.reduceLeDiff, Nat.reduceAdd, Nat.reduceMul, Nat.reduceSub, ↓reduceIte, reduceCtorEq, decide_true, decide_false]
  refine LWP.loop [] (fun m f H' => ∃ i, m = x.out.toNat - i ∧ (i ≤ x.out.toNat) ∧ (∀ j, j < i → (byM x a (x.inp.toNat + j) == 0) = true) ∧ f.t 0 = boxV x ∧ f.t 1 = .v (.int .i64 (a : Nat)) ∧ f.t 10 = .v (.int .i64 x.out) ∧ f.t 11 = .v (.int .i64 (i : Nat)) ∧ f.ds = [] ∧ H' = AH.none) ?_ ?_ (m := x.out.toNat - (0))
  · exact ⟨0, rfl, (by omega), (fun j hj => by omega), rfl, rfl, rfl, rfl, rfl, rfl⟩
  · rintro m f H' ⟨i, rfl, hi, hz, f0, f1, f10, f11, hds, rfl⟩
    by_cases hlt : i < x.out.toNat
    · have hw : IntKind.i64.wrap (x.inp + (i : Int)) = ((x.inp.toNat + i : Nat) : Int) := by rw [wrapI (by omega) (by omega)]; omega
      have hs : x.inp.toNat + i < silc x := by unfold silc; omega
      by_cases hz0 : byM x a (x.inp.toNat + i) = 0
      · simp only [boxV, show decide ((i : Int) < x.out) = true from decide_eq_true (by omega), hw, List.length_map, List.length_range, inR ha, inR hs, Int.toNat_natCast, getD_range _ _ _ ha, getD_range _ _ _ hs, neU0, show decide (byM x a (x.inp.toNat + i) ≠ 0) = false from decide_eq_false (by simpa using hz0), f0, f1, f10, f11, hds, Cd.cd108, Tk.t108, base0, base1, base2, base3, Option.isNone_none, Option.isNone_some, Nat.reduceBEq, true_or, or_true, false_or, or_false, Nat.reduceLT, Nat.reduceMod, Nat.reducePow, rmaps, nsucc, List.flatten_cons, List.flatten_nil, Nat.reduceEqDiff, Nat.reduceLeDiff, Nat.reduceAdd, Nat.reduceMul, Nat.reduceSub, ↓reduceIte, reduceCtorEq, decide_true, decide_false]
        refine ⟨_, by omega, i + 1, rfl, by omega, ?_⟩
        (repeat' apply And.intro) <;> first | rfl | (rw [wrapS (by omega)]) | omega | assumption | (exact allS hz (by simpa using hz0))
      · simp only [boxV, show decide ((i : Int) < x.out) = true from decide_eq_true (by omega), hw, List.length_map, List.length_range, inR ha, inR hs, Int.toNat_natCast, getD_range _ _ _ ha, getD_range _ _ _ hs, neU0, show decide (byM x a (x.inp.toNat + i) ≠ 0) = true from decide_eq_true hz0, f0, f1, f10, f11, hds, Cd.cd108, Tk.t108, base0, base1, base2, base3, Option.isNone_none, Option.isNone_some, Nat.reduceBEq, true_or, or_true, false_or, or_false, Nat.reduceLT, Nat.reduceMod, Nat.reducePow, rmaps, nsucc, List.flatten_cons, List.flatten_nil, Nat.reduceEqDiff, Nat.reduceLeDiff, Nat.reduceAdd, Nat.reduceMul, Nat.reduceSub, ↓reduceIte, reduceCtorEq, decide_true, decide_false]
        exact fin_v (by rw [quietM, List.all_eq_false.mpr ⟨i, List.mem_range.mpr hlt, by simpa using hz0⟩]; rfl)
    · have hi' : i = x.out.toNat := by omega
      simp only [boxV, show decide ((i : Int) < x.out) = false from decide_eq_false (by omega), List.length_map, List.length_range, inR ha, Int.toNat_natCast, getD_range _ _ _ ha, eqU0, f0, f1, f10, f11, hds, Cd.cd108, Tk.t108, base0, base1, base2, base3, Option.isNone_none, Option.isNone_some, Nat.reduceBEq, true_or, or_true, false_or, or_false, Nat.reduceLT, Nat.reduceMod, Nat.reducePow, rmaps, nsucc, List.flatten_cons, List.flatten_nil, Nat.reduceEqDiff, Nat.reduceLeDiff, Nat.reduceAdd, Nat.reduceMul, Nat.reduceSub, ↓reduceIte, reduceCtorEq, decide_true, decide_false]
      refine fin_v ?_
      rw [quietM, List.all_eq_true.mpr fun j hj => hz j (by have := List.mem_range.mp hj; omega)]
      by_cases h : silM x a = 0 <;> simp [h]
def rawP (x : Re) (l e i : Nat) : Nat := ((bitsN l).take i).foldl (fun acc a => if decide (e < silc x) || quietM x a then acc ||| (if e < silc x then byM x a e else 2 ^ a) else acc) 0
theorem rawP_lt {x : Re} (hx : Ok x) {l : Nat} (hl : l < 2 ^ nst x) (e i : Nat) : rawP x l e i < 2 ^ nst x := by
  unfold rawP
  refine foldor_lt _ _ _ _ (Nat.pow_pos (by omega)) fun a ha _ => ?_
  split
  · exact byM_lt hx a e
  · exact Nat.pow_lt_pow_right (by omega) (bits_n hx hl (bitsN_bit (List.mem_of_mem_take ha)))
theorem rawP_succ (x : Re) (l e : Nat) {i : Nat} (h : i < (bitsN l).length) : rawP x l e (i + 1) = if decide (e < silc x) || quietM x ((bitsN l).getD i 0) then rawP x l e i ||| (if e < silc x then byM x ((bitsN l).getD i 0) e else 2 ^ ((bitsN l).getD i 0)) else rawP x l e i := by
  unfold rawP; rw [foldl_succ _ _ h]; rfl
theorem ltD {a b : Nat} : decide ((a : Int) < (b : Int)) = decide (a < b) := by simp
set_option maxHeartbeats 1000000 in
theorem after74 (x : Re) (hx : Ok x) (l e : Nat) (hl : l < 2 ^ nst x) : FCall Tryd.prog 74 [sysV x, uv l, .v (.int .i64 (e : Nat))] (· = uv (aft x l e)) := by
  have hl' := hx.pw hl
  simp only [uv]
  refine ACall.enter [] Cd.fn74 (by simp) ?_
  simp only [Cd.cd74, Tk.t74, base0, base1, base2, base3, Option.isNone_none, Option.isNone_some, Nat.reduceBEq, true_or, or_true, false_or, or_false, Nat.reduceLT, Nat.reduceMod, Nat.reducePow, rmaps, nsucc, List.flatten_cons, List.flatten_nil, Nat.reduceEqDiff, Nat.reduceLeDiff, Nat.reduceAdd, Nat.reduceMul, Nat.reduceSub, ↓reduceIte, reduceCtorEq, decide_true, decide_false]
  refine (states62 l hl').go (FZs.v1 _) ?_
  simp only [setV, ints, List.length_map, bitsI_len, Cd.cd74, Tk.t74, base0, base1, base2, base3, Option.isNone_none, Option.isNone_some, Nat.reduceBEq, true_or, or_true, false_or, or_false, Nat.reduceLT, Nat.reduceMod, Nat.reducePow, rmaps, nsucc, List.flatten_cons, List.flatten_nil, Nat.reduceEqDiff, Nat.reduceLeDiff, Nat.reduceAdd, Nat.reduceMul, Nat.reduceSub, ↓reduceIte, reduceCtorEq, decide_true, decide_false]
  refine LWP.loop [] (fun m f H' => ∃ i, m = (bitsN l).length - i ∧ (i ≤ (bitsN l).length) ∧ f.t 0 = sysV x ∧ f.t 2 = .v (.int .i64 (e : Nat)) ∧ f.t 7 = .v (.int .u64 (rawP x l e i : Nat)) ∧ f.t 11 = .lst 1 ((bitsI l).map fun x => [.v (.int .i64 x)]) .unk ∧ f.t 12 = .v (.int .i64 ((bitsN l).length : Nat)) ∧ f.t 13 = .v (.int .i64 (i : Nat)) ∧ f.ds = [] ∧ H' = AH.none) ?_ ?_ (m := (bitsN l).length - (0))
  · exact ⟨0, rfl, (by omega), rfl, rfl, by rfl, rfl, rfl, rfl, rfl, rfl⟩
  · rintro m f H' ⟨i, rfl, hi, f0, f2, f7, f11, f12, f13, hds, rfl⟩
    have hbl := bitsN_len l
    by_cases hlt : i < (bitsN l).length
    · have ha := bits_n hx hl (bitsN_bit (bits_at hlt))
      have ha10 := bitsN_lt (bits_at hlt)
      have hs1 := hx.pw (rawP_lt hx hl e i)
      have hs2 := hx.pw (byM_lt hx ((bitsN l).getD i 0) e)
      have hsu := rawP_succ x l e hlt
      simp only [ltT hlt, List.length_map, bitsI_len, inR hlt, Int.toNat_natCast, getD_bits hlt, f0, f2, f7, f11, f12, f13, hds, Cd.cd74, Tk.t74, base0, base1, base2, base3, Option.isNone_none, Option.isNone_some, Nat.reduceBEq, true_or, or_true, false_or, or_false, Nat.reduceLT, Nat.reduceMod, Nat.reducePow, rmaps, nsucc, List.flatten_cons, List.flatten_nil, Nat.reduceEqDiff, Nat.reduceLeDiff, Nat.reduceAdd, Nat.reduceMul, Nat.reduceSub, ↓reduceIte, reduceCtorEq, decide_true, decide_false]
      refine (silence73 x hx).go (FZs.one (FZ.sysV x)) ?_
      by_cases he : e < silc x
      · rw [decide_eq_true he, if_pos he] at hsu
        simp only [ltD, decide_eq_true he, box_eq, boxV, List.length_map, List.length_range, inR ha, inR he, Int.toNat_natCast, getD_range _ _ _ ha, getD_range _ _ _ he, orU hs1 hs2, f0, f2, f7, f11, f12, f13, hds, Cd.cd74, Tk.t74, base0, base1, base2, base3, Option.isNone_none, Option.isNone_some, Nat.reduceBEq, true_or, or_true, false_or, or_false, Nat.reduceLT, Nat.reduceMod, Nat.reducePow, rmaps, nsucc, List.flatten_cons, List.flatten_nil, Nat.reduceEqDiff, Nat.reduceLeDiff, Nat.reduceAdd, Nat.reduceMul, Nat.reduceSub, ↓reduceIte, reduceCtorEq, decide_true, decide_false]
        refine ⟨_, by omega, i + 1, rfl, by omega, ?_⟩
        (repeat' apply And.intro) <;> first | rfl | (rw [wrapS (by omega)]) | omega | assumption | ((rw [hsu]; rfl))
      · rw [decide_eq_false he, if_neg he] at hsu
        simp only [ltD, decide_eq_false he, f0, f2, f7, f11, f12, f13, hds, Cd.cd74, Tk.t74, base0, base1, base2, base3, Option.isNone_none, Option.isNone_some, Nat.reduceBEq, true_or, or_true, false_or, or_false, Nat.reduceLT, Nat.reduceMod, Nat.reducePow, rmaps, nsucc, List.flatten_cons, List.flatten_nil, Nat.reduceEqDiff, Nat.reduceLeDiff, Nat.reduceAdd, Nat.reduceMul, Nat.reduceSub, ↓reduceIte, reduceCtorEq, decide_true, decide_false]
        refine (quiet108 x hx _ ha).go (FZs.two (FZ.sysV x) (FZ.v _)) ?_
        cases hq : quietM x ((bitsN l).getD i 0)
        · rw [hq] at hsu
          simp only [f0, f2, f7, f11, f12, f13, hds, Cd.cd74, Tk.t74, base0, base1, base2, base3, Option.isNone_none, Option.isNone_some, Nat.reduceBEq, true_or, or_true, false_or, or_false, Nat.reduceLT, Nat.reduceMod, Nat.reducePow, rmaps, nsucc, List.flatten_cons, List.flatten_nil, Nat.reduceEqDiff, Nat.reduceLeDiff, Nat.reduceAdd, Nat.reduceMul, Nat.reduceSub, ↓reduceIte, reduceCtorEq, decide_true, decide_false]
          refine ⟨_, by omega, i + 1, rfl, by omega, ?_⟩
          (repeat' apply And.intro) <;> first | rfl | (rw [wrapS (by omega)]) | omega | assumption | ((rw [hsu]; rfl))
        · rw [hq] at hsu
          have h2 : 2 ^ ((bitsN l).getD i 0) < 1024 := (Nat.pow_lt_pow_right (by omega : 1 < 2) ha10 : 2 ^ _ < 2 ^ 10)
          simp only [show ((((bitsN l).getD i 0 : Nat) : Int) < 0) = False from by simp, shlU ha10, orU hs1 h2, f0, f2, f7, f11, f12, f13, hds, Cd.cd74, Tk.t74, base0, base1, base2, base3, Option.isNone_none, Option.isNone_some, Nat.reduceBEq, true_or, or_true, false_or, or_false, Nat.reduceLT, Nat.reduceMod, Nat.reducePow, rmaps, nsucc, List.flatten_cons, List.flatten_nil, Nat.reduceEqDiff, Nat.reduceLeDiff, Nat.reduceAdd, Nat.reduceMul, Nat.reduceSub, ↓reduceIte, reduceCtorEq, decide_true, decide_false]
          refine ⟨_, by omega, i + 1, rfl, by omega, ?_⟩
          (repeat' apply And.intro) <;> first | rfl | (rw [wrapS (by omega)]) | omega | assumption | ((rw [hsu]; rfl))
    · have hi' : i = (bitsN l).length := by omega
      have hst : rawP x l e i = rawA x l e := by subst hi'; unfold rawP rawA; rw [List.take_length]
      simp only [ltF hlt, hst, f0, f2, f7, f11, f12, f13, hds, Cd.cd74, Tk.t74, base0, base1, base2, base3, Option.isNone_none, Option.isNone_some, Nat.reduceBEq, true_or, or_true, false_or, or_false, Nat.reduceLT, Nat.reduceMod, Nat.reducePow, rmaps, nsucc, List.flatten_cons, List.flatten_nil, Nat.reduceEqDiff, Nat.reduceLeDiff, Nat.reduceAdd, Nat.reduceMul, Nat.reduceSub, ↓reduceIte, reduceCtorEq, decide_true, decide_false]
      refine (closed75 x hx _ (rawA_lt hx hl e)).go (FZs.two (FZ.sysV x) (FZ.v _)) ?_
      simp only [f0, f2, f7, f11, f12, f13, hds, Cd.cd74, Tk.t74, base0, base1, base2, base3, Option.isNone_none, Option.isNone_some, Nat.reduceBEq, true_or, or_true, false_or, or_false, Nat.reduceLT, Nat.reduceMod, Nat.reducePow, rmaps, nsucc, List.flatten_cons, List.flatten_nil, Nat.reduceEqDiff, Nat.reduceLeDiff, Nat.reduceAdd, Nat.reduceMul, Nat.reduceSub, ↓reduceIte, reduceCtorEq, decide_true, decide_false]
      exact fin_v rfl
theorem first72 (x : Re) (hx : Ok x) : FCall Tryd.prog 72 [sysV x] (· = uv (fstM x)) := by
  have h0 := hx.s0
  have h1 := hx.st
  have e : (x.s0 : Int) = ((x.s0.toNat : Nat) : Int) := by omega
  have hp : 2 ^ x.s0.toNat < 2 ^ nst x := Nat.pow_lt_pow_right (by omega) (by unfold nst; omega)
  have hs : IntKind.u64.wrap (1 * 2 ^ (min x.s0.toNat IntKind.u64.bits)) = ((2 ^ x.s0.toNat : Nat) : Int) := by
    have := shlU (n := x.s0.toNat) (by omega)
    rwa [Int.toNat_natCast] at this
  refine ACall.enter [] Cd.fn72 (by simp) ?_
  simp only [box_eq, boxV, show (x.s0 < 0) = False from by simp; omega, hs, Cd.cd72, Tk.t72, base0, base1, base2, base3, Option.isNone_none, Option.isNone_some, Nat.reduceBEq, true_or, or_true, false_or, or_false, Nat.reduceLT, Nat.reduceMod, Nat.reducePow, rmaps, nsucc, List.flatten_cons, List.flatten_nil, Nat.reduceEqDiff, Nat.reduceLeDiff, Nat.reduceAdd, Nat.reduceMul, Nat.reduceSub, ↓reduceIte, reduceCtorEq, decide_true, decide_false]
  refine (closed75 x hx _ hp).go (FZs.two (FZ.sysV x) (FZ.v _)) ?_
  simp only [Cd.cd72, Tk.t72, base0, base1, base2, base3, Option.isNone_none, Option.isNone_some, Nat.reduceBEq, true_or, or_true, false_or, or_false, Nat.reduceLT, Nat.reduceMod, Nat.reducePow, rmaps, nsucc, List.flatten_cons, List.flatten_nil, Nat.reduceEqDiff, Nat.reduceLeDiff, Nat.reduceAdd, Nat.reduceMul, Nat.reduceSub, ↓reduceIte, reduceCtorEq, decide_true, decide_false]
  exact fin_v rfl
theorem shows80 (x : Re) (hx : Ok x) (l e : Nat) (hl : l < 2 ^ nst x) : FCall Tryd.prog 80 [sysV x, uv l, .v (.int .i64 (e : Nat))] (· = .v (.bool (shw x l e))) := by
  have hinp := hx.inp
  simp only [uv]
  refine ACall.enter [] Cd.fn80 (by simp) ?_
  by_cases h : x.inp.toNat ≤ e
  · simp only [box_eq, boxV, show decide (((e : Nat) : Int) ≥ x.inp) = true from decide_eq_true (by omega), Cd.cd80, Tk.t80, base0, base1, base2, base3, Option.isNone_none, Option.isNone_some, Nat.reduceBEq, true_or, or_true, false_or, or_false, Nat.reduceLT, Nat.reduceMod, Nat.reducePow, rmaps, nsucc, List.flatten_cons, List.flatten_nil, Nat.reduceEqDiff, Nat.reduceLeDiff, Nat.reduceAdd, Nat.reduceMul, Nat.reduceSub, ↓reduceIte, reduceCtorEq, decide_true, decide_false]
    refine (after74 x hx l e hl).go (FZs.three (FZ.sysV x) (FZ.v _) (FZ.v _)) ?_
    simp only [uv, neU0, Cd.cd80, Tk.t80, base0, base1, base2, base3, Option.isNone_none, Option.isNone_some, Nat.reduceBEq, true_or, or_true, false_or, or_false, Nat.reduceLT, Nat.reduceMod, Nat.reducePow, rmaps, nsucc, List.flatten_cons, List.flatten_nil, Nat.reduceEqDiff, Nat.reduceLeDiff, Nat.reduceAdd, Nat.reduceMul, Nat.reduceSub, ↓reduceIte, reduceCtorEq, decide_true, decide_false]
    refine fin_v ?_
    rw [shw, decide_eq_true h]
    by_cases h2 : aft x l e = 0 <;> simp [h2]
  · simp only [box_eq, boxV, show decide (((e : Nat) : Int) ≥ x.inp) = false from decide_eq_false (by omega), Cd.cd80, Tk.t80, base0, base1, base2, base3, Option.isNone_none, Option.isNone_some, Nat.reduceBEq, true_or, or_true, false_or, or_false, Nat.reduceLT, Nat.reduceMod, Nat.reducePow, rmaps, nsucc, List.flatten_cons, List.flatten_nil, Nat.reduceEqDiff, Nat.reduceLeDiff, Nat.reduceAdd, Nat.reduceMul, Nat.reduceSub, ↓reduceIte, reduceCtorEq, decide_true, decide_false]
    refine fin_v ?_
    rw [shw, decide_eq_false h]; rfl
def alongP (x : Re) (tr : List Int) (i : Nat) : Nat := (tr.take i).foldl (fun l e => aft x l e.toNat) (fstM x)
theorem alongP_lt {x : Re} (hx : Ok x) : ∀ (tr : List Int) (l : Nat), l < 2 ^ nst x → tr.foldl (fun l e => aft x l e.toNat) l < 2 ^ nst x
  | [], _, h => h
  | e :: tr, l, h => alongP_lt hx tr _ (aft_lt hx h _)
theorem along_lt {x : Re} (hx : Ok x) (tr : List Int) : alongM x tr < 2 ^ nst x := alongP_lt hx tr _ (fst_lt hx)
theorem along78 (x : Re) (hx : Ok x) (tr : List Int) (hl : tr.length ≤ 1000000) (ht : ∀ e ∈ tr, 0 ≤ e) : FCall Tryd.prog 78 [sysV x, ints tr] (· = uv (alongM x tr)) := by
  refine ACall.enter [] Cd.fn78 (by simp) ?_
  simp only [Cd.cd78, Tk.t78, base0, base1, base2, base3, Option.isNone_none, Option.isNone_some, Nat.reduceBEq, true_or, or_true, false_or, or_false, Nat.reduceLT, Nat.reduceMod, Nat.reducePow, rmaps, nsucc, List.flatten_cons, List.flatten_nil, Nat.reduceEqDiff, Nat.reduceLeDiff, Nat.reduceAdd, Nat.reduceMul, Nat.reduceSub, ↓reduceIte, reduceCtorEq, decide_true, decide_false]
  refine (first72 x hx).go (FZs.one (FZ.sysV x)) ?_
  simp only [ints, List.length_map, Cd.cd78, Tk.t78, base0, base1, base2, base3, Option.isNone_none, Option.isNone_some, Nat.reduceBEq, true_or, or_true, false_or, or_false, Nat.reduceLT, Nat.reduceMod, Nat.reducePow, rmaps, nsucc, List.flatten_cons, List.flatten_nil, Nat.reduceEqDiff, Nat.reduceLeDiff, Nat.reduceAdd, Nat.reduceMul, Nat.reduceSub, ↓reduceIte, reduceCtorEq, decide_true, decide_false]
  refine LWP.loop [] (fun m f H' => ∃ i, m = tr.length - i ∧ (i ≤ tr.length) ∧ f.t 0 = sysV x ∧ f.t 5 = uv (alongP x tr i) ∧ f.t 10 = .lst 1 (tr.map fun x => [.v (.int .i64 x)]) .unk ∧ f.t 11 = .v (.int .i64 (tr.length : Nat)) ∧ f.t 12 = .v (.int .i64 (i : Nat)) ∧ f.ds = [] ∧ H' = AH.none) ?_ ?_ (m := tr.length - (0))
  · exact ⟨0, rfl, (by omega), rfl, rfl, rfl, rfl, rfl, rfl, rfl⟩
  · rintro m f H' ⟨i, rfl, hi, f0, f5, f10, f11, f12, hds, rfl⟩
    by_cases hlt : i < tr.length
    · have hm := ht _ (getD_mem hlt)
      have he : tr.getD i 0 = ((tr.getD i default).toNat : Int) := by show tr.getD i default = _; omega
      simp only [ltT hlt, List.length_map, inR hlt, Int.toNat_natCast, getD_ints _ _ hlt, he, f0, f5, f10, f11, f12, hds, Cd.cd78, Tk.t78, base0, base1, base2, base3, Option.isNone_none, Option.isNone_some, Nat.reduceBEq, true_or, or_true, false_or, or_false, Nat.reduceLT, Nat.reduceMod, Nat.reducePow, rmaps, nsucc, List.flatten_cons, List.flatten_nil, Nat.reduceEqDiff, Nat.reduceLeDiff, Nat.reduceAdd, Nat.reduceMul, Nat.reduceSub, ↓reduceIte, reduceCtorEq, decide_true, decide_false]
      refine (after74 x hx _ _ (alongP_lt hx (tr.take i) _ (fst_lt hx))).go (FZs.three (FZ.sysV x) (FZ.v _) (FZ.v _)) ?_
      simp only [f0, f5, f10, f11, f12, hds, Cd.cd78, Tk.t78, base0, base1, base2, base3, Option.isNone_none, Option.isNone_some, Nat.reduceBEq, true_or, or_true, false_or, or_false, Nat.reduceLT, Nat.reduceMod, Nat.reducePow, rmaps, nsucc, List.flatten_cons, List.flatten_nil, Nat.reduceEqDiff, Nat.reduceLeDiff, Nat.reduceAdd, Nat.reduceMul, Nat.reduceSub, ↓reduceIte, reduceCtorEq, decide_true, decide_false]
      refine ⟨_, by omega, i + 1, rfl, by omega, ?_⟩
      (repeat' apply And.intro) <;> first | rfl | (rw [wrapS (by omega)]) | omega | assumption | ((unfold alongP; rw [foldl_succ _ _ hlt]))
    · have hi' : i = tr.length := by omega
      simp only [ltF hlt, f0, f5, f10, f11, f12, hds, Cd.cd78, Tk.t78, base0, base1, base2, base3, Option.isNone_none, Option.isNone_some, Nat.reduceBEq, true_or, or_true, false_or, or_false, Nat.reduceLT, Nat.reduceMod, Nat.reducePow, rmaps, nsucc, List.flatten_cons, List.flatten_nil, Nat.reduceEqDiff, Nat.reduceLeDiff, Nat.reduceAdd, Nat.reduceMul, Nat.reduceSub, ↓reduceIte, reduceCtorEq, decide_true, decide_false]
      exact fin_v (by rw [hi', alongP, List.take_length]; rfl)
end Go.Proofs.YtchpcjmgifnmdaaDoor

/- Walks: the reference's small functions on lists. -/
namespace Go.Proofs.YtchpcjmgifnmdaaDoor
open Go Go.Proofs.YtchpcjmgifnmdaaDoor.Ab
set_option maxRecDepth 100000
set_option linter.unusedSimpArgs false

theorem same22 (a b : List Int) (hl : a.length < 2 ^ 40) : FCall Tryd.prog 22 [ints a, ints b] (· = .v (.bool (decide (a = b)))) := by
  simp only [ints]
  refine ACall.enter [] Cd.fn22 (by simp) ?_
  by_cases hab : a.length = b.length
  · simp only [List.length_map, hab, show (((b.length : Nat) : Int) != ((b.length : Nat) : Int)) = false from by simp, Cd.cd22, Tk.t22, base0, base1, base2, base3, Option.isNone_none, Option.isNone_some, Nat.reduceBEq, true_or, or_true, false_or, or_false, Nat.reduceLT, Nat.reduceMod, Nat.reducePow, rmaps, nsucc, List.flatten_cons, List.flatten_nil, Nat.reduceEqDiff, Nat.reduceLeDiff, Nat.reduceAdd, Nat.reduceMul, Nat.reduceSub, ↓reduceIte, reduceCtorEq, decide_true, decide_false]
    refine LWP.loop [] (fun m f H' => ∃ i, m = a.length - i ∧ (i ≤ a.length) ∧ (∀ j, j < i → a.getD j 0 = b.getD j 0) ∧ f.t 0 = .lst 1 (a.map fun x => [.v (.int .i64 x)]) .unk ∧ f.t 1 = .lst 1 (b.map fun x => [.v (.int .i64 x)]) .unk ∧ f.t 5 = .v (.int .i64 (i : Nat)) ∧ f.ds = [] ∧ H' = AH.none) ?_ ?_ (m := a.length - (0))
    · exact ⟨0, rfl, (by omega), (fun j hj => by omega), rfl, rfl, rfl, rfl, rfl⟩
    · rintro m f H' ⟨i, rfl, hi, hz, f0, f1, f5, hds, rfl⟩
      by_cases hlt : i < a.length
      · have hlb : i < b.length := by omega
        by_cases hn : a.getD i 0 = b.getD i 0
        · simp only [List.length_map, ltT hlt, inR hlt, inR hlb, Int.toNat_natCast, getD_ints a i hlt, getD_ints b i hlb, show (a.getD i 0 != b.getD i 0) = false from by rw [hn]; simp, f0, f1, f5, hds, Cd.cd22, Tk.t22, base0, base1, base2, base3, Option.isNone_none, Option.isNone_some, Nat.reduceBEq, true_or, or_true, false_or, or_false, Nat.reduceLT, Nat.reduceMod, Nat.reducePow, rmaps, nsucc, List.flatten_cons, List.flatten_nil, Nat.reduceEqDiff, Nat.reduceLeDiff, Nat.reduceAdd, Nat.reduceMul, Nat.reduceSub, ↓reduceIte, reduceCtorEq, decide_true, decide_false]
          refine ⟨_, by omega, i + 1, rfl, by omega, ?_⟩
          (repeat' apply And.intro) <;> first | rfl | (rw [wrapS (by omega)]) | omega | assumption | (exact allS hz hn)
        · simp only [List.length_map, ltT hlt, inR hlt, inR hlb, Int.toNat_natCast, getD_ints a i hlt, getD_ints b i hlb, show (a.getD i 0 != b.getD i 0) = true from by simpa using hn, f0, f1, f5, hds, Cd.cd22, Tk.t22, base0, base1, base2, base3, Option.isNone_none, Option.isNone_some, Nat.reduceBEq, true_or, or_true, false_or, or_false, Nat.reduceLT, Nat.reduceMod, Nat.reducePow, rmaps, nsucc, List.flatten_cons, List.flatten_nil, Nat.reduceEqDiff, Nat.reduceLeDiff, Nat.reduceAdd, Nat.reduceMul, Nat.reduceSub, ↓reduceIte, reduceCtorEq, decide_true, decide_false]
          exact fin_v (by rw [decide_eq_false]; intro h; subst h; exact hn rfl)
      · simp only [List.length_map, ltF hlt, f0, f1, f5, hds, Cd.cd22, Tk.t22, base0, base1, base2, base3, Option.isNone_none, Option.isNone_some, Nat.reduceBEq, true_or, or_true, false_or, or_false, Nat.reduceLT, Nat.reduceMod, Nat.reducePow, rmaps, nsucc, List.flatten_cons, List.flatten_nil, Nat.reduceEqDiff, Nat.reduceLeDiff, Nat.reduceAdd, Nat.reduceMul, Nat.reduceSub, ↓reduceIte, reduceCtorEq, decide_true, decide_false]
        refine fin_v ?_
        rw [decide_eq_true]
        apply List.ext_getElem hab
        intro j h1 h2
        have := hz j (by omega)
        rwa [List.getD_eq_getElem?_getD, List.getD_eq_getElem?_getD, List.getElem?_eq_getElem h1, List.getElem?_eq_getElem h2] at this
  · simp only [List.length_map, show (((a.length : Nat) : Int) != ((b.length : Nat) : Int)) = true from by simp; omega, Cd.cd22, Tk.t22, base0, base1, base2, base3, Option.isNone_none, Option.isNone_some, Nat.reduceBEq, true_or, or_true, false_or, or_false, Nat.reduceLT, Nat.reduceMod, Nat.reducePow, rmaps, nsucc, List.flatten_cons, List.flatten_nil, Nat.reduceEqDiff, Nat.reduceLeDiff, Nat.reduceAdd, Nat.reduceMul, Nat.reduceSub, ↓reduceIte, reduceCtorEq, decide_true, decide_false]
    exact fin_v (by rw [decide_eq_false]; intro h; subst h; exact hab rfl)
/-- what was there is as it was -/
structure Kp (H H' : AH) : Prop where
  nx : H.next ≤ H'.next
  ow : ∀ n, n < H.next → H'.own n = H.own n
  tp : ∀ n, n < H.next → H'.tip n = H.tip n
theorem Kp.refl (H : AH) : Kp H H := ⟨Nat.le_refl _, fun _ _ => rfl, fun _ _ => rfl⟩
theorem Kp.trans {H H1 H2 : AH} (h : Kp H H1) (h' : Kp H1 H2) : Kp H H2 := ⟨Nat.le_trans h.nx h'.nx, fun n hn => (h'.ow n (Nat.lt_of_lt_of_le hn h.nx)).trans (h.ow n hn), fun n hn => (h'.tp n (Nat.lt_of_lt_of_le hn h.nx)).trans (h.tp n hn)⟩
/-- a growing list with a name from N on -/
def GrowN {α : Type} (enc : α → List AV) (k : Nat) (N : Nat) (H : AH) (a : AV) (l : List α) : Prop :=
  (l = [] ∧ (a = nilS ∨ a = .lst k [] .full)) ∨ ∃ t, N ≤ t ∧ t < H.next ∧ a = .lst k (l.map enc) (.live t) ∧ H.tip t = some l.length
theorem GrowN.view {α : Type} {enc : α → List AV} {k N : Nat} {H H' : AH} {a : AV} {l : List α} (h : GrowN enc k N H a l) (hz : ∀ x, FZs (enc x)) : View H' a (.lst k (l.map enc) .unk) := by
  rcases h with ⟨rfl, rfl | rfl⟩ | ⟨t, _, _, rfl, _⟩
  · exact View.nil k
  · exact View.tip fun r hr => by simp at hr
  · exact View.tip fun r hr => by
      obtain ⟨x, _, rfl⟩ := List.mem_map.mp hr
      exact hz x
theorem GrowN.mono {α : Type} {enc : α → List AV} {k N : Nat} {H H' : AH} {a : AV} {l : List α} (h : GrowN enc k N H a l) (hk : Kp H H') : GrowN enc k N H' a l := by
  rcases h with h | ⟨t, h1, h2, h3, h4⟩
  · exact .inl h
  · exact .inr ⟨t, h1, Nat.lt_of_lt_of_le h2 hk.nx, h3, (hk.tp t h2).trans h4⟩
def asc (fl : List Bool) : List Int := ((List.range fl.length).filter fun i => fl.getD i false).map fun a : Nat => (a : Int)
def ascP (fl : List Bool) (i : Nat) : List Int := ((List.range i).filter fun i => fl.getD i false).map fun a : Nat => (a : Int)
def flC (fl : List Bool) : List AV := fl.map fun b => .v (.bool b)
end Go.Proofs.YtchpcjmgifnmdaaDoor

/- Walks: the reference's closed sets. -/
namespace Go.Proofs.YtchpcjmgifnmdaaDoor
open Go Go.Proofs.YtchpcjmgifnmdaaDoor.Ab
set_option maxRecDepth 100000
set_option linter.unusedSimpArgs false

structure WL (x : Re) (set r : List Int) : Prop where
  nd : r.Nodup
  lt : ∀ b ∈ r, 0 ≤ b ∧ b < x.st
  cc : ∀ b ∈ set ++ r, (Go.Proofs.YtchpcjmgifnmdaaDoor.cl x (maskL set)).testBit b.toNat = true
theorem nodup_i : ∀ (n : Nat) (l : List Int), l.Nodup → (∀ x ∈ l, 0 ≤ x ∧ x < (n : Int)) → l.length ≤ n
  | 0, l, _, h => by
    cases l with
    | nil => exact Nat.le_refl _
    | cons x l => have := h x (by simp); omega
  | n + 1, l, hn, h => by
    by_cases hm : (n : Int) ∈ l
    · have h1 := List.length_erase_of_mem hm
      have h2 := nodup_i n (l.erase n) (hn.erase _) fun x hx => by
        have h3 := (hn.mem_erase_iff).mp hx
        have := h x h3.2
        have := h3.1
        omega
      have : 0 < l.length := List.length_pos_of_mem hm
      omega
    · have := nodup_i n l hn fun x hx => by
        have h1 := h x hx
        have : x ≠ n := fun e => hm (e ▸ hx)
        omega
      omega
theorem WL.len {x : Re} (hx : Ok x) {set r : List Int} (h : WL x set r) : r.length ≤ 10 := by
  have := hx.st
  exact nodup_i 10 r h.nd fun b hb => by have := h.lt b hb; omega
theorem set_lt {x : Re} (hx : Ok x) {set : List Int} (hs : ∀ a ∈ set, 0 ≤ a ∧ a < x.st) : maskL set < 2 ^ nst x := maskL_lt fun a ha => by
  have := hs a ha
  have := hx.st
  unfold nst; omega
theorem WL.start {x : Re} (hx : Ok x) {set : List Int} (hs : ∀ a ∈ set, 0 ≤ a ∧ a < x.st) : WL x set [] :=
  ⟨List.nodup_nil, fun _ h => by simp at h, fun b hb => by
    rw [List.append_nil] at hb
    refine (cl_bit hx (set_lt hx hs)).mpr ⟨b.toNat, ?_, .refl⟩
    rw [maskL_bit fun a ha => (hs a ha).1, Int.toNat_of_nonneg (hs b hb).1]; exact hb⟩
theorem WL.add {x : Re} (hx : Ok x) {set r : List Int} (hs : ∀ a ∈ set, 0 ≤ a ∧ a < x.st) (h : WL x set r) {m : Mv} (hm : m ∈ x.mv) (hk : m.kd = 2) (hf : m.fr ∈ set ++ r) (hn : m.to ∉ set ++ r) : WL x set (r ++ [m.to]) := by
  have hmo := hx.mv m hm
  refine ⟨?_, fun b hb => ?_, fun b hb => ?_⟩
  · rw [List.nodup_append]
    refine ⟨h.nd, by simp, fun a ha b hb => ?_⟩
    simp only [List.mem_singleton] at hb
    subst hb
    intro e; subst e; exact hn (List.mem_append.mpr (.inr ha))
  · rcases List.mem_append.mp hb with hb | hb
    · exact h.lt b hb
    · simp only [List.mem_singleton] at hb; subst hb; exact hmo.to
  · rw [← List.append_assoc] at hb
    rcases List.mem_append.mp hb with hb | hb
    · exact h.cc b hb
    · simp only [List.mem_singleton] at hb; subst hb
      obtain ⟨a, ha, hr⟩ := (cl_bit hx (set_lt hx hs)).mp (h.cc _ hf)
      refine (cl_bit hx (set_lt hx hs)).mpr ⟨a, ha, .step hr (silM_bit.mpr ⟨m, hm, hk, ?_, rfl⟩)⟩
      exact (Int.toNat_of_nonneg hmo.fr.1).symm
theorem WL.all {x : Re} (hx : Ok x) {set r : List Int} (hs : ∀ a ∈ set, 0 ≤ a ∧ a < x.st) (h : WL x set r) (hc : ∀ a ∈ set ++ r, ∀ m ∈ x.mv, m.kd = 2 → m.fr = a → m.to ∈ set ++ r) (s : Nat) : (cl x (maskL set)).testBit s = decide ((s : Int) ∈ set ++ r) := by
  rw [Bool.eq_iff_iff, decide_eq_true_eq]
  constructor
  · intro hb
    obtain ⟨a, ha, hr⟩ := (cl_bit hx (set_lt hx hs)).mp hb
    rw [maskL_bit fun a ha => (hs a ha).1] at ha
    induction hr with
    | refl => exact List.mem_append.mpr (.inl ha)
    | @step b c hr hsb ih =>
      obtain ⟨m, hm, h1, h2, h3⟩ := silM_bit.mp hsb
      have := hc b (ih ((cl_bit hx (set_lt hx hs)).mpr ⟨a, (maskL_bit fun a ha => (hs a ha).1).mpr ha, hr⟩)) m hm h1 h2
      rw [← h3, Int.toNat_of_nonneg (hx.mv m hm).to.1]; exact this
  · intro hm
    have := h.cc _ hm
    rwa [Int.toNat_natCast] at this
theorem GrowN.go {P : Program} {m : FuncId} {args : List AV} {H : AH} {α : Type} {enc : α → List AV} {k : Nat} {l : List α} {mu : List Nat} {Kt : Kont} {dst : Option Nat} {os : List COp} {f : AF}
    (h : ACall P m args H (fun out H' => ∃ v, out = .ret v ∧ GrowN enc k H.next H' v l ∧ Kp H H')) (h' : ∀ v H', GrowN enc k H.next H' v l → Kp H H' → cops P mu Kt os (f.put dst v) H') : ACall P m args H (callK P mu Kt dst os f) :=
  h.mono fun out H' hx => by
    obtain ⟨v, rfl, h1, h2⟩ := hx
    exact h' v H' h1 h2
theorem Kp.go {P : Program} {m : FuncId} {args : List AV} {H : AH} {v : AV} {mu : List Nat} {Kt : Kont} {dst : Option Nat} {os : List COp} {f : AF} (h : ACall P m args H (fun out H' => out = .ret v ∧ Kp H H')) (h' : ∀ H', Kp H H' → cops P mu Kt os (f.put dst v) H') : ACall P m args H (callK P mu Kt dst os f) :=
  h.mono fun out H' hx => by
    obtain ⟨rfl, h1⟩ := hx
    exact h' H' h1
end Go.Proofs.YtchpcjmgifnmdaaDoor

/- Walks: the reference's sets after events. -/
namespace Go.Proofs.YtchpcjmgifnmdaaDoor
open Go Go.Proofs.YtchpcjmgifnmdaaDoor.Ab
set_option maxRecDepth 100000
set_option linter.unusedSimpArgs false

def okMv (x : Re) (l e : Nat) (m : Mv) : Bool := decide (m.kd ≠ 2) && l.testBit m.fr.toNat && decide (evM x m = (e : Int))
def flA (x : Re) (l e s : Nat) : Bool := decide (e = silc x) && quietM x s && l.testBit s
def flM (x : Re) (l e k s : Nat) : Bool := flA x l e s || (x.mv.take k).any fun m => okMv x l e m && decide (m.to.toNat = s)
def flI (x : Re) (l e i s : Nat) : Bool := decide (e = silc x) && quietM x s && decide (s ∈ (bitsN l).take i)
theorem Kp.go' {P : Program} {m : FuncId} {args : List AV} {H : AH} {v : AV} {mu : List Nat} {Kt : Kont} {fm : AF} {dst : Option Nat} {ds : List DOp} {f : AF} {pd : List (Nat × Nat × ABlk)} {rd : List Nat} (h : ACall P m args H (fun out H' => out = .ret v ∧ Kp H H')) (h' : ∀ H', Kp H H' → dops P mu Kt fm ds (f.put dst v) H' pd rd) : ACall P m args H (dcallK P mu Kt fm dst ds f pd rd) :=
  h.mono fun out H' hx => by
    obtain ⟨rfl, h1⟩ := hx
    exact h' H' h1
end Go.Proofs.YtchpcjmgifnmdaaDoor

/- Walks: the reference's traces; copies. -/
namespace Go.Proofs.YtchpcjmgifnmdaaDoor
open Go Go.Proofs.YtchpcjmgifnmdaaDoor.Ab
set_option maxRecDepth 100000
set_option linter.unusedSimpArgs false

theorem ACall.args {P : Program} {m : FuncId} {H : AH} {R : AOut → AH → Prop} {a a' : List AV} (h : ACall P m a H R) (hv : ∀ g xs, VRs g a' xs → VRs g a xs) : ACall P m a' H R := ⟨h.1, fun g xs w hw hx => h.2 g xs w hw (hv g xs hx)⟩
theorem vr_unk {g : G} {k : Nat} {rows : List (List AV)} {tip : Tip} {x : Value} (h : VR g (.lst k rows tip) x) : VR g (.lst k rows .unk) x := by
  cases h with
  | lst q1 q2 q3 q4 q5 q6 q7 q8 => exact .lst q1 q2 q3 q4 q5 q6 q7 trivial
/-- a list whose room is known, where nothing is asked of it -/
theorem vrs_unk2 {a : AV} {k : Nat} {rows : List (List AV)} {tip : Tip} : ∀ g xs, VRs g [a, .lst k rows tip] xs → VRs g [a, .lst k rows .unk] xs := fun g xs h => ⟨h.1, fun j hj => by
  match j, hj with
  | 0, _ => exact h.2 0 (by simp)
  | 1, _ => exact vr_unk (h.2 1 (by simp))⟩
def shownP (x : Re) (l k : Nat) : List Int := ((List.range k).filter fun e => shw x l e).map fun e : Nat => (e : Int)
def shownL (x : Re) (l : Nat) : List Int := shownP x l (silc x + 1)
theorem silc_le {x : Re} (hx : Ok x) : silc x ≤ 8 ∧ x.inp.toNat ≤ silc x := by
  have := hx.inp; have := hx.out; unfold silc; omega
theorem own18 (x : Re) (hl : x.mv.length * 32 ≤ 140737488355328) : FCall Tryd.prog 18 [reV x] (· = reV x) := by
  simp only [reV, reL, mvsV]
  by_cases h0 : x.mv = []
  · refine ACall.enter [1] Cd.fn18 (by simp) ?_
    simp only [h0, Cd.cd18, Tk.t18, base0, base1, base2, base3, Option.isNone_none, Option.isNone_some, Nat.reduceBEq, true_or, or_true, false_or, or_false, Nat.reduceLT, Nat.reduceMod, Nat.reducePow, rmaps, nsucc, List.flatten_cons, List.flatten_nil, Nat.reduceEqDiff, Nat.reduceLeDiff, Nat.reduceAdd, Nat.reduceMul, Nat.reduceSub, ↓reduceIte, reduceCtorEq, decide_true, decide_false]
    have hz : FZ (reV x) := FZ.reV x
    simp only [reV, reL, mvsV, h0, List.map_nil] at hz
    exact ⟨_, _, rfl, Views.agg (Views.cons (FZ.v _).view (Views.cons (FZ.v _).view (Views.cons (FZ.v _).view (Views.cons (FZ.v _).view (Views.cons (View.tip fun r hr => by simp at hr) Views.nil))))), hz, rfl⟩
  · have hl0 : 0 < x.mv.length := List.length_pos_iff.mpr h0
    have hl' : (x.mv.length = 0) = False := by simp; exact h0
    have hr : roomA 32 x.mv.length = true := room_of (by omega) (by omega)
    refine ACall.enter [1] Cd.fn18 (by simp) ?_
    simp only [List.length_map, hl0, hl', hr, Cd.cd18, Tk.t18, base0, base1, base2, base3, Option.isNone_none, Option.isNone_some, Nat.reduceBEq, true_or, or_true, false_or, or_false, Nat.reduceLT, Nat.reduceMod, Nat.reducePow, rmaps, nsucc, List.flatten_cons, List.flatten_nil, Nat.reduceEqDiff, Nat.reduceLeDiff, Nat.reduceAdd, Nat.reduceMul, Nat.reduceSub, ↓reduceIte, reduceCtorEq, decide_true, decide_false]
    exact ⟨_, _, rfl, Views.agg (Views.cons (FZ.v _).view (Views.cons (FZ.v _).view (Views.cons (FZ.v _).view (Views.cons (FZ.v _).view (Views.cons (View.tip fun r hr => by
      obtain ⟨m, _, rfl⟩ := List.mem_map.mp hr
      exact FZs.mvR m) Views.nil))))), FZ.reV x, rfl⟩
end Go.Proofs.YtchpcjmgifnmdaaDoor

/- Walks: a system by its states. -/
namespace Go.Proofs.YtchpcjmgifnmdaaDoor
open Go Go.Proofs.YtchpcjmgifnmdaaDoor.Ab
set_option maxRecDepth 100000
set_option linter.unusedSimpArgs false

def uvC (k : Nat) (f : Nat → Nat) : List AV := (List.range k).map fun e => .v (.int .u64 (f e : Nat))
theorem uvC_len (k : Nat) (f : Nat → Nat) : (uvC k f).length = k := by simp [uvC]
theorem mkU (n : Nat) : List.map (fun i => [AV.v (.int .u64 0)].getD (i % 1) .any) (List.range (n * 1)) = uvC n fun _ => 0 := by
  unfold uvC
  rw [Nat.mul_one]
  apply List.map_congr_left
  intro i _
  simp [Nat.mod_one]
theorem uvC_drop {k s : Nat} (f : Nat → Nat) (h : s < k) : (List.drop s (uvC k f))[0]? = some (.v (.int .u64 (f s : Nat))) := by
  rw [List.getElem?_drop, Nat.add_zero]
  unfold uvC
  rw [List.getElem?_map, List.getElem?_range h]; rfl
theorem uvC_set {k s : Nat} (f : Nat → Nat) (v : Nat) (h : s < k) : List.take s (uvC k f) ++ AV.v (.int .u64 (v : Nat)) :: List.drop (s + 1) (uvC k f) = uvC k fun e => if e = s then v else f e := by
  apply List.ext_getElem?
  intro i
  have hl : (List.take s (uvC k f)).length = s := by rw [List.length_take, uvC_len]; omega
  by_cases h1 : i < s
  · rw [List.getElem?_append_left (by omega), List.getElem?_take_of_lt h1]
    unfold uvC
    rw [List.getElem?_map, List.getElem?_map, List.getElem?_range (by omega)]
    simp [show ¬ i = s by omega]
  · rw [List.getElem?_append_right (by omega), hl]
    by_cases h2 : i = s
    · subst h2
      rw [Nat.sub_self]
      unfold uvC
      rw [List.getElem?_map, List.getElem?_range h]; simp
    · obtain ⟨d, hd⟩ : ∃ d, i - s = d + 1 := ⟨i - s - 1, by omega⟩
      rw [hd, List.getElem?_cons_succ, List.getElem?_drop, show s + 1 + d = i by omega]
      unfold uvC
      rw [List.getElem?_map, List.getElem?_map]
      by_cases h3 : i < k
      · rw [List.getElem?_range h3]; simp [h2]
      · rw [List.getElem?_eq_none (by simp; omega)]; rfl
def enS (k n : Nat) : List AV := [.sl 1 n 0 k]
def headV (x : Re) : List AV := [.v (.int .i64 x.st), .v (.int .i64 x.s0), .v (.int .i64 x.inp), .v (.int .i64 x.out), .lst 4 (x.mv.map mvR) .unk]
/-- the program's system, as it is built: the sets by state and event are `f`, those of silent moves `s` -/
structure SysO (x : Re) (H : AH) (byA : AV) (nms : List Nat) (f : Nat → Nat → Nat) (s : Nat → Nat) : Prop where
  g : GrowN (enS (silc x)) 1 2 H byA nms
  nm : ∀ j, j < nms.length → 2 ≤ nms.getD j 0 ∧ nms.getD j 0 < H.next ∧ H.own (nms.getD j 0) = some (.cells (uvC (silc x) (f j)))
  nd : nms.Nodup
  o0 : H.own 0 = some (.cells (uvC (nst x) s))
  o1 : H.own 1 = some (.cells [.v (.int .i64 x.st), .v (.int .i64 x.s0), .v (.int .i64 x.inp), .v (.int .i64 x.out), .lst 4 (x.mv.map mvR) .unk, byA, .sl 1 0 0 (nst x)])
  n2 : 2 ≤ H.next
theorem SysO.push {x : Re} {H H2 : AH} {byA a2 : AV} {nms : List Nat} {s : Nat → Nat} (h : SysO x H byA nms (fun _ _ => 0) s) (hg : GrowN (enS (silc x)) 1 2 H2 a2 (nms ++ [H.next]))
    (ho : ∀ m, H2.own m = if m = 1 then some (.cells [.v (.int .i64 x.st), .v (.int .i64 x.s0), .v (.int .i64 x.inp), .v (.int .i64 x.out), .lst 4 (x.mv.map mvR) .unk, a2, .sl 1 0 0 (nst x)]) else if m = H.next then some (.cells (uvC (silc x) fun _ => 0)) else H.own m)
    (hn : H.next < H2.next) : SysO x H2 a2 (nms ++ [H.next]) (fun _ _ => 0) s := by
  have h2 := h.n2
  refine ⟨hg, fun j hj => ?_, ?_, ?_, ?_, by omega⟩
  · by_cases h1 : j < nms.length
    · obtain ⟨a, b, c⟩ := h.nm j h1
      rw [getD_append_left _ _ _ h1]
      exact ⟨a, by omega, by rw [ho, if_neg (by omega), if_neg (by omega)]; exact c⟩
    · have : j = nms.length := by simp at hj; omega
      subst this
      rw [getD_append_len]
      exact ⟨h2, hn, by rw [ho, if_neg (by omega), if_pos rfl]⟩
  · rw [List.nodup_append]
    refine ⟨h.nd, by simp, fun a ha b hb => ?_⟩
    simp only [List.mem_singleton] at hb
    subst hb
    obtain ⟨j, hj, rfl⟩ := mem_getD ha
    have := (h.nm j hj).2.1
    show nms.getD j 0 ≠ _
    omega
  · rw [ho, if_neg (by omega), if_neg (by omega)]; exact h.o0
  · rw [ho, if_pos rfl]
theorem nodup_getD {l : List Nat} (h : l.Nodup) {i j : Nat} (hi : i < l.length) (hj : j < l.length) (he : l.getD i 0 = l.getD j 0) : i = j := by
  rw [List.getD_eq_getElem?_getD, List.getD_eq_getElem?_getD, List.getElem?_eq_getElem hi, List.getElem?_eq_getElem hj] at he
  exact (List.getElem_inj (h₀ := hi) (h₁ := hj) h).mp he
theorem GrowN.tips {α : Type} {enc : α → List AV} {k N : Nat} {H H' : AH} {a : AV} {l : List α} (h : GrowN enc k N H a l) (hn : H.next ≤ H'.next) (ht : H'.tip = H.tip) : GrowN enc k N H' a l := by
  rcases h with h | ⟨t, h1, h2, h3, h4⟩
  · exact .inl h
  · exact .inr ⟨t, h1, Nat.lt_of_lt_of_le h2 hn, h3, by rw [ht]; exact h4⟩
theorem SysO.setBy {x : Re} {H H2 : AH} {byA : AV} {nms : List Nat} {f f' : Nat → Nat → Nat} {s : Nat → Nat} (h : SysO x H byA nms f s) {a : Nat} (ha : a < nms.length) 
    (ho : ∀ m, m < H.next → H2.own m = if m = nms.getD a 0 then some (.cells (uvC (silc x) (f' a))) else H.own m) (hf : ∀ j, j ≠ a → f' j = f j)
    (hn : H.next ≤ H2.next) (ht : H2.tip = H.tip) : SysO x H2 byA nms f' s := by
  have h2 := h.n2
  have hna := h.nm a ha
  refine ⟨h.g.tips hn ht, fun j hj => ?_, h.nd, ?_, ?_, by omega⟩
  · obtain ⟨p, q, r⟩ := h.nm j hj
    refine ⟨p, by omega, ?_⟩
    rw [ho _ q]
    by_cases hja : j = a
    · subst hja; rw [if_pos rfl]
    · rw [if_neg fun e => hja (nodup_getD h.nd hj ha e), hf j hja]; exact r
  · rw [ho 0 (by omega), if_neg (by omega)]; exact h.o0
  · rw [ho 1 (by omega), if_neg (by omega)]; exact h.o1
theorem SysO.setSil {x : Re} {H H2 : AH} {byA : AV} {nms : List Nat} {f : Nat → Nat → Nat} {s s' : Nat → Nat} (h : SysO x H byA nms f s) 
    (ho : ∀ m, m < H.next → H2.own m = if m = 0 then some (.cells (uvC (nst x) s')) else H.own m) (hn : H.next ≤ H2.next) (ht : H2.tip = H.tip) : SysO x H2 byA nms f s' := by
  have h2 := h.n2
  refine ⟨h.g.tips hn ht, fun j hj => ?_, h.nd, ?_, ?_, by omega⟩
  · obtain ⟨p, q, r⟩ := h.nm j hj
    exact ⟨p, by omega, by rw [ho _ q, if_neg (by omega)]; exact r⟩
  · rw [ho 0 (by omega), if_pos rfl]
  · rw [ho 1 (by omega), if_neg (by omega)]; exact h.o1
theorem shlN {n : Nat} (h : n < 10) : IntKind.u64.wrap (1 * 2 ^ (min n IntKind.u64.bits)) = ((2 ^ n : Nat) : Int) := by
  have := shlU h
  rwa [Int.toNat_natCast] at this
theorem silP_succ (x : Re) {k : Nat} (h : k < x.mv.length) (a : Nat) : silP (x.mv.take (k + 1)) a = if decide ((x.mv.getD k default).kd = 2) && decide ((x.mv.getD k default).fr = (a : Int)) then silP (x.mv.take k) a ||| 2 ^ (x.mv.getD k default).to.toNat else silP (x.mv.take k) a := by
  unfold silP; rw [foldl_succ _ _ h]
theorem byP_succ (x : Re) {k : Nat} (h : k < x.mv.length) (a e : Nat) : byP x (x.mv.take (k + 1)) a e = if decide ((x.mv.getD k default).kd ≠ 2) && decide ((x.mv.getD k default).fr = (a : Int)) && decide (evM x (x.mv.getD k default) = (e : Int)) then byP x (x.mv.take k) a e ||| 2 ^ (x.mv.getD k default).to.toNat else byP x (x.mv.take k) a e := by
  unfold byP; rw [foldl_succ _ _ h]
theorem viewU {H : AH} {n k : Nat} {f : Nat → Nat} (h : H.own n = some (.cells (uvC k f))) : View H (.sl 1 n 0 k) (rowU k f) := by
  have hg : ∀ i, i < k → ((List.range k).map fun e => [uv (f e)]).getD i [] = [uv (f i)] := fun i hi => getD_range _ _ _ hi
  refine View.sl h (by rw [uvC_len]; omega) (by simp) (fun i hi => by rw [hg i hi]; rfl) fun i j hi hj => ?_
  have hj0 : j = 0 := by omega
  subst hj0
  rw [hg i hi]
  have : (uvC k f).getD (0 + i * 1 + 0) .any = uv (f i) := by
    unfold uvC
    rw [List.getD_eq_getElem?_getD, List.getElem?_map, List.getElem?_range (by omega)]
    simp [uv]
  rw [this]
  exact (FZ.v _).view
theorem viewSys {x : Re} {H : AH} {nms : List Nat} {t : Nat} (h : SysO x H (.lst 1 (nms.map (enS (silc x))) (.live t)) nms (byM x) (silM x)) (hl : nms.length = nst x) : View H (.ptr 1 0) (sysV x) := by
  have hby : View H (.lst 1 (nms.map (enS (silc x))) (.live t)) (byV x) := by
    have hg : ∀ i, i < nst x → ((List.range (nst x)).map fun a => [rowU (silc x) (byM x a)]).getD i [] = [rowU (silc x) (byM x i)] := fun i hi => getD_range _ _ _ hi
    have hg' : ∀ i, i < nst x → (nms.map (enS (silc x))).getD i [] = [.sl 1 (nms.getD i 0) 0 (silc x)] := fun i hi => getD_map (enS (silc x)) nms i (by omega)
    refine View.lst (by simp [hl]) (fun i hi => ?_) fun i j hi hj => ?_
    · rw [hg i (by simpa [hl] using hi), hg' i (by simpa [hl] using hi)]; rfl
    · have hj0 : j = 0 := by omega
      subst hj0
      have hi' : i < nst x := by simpa [hl] using hi
      rw [hg i hi', hg' i hi']
      exact viewU (h.nm i (by omega)).2.2
  refine View.ptr h.o1 (by simp [sysL, reL]) fun j hj => ?_
  have hj7 : j < 7 := by simpa [sysL, reL] using hj
  match j, hj7 with
  | 0, _ => exact (FZ.v _).view
  | 1, _ => exact (FZ.v _).view
  | 2, _ => exact (FZ.v _).view
  | 3, _ => exact (FZ.v _).view
  | 4, _ => exact (FZ.mvsV x.mv).view
  | 5, _ => exact hby
  | 6, _ => exact viewU h.o0
set_option maxHeartbeats 2000000 in
theorem system71 (x : Re) (hx : Ok x) : FCall Tryd.prog 71 [reV x] (· = sysV x) := by
  have hst := hx.st
  have hlen := hx.len
  have hinp := hx.inp
  have hout := hx.out
  have hsc := silc_le hx
  have hn10 := hx.n
  have en : x.st.toNat = nst x := rfl
  simp only [reV, reL, mvsV]
  refine ACall.enter [12] Cd.fn71 (by simp) ?_
  simp only [show (0 ≤ x.st ∧ x.st ≤ 140737488355328 ∧ ((8 : Nat) : Int) * x.st ≤ 2 ^ 47) = True from by simp; omega, en, mkU, Cd.cd71, Tk.t71, base0, base1, base2, base3, Option.isNone_none, Option.isNone_some, Nat.reduceBEq, true_or, or_true, false_or, or_false, Nat.reduceLT, Nat.reduceMod, Nat.reducePow, rmaps, nsucc, List.flatten_cons, List.flatten_nil, Nat.reduceEqDiff, Nat.reduceLeDiff, Nat.reduceAdd, Nat.reduceMul, Nat.reduceSub, ↓reduceIte, reduceCtorEq, decide_true, decide_false]
  refine LWP.loop [] (fun m f H' => ∃ i byA nms, m = nst x - i ∧ (i ≤ nst x) ∧ (nms.length = i) ∧ (SysO x H' byA nms (fun _ _ => 0) (fun _ => 0)) ∧ f.t 1 = .box [.v (.int .i64 x.st), .v (.int .i64 x.s0), .v (.int .i64 x.inp), .v (.int .i64 x.out), .lst 4 (x.mv.map mvR) .unk] ∧ f.t 3 = .ptr 1 0 ∧ f.t 14 = .v (.int .i64 x.st) ∧ f.t 15 = .v (.int .i64 (i : Nat)) ∧ f.ds = [] ∧ True) ?_ ?_ (m := nst x - (0))
  · exact ⟨0, nilS, [], rfl, (by omega), (rfl), (⟨.inl ⟨rfl, .inl rfl⟩, fun j hj => by simp at hj, List.nodup_nil, by simp [AH.none], by simp [AH.none, nilS], by simp [AH.none]⟩), rfl, rfl, rfl, rfl, rfl, trivial⟩
  · rintro m f H' ⟨i, byA, nms, rfl, hi, hl, hS, f1, f3, f14, f15, hds, hH⟩
    have ho1 := hS.o1
    have hn2 := hS.n2
    by_cases hlt : i < nst x
    · have hr : roomA 24 (nms.length + 1) = true := room_of (by omega) (by omega)
      have hmk : (0 ≤ ((silc x : Nat) : Int) ∧ ((silc x : Nat) : Int) ≤ 140737488355328 ∧ ((8 : Nat) : Int) * ((silc x : Nat) : Int) ≤ 2 ^ 47) = True := by simp; omega
      have hx1 : decide (((i : Nat) : Int) < x.st) = true := decide_eq_true (by unfold nst at hlt; omega)
      rcases hS.g with ⟨h0, rfl | rfl⟩ | ⟨t, t1, t2, rfl, t4⟩
      · have h1n : (1 = H'.next) = False := by simp; omega
        simp only [hx1, nilS, ho1, silc_eq hx, hmk, Int.toNat_natCast, mkU, show roomA 24 1 = true from rfl, h1n, f1, f3, f14, f15, hds, Cd.cd71, Tk.t71, base0, base1, base2, base3, Option.isNone_none, Option.isNone_some, Nat.reduceBEq, true_or, or_true, false_or, or_false, Nat.reduceLT, Nat.reduceMod, Nat.reducePow, rmaps, nsucc, List.flatten_cons, List.flatten_nil, Nat.reduceEqDiff, Nat.reduceLeDiff, Nat.reduceAdd, Nat.reduceMul, Nat.reduceSub, ↓reduceIte, reduceCtorEq, decide_true, decide_false]
        refine ⟨_, by omega, i + 1, _, _, rfl, by omega, by simp [hl], hS.push (.inr ⟨H'.next + 1, by omega, by simp, by rw [h0]; rfl, by rw [h0]; simp⟩) (fun m => rfl) (show H'.next < H'.next + 1 + 1 by omega), by rw [wrapS (by omega)]⟩
      · have h1n : (1 = H'.next) = False := by simp; omega
        simp only [hx1, ho1, silc_eq hx, hmk, Int.toNat_natCast, mkU, show roomA 24 1 = true from rfl, h1n, f1, f3, f14, f15, hds, Cd.cd71, Tk.t71, base0, base1, base2, base3, Option.isNone_none, Option.isNone_some, Nat.reduceBEq, true_or, or_true, false_or, or_false, Nat.reduceLT, Nat.reduceMod, Nat.reducePow, rmaps, nsucc, List.flatten_cons, List.flatten_nil, Nat.reduceEqDiff, Nat.reduceLeDiff, Nat.reduceAdd, Nat.reduceMul, Nat.reduceSub, ↓reduceIte, reduceCtorEq, decide_true, decide_false]
        refine ⟨_, by omega, i + 1, _, _, rfl, by omega, by simp [hl], hS.push (.inr ⟨H'.next + 1, by omega, by simp, by rw [h0]; rfl, by rw [h0]; simp⟩) (fun m => rfl) (show H'.next < H'.next + 1 + 1 by omega), by rw [wrapS (by omega)]⟩
      · have h1n : (1 = H'.next) = False := by simp; omega
        simp only [hx1, ho1, silc_eq hx, hmk, Int.toNat_natCast, mkU, t4, hr, List.length_map, h1n, f1, f3, f14, f15, hds, Cd.cd71, Tk.t71, base0, base1, base2, base3, Option.isNone_none, Option.isNone_some, Nat.reduceBEq, true_or, or_true, false_or, or_false, Nat.reduceLT, Nat.reduceMod, Nat.reducePow, rmaps, nsucc, List.flatten_cons, List.flatten_nil, Nat.reduceEqDiff, Nat.reduceLeDiff, Nat.reduceAdd, Nat.reduceMul, Nat.reduceSub, ↓reduceIte, reduceCtorEq, decide_true, decide_false]
        refine ⟨_, by omega, i + 1, _, _, rfl, by omega, by simp [hl], hS.push (.inr ⟨t, t1, by simp; omega, by simp [enS], by simp⟩) (fun m => rfl) (by simp), by rw [wrapS (by omega)]⟩
    · have hi' : i = nst x := by omega
      have hx1 : decide (((i : Nat) : Int) < x.st) = false := decide_eq_false (by unfold nst at hlt; omega)
      have hlS : nms.length = nst x := by omega
      have hS0 : SysO x H' byA nms (fun a e => byP x (x.mv.take 0) a e) (fun a => silP (x.mv.take 0) a) := hS
      simp only [hx1, List.length_map, f1, f3, f14, f15, hds, Cd.cd71, Tk.t71, base0, base1, base2, base3, Option.isNone_none, Option.isNone_some, Nat.reduceBEq, true_or, or_true, false_or, or_false, Nat.reduceLT, Nat.reduceMod, Nat.reducePow, rmaps, nsucc, List.flatten_cons, List.flatten_nil, Nat.reduceEqDiff, Nat.reduceLeDiff, Nat.reduceAdd, Nat.reduceMul, Nat.reduceSub, ↓reduceIte, reduceCtorEq, decide_true, decide_false]
      refine LWP.loop [] (fun m f H' => ∃ k, m = x.mv.length - k ∧ (k ≤ x.mv.length) ∧ (SysO x H' byA nms (fun a e => byP x (x.mv.take k) a e) (fun a => silP (x.mv.take k) a)) ∧ f.t 1 = .box [.v (.int .i64 x.st), .v (.int .i64 x.s0), .v (.int .i64 x.inp), .v (.int .i64 x.out), .lst 4 (x.mv.map mvR) .unk] ∧ f.t 3 = .ptr 1 0 ∧ f.t 34 = .lst 4 (x.mv.map mvR) .unk ∧ f.t 35 = .v (.int .i64 (x.mv.length : Nat)) ∧ f.t 36 = .v (.int .i64 (k : Nat)) ∧ f.ds = [] ∧ True) ?_ ?_ (m := x.mv.length - (0))
      · exact ⟨0, rfl, (by omega), (hS0), f1, f3, (by first | rfl | exact f34), (by first | rfl | exact f35), (by first | rfl | exact f36), rfl, trivial⟩
      · rintro m f H' ⟨k, rfl, hki, hS, f1, f3, f34, f35, f36, hds, hH⟩
        have ho1 := hS.o1
        have ho0 := hS.o0
        have hn2 := hS.n2
        by_cases hklt : k < x.mv.length
        · have hgm := getD_map mvR x.mv k hklt
          have hmm := getD_mem (l := x.mv) hklt
          have hsS := silP_succ x hklt
          have hsB := byP_succ x hklt
          generalize hm : x.mv.getD k default = mk at hgm hmm hsS hsB
          have hmo := hx.mv mk hmm
          obtain ⟨tn, htn⟩ : ∃ tn : Nat, mk.to = (tn : Int) := ⟨_, (Int.toNat_of_nonneg hmo.to.1).symm⟩
          obtain ⟨an, han⟩ : ∃ an : Nat, mk.fr = (an : Int) := ⟨_, (Int.toNat_of_nonneg hmo.fr.1).symm⟩
          have htl : tn < nst x := by have := hmo.to; unfold nst; omega
          have hal : an < nst x := by have := hmo.fr; unfold nst; omega
          have hsub : ∀ m ∈ x.mv.take k, m ∈ x.mv := fun m h => List.mem_of_mem_take h
          have hp2 : 2 ^ tn < 1024 := (Nat.pow_lt_pow_right (by omega : 1 < 2) (show tn < 10 by omega) : 2 ^ tn < 2 ^ 10)
          have hnx1 : (0 = H'.next) = False := by simp; omega
          have hnx2 : (1 = H'.next) = False := by simp; omega
          rcases hS.g with ⟨h0, _⟩ | ⟨t, t1, t2, rfl, t4⟩
          · rw [h0] at hlS; simp at hlS; omega
          have htl10 : tn < 10 := by omega
          have hnl : an < nms.length := by omega
          have hgn : (nms.map (enS (silc x))).getD an [] = [.sl 1 (nms.getD an 0) 0 (silc x)] := getD_map (enS (silc x)) nms an hnl
          obtain ⟨nm1, nm2, nm3⟩ := hS.nm an hnl
          generalize hnm : nms.getD an 0 = nm at hgn nm1 nm2 nm3
          have nmn : (nm = H'.next) = False := by simp; omega
          by_cases k0 : mk.kd = 0
          · have hlb := hmo.lb
            unfold labels at hlb
            rw [if_pos k0] at hlb
            have hev : evM x mk = mk.lb := by unfold evM; rw [if_pos k0]
            obtain ⟨en, hen⟩ : ∃ en : Nat, evM x mk = (en : Int) := ⟨_, (Int.toNat_of_nonneg (by rw [hev]; omega)).symm⟩
            rw [hev] at hen
            have hel : en < silc x := by unfold silc; omega
            have eb : (fun a e => byP x (x.mv.take (k + 1)) a e) = fun a e => if a = an ∧ e = en then byP x (x.mv.take k) an en ||| 2 ^ tn else byP x (x.mv.take k) a e := by
              funext a e
              rw [hsB, k0, htn, han, hev, hen, Int.toNat_natCast]
              by_cases q : a = an ∧ e = en
              · obtain ⟨rfl, rfl⟩ := q
                simp
              · rw [if_neg q, if_neg]
                simp only [Bool.and_eq_true, decide_eq_true_eq, not_and]
                intro h1 h2; exact q ⟨by omega, by omega⟩
            have es : (fun a => silP (x.mv.take (k + 1)) a) = fun a => silP (x.mv.take k) a := by
              funext a
              rw [hsS, k0]; simp
            simp only [List.length_map, ltT hklt, inR hklt, Int.toNat_natCast, hgm, mvR, show (mk.kd == 0) = true from beq_iff_eq.mpr k0, htn, han, hen, show ((tn : Int) < 0) = False from by simp, hnx1, hnx2, ho1, hgn, inR hnl, inR hel, nm3, nmn, Nat.mul_one, Nat.zero_add, uvC_drop _ hel, shlN htl10, orU (hx.pw (byP_lt hx hsub an en)) hp2, uvC_len, show (en + 1 ≤ silc x) = True from by simp only [eq_iff_iff, iff_true]; omega, uvC_set _ _ hel, f1, f3, f34, f35, f36, hds, Cd.cd71, Tk.t71, base0, base1, base2, base3, Option.isNone_none, Option.isNone_some, Nat.reduceBEq, true_or, or_true, false_or, or_false, Nat.reduceLT, Nat.reduceMod, Nat.reducePow, rmaps, nsucc, List.flatten_cons, List.flatten_nil, Nat.reduceEqDiff, Nat.reduceLeDiff, Nat.reduceAdd, Nat.reduceMul, Nat.reduceSub, ↓reduceIte, reduceCtorEq, decide_true, decide_false]
            refine ⟨_, by omega, k + 1, rfl, by omega, ?_, by rw [wrapS (by omega)]⟩
            rw [es, eb]
            refine hS.setBy (a := an) (by omega) (fun m hm => ?_) (fun j hj => by funext e; simp [hj]) (by show H'.next ≤ H'.next + 1; omega) rfl
            simp only [show ¬ m = H'.next by omega, if_false, true_and]
            rw [hnm]
          · by_cases k1 : mk.kd = 1
            · have hlb := hmo.lb
              unfold labels at hlb
              rw [if_neg k0, if_pos k1] at hlb
              have hev : evM x mk = x.inp + mk.lb := by unfold evM; rw [if_neg k0]
              obtain ⟨en, hen⟩ : ∃ en : Nat, evM x mk = (en : Int) := ⟨_, (Int.toNat_of_nonneg (by rw [hev]; omega)).symm⟩
              rw [hev] at hen
              have hel : en < silc x := by unfold silc; omega
              have eb : (fun a e => byP x (x.mv.take (k + 1)) a e) = fun a e => if a = an ∧ e = en then byP x (x.mv.take k) an en ||| 2 ^ tn else byP x (x.mv.take k) a e := by
                funext a e
                rw [hsB, k1, htn, han, hev, hen, Int.toNat_natCast]
                by_cases q : a = an ∧ e = en
                · obtain ⟨rfl, rfl⟩ := q
                  simp
                · rw [if_neg q, if_neg]
                  simp only [Bool.and_eq_true, decide_eq_true_eq, not_and]
                  intro h1 h2; exact q ⟨by omega, by omega⟩
              have es : (fun a => silP (x.mv.take (k + 1)) a) = fun a => silP (x.mv.take k) a := by
                funext a
                rw [hsS, k1]; simp
              simp only [List.length_map, ltT hklt, inR hklt, Int.toNat_natCast, hgm, mvR, show (mk.kd == 0) = false from beq_eq_false_iff_ne.mpr k0, show (mk.kd == 1) = true from beq_iff_eq.mpr k1, show IntKind.i64.wrap ((en : Nat) : Int) = ((en : Nat) : Int) from wrapI (by omega) (by omega), htn, han, hen, show ((tn : Int) < 0) = False from by simp, hnx1, hnx2, ho1, hgn, inR hnl, inR hel, nm3, nmn, Nat.mul_one, Nat.zero_add, uvC_drop _ hel, shlN htl10, orU (hx.pw (byP_lt hx hsub an en)) hp2, uvC_len, show (en + 1 ≤ silc x) = True from by simp only [eq_iff_iff, iff_true]; omega, uvC_set _ _ hel, f1, f3, f34, f35, f36, hds, Cd.cd71, Tk.t71, base0, base1, base2, base3, Option.isNone_none, Option.isNone_some, Nat.reduceBEq, true_or, or_true, false_or, or_false, Nat.reduceLT, Nat.reduceMod, Nat.reducePow, rmaps, nsucc, List.flatten_cons, List.flatten_nil, Nat.reduceEqDiff, Nat.reduceLeDiff, Nat.reduceAdd, Nat.reduceMul, Nat.reduceSub, ↓reduceIte, reduceCtorEq, decide_true, decide_false]
              refine ⟨_, by omega, k + 1, rfl, by omega, ?_, by rw [wrapS (by omega)]⟩
              rw [es, eb]
              refine hS.setBy (a := an) (by omega) (fun m hm => ?_) (fun j hj => by funext e; simp [hj]) (by show H'.next ≤ H'.next + 1; omega) rfl
              simp only [show ¬ m = H'.next by omega, if_false, true_and]
              rw [hnm]
            · have k2 : mk.kd = 2 := by rcases hmo.kd with h | h | h <;> omega
              have es : (fun a => silP (x.mv.take (k + 1)) a) = fun a => if a = an then silP (x.mv.take k) an ||| 2 ^ tn else silP (x.mv.take k) a := by
                funext a
                rw [hsS, k2, htn, han, Int.toNat_natCast]
                by_cases q : a = an
                · subst q; simp
                · rw [if_neg q, if_neg]
                  simp only [Bool.and_eq_true, decide_eq_true_eq, not_and]
                  intro h1 h2; exact q (by omega)
              have eb : (fun a e => byP x (x.mv.take (k + 1)) a e) = fun a e => byP x (x.mv.take k) a e := by
                funext a e
                rw [hsB, k2]; simp
              simp only [List.length_map, ltT hklt, inR hklt, Int.toNat_natCast, hgm, mvR, show (mk.kd == 0) = false from beq_eq_false_iff_ne.mpr k0, show (mk.kd == 1) = false from beq_eq_false_iff_ne.mpr k1, htn, han, show ((tn : Int) < 0) = False from by simp, hnx1, hnx2, ho1, ho0, inR hal, Nat.mul_one, Nat.zero_add, uvC_drop _ hal, shlN htl10, orU (hx.pw (silP_lt hx hsub an)) hp2, uvC_len, show (an + 1 ≤ nst x) = True from by simp only [eq_iff_iff, iff_true]; omega, uvC_set _ _ hal, f1, f3, f34, f35, f36, hds, Cd.cd71, Tk.t71, base0, base1, base2, base3, Option.isNone_none, Option.isNone_some, Nat.reduceBEq, true_or, or_true, false_or, or_false, Nat.reduceLT, Nat.reduceMod, Nat.reducePow, rmaps, nsucc, List.flatten_cons, List.flatten_nil, Nat.reduceEqDiff, Nat.reduceLeDiff, Nat.reduceAdd, Nat.reduceMul, Nat.reduceSub, ↓reduceIte, reduceCtorEq, decide_true, decide_false]
              refine ⟨_, by omega, k + 1, rfl, by omega, ?_, by rw [wrapS (by omega)]⟩
              rw [es, eb]
              refine hS.setSil (fun m hm => ?_) (by show H'.next ≤ H'.next + 1; omega) rfl
              simp only [show ¬ m = H'.next by omega, if_false]
        · have hk' : k = x.mv.length := by omega
          simp only [List.length_map, ltF hklt, f1, f3, f34, f35, f36, hds, Cd.cd71, Tk.t71, base0, base1, base2, base3, Option.isNone_none, Option.isNone_some, Nat.reduceBEq, true_or, or_true, false_or, or_false, Nat.reduceLT, Nat.reduceMod, Nat.reducePow, rmaps, nsucc, List.flatten_cons, List.flatten_nil, Nat.reduceEqDiff, Nat.reduceLeDiff, Nat.reduceAdd, Nat.reduceMul, Nat.reduceSub, ↓reduceIte, reduceCtorEq, decide_true, decide_false]
          rw [hk', List.take_length] at hS
          rcases hS.g with ⟨h0, _⟩ | ⟨t, t1, t2, rfl, t4⟩
          · rw [h0] at hlS; simp at hlS; omega
          exact ⟨_, _, rfl, viewSys hS (by omega), FZ.sysV x, rfl⟩
end Go.Proofs.YtchpcjmgifnmdaaDoor

/- Walks: traces and sets are checked; the states after a trace, what a set can show. -/
namespace Go.Proofs.YtchpcjmgifnmdaaDoor
open Go Go.Proofs.YtchpcjmgifnmdaaDoor.Ab
set_option maxRecDepth 100000
set_option linter.unusedSimpArgs false

theorem nil_view {H : AH} : View H nilS nilS := (FZ.v _).view
theorem FZ.nilS : FZ nilS := FZ.v _
def oddB (x : Re) (e : Int) : Bool := !within e 0 (IntKind.i64.wrap (x.inp + x.out))
theorem odd109 (x : Re) (e : Int) : FCall Tryd.prog 109 [.v (.int .i64 e), .box (reL x)] (· = .v (.bool (oddB x e))) := by
  simp only [reL, mvsV]
  refine ACall.enter [] Cd.fn109 (by simp) ?_
  simp only [Cd.cd109, Tk.t109, base0, base1, base2, base3, Option.isNone_none, Option.isNone_some, Nat.reduceBEq, true_or, or_true, false_or, or_false, Nat.reduceLT, Nat.reduceMod, Nat.reducePow, rmaps, nsucc, List.flatten_cons, List.flatten_nil, Nat.reduceEqDiff, Nat.reduceLeDiff, Nat.reduceAdd, Nat.reduceMul, Nat.reduceSub, ↓reduceIte, reduceCtorEq, decide_true, decide_false]
  first | refine FCall.go (spans66 _ _ _) (FZs.v3 _ _ _) ?_ | refine FCall.go' (spans66 _ _ _) (FZs.v3 _ _ _) ?_ | refine FCall.goQ (spans66 _ _ _) (FZs.v3 _ _ _) ?_
  simp only [Cd.cd109, Tk.t109, base0, base1, base2, base3, Option.isNone_none, Option.isNone_some, Nat.reduceBEq, true_or, or_true, false_or, or_false, Nat.reduceLT, Nat.reduceMod, Nat.reducePow, rmaps, nsucc, List.flatten_cons, List.flatten_nil, Nat.reduceEqDiff, Nat.reduceLeDiff, Nat.reduceAdd, Nat.reduceMul, Nat.reduceSub, ↓reduceIte, reduceCtorEq, decide_true, decide_false]
  exact fin_v rfl
def ixI (l : List Int) (p : Int → Bool) : Option Nat := firstIx l.length fun i => p (l.getD i 0)
theorem index123 (l : List Int) (fn : FuncId) (cs : List AV) (p : Int → Bool) (hb : l.length < 2 ^ 40) (hz : FZs cs) (hf : ∀ x, FCall Tryd.prog fn (.v (.int .i64 x) :: cs) (· = .v (.bool (p x)))) :
    FCall Tryd.prog 123 [ints l, .fn (.func fn) [] cs] (· = .v (.int .i64 (match ixI l p with | some i => (i : Int) | none => -1))) := by
  simp only [ints]
  refine ACall.enter [] Cd.fn123 (by simp) ?_
  simp only [List.length_map, Cd.cd123, Tk.t123, base0, base1, base2, base3, Option.isNone_none, Option.isNone_some, Nat.reduceBEq, true_or, or_true, false_or, or_false, Nat.reduceLT, Nat.reduceMod, Nat.reducePow, rmaps, nsucc, List.flatten_cons, List.flatten_nil, Nat.reduceEqDiff, Nat.reduceLeDiff, Nat.reduceAdd, Nat.reduceMul, Nat.reduceSub, ↓reduceIte, reduceCtorEq, decide_true, decide_false]
  refine LWP.loop [] (fun m f H' => ∃ i, m = l.length - i ∧ (i ≤ l.length) ∧ (∀ j, j < i → p (l.getD j 0) = false) ∧ f.t 0 = .lst 1 (l.map fun x => [.v (.int .i64 x)]) .unk ∧ f.t 1 = .fn (.func fn) [] cs ∧ f.t 7 = .v (.int .i64 (l.length : Nat)) ∧ f.t 8 = .v (.int .i64 (i : Nat)) ∧ f.ds = [] ∧ H' = AH.none) ?_ ?_ (m := l.length - (0))
  · exact ⟨0, rfl, (by omega), (fun j hj => by omega), rfl, rfl, rfl, rfl, rfl, rfl⟩
  · rintro m f H' ⟨i, rfl, hi, hok, f0, f1, f7, f8, hds, rfl⟩
    by_cases hlt : i < l.length
    · simp only [List.length_map, ltT hlt, inR hlt, Int.toNat_natCast, getD_ints l i hlt, f0, f1, f7, f8, hds, Cd.cd123, Tk.t123, base0, base1, base2, base3, Option.isNone_none, Option.isNone_some, Nat.reduceBEq, true_or, or_true, false_or, or_false, Nat.reduceLT, Nat.reduceMod, Nat.reducePow, rmaps, nsucc, List.flatten_cons, List.flatten_nil, Nat.reduceEqDiff, Nat.reduceLeDiff, Nat.reduceAdd, Nat.reduceMul, Nat.reduceSub, ↓reduceIte, reduceCtorEq, decide_true, decide_false]
      refine (hf (l.getD i 0)).go (FZs.cons (FZ.v _) hz) ?_
      cases hp : p (l.getD i 0)
      · simp only [f0, f1, f7, f8, hds, Cd.cd123, Tk.t123, base0, base1, base2, base3, Option.isNone_none, Option.isNone_some, Nat.reduceBEq, true_or, or_true, false_or, or_false, Nat.reduceLT, Nat.reduceMod, Nat.reducePow, rmaps, nsucc, List.flatten_cons, List.flatten_nil, Nat.reduceEqDiff, Nat.reduceLeDiff, Nat.reduceAdd, Nat.reduceMul, Nat.reduceSub, ↓reduceIte, reduceCtorEq, decide_true, decide_false]
        refine ⟨_, by omega, i + 1, rfl, by omega, ?_⟩
        (repeat' apply And.intro) <;> first | rfl | (rw [wrapS (by omega)]) | omega | assumption | (exact allS hok hp)
      · simp only [f0, f1, f7, f8, hds, Cd.cd123, Tk.t123, base0, base1, base2, base3, Option.isNone_none, Option.isNone_some, Nat.reduceBEq, true_or, or_true, false_or, or_false, Nat.reduceLT, Nat.reduceMod, Nat.reducePow, rmaps, nsucc, List.flatten_cons, List.flatten_nil, Nat.reduceEqDiff, Nat.reduceLeDiff, Nat.reduceAdd, Nat.reduceMul, Nat.reduceSub, ↓reduceIte, reduceCtorEq, decide_true, decide_false]
        refine fin_v ?_
        rw [show ixI l p = some i from firstIx_some hlt hp hok]
    · have hk' : i = l.length := by omega
      simp only [List.length_map, ltF hlt, f0, f1, f7, f8, hds, Cd.cd123, Tk.t123, base0, base1, base2, base3, Option.isNone_none, Option.isNone_some, Nat.reduceBEq, true_or, or_true, false_or, or_false, Nat.reduceLT, Nat.reduceMod, Nat.reducePow, rmaps, nsucc, List.flatten_cons, List.flatten_nil, Nat.reduceEqDiff, Nat.reduceLeDiff, Nat.reduceAdd, Nat.reduceMul, Nat.reduceSub, ↓reduceIte, reduceCtorEq, decide_true, decide_false]
      refine fin_v ?_
      rw [show ixI l p = none from firstIx_none (by rw [← hk']; exact hok)]
theorem ixI_any (l : List Int) (p : Int → Bool) : decide ((match ixI l p with | some i => (i : Int) | none => -1) ≥ 0) = l.any p := by
  unfold ixI
  cases h : firstIx l.length (fun i => p (l.getD i 0)) with
  | none =>
    rw [firstIx_none_iff] at h
    rw [List.any_eq_false.mpr]
    · rfl
    · intro x hx
      obtain ⟨i, hi, rfl⟩ := mem_getD hx
      have := h i hi
      show ¬ p (l.getD i 0) = true
      rw [this]; simp
  | some i =>
    have h1 := List.find?_some h
    have h2 := List.mem_of_find?_eq_some h
    have hi := List.mem_range.mp h2
    rw [List.any_eq_true.mpr ⟨_, getD_mem hi, h1⟩]
    simp
theorem contains110 (l : List Int) (fn : FuncId) (cs : List AV) (p : Int → Bool) (hb : l.length < 2 ^ 40) (hz : FZs cs) (hf : ∀ x, FCall Tryd.prog fn (.v (.int .i64 x) :: cs) (· = .v (.bool (p x)))) :
    FCall Tryd.prog 110 [ints l, .fn (.func fn) [] cs] (· = .v (.bool (l.any p))) := by
  refine ACall.enter [] Cd.fn110 (by simp) ?_
  simp only [Cd.cd110, Tk.t110, base0, base1, base2, base3, Option.isNone_none, Option.isNone_some, Nat.reduceBEq, true_or, or_true, false_or, or_false, Nat.reduceLT, Nat.reduceMod, Nat.reducePow, rmaps, nsucc, List.flatten_cons, List.flatten_nil, Nat.reduceEqDiff, Nat.reduceLeDiff, Nat.reduceAdd, Nat.reduceMul, Nat.reduceSub, ↓reduceIte, reduceCtorEq, decide_true, decide_false]
  refine (index123 l fn cs p hb hz hf).go (FZs.two (FZ.ints _) (FZ.fn FZs.nil hz)) ?_
  simp only [Cd.cd110, Tk.t110, base0, base1, base2, base3, Option.isNone_none, Option.isNone_some, Nat.reduceBEq, true_or, or_true, false_or, or_false, Nat.reduceLT, Nat.reduceMod, Nat.reducePow, rmaps, nsucc, List.flatten_cons, List.flatten_nil, Nat.reduceEqDiff, Nat.reduceLeDiff, Nat.reduceAdd, Nat.reduceMul, Nat.reduceSub, ↓reduceIte, reduceCtorEq, decide_true, decide_false]
  exact fin_v (by rw [← ixI_any])
def trErr (x : Re) (tr : List Int) : Int := if 40 < tr.length then 2 else if tr.any (oddB x) then 3 else 0
theorem traceErr77 (x : Re) (tr : List Int) : FCall Tryd.prog 77 [reV x, ints tr] (· = .v (.int .i64 (trErr x tr))) := by
  have hb : FZ (.box (reL x)) := FZ.box (FZs.reL x)
  have hbe : AV.box (reL x) = .box [.v (.int .i64 x.st), .v (.int .i64 x.s0), .v (.int .i64 x.inp), .v (.int .i64 x.out), .lst 4 (x.mv.map mvR) .unk] := rfl
  simp only [reV, reL, mvsV]
  refine ACall.enter [] Cd.fn77 (by simp) ?_
  by_cases hl : 40 < tr.length
  · simp only [ints, List.length_map, show decide (((tr.length : Nat) : Int) > 40) = true from decide_eq_true (by omega), Cd.cd77, Tk.t77, base0, base1, base2, base3, Option.isNone_none, Option.isNone_some, Nat.reduceBEq, true_or, or_true, false_or, or_false, Nat.reduceLT, Nat.reduceMod, Nat.reducePow, rmaps, nsucc, List.flatten_cons, List.flatten_nil, Nat.reduceEqDiff, Nat.reduceLeDiff, Nat.reduceAdd, Nat.reduceMul, Nat.reduceSub, ↓reduceIte, reduceCtorEq, decide_true, decide_false]
    exact fin_v (by rw [trErr, if_pos hl])
  · simp only [ints, List.length_map, show decide (((tr.length : Nat) : Int) > 40) = false from decide_eq_false (by omega), Cd.cd77, Tk.t77, base0, base1, base2, base3, Option.isNone_none, Option.isNone_some, Nat.reduceBEq, true_or, or_true, false_or, or_false, Nat.reduceLT, Nat.reduceMod, Nat.reducePow, rmaps, nsucc, List.flatten_cons, List.flatten_nil, Nat.reduceEqDiff, Nat.reduceLeDiff, Nat.reduceAdd, Nat.reduceMul, Nat.reduceSub, ↓reduceIte, reduceCtorEq, decide_true, decide_false]
    refine (contains110 tr 109 [.box (reL x)] (oddB x) (by omega) (FZs.one hb) (fun e => odd109 x e)).go (FZs.two (FZ.ints _) (FZ.fn FZs.nil (FZs.one hb))) ?_
    simp only [Cd.cd77, Tk.t77, base0, base1, base2, base3, Option.isNone_none, Option.isNone_some, Nat.reduceBEq, true_or, or_true, false_or, or_false, Nat.reduceLT, Nat.reduceMod, Nat.reducePow, rmaps, nsucc, List.flatten_cons, List.flatten_nil, Nat.reduceEqDiff, Nat.reduceLeDiff, Nat.reduceAdd, Nat.reduceMul, Nat.reduceSub, ↓reduceIte, reduceCtorEq, decide_true, decide_false]
    first | refine FCall.go (unless61 _ _) (FZs.v2 _ _) ?_ | refine FCall.go' (unless61 _ _) (FZs.v2 _ _) ?_ | refine FCall.goQ (unless61 _ _) (FZs.v2 _ _) ?_
    simp only [Cd.cd77, Tk.t77, base0, base1, base2, base3, Option.isNone_none, Option.isNone_some, Nat.reduceBEq, true_or, or_true, false_or, or_false, Nat.reduceLT, Nat.reduceMod, Nat.reducePow, rmaps, nsucc, List.flatten_cons, List.flatten_nil, Nat.reduceEqDiff, Nat.reduceLeDiff, Nat.reduceAdd, Nat.reduceMul, Nat.reduceSub, ↓reduceIte, reduceCtorEq, decide_true, decide_false]
    refine fin_v ?_
    rw [trErr, if_neg hl]
    cases tr.any (oddB x) <;> rfl
theorem trErr_ok {x : Re} (hx : Ok x) {tr : List Int} (h : trErr x tr = 0) : tr.length ≤ 40 ∧ ∀ e ∈ tr, 0 ≤ e ∧ e ≤ (silc x : Int) := by
  unfold trErr at h
  by_cases h1 : 40 < tr.length
  · rw [if_pos h1] at h; simp at h
  rw [if_neg h1] at h
  cases h2 : tr.any (oddB x)
  · refine ⟨by omega, fun e he => ?_⟩
    have := List.any_eq_false.mp h2 e he
    simp only [oddB, Bool.not_eq_true', Bool.not_eq_false, silc_eq hx] at this
    exact within_iff.mp this
  · rw [h2] at h; simp at h
def afterR (x : Re) (tr : List Int) : AV := if errR x ≠ 0 then .tup [nilS, .v (.int .i64 (errR x))] else if trErr x tr ≠ 0 then .tup [nilS, .v (.int .i64 (trErr x tr))] else .tup [setV (alongM x tr), .v (.int .i64 0)]
theorem afterTrace29 (x : Re) (tr : List Int) : FCall Tryd.prog 29 [reV x, ints tr] (· = afterR x tr) := by
  simp only [reV, reL, mvsV]
  refine ACall.enter [] Cd.fn29 (by simp) ?_
  simp only [Cd.cd29, Tk.t29, base0, base1, base2, base3, Option.isNone_none, Option.isNone_some, Nat.reduceBEq, true_or, or_true, false_or, or_false, Nat.reduceLT, Nat.reduceMod, Nat.reducePow, rmaps, nsucc, List.flatten_cons, List.flatten_nil, Nat.reduceEqDiff, Nat.reduceLeDiff, Nat.reduceAdd, Nat.reduceMul, Nat.reduceSub, ↓reduceIte, reduceCtorEq, decide_true, decide_false]
  first | refine FCall.go (sysErr70 x) (FZs.one (FZ.reV x)) ?_ | refine FCall.go' (sysErr70 x) (FZs.one (FZ.reV x)) ?_ | refine FCall.goQ (sysErr70 x) (FZs.one (FZ.reV x)) ?_
  by_cases h1 : errR x = 0
  · have hx := ok_of_check h1
    simp only [show (errR x != 0) = false from by rw [h1]; rfl, Cd.cd29, Tk.t29, base0, base1, base2, base3, Option.isNone_none, Option.isNone_some, Nat.reduceBEq, true_or, or_true, false_or, or_false, Nat.reduceLT, Nat.reduceMod, Nat.reducePow, rmaps, nsucc, List.flatten_cons, List.flatten_nil, Nat.reduceEqDiff, Nat.reduceLeDiff, Nat.reduceAdd, Nat.reduceMul, Nat.reduceSub, ↓reduceIte, reduceCtorEq, decide_true, decide_false]
    first | refine FCall.go (traceErr77 x tr) (FZs.two (FZ.reV x) (FZ.ints _)) ?_ | refine FCall.go' (traceErr77 x tr) (FZs.two (FZ.reV x) (FZ.ints _)) ?_ | refine FCall.goQ (traceErr77 x tr) (FZs.two (FZ.reV x) (FZ.ints _)) ?_
    by_cases h2 : trErr x tr = 0
    · obtain ⟨h3, h4⟩ := trErr_ok hx h2
      simp only [show (trErr x tr != 0) = false from by rw [h2]; rfl, Cd.cd29, Tk.t29, base0, base1, base2, base3, Option.isNone_none, Option.isNone_some, Nat.reduceBEq, true_or, or_true, false_or, or_false, Nat.reduceLT, Nat.reduceMod, Nat.reducePow, rmaps, nsucc, List.flatten_cons, List.flatten_nil, Nat.reduceEqDiff, Nat.reduceLeDiff, Nat.reduceAdd, Nat.reduceMul, Nat.reduceSub, ↓reduceIte, reduceCtorEq, decide_true, decide_false]
      first | refine FCall.go (system71 x hx) (FZs.one (FZ.reV x)) ?_ | refine FCall.go' (system71 x hx) (FZs.one (FZ.reV x)) ?_ | refine FCall.goQ (system71 x hx) (FZs.one (FZ.reV x)) ?_
      simp only [Cd.cd29, Tk.t29, base0, base1, base2, base3, Option.isNone_none, Option.isNone_some, Nat.reduceBEq, true_or, or_true, false_or, or_false, Nat.reduceLT, Nat.reduceMod, Nat.reducePow, rmaps, nsucc, List.flatten_cons, List.flatten_nil, Nat.reduceEqDiff, Nat.reduceLeDiff, Nat.reduceAdd, Nat.reduceMul, Nat.reduceSub, ↓reduceIte, reduceCtorEq, decide_true, decide_false]
      first | refine FCall.go (along78 x hx tr (by omega) (fun e he => (h4 e he).1)) (FZs.two (FZ.sysV x) (FZ.ints _)) ?_ | refine FCall.go' (along78 x hx tr (by omega) (fun e he => (h4 e he).1)) (FZs.two (FZ.sysV x) (FZ.ints _)) ?_ | refine FCall.goQ (along78 x hx tr (by omega) (fun e he => (h4 e he).1)) (FZs.two (FZ.sysV x) (FZ.ints _)) ?_
      simp only [Cd.cd29, Tk.t29, base0, base1, base2, base3, Option.isNone_none, Option.isNone_some, Nat.reduceBEq, true_or, or_true, false_or, or_false, Nat.reduceLT, Nat.reduceMod, Nat.reducePow, rmaps, nsucc, List.flatten_cons, List.flatten_nil, Nat.reduceEqDiff, Nat.reduceLeDiff, Nat.reduceAdd, Nat.reduceMul, Nat.reduceSub, ↓reduceIte, reduceCtorEq, decide_true, decide_false]
      first | refine FCall.go (states62 _ (hx.pw (along_lt hx tr))) (FZs.v1 _) ?_ | refine FCall.go' (states62 _ (hx.pw (along_lt hx tr))) (FZs.v1 _) ?_ | refine FCall.goQ (states62 _ (hx.pw (along_lt hx tr))) (FZs.v1 _) ?_
      simp only [Cd.cd29, Tk.t29, base0, base1, base2, base3, Option.isNone_none, Option.isNone_some, Nat.reduceBEq, true_or, or_true, false_or, or_false, Nat.reduceLT, Nat.reduceMod, Nat.reducePow, rmaps, nsucc, List.flatten_cons, List.flatten_nil, Nat.reduceEqDiff, Nat.reduceLeDiff, Nat.reduceAdd, Nat.reduceMul, Nat.reduceSub, ↓reduceIte, reduceCtorEq, decide_true, decide_false]
      refine ⟨_, _, rfl, Views.tup (Views.cons (FZ.setV _).view (Views.cons (FZ.v _).view Views.nil)), FZ.tup (FZs.two (FZ.setV _) (FZ.v _)), ?_⟩
      rw [afterR, if_neg (by simpa using h1), if_neg (by simpa using h2)]
    · simp only [bneT h2, Cd.cd29, Tk.t29, base0, base1, base2, base3, Option.isNone_none, Option.isNone_some, Nat.reduceBEq, true_or, or_true, false_or, or_false, Nat.reduceLT, Nat.reduceMod, Nat.reducePow, rmaps, nsucc, List.flatten_cons, List.flatten_nil, Nat.reduceEqDiff, Nat.reduceLeDiff, Nat.reduceAdd, Nat.reduceMul, Nat.reduceSub, ↓reduceIte, reduceCtorEq, decide_true, decide_false]
      refine ⟨_, _, rfl, Views.tup (Views.cons nil_view (Views.cons (FZ.v _).view Views.nil)), FZ.tup (FZs.two FZ.nilS (FZ.v _)), ?_⟩
      rw [afterR, if_neg (by simpa using h1), if_pos h2]
  · simp only [bneT h1, Cd.cd29, Tk.t29, base0, base1, base2, base3, Option.isNone_none, Option.isNone_some, Nat.reduceBEq, true_or, or_true, false_or, or_false, Nat.reduceLT, Nat.reduceMod, Nat.reducePow, rmaps, nsucc, List.flatten_cons, List.flatten_nil, Nat.reduceEqDiff, Nat.reduceLeDiff, Nat.reduceAdd, Nat.reduceMul, Nat.reduceSub, ↓reduceIte, reduceCtorEq, decide_true, decide_false]
    refine ⟨_, _, rfl, Views.tup (Views.cons nil_view (Views.cons (FZ.v _).view Views.nil)), FZ.tup (FZs.two FZ.nilS (FZ.v _)), ?_⟩
    rw [afterR, if_pos h1]
end Go.Proofs.YtchpcjmgifnmdaaDoor

/- Pairs of sets as keys of a map. -/
namespace Go.Proofs.YtchpcjmgifnmdaaDoor
open Go Go.Proofs.YtchpcjmgifnmdaaDoor.Ab
set_option maxRecDepth 100000
set_option linter.unusedSimpArgs false

theorem kt107' : Tryd.prog.keyType 107 = true := by kernel_rfl
theorem tl107 : Tryd.prog.tiled 5 107 = true := by kernel_rfl
theorem kta107 : Tryd.prog.keyTypeAt 5 107 = true := by kernel_rfl
theorem wd107 : (match Tryd.prog.underlying 107 with | some (.array _ _) | some (.struct _) => true | _ => false) = true := by kernel_rfl
theorem law107 : WideMaps.KeyLaw Tryd.prog 107 := deep_law (m := 5) (by omega) kta107 tl107 wd107
def keyV (a b : Nat) : Value := .agg #[.int .u64 (a : Int), .int .u64 (b : Int)]
theorem cl107 : Tryd.prog.cellsOf 107 = 2 := by kernel_rfl
theorem cl105 : Tryd.prog.cellsOf 105 = 1 := by kernel_rfl
theorem ts : ∃ n, Tryd.prog.types.size = n + 1 := ⟨Tryd.prog.types.size - 1, by kernel_rfl⟩
theorem und107 : ∃ f g : Field, Tryd.prog.underlying 107 = some (.struct #[f, g]) ∧ f.type = 105 ∧ g.type = 105 ∧ f.offset = 0 ∧ g.offset = 1 ∧ (f.name != "_") = true ∧ (g.name != "_") = true := ⟨_, _, Tryd.underlying107, rfl, rfl, rfl, rfl, rfl, rfl⟩
theorem und105 : Tryd.prog.underlying 105 = some (.int .u64) := by rw [Tryd.underlying105]
theorem lits105 (n a : Nat) (ha : a < 1024) : Tryd.prog.keyLits (n + 1) 105 [.int .u64 (a : Int)] = some [.int .u64 (a : Int)] := by
  unfold Program.keyLits
  simp only [und105, true_and]
  rw [if_pos]
  simp only [Lit.wf, Bool.and_eq_true, decide_eq_true_eq]
  have h1 : IntKind.u64.min = 0 := by decide
  have h2 : IntKind.u64.max = 18446744073709551615 := by decide
  rw [h1, h2]; omega
theorem key_some (a b : Nat) (ha : a < 1024) (hb : b < 1024) : (keyOf Tryd.prog 107 (keyV a b)).isSome = true := by
  obtain ⟨f, g, hu, h1, h2, h3, h4, h5, h6⟩ := und107
  obtain ⟨n, hn⟩ := ts
  have hf : (keyV a b).formed Tryd.prog 107 = true := by
    unfold keyV Value.formed
    rw [hu, cl107]; rfl
  have hl : Tryd.prog.keyLits (Tryd.prog.types.size + 1) 107 (keyV a b).cells.toList = some [.int .u64 (a : Int), .int .u64 (b : Int)] := by
    unfold Program.keyLits
    simp only [hu, hn, keyV, Value.cells, List.length_cons, List.length_nil, cl107, cl105, h1, h2, h3, h4, h5, h6, Array.all_eq_true_iff_forall_mem, List.mapM_cons, List.mapM_nil, List.drop_zero, List.drop_succ_cons, List.take_succ_cons, List.take_zero, lits105 n a ha, lits105 n b hb, Option.pure_def, Option.bind_eq_bind, Option.bind_some]
    simp [bne_iff_ne.mp h5, bne_iff_ne.mp h6]
  unfold keyOf
  rw [hu]
  simp only [kt107', hf, Bool.and_self, if_true, hl, Option.map_some, Option.isSome_some]
theorem mt101 : mapT Tryd.prog 101 = some (107, 4) := by unfold mapT; rw [Tryd.underlying101]
theorem zv4 : zvA Tryd.prog 4 = some (.bool false) := by kernel_rfl
end Go.Proofs.YtchpcjmgifnmdaaDoor

/- Walks: two systems compared: the pairs that are met. -/
namespace Go.Proofs.YtchpcjmgifnmdaaDoor
open Go Go.Proofs.YtchpcjmgifnmdaaDoor.Ab
set_option maxRecDepth 100000
set_option linter.unusedSimpArgs false

def enP (p : Nd) : List AV := [.v (.int .u64 (p.x : Nat)), .v (.int .u64 (p.y : Nat))]
theorem FZs.enP (p : Nd) : FZs (enP p) := FZs.v2 _ _
def entM (p : Nd) : Value × AV := (keyV p.x p.y, .v (.bool true))
theorem keyV_inj {a b c d : Nat} (h : keyV a b = keyV c d) : a = c ∧ b = d := by
  unfold keyV at h
  simp only [Value.agg.injEq, Array.mk.injEq, List.cons.injEq, Value.int.injEq, true_and, and_true] at h
  omega
theorem find_ent (a b : Nat) : ∀ l : List Nd, findM (keyV a b) (l.map entM) = if metN l a b then some (.v (.bool true)) else none
  | [] => rfl
  | p :: l => by
    rw [List.map_cons, findM, find_ent a b l]
    unfold metN entM
    rw [List.any_cons]
    by_cases h : p.x = a ∧ p.y = b
    · obtain ⟨rfl, rfl⟩ := h
      rw [if_pos rfl]; simp
    · rw [if_neg fun e => h (keyV_inj e)]
      have : (decide (p.x = a) && decide (p.y = b)) = false := by
        simp only [Bool.and_eq_false_iff, decide_eq_false_iff_not]
        by_cases h1 : p.x = a
        · exact .inr fun h2 => h ⟨h1, h2⟩
        · exact .inl h1
      rw [this, Bool.false_or]
theorem map_ok {x y : Re} (hx : Ok x) (hy : Ok y) {l : List Nd} (h : GoodN x y l) {a b : Nat} (ha : a < 1024) (hb : b < 1024) : MapOk Tryd.prog 107 (keyV a b) (l.map entM) := by
  refine ⟨law107, key_some a b ha hb, fun p hp => ?_, ?_⟩
  · obtain ⟨q, hq, rfl⟩ := List.mem_map.mp hp
    have := h.lt q hq
    exact key_some _ _ (hx.pw this.1) (hy.pw this.2)
  · rw [List.map_map]
    have := h.nd
    rw [List.Nodup, List.pairwise_map] at this ⊢
    refine this.imp fun {p q} hne he => hne ?_
    have := keyV_inj he
    rw [this.1, this.2]
theorem rawKP (a b : Int) : rawK (.agg [.v (.int .u64 a), .v (.int .u64 b)]) = some (.agg #[.int .u64 a, .int .u64 b]) := rfl
/-- the three lists, as they grow -/
def Grow3 (H : AH) (aP aF aB : AV) (l : List Nd) (fr bys : List Int) : Prop :=
  (l = [] ∧ fr = [] ∧ bys = [] ∧ aP = nilS ∧ aF = nilS ∧ aB = nilS) ∨
  ∃ tp tf tb, (tp < H.next ∧ tf < H.next ∧ tb < H.next) ∧ (tp ≠ tf ∧ tp ≠ tb ∧ tf ≠ tb) ∧ aP = .lst 2 (l.map enP) (.live tp) ∧ aF = .lst 1 (fr.map intR) (.live tf) ∧ aB = .lst 1 (bys.map intR) (.live tb) ∧
    H.tip tp = some l.length ∧ H.tip tf = some fr.length ∧ H.tip tb = some bys.length
/-- two systems compared, as the program keeps it: in block r, its map m -/
structure CmpO (x y : Re) (H : AH) (r m : Nat) (aP aF aB : AV) (l : List Nd) (fr bys : List Int) : Prop where
  o : H.own r = some (.cells [sysV x, sysV y, aP, aF, aB, .map m])
  mp : H.own m = some (.map (l.map entM))
  g : Grow3 H aP aF aB l fr bys
  rm : r ≠ m ∧ r < H.next ∧ m < H.next
theorem Grow3.tips {H H' : AH} {aP aF aB : AV} {l : List Nd} {fr bys : List Int} (h : Grow3 H aP aF aB l fr bys) (hn : H.next ≤ H'.next) (ht : ∀ t, t < H.next → H'.tip t = H.tip t) : Grow3 H' aP aF aB l fr bys := by
  rcases h with h | ⟨tp, tf, tb, ⟨h1, h2, h3⟩, h4, h5, h6, h7, h8, h9, h10⟩
  · exact .inl h
  · exact .inr ⟨tp, tf, tb, ⟨by omega, by omega, by omega⟩, h4, h5, h6, h7, by rw [ht _ h1]; exact h8, by rw [ht _ h2]; exact h9, by rw [ht _ h3]; exact h10⟩
set_option maxHeartbeats 4000000 in
theorem add101 (x y : Re) (hx : Ok x) (hy : Ok y) (H : AH) (r m : Nat) (aP aF aB : AV) (l : List Nd) (fr bys : List Int) (hC : CmpO x y H r m aP aF aB l fr bys) (hG : GoodN x y l) (hf : fr.length = l.length) (hb : bys.length = l.length) (a b : Nat) (ha : a < 1024) (hbb : b < 1024) (i e : Int) (tr : List Int) :
    ACall Tryd.prog 101 [.ptr r 0, .agg [.v (.int .u64 (a : Nat)), .v (.int .u64 (b : Nat))], .v (.int .i64 i), .v (.int .i64 e)] H (fun out H' => out = .ret (.tup []) ∧ (∃ aP' aF' aB', if metN l a b then CmpO x y H' r m aP' aF' aB' l fr bys else CmpO x y H' r m aP' aF' aB' (l ++ [⟨a, b, tr⟩]) (fr ++ [i]) (bys ++ [e])) ∧ H.next ≤ H'.next ∧ ∀ n, n < H.next → n ≠ r → n ≠ m → H'.own n = H.own n) := by
  have ho := hC.o
  have hm := hC.mp
  have hlen := hG.len hx hy
  have hok := map_ok hx hy hG ha hbb
  have hfi := find_ent a b l
  obtain ⟨hrm, hrn, hmn⟩ := hC.rm
  have hmr : (r = m) = False := by simp; exact hrm
  have hmr' : (m = r) = False := by simp; exact fun h => hrm h.symm
  unfold keyV at hok hfi
  refine ACall.enter [] Cd.fn101 (by simp) ?_
  cases hmet : metN l a b
  · rw [hmet] at hfi
    have hput : putM (Value.agg #[.int .u64 (a : Int), .int .u64 (b : Int)]) (.v (.bool true)) (l.map entM) = (l ++ [(⟨a, b, tr⟩ : Nd)]).map entM := by unfold putM; rw [hfi, List.map_append]; rfl
    rcases hC.g with ⟨rfl, rfl, rfl, rfl, rfl, rfl⟩ | ⟨tp, tf, tb, ⟨h1, h2, h3⟩, ⟨h4, h5, h6⟩, rfl, rfl, rfl, h8, h9, h10⟩
    · simp only [List.map_nil, List.nil_append] at hok hfi hput
      simp only [List.map_nil] at hm
      have n1 : (H.next + 1 = H.next) = False := by simp
      simp only [nilS, ho, hm, rawKP, mt101, zv4, hok, hfi, Option.getD_none, hput, hmr, hmr', show roomA 16 1 = true from rfl, show roomA 8 1 = true from rfl, implies_true, Cd.cd101, Tk.t101, base0, base1, base2, base3, Option.isNone_none, Option.isNone_some, Nat.reduceBEq, true_or, or_true, false_or, or_false, Nat.reduceLT, Nat.reduceMod, Nat.reducePow, rmaps, nsucc, List.flatten_cons, List.flatten_nil, Nat.reduceEqDiff, Nat.reduceLeDiff, Nat.reduceAdd, Nat.reduceMul, Nat.reduceSub, ↓reduceIte, reduceCtorEq, decide_true, decide_false]
      refine ⟨⟨.lst 2 ([(⟨a, b, tr⟩ : Nd)].map enP) (.live H.next), .lst 1 ([i].map intR) (.live (H.next + 1)), .lst 1 ([e].map intR) (.live (H.next + 1 + 1)), ⟨by simp [enP, intR], by simp [show ¬ m = r by simpa using hmr'], .inr ⟨H.next, H.next + 1, H.next + 1 + 1, ⟨by show H.next < H.next + 1 + 1 + 1; omega, by show H.next + 1 < H.next + 1 + 1 + 1; omega, by show H.next + 1 + 1 < H.next + 1 + 1 + 1; omega⟩, ⟨by omega, by omega, by omega⟩, rfl, rfl, rfl, by simp, by simp, by simp⟩, hrm, by show r < H.next + 1 + 1 + 1; omega, by show m < H.next + 1 + 1 + 1; omega⟩⟩, by show H.next ≤ H.next + 1 + 1 + 1; omega, fun n hn h1 h2 => by simp [h1, h2]⟩
    · have e1 : (tf = tp) = False := by simp; omega
      have e2 : (tb = tp) = False := by simp; omega
      have e3 : (tb = tf) = False := by simp; omega
      have e4 : (tp = tf) = False := by simp; omega
      have e5 : (tp = tb) = False := by simp; omega
      have e6 : (tf = tb) = False := by simp; omega
      simp only [ho, hm, rawKP, mt101, zv4, hok, hfi, Option.getD_none, hput, hmr, hmr', h8, h9, h10, List.length_map, hf, hb, room_of (by_ := 16) (n := l.length + 1) (by omega) (by omega), room_of (by_ := 8) (n := l.length + 1) (by omega) (by omega), e1, e2, e3, e4, e5, e6, implies_true, Cd.cd101, Tk.t101, base0, base1, base2, base3, Option.isNone_none, Option.isNone_some, Nat.reduceBEq, true_or, or_true, false_or, or_false, Nat.reduceLT, Nat.reduceMod, Nat.reducePow, rmaps, nsucc, List.flatten_cons, List.flatten_nil, Nat.reduceEqDiff, Nat.reduceLeDiff, Nat.reduceAdd, Nat.reduceMul, Nat.reduceSub, ↓reduceIte, reduceCtorEq, decide_true, decide_false]
      refine ⟨⟨.lst 2 ((l ++ [(⟨a, b, tr⟩ : Nd)]).map enP) (.live tp), .lst 1 ((fr ++ [i]).map intR) (.live tf), .lst 1 ((bys ++ [e]).map intR) (.live tb), ⟨by simp [enP, intR], by simp [show ¬ m = r by simpa using hmr'], .inr ⟨tp, tf, tb, ⟨h1, h2, h3⟩, ⟨by omega, by omega, by omega⟩, rfl, rfl, rfl, by simp [e4, e5], by simp [hf, e6], by simp [hb]⟩, hrm, hrn, hmn⟩⟩, by simp, fun n hn h1 h2 => by simp [h1, h2]⟩
  · rw [hmet] at hfi
    simp only [ho, hm, rawKP, mt101, zv4, hok, hfi, Option.getD_some, Cd.cd101, Tk.t101, base0, base1, base2, base3, Option.isNone_none, Option.isNone_some, Nat.reduceBEq, true_or, or_true, false_or, or_false, Nat.reduceLT, Nat.reduceMod, Nat.reducePow, rmaps, nsucc, List.flatten_cons, List.flatten_nil, Nat.reduceEqDiff, Nat.reduceLeDiff, Nat.reduceAdd, Nat.reduceMul, Nat.reduceSub, ↓reduceIte, reduceCtorEq, decide_true, decide_false]
    exact ⟨⟨aP, aF, aB, hC⟩, Nat.le_refl _, fun _ _ _ _ => trivial⟩
end Go.Proofs.YtchpcjmgifnmdaaDoor

/- Walks: two systems compared. -/
namespace Go.Proofs.YtchpcjmgifnmdaaDoor
open Go Go.Proofs.YtchpcjmgifnmdaaDoor.Ab
set_option maxRecDepth 100000
set_option linter.unusedSimpArgs false

theorem ACall.thn {P : Program} {m : FuncId} {args : List AV} {H : AH} {Q : AOut → AH → Prop} {mu : List Nat} {Kt : Kont} {dst : Option Nat} {os : List COp} {f : AF} (h : ACall P m args H Q) (h' : ∀ out H', Q out H' → ∃ v, out = .ret v ∧ cops P mu Kt os (f.put dst v) H') : ACall P m args H (callK P mu Kt dst os f) :=
  h.mono fun out H' hq => by
    obtain ⟨v, rfl, h1⟩ := h' out H' hq
    exact h1
theorem ACall.thn' {P : Program} {m : FuncId} {args : List AV} {H : AH} {Q : AOut → AH → Prop} {mu : List Nat} {Kt : Kont} {fm : AF} {dst : Option Nat} {ds : List DOp} {f : AF} {pd : List (Nat × Nat × ABlk)} {rd : List Nat} (h : ACall P m args H Q) (h' : ∀ out H', Q out H' → ∃ v, out = .ret v ∧ dops P mu Kt fm ds (f.put dst v) H' pd rd) : ACall P m args H (dcallK P mu Kt fm dst ds f pd rd) :=
  h.mono fun out H' hq => by
    obtain ⟨v, rfl, h1⟩ := h' out H' hq
    exact h1
theorem failsAt_lt {x y : Re} {a b e : Nat} (h : e < x.inp.toNat) : failsAt x y a b e = false := by
  unfold failsAt shw
  rw [decide_eq_false (by omega)]; rfl
def failsV (o : Option Nat) : AV := match o with
  | some e => .tup [.v (.int .i64 (e : Nat)), .v (.bool true)]
  | none => .tup [.v (.int .i64 0), .v (.bool false)]
theorem fails87 (x y : Re) (hx : Ok x) (hy : Ok y) (H : AH) (r m : Nat) (aP aF aB : AV) (l : List Nd) (fr bys : List Int) (hC : CmpO x y H r m aP aF aB l fr bys) (a b : Nat) (ha : a < 2 ^ nst x) (hb : b < 2 ^ nst y) :
    ACall Tryd.prog 87 [.ptr r 0, .agg [.v (.int .u64 (a : Nat)), .v (.int .u64 (b : Nat))]] H (fun out H' => out = .ret (failsV (failsN x y a b)) ∧ H' = H) := by
  have ho := hC.o
  have hinp := hx.inp
  have hsc := silc_le hx
  refine ACall.enter [] Cd.fn87 (by simp) ?_
  simp only [ho, box_eq, boxV, Cd.cd87, Tk.t87, base0, base1, base2, base3, Option.isNone_none, Option.isNone_some, Nat.reduceBEq, true_or, or_true, false_or, or_false, Nat.reduceLT, Nat.reduceMod, Nat.reducePow, rmaps, nsucc, List.flatten_cons, List.flatten_nil, Nat.reduceEqDiff, Nat.reduceLeDiff, Nat.reduceAdd, Nat.reduceMul, Nat.reduceSub, ↓reduceIte, reduceCtorEq, decide_true, decide_false]
  refine LWP.loop [] (fun m f H' => ∃ e, m = silc x + 1 - e ∧ (x.inp.toNat ≤ e ∧ e ≤ silc x + 1) ∧ (∀ j, j < e → failsAt x y a b j = false) ∧ f.t 0 = .ptr r 0 ∧ f.t 3 = .box [.v (.int .u64 (a : Nat)), .v (.int .u64 (b : Nat))] ∧ f.t 6 = .v (.int .i64 (e : Nat)) ∧ f.ds = [] ∧ H' = H) ?_ ?_ (m := silc x + 1 - (x.inp.toNat))
  · exact ⟨x.inp.toNat, rfl, (by omega), (fun j hj => failsAt_lt hj), rfl, rfl, by simp [upd]; omega, rfl, rfl⟩
  · rintro m f H' ⟨e, rfl, hi, hz, f0, f3, f6, hds, rfl⟩
    simp only [ho, f0, f3, f6, hds, Cd.cd87, Tk.t87, base0, base1, base2, base3, Option.isNone_none, Option.isNone_some, Nat.reduceBEq, true_or, or_true, false_or, or_false, Nat.reduceLT, Nat.reduceMod, Nat.reducePow, rmaps, nsucc, List.flatten_cons, List.flatten_nil, Nat.reduceEqDiff, Nat.reduceLeDiff, Nat.reduceAdd, Nat.reduceMul, Nat.reduceSub, ↓reduceIte, reduceCtorEq, decide_true, decide_false]
    first | refine FCall.go (silence73 x hx) (FZs.one (FZ.sysV x)) ?_ | refine FCall.go' (silence73 x hx) (FZs.one (FZ.sysV x)) ?_ | refine FCall.goQ (silence73 x hx) (FZs.one (FZ.sysV x)) ?_
    by_cases hlt : e ≤ silc x
    · simp only [ho, show decide (((e : Nat) : Int) ≤ ((silc x : Nat) : Int)) = true from decide_eq_true (by omega), f0, f3, f6, hds, Cd.cd87, Tk.t87, base0, base1, base2, base3, Option.isNone_none, Option.isNone_some, Nat.reduceBEq, true_or, or_true, false_or, or_false, Nat.reduceLT, Nat.reduceMod, Nat.reducePow, rmaps, nsucc, List.flatten_cons, List.flatten_nil, Nat.reduceEqDiff, Nat.reduceLeDiff, Nat.reduceAdd, Nat.reduceMul, Nat.reduceSub, ↓reduceIte, reduceCtorEq, decide_true, decide_false]
      first | refine FCall.go (shows80 x hx a e ha) (FZs.three (FZ.sysV x) (FZ.v _) (FZ.v _)) ?_ | refine FCall.go' (shows80 x hx a e ha) (FZs.three (FZ.sysV x) (FZ.v _) (FZ.v _)) ?_ | refine FCall.goQ (shows80 x hx a e ha) (FZs.three (FZ.sysV x) (FZ.v _) (FZ.v _)) ?_
      cases h1 : shw x a e
      · simp only [ho, f0, f3, f6, hds, Cd.cd87, Tk.t87, base0, base1, base2, base3, Option.isNone_none, Option.isNone_some, Nat.reduceBEq, true_or, or_true, false_or, or_false, Nat.reduceLT, Nat.reduceMod, Nat.reducePow, rmaps, nsucc, List.flatten_cons, List.flatten_nil, Nat.reduceEqDiff, Nat.reduceLeDiff, Nat.reduceAdd, Nat.reduceMul, Nat.reduceSub, ↓reduceIte, reduceCtorEq, decide_true, decide_false]
        exact ⟨_, by omega, e + 1, rfl, by omega, allS hz (by unfold failsAt; rw [h1]; rfl), by rw [wrapS (by omega)]⟩
      · simp only [ho, f0, f3, f6, hds, Cd.cd87, Tk.t87, base0, base1, base2, base3, Option.isNone_none, Option.isNone_some, Nat.reduceBEq, true_or, or_true, false_or, or_false, Nat.reduceLT, Nat.reduceMod, Nat.reducePow, rmaps, nsucc, List.flatten_cons, List.flatten_nil, Nat.reduceEqDiff, Nat.reduceLeDiff, Nat.reduceAdd, Nat.reduceMul, Nat.reduceSub, ↓reduceIte, reduceCtorEq, decide_true, decide_false]
        first | refine FCall.go (shows80 y hy b e hb) (FZs.three (FZ.sysV y) (FZ.v _) (FZ.v _)) ?_ | refine FCall.go' (shows80 y hy b e hb) (FZs.three (FZ.sysV y) (FZ.v _) (FZ.v _)) ?_ | refine FCall.goQ (shows80 y hy b e hb) (FZs.three (FZ.sysV y) (FZ.v _) (FZ.v _)) ?_
        cases h2 : shw y b e
        · simp only [ho, f0, f3, f6, hds, Cd.cd87, Tk.t87, base0, base1, base2, base3, Option.isNone_none, Option.isNone_some, Nat.reduceBEq, true_or, or_true, false_or, or_false, Nat.reduceLT, Nat.reduceMod, Nat.reducePow, rmaps, nsucc, List.flatten_cons, List.flatten_nil, Nat.reduceEqDiff, Nat.reduceLeDiff, Nat.reduceAdd, Nat.reduceMul, Nat.reduceSub, ↓reduceIte, reduceCtorEq, decide_true, decide_false]
          rw [show failsN x y a b = some e from firstIx_some (by omega) (by unfold failsAt; rw [h1, h2]; rfl) hz]; rfl
        · simp only [ho, f0, f3, f6, hds, Cd.cd87, Tk.t87, base0, base1, base2, base3, Option.isNone_none, Option.isNone_some, Nat.reduceBEq, true_or, or_true, false_or, or_false, Nat.reduceLT, Nat.reduceMod, Nat.reducePow, rmaps, nsucc, List.flatten_cons, List.flatten_nil, Nat.reduceEqDiff, Nat.reduceLeDiff, Nat.reduceAdd, Nat.reduceMul, Nat.reduceSub, ↓reduceIte, reduceCtorEq, decide_true, decide_false]
          exact ⟨_, by omega, e + 1, rfl, by omega, allS hz (by unfold failsAt; rw [h1, h2]; rfl), by rw [wrapS (by omega)]⟩
    · have he : e = silc x + 1 := by omega
      simp only [show decide (((e : Nat) : Int) ≤ ((silc x : Nat) : Int)) = false from decide_eq_false (by omega), f0, f3, f6, hds, Cd.cd87, Tk.t87, base0, base1, base2, base3, Option.isNone_none, Option.isNone_some, Nat.reduceBEq, true_or, or_true, false_or, or_false, Nat.reduceLT, Nat.reduceMod, Nat.reducePow, rmaps, nsucc, List.flatten_cons, List.flatten_nil, Nat.reduceEqDiff, Nat.reduceLeDiff, Nat.reduceAdd, Nat.reduceMul, Nat.reduceSub, ↓reduceIte, reduceCtorEq, decide_true, decide_false]
      rw [show failsN x y a b = none from firstIx_none (by rw [← he]; exact hz)]; rfl
set_option maxHeartbeats 2000000 in
theorem compare59 (x y : Re) (hx : Ok x) (hy : Ok y) (H : AH) : ACall Tryd.prog 59 [reV x, reV y] H (fun out H' => ∃ r m aP aF aB, out = .ret (.ptr r 0) ∧ CmpO x y H' r m aP aF aB [nd0 x y] [-1] [-1] ∧ H.next ≤ H'.next ∧ H.next ≤ r ∧ H.next ≤ m ∧ ∀ n, n < H.next → H'.own n = H.own n) := by
  simp only [reV, reL, mvsV]
  refine ACall.enter [12] Cd.fn59 (by simp) ?_
  simp only [Cd.cd59, Tk.t59, base0, base1, base2, base3, Option.isNone_none, Option.isNone_some, Nat.reduceBEq, true_or, or_true, false_or, or_false, Nat.reduceLT, Nat.reduceMod, Nat.reducePow, rmaps, nsucc, List.flatten_cons, List.flatten_nil, Nat.reduceEqDiff, Nat.reduceLeDiff, Nat.reduceAdd, Nat.reduceMul, Nat.reduceSub, ↓reduceIte, reduceCtorEq, decide_true, decide_false]
  first | refine FCall.go (system71 x hx) (FZs.one (FZ.reV x)) ?_ | refine FCall.go' (system71 x hx) (FZs.one (FZ.reV x)) ?_ | refine FCall.goQ (system71 x hx) (FZs.one (FZ.reV x)) ?_
  simp only [Cd.cd59, Tk.t59, base0, base1, base2, base3, Option.isNone_none, Option.isNone_some, Nat.reduceBEq, true_or, or_true, false_or, or_false, Nat.reduceLT, Nat.reduceMod, Nat.reducePow, rmaps, nsucc, List.flatten_cons, List.flatten_nil, Nat.reduceEqDiff, Nat.reduceLeDiff, Nat.reduceAdd, Nat.reduceMul, Nat.reduceSub, ↓reduceIte, reduceCtorEq, decide_true, decide_false]
  first | refine FCall.go (system71 y hy) (FZs.one (FZ.reV y)) ?_ | refine FCall.go' (system71 y hy) (FZs.one (FZ.reV y)) ?_ | refine FCall.goQ (system71 y hy) (FZs.one (FZ.reV y)) ?_
  simp only [sysV, Cd.cd59, Tk.t59, base0, base1, base2, base3, Option.isNone_none, Option.isNone_some, Nat.reduceBEq, true_or, or_true, false_or, or_false, Nat.reduceLT, Nat.reduceMod, Nat.reducePow, rmaps, nsucc, List.flatten_cons, List.flatten_nil, Nat.reduceEqDiff, Nat.reduceLeDiff, Nat.reduceAdd, Nat.reduceMul, Nat.reduceSub, ↓reduceIte, reduceCtorEq, decide_true, decide_false]
  first | refine FCall.go (first72 x hx) (FZs.one (FZ.sysV x)) ?_ | refine FCall.go' (first72 x hx) (FZs.one (FZ.sysV x)) ?_ | refine FCall.goQ (first72 x hx) (FZs.one (FZ.sysV x)) ?_
  simp only [sysV, Cd.cd59, Tk.t59, base0, base1, base2, base3, Option.isNone_none, Option.isNone_some, Nat.reduceBEq, true_or, or_true, false_or, or_false, Nat.reduceLT, Nat.reduceMod, Nat.reducePow, rmaps, nsucc, List.flatten_cons, List.flatten_nil, Nat.reduceEqDiff, Nat.reduceLeDiff, Nat.reduceAdd, Nat.reduceMul, Nat.reduceSub, ↓reduceIte, reduceCtorEq, decide_true, decide_false]
  first | refine FCall.go (first72 y hy) (FZs.one (FZ.sysV y)) ?_ | refine FCall.go' (first72 y hy) (FZs.one (FZ.sysV y)) ?_ | refine FCall.goQ (first72 y hy) (FZs.one (FZ.sysV y)) ?_
  simp only [sysV, uv, Cd.cd59, Tk.t59, base0, base1, base2, base3, Option.isNone_none, Option.isNone_some, Nat.reduceBEq, true_or, or_true, false_or, or_false, Nat.reduceLT, Nat.reduceMod, Nat.reducePow, rmaps, nsucc, List.flatten_cons, List.flatten_nil, Nat.reduceEqDiff, Nat.reduceLeDiff, Nat.reduceAdd, Nat.reduceMul, Nat.reduceSub, ↓reduceIte, reduceCtorEq, decide_true, decide_false]
  refine ACall.thn' (add101 x y hx hy _ (H.next + 1) H.next nilS nilS nilS [] [] [] ⟨by simp [sysV, nilS], by simp, .inl ⟨rfl, rfl, rfl, rfl, rfl, rfl⟩, by omega, by show H.next + 1 < H.next + 1 + 1; omega, by show H.next < H.next + 1 + 1; omega⟩ ⟨fun p hp => by simp at hp, by simp⟩ rfl rfl (fstM x) (fstM y) (hx.pw (fst_lt hx)) (hy.pw (fst_lt hy)) (-1) (-1) []) fun out H2 hq => ?_
  obtain ⟨rfl, ⟨aP, aF, aB, h2⟩, h3, h4⟩ := hq
  refine ⟨_, rfl, ?_⟩
  simp only [Cd.cd59, Tk.t59, base0, base1, base2, base3, Option.isNone_none, Option.isNone_some, Nat.reduceBEq, true_or, or_true, false_or, or_false, Nat.reduceLT, Nat.reduceMod, Nat.reducePow, rmaps, nsucc, List.flatten_cons, List.flatten_nil, Nat.reduceEqDiff, Nat.reduceLeDiff, Nat.reduceAdd, Nat.reduceMul, Nat.reduceSub, ↓reduceIte, reduceCtorEq, decide_true, decide_false]
  refine ⟨H.next + 1, H.next, aP, aF, aB, rfl, h2, by have : H.next + 1 + 1 ≤ H2.next := h3; omega, by omega, by omega, fun n hn => ?_⟩
  rw [h4 n (by show n < H.next + 1 + 1; omega) (by omega) (by omega)]
  simp [show ¬ n = H.next by omega, show ¬ n = H.next + 1 by omega]
def ivC (k : Nat) (f : Nat → Int) : List AV := (List.range k).map fun e => .v (.int .i64 (f e))
theorem ivC_len (k : Nat) (f : Nat → Int) : (ivC k f).length = k := by simp [ivC]
theorem ivC_drop {k s : Nat} (f : Nat → Int) (h : s < k) : (List.drop s (ivC k f))[0]? = some (.v (.int .i64 (f s))) := by
  rw [List.getElem?_drop, Nat.add_zero]
  unfold ivC
  rw [List.getElem?_map, List.getElem?_range h]; rfl
theorem ivC_set {k s : Nat} (f : Nat → Int) (v : Int) (h : s < k) : List.take s (ivC k f) ++ AV.v (.int .i64 v) :: List.drop (s + 1) (ivC k f) = ivC k fun e => if e = s then v else f e := by
  apply List.ext_getElem?
  intro i
  have hl : (List.take s (ivC k f)).length = s := by rw [List.length_take, ivC_len]; omega
  by_cases h1 : i < s
  · rw [List.getElem?_append_left (by omega), List.getElem?_take_of_lt h1]
    unfold ivC
    rw [List.getElem?_map, List.getElem?_map, List.getElem?_range (by omega)]
    simp [show ¬ i = s by omega]
  · rw [List.getElem?_append_right (by omega), hl]
    by_cases h2 : i = s
    · subst h2
      rw [Nat.sub_self]
      unfold ivC
      rw [List.getElem?_map, List.getElem?_range h]; simp
    · obtain ⟨d, hd⟩ : ∃ d, i - s = d + 1 := ⟨i - s - 1, by omega⟩
      rw [hd, List.getElem?_cons_succ, List.getElem?_drop, show s + 1 + d = i by omega]
      unfold ivC
      rw [List.getElem?_map, List.getElem?_map]
      by_cases h3 : i < k
      · rw [List.getElem?_range h3]; simp [h2]
      · rw [List.getElem?_eq_none (by simp; omega)]; rfl
theorem ivC_list (l : List Int) : l.map (fun x => AV.v (.int .i64 x)) = ivC l.length fun k => l.getD k 0 := by
  apply List.ext_getElem?
  intro i
  unfold ivC
  rw [List.getElem?_map, List.getElem?_map]
  by_cases h : i < l.length
  · rw [List.getElem?_range h, List.getElem?_eq_getElem h]
    simp [List.getD_eq_getElem?_getD, List.getElem?_eq_getElem h]
  · rw [List.getElem?_eq_none (by omega), List.getElem?_eq_none (by simp; omega)]; rfl
def revF (l : List Int) (i k : Nat) : Int := if k < i ∨ l.length - i ≤ k then l.getD (l.length - 1 - k) 0 else l.getD k 0
theorem revF_step (l : List Int) {i : Nat} (h : 2 * i + 1 < l.length) (k : Nat) (hk : k < l.length) : (if k = l.length - 1 - i then revF l i i else if k = i then revF l i (l.length - 1 - i) else revF l i k) = revF l (i + 1) k := by
  unfold revF
  by_cases h1 : k = l.length - 1 - i
  · subst h1
    rw [if_pos rfl, if_neg (by omega), if_pos (by omega)]
    congr 1; omega
  · rw [if_neg h1]
    by_cases h2 : k = i
    · subst h2
      rw [if_pos rfl, if_neg (by omega), if_pos (by omega)]
    · rw [if_neg h2]
      by_cases h3 : k < i ∨ l.length - i ≤ k
      · rw [if_pos h3, if_pos (by omega)]
      · rw [if_neg h3, if_neg (by omega)]
theorem ivC_congr {k : Nat} {f g : Nat → Int} (h : ∀ i, i < k → f i = g i) : ivC k f = ivC k g := by
  unfold ivC
  apply List.map_congr_left
  intro i hi
  rw [h i (List.mem_range.mp hi)]
theorem revF_end (l : List Int) {i : Nat} (h : l.length ≤ 2 * i + 1) (hi : 2 * i ≤ l.length) : ivC l.length (revF l i) = l.reverse.map fun x => AV.v (.int .i64 x) := by
  rw [ivC_list, List.length_reverse]
  apply ivC_congr
  intro k hk
  unfold revF
  rw [List.getD_eq_getElem?_getD (l := l.reverse), List.getElem?_reverse hk, ← List.getD_eq_getElem?_getD]
  by_cases h1 : k < i ∨ l.length - i ≤ k
  · rw [if_pos h1]
  · rw [if_neg h1]
    congr 1; omega
set_option maxHeartbeats 2000000 in
theorem reverse102 (l : List Int) (H : AH) (n : Nat) (hl : 0 < l.length) (hb : l.length < 2 ^ 40) (ho : H.own n = some (.cells (l.map fun x => .v (.int .i64 x)))) :
    ACall Tryd.prog 102 [.sl 1 n 0 l.length] H (fun out H' => out = .ret (.tup []) ∧ H'.own n = some (.cells (l.reverse.map fun x => .v (.int .i64 x))) ∧ H'.next = H.next ∧ H'.tip = H.tip ∧ ∀ k, k ≠ n → H'.own k = H.own k) := by
  rw [ivC_list] at ho
  have hw : IntKind.i64.wrap ((l.length : Int) - 1) = ((l.length - 1 : Nat) : Int) := by rw [wrapI (by omega) (by omega)]; omega
  refine ACall.enter [] Cd.fn102 (by simp) ?_
  simp only [hw, Cd.cd102, Tk.t102, base0, base1, base2, base3, Option.isNone_none, Option.isNone_some, Nat.reduceBEq, true_or, or_true, false_or, or_false, Nat.reduceLT, Nat.reduceMod, Nat.reducePow, rmaps, nsucc, List.flatten_cons, List.flatten_nil, Nat.reduceEqDiff, Nat.reduceLeDiff, Nat.reduceAdd, Nat.reduceMul, Nat.reduceSub, ↓reduceIte, reduceCtorEq, decide_true, decide_false]
  refine LWP.loop [] (fun m f H' => ∃ i, m = l.length - i ∧ (2 * i ≤ l.length) ∧ f.t 0 = .sl 1 n 0 l.length ∧ f.t 2 = .v (.int .i64 (i : Nat)) ∧ f.t 3 = .v (.int .i64 ((l.length : Int) - 1 - (i : Int))) ∧ f.ds = [] ∧ (H'.own n = some (.cells (ivC l.length (revF l i))) ∧ H'.next = H.next ∧ H'.tip = H.tip ∧ ∀ k, k ≠ n → H'.own k = H.own k)) ?_ ?_ (m := l.length - (0))
  · exact ⟨0, rfl, (by omega), rfl, rfl, by simp [upd]; omega, rfl, ⟨by rw [ho]; congr 2; apply ivC_congr; intro k hk; unfold revF; rw [if_neg (by omega)], rfl, rfl, fun _ _ => rfl⟩⟩
  · rintro m f H' ⟨i, rfl, hi, f0, f2, f3, hds, hH⟩
    obtain ⟨hH, h1, h2, h3⟩ := hH
    by_cases hlt : 2 * i + 1 < l.length
    · have hj : ((l.length : Int) - 1 - (i : Int)) = ((l.length - 1 - i : Nat) : Int) := by omega
      have hil : i < l.length := by omega
      have hjl : l.length - 1 - i < l.length := by omega
      have hst := revF_step l hlt
      simp only [hj, show decide (((i : Nat) : Int) < ((l.length - 1 - i : Nat) : Int)) = true from decide_eq_true (by omega), inR hil, inR hjl, Int.toNat_natCast, Nat.mul_one, Nat.zero_add, hH, ivC_drop _ hil, ivC_drop _ hjl, ivC_len, show (i + 1 ≤ l.length) = True from by simp only [eq_iff_iff, iff_true]; omega, show (l.length - 1 - i + 1 ≤ l.length) = True from by simp only [eq_iff_iff, iff_true]; omega, ivC_set _ _ hil, ivC_set _ _ hjl, f0, f2, f3, hds, Cd.cd102, Tk.t102, base0, base1, base2, base3, Option.isNone_none, Option.isNone_some, Nat.reduceBEq, true_or, or_true, false_or, or_false, Nat.reduceLT, Nat.reduceMod, Nat.reducePow, rmaps, nsucc, List.flatten_cons, List.flatten_nil, Nat.reduceEqDiff, Nat.reduceLeDiff, Nat.reduceAdd, Nat.reduceMul, Nat.reduceSub, ↓reduceIte, reduceCtorEq, decide_true, decide_false]
      refine ⟨_, by omega, i + 1, rfl, by omega, by rw [wrapS (by omega)], ?_, ?_, h1, h2, fun k hk => ?_⟩
      · rw [wrapI (by omega) (by omega), show ((l.length - 1 - i : Nat) : Int) - 1 = (l.length : Int) - 1 - ((i + 1 : Nat) : Int) by omega]
      · congr 2
        apply ivC_congr
        intro k hk
        exact hst k hk
      · simp only [hk, if_false]; exact h3 k hk
    · simp only [show decide (((i : Nat) : Int) < ((l.length : Int) - 1 - (i : Int))) = false from decide_eq_false (by omega), f0, f2, f3, hds, Cd.cd102, Tk.t102, base0, base1, base2, base3, Option.isNone_none, Option.isNone_some, Nat.reduceBEq, true_or, or_true, false_or, or_false, Nat.reduceLT, Nat.reduceMod, Nat.reducePow, rmaps, nsucc, List.flatten_cons, List.flatten_nil, Nat.reduceEqDiff, Nat.reduceLeDiff, Nat.reduceAdd, Nat.reduceMul, Nat.reduceSub, ↓reduceIte, reduceCtorEq, decide_true, decide_false]
      trace_state
      exact ⟨by rw [hH, revF_end l (by omega) (by omega)], h1, h2, h3⟩
end Go.Proofs.YtchpcjmgifnmdaaDoor

/- Walks: all pairs are met. -/
namespace Go.Proofs.YtchpcjmgifnmdaaDoor
open Go Go.Proofs.YtchpcjmgifnmdaaDoor.Ab
set_option maxRecDepth 100000
set_option linter.unusedSimpArgs false
set_option pp.deepTerms true
set_option pp.maxSteps 100000

theorem CmpO.same {x y : Re} {H H' : AH} {r m : Nat} {aP aF aB : AV} {l : List Nd} {fr bys : List Int} (h : CmpO x y H r m aP aF aB l fr bys) (hn : H.next ≤ H'.next) (hr : H'.own r = H.own r) (hm : H'.own m = H.own m) (ht : ∀ t, t < H.next → H'.tip t = H.tip t) : CmpO x y H' r m aP aF aB l fr bys :=
  ⟨hr.trans h.o, hm.trans h.mp, h.g.tips hn ht, h.rm.1, Nat.lt_of_lt_of_le h.rm.2.1 hn, Nat.lt_of_lt_of_le h.rm.2.2 hn⟩
theorem CmpO.live {x y : Re} {H : AH} {r m : Nat} {aP aF aB : AV} {l : List Nd} {fr bys : List Int} (h : CmpO x y H r m aP aF aB l fr bys) (h0 : 0 < l.length) : ∃ tp tf tb, aP = .lst 2 (l.map enP) (.live tp) ∧ aF = .lst 1 (fr.map intR) (.live tf) ∧ aB = .lst 1 (bys.map intR) (.live tb) := by
  rcases h.g with ⟨rfl, _⟩ | ⟨tp, tf, tb, _, _, h5, h6, h7, _⟩
  · simp at h0
  · exact ⟨tp, tf, tb, h5, h6, h7⟩
theorem viewI {H : AH} {n : Nat} {l : List Int} (h : H.own n = some (.cells (l.map fun x => .v (.int .i64 x)))) : View H (.sl 1 n 0 l.length) (ints l) := by
  refine View.sl h (by simp) (by simp) (fun i hi => by rw [getD_ints l i hi]; rfl) fun i j hi hj => ?_
  have hj0 : j = 0 := by omega
  subst hj0
  rw [getD_ints l i hi]
  have : (l.map fun x => AV.v (.int .i64 x)).getD (0 + i * 1 + 0) .any = .v (.int .i64 (l.getD i 0)) := by
    rw [List.getD_eq_getElem?_getD, List.getElem?_map, show 0 + i * 1 + 0 = i by omega, List.getElem?_eq_getElem hi, List.getD_eq_getElem?_getD, List.getElem?_eq_getElem hi]; rfl
  rw [this]
  exact (FZ.v _).view
def ivL (l : List Int) : List AV := l.map fun x => .v (.int .i64 x)
def runV (o : Option (List Int)) : AV := match o with
  | some tr => .tup [ints tr, .v (.bool true)]
  | none => .tup [nilS, .v (.bool false)]
def RunP (x y : Re) (H : AH) (r m : Nat) (l0 : List Nd) (out : AOut) (H' : AH) : Prop :=
  ∃ o l, SrchR x y l0 0 (o, l) ∧ out = .ret (runV o) ∧ (∃ t aF aB, H'.own r = some (.cells [sysV x, sysV y, .lst 2 (l.map enP) (.live t), aF, aB, .map m])) ∧ H.next ≤ H'.next ∧ ∀ n, n < H.next → n ≠ r → n ≠ m → H'.own n = H.own n
set_option maxHeartbeats 8000000 in
theorem run60 (x y : Re) (hx : Ok x) (hy : Ok y) (hio : silc y = silc x) (H : AH) (r mq : Nat) (aP aF aB : AV) (l0 : List Nd) (fr0 by0 : List Int) (hC : CmpO x y H r mq aP aF aB l0 fr0 by0) (hG : GoodN x y l0) (hM : Came l0 fr0 by0) :
    ACall Tryd.prog 60 [.ptr r 0] H (RunP x y H r mq l0) := by
  have hsc := silc_le hx
  refine ACall.freeze H.next ?_
  refine ACall.enter [36, 62] Cd.fn60 (by simp) ?_
  simp only [Cd.cd60, Tk.t60, base0, base1, base2, base3, Option.isNone_none, Option.isNone_some, Nat.reduceBEq, true_or, or_true, false_or, or_false, Nat.reduceLT, Nat.reduceMod, Nat.reducePow, rmaps, nsucc, List.flatten_cons, List.flatten_nil, Nat.reduceEqDiff, Nat.reduceLeDiff, Nat.reduceAdd, Nat.reduceMul, Nat.reduceSub, ↓reduceIte, reduceCtorEq, decide_true, decide_false]
  refine LWP.loop [36, 62] (fun m f H' => ∃ i l fr bys aP aF aB, m = 1048577 - i ∧ (i ≤ l.length) ∧ (CmpO x y H' r mq aP aF aB l fr bys) ∧ (GoodN x y l) ∧ (Came l fr bys) ∧ (∀ res, SrchR x y l i res → SrchR x y l0 0 res) ∧ f.t 0 = .ptr r 0 ∧ f.t 4 = .v (.int .i64 (i : Nat)) ∧ f.ds = [] ∧ (H.next ≤ H'.next ∧ r < H.next ∧ mq < H.next ∧ ∀ n, n < H.next → n ≠ r → n ≠ mq → H'.own n = H.own n)) ?_ ?_ (m := 1048577 - (0))
  · exact ⟨0, l0, fr0, by0, aP, aF, aB, rfl, (by omega), (hC), (hG), (hM), (fun _ h => h), rfl, rfl, rfl, ⟨Nat.le_refl _, hC.rm.2.1, hC.rm.2.2, fun _ _ _ _ => rfl⟩⟩
  · rintro m f H' ⟨i, l, fr, bys, aP, aF, aB, rfl, hi, hC, hG, hM, hS, f0, f4, hds, hk⟩
    obtain ⟨hk1, hkr, hkm, hk2⟩ := hk
    have ho := hC.o
    have hlen := hG.len hx hy
    obtain ⟨tp, tf, tb, rfl, rfl, rfl⟩ := hC.live hM.h0
    by_cases hlt : i < l.length
    · have hp := hG.lt _ (getD_mem hlt)
      have hgp := getD_map enP l i hlt
      have hrn : (r = H'.next) = False := by simp; omega
      have hmn : (mq = H'.next) = False := by simp; omega
      generalize hpe : l.getD i default = p at hp hgp
      simp only [ho, List.length_map, ltT hlt, inR hlt, Int.toNat_natCast, hgp, enP, hrn, f0, f4, hds, Cd.cd60, Tk.t60, base0, base1, base2, base3, Option.isNone_none, Option.isNone_some, Nat.reduceBEq, true_or, or_true, false_or, or_false, Nat.reduceLT, Nat.reduceMod, Nat.reducePow, rmaps, nsucc, List.flatten_cons, List.flatten_nil, Nat.reduceEqDiff, Nat.reduceLeDiff, Nat.reduceAdd, Nat.reduceMul, Nat.reduceSub, ↓reduceIte, reduceCtorEq, decide_true, decide_false]
      have hC1 : CmpO x y { next := H'.next + 1, own := fun m => if m = H'.next then some (.cells [AV.v (.int .u64 (p.x : Nat)), AV.v (.int .u64 (p.y : Nat))]) else if m = H'.next then some (.cells [AV.v (.int .u64 0), AV.v (.int .u64 0)]) else H'.own m, tip := H'.tip } r mq (.lst 2 (l.map enP) (.live tp)) (.lst 1 (fr.map intR) (.live tf)) (.lst 1 (bys.map intR) (.live tb)) l fr bys :=
        hC.same (by show H'.next ≤ H'.next + 1; omega) (by simp only [hrn, if_false]) (by simp only [hmn, if_false]) fun _ _ => rfl
      refine ACall.thn (fails87 x y hx hy _ r mq _ _ _ l fr bys hC1 p.x p.y hp.1 hp.2) fun out H2 hq => ?_
      obtain ⟨rfl, rfl⟩ := hq
      refine ⟨_, rfl, ?_⟩
      cases hf : failsN x y p.x p.y with
      | some e =>
        simp only [failsV, f0, f4, hds, Cd.cd60, Tk.t60, base0, base1, base2, base3, Option.isNone_none, Option.isNone_some, Nat.reduceBEq, true_or, or_true, false_or, or_false, Nat.reduceLT, Nat.reduceMod, Nat.reducePow, rmaps, nsucc, List.flatten_cons, List.flatten_nil, Nat.reduceEqDiff, Nat.reduceLeDiff, Nat.reduceAdd, Nat.reduceMul, Nat.reduceSub, ↓reduceIte, reduceCtorEq, decide_true, decide_false]
        have hHn : H.next ≤ H'.next + 1 := by omega
        refine LWP.loop [36, 62] (fun m f H' => ∃ k ol nm, m = 2 * k ∧ (k < l.length) ∧ (k ≤ i) ∧ (p.tr ++ [(e : Int)] = (l.getD k default).tr ++ List.reverse (ol : List Int)) ∧ (0 < List.length (ol : List Int) ∧ List.length (ol : List Int) + k ≤ i + 1) ∧ (H.next ≤ nm) ∧ f.t 0 = .ptr r 0 ∧ f.t 8 = .sl 1 nm 0 (List.length (ol : List Int)) ∧ f.t 9 = .v (.int .i64 (k : Nat)) ∧ f.ds = [] ∧ (nm < H'.next ∧ H.next ≤ H'.next ∧ H'.own nm = some (.cells (ivL ol)) ∧ H'.own r = some (.cells [sysV x, sysV y, .lst 2 (l.map enP) (.live tp), .lst 1 (fr.map intR) (.live tf), .lst 1 (bys.map intR) (.live tb), .map mq]) ∧ ∀ n, n < H.next → n ≠ r → n ≠ mq → H'.own n = H.own n)) ?_ ?_ (m := 2 * (i))
        · exact ⟨i, [(e : Int)], H'.next + 1, rfl, (hlt), (Nat.le_refl _), (by rw [hpe]; rfl), (⟨by simp, by simp; omega⟩), (hHn), (by first | rfl | exact f0), (by first | rfl | exact f8), (by first | rfl | exact f9), rfl, ⟨by simp, by simp; omega, by simp [ivL], by simp [show ¬ r = H'.next by omega, show ¬ r = H'.next + 1 by omega]; exact ho, fun n h1 h2 h3 => by simp [show ¬ n = H'.next by omega, show ¬ n = H'.next + 1 by omega]; exact hk2 n h1 h2 h3⟩⟩
        · rintro m f H' ⟨k, ol, nm, rfl, hkl, hki, htr, hol, hnm, f0, f8, f9, hds, hk3⟩
          obtain ⟨hk3, hk4, hk5, hk6, hk7⟩ := hk3
          have hkf : k < fr.length := by rw [hM.f]; exact hkl
          have hkb : k < bys.length := by rw [hM.b]; exact hkl
          have hgf := getD_map intR fr k hkf
          have hgb := getD_map intR bys k hkb
          have hrnm : (r = nm) = False := by simp; omega
          have hrn1 : (r = H'.next) = False := by simp; omega
          by_cases hk0 : k = 0
          · subst hk0
            have hz := hM.z
            have hz1 : fr.getD 0 default = -1 := hz.1
            rw [hz.2, List.nil_append] at htr
            have hrev := reverse102 ol H' nm hol.1 (by omega) hk5
            simp only [hk6, List.length_map, inR hkf, Int.toNat_natCast, hgf, intR, hz1, f0, f8, f9, hds, Cd.cd60, Tk.t60, base0, base1, base2, base3, Option.isNone_none, Option.isNone_some, Nat.reduceBEq, true_or, or_true, false_or, or_false, Nat.reduceLT, Nat.reduceMod, Nat.reducePow, rmaps, nsucc, List.flatten_cons, List.flatten_nil, Nat.reduceEqDiff, Nat.reduceLeDiff, Nat.reduceAdd, Nat.reduceMul, Nat.reduceSub, ↓reduceIte, reduceCtorEq, decide_true, decide_false]
            refine ACall.thn hrev fun out H2 hq => ?_
            obtain ⟨rfl, h1, h2, h3, h4⟩ := hq
            refine ⟨_, rfl, ?_⟩
            simp only [f0, f8, f9, hds, Cd.cd60, Tk.t60, base0, base1, base2, base3, Option.isNone_none, Option.isNone_some, Nat.reduceBEq, true_or, or_true, false_or, or_false, Nat.reduceLT, Nat.reduceMod, Nat.reducePow, rmaps, nsucc, List.flatten_cons, List.flatten_nil, Nat.reduceEqDiff, Nat.reduceLeDiff, Nat.reduceAdd, Nat.reduceMul, Nat.reduceSub, ↓reduceIte, reduceCtorEq, decide_true, decide_false]
            have hv : View (H2.above H.next) (.sl 1 nm 0 ol.length) (ints ol.reverse) := by
              have := viewI (H := H2.above H.next) (n := nm) (l := ol.reverse) ((above_own hnm).trans h1)
              rwa [List.length_reverse] at this
            refine Frz.ret (v' := .tup [ints ol.reverse, .v (.bool true)]) (Views.tup (Views.cons hv (Views.cons (FZ.v _).view Views.nil))) (FZ.tup (FZs.two (FZ.ints _) (FZ.v _))) ?_
            have hfl := SrchR.fail (x := x) (y := y) hlt (e := e) (by rw [hpe]; exact hf)
            rw [hpe, htr] at hfl
            exact ⟨some ol.reverse, l, hS _ hfl, rfl, ⟨tp, _, _, (below_own hkr).trans ((h4 r (by simpa using hrnm)).trans hk6)⟩, by show H.next ≤ H2.next; omega, fun n h5 h6 h7 => (below_own h5).trans ((h4 n (by omega)).trans (hk7 n h5 h6 h7))⟩
          · obtain ⟨j, hj1, hj2, hj3⟩ := hM.s k (by omega) hkl
            have hj1' : fr.getD k default = (j : Int) := hj1
            have hr8 : roomA 8 (ol.length + 1) = true := room_of (by omega) (by omega)
            simp only [hk6, List.length_map, inR hkf, inR hkb, Int.toNat_natCast, hgf, hgb, intR, hj1', show (((j : Nat) : Int) != -1) = true from by simp, hk5, hr8, hrnm, hrn1, Nat.mul_one, show (ol.length ≤ (ivL ol).length) = True from by simp [ivL], show List.take ol.length (ivL ol) = ivL ol from by rw [show ol.length = (ivL ol).length from by simp [ivL], List.take_length], f0, f8, f9, hds, Cd.cd60, Tk.t60, base0, base1, base2, base3, Option.isNone_none, Option.isNone_some, Nat.reduceBEq, true_or, or_true, false_or, or_false, Nat.reduceLT, Nat.reduceMod, Nat.reducePow, rmaps, nsucc, List.flatten_cons, List.flatten_nil, Nat.reduceEqDiff, Nat.reduceLeDiff, Nat.reduceAdd, Nat.reduceMul, Nat.reduceSub, ↓reduceIte, reduceCtorEq, decide_true, decide_false]
            have hnn : (H'.next = nm) = False := by simp; omega
            refine ⟨_, by omega, j, ol ++ [bys.getD k 0], H'.next, rfl, by omega, by omega, ?_, ⟨by simp, by simp; omega⟩, hk4, by simp, rfl, by omega, by omega, ?_, fun n h1 h2 h3 => ?_⟩
            · rw [htr, hj3, List.reverse_append, List.append_assoc]; rfl
            · simp only [hnn, if_false, if_true, ivL, List.map_append]; rfl
            · simp only [show ¬ n = nm by omega, show ¬ n = H'.next by omega, if_false]
              exact hk7 n h1 h2 h3
      | none =>
        simp only [failsV, ho, hrn, f0, f4, hds, Cd.cd60, Tk.t60, base0, base1, base2, base3, Option.isNone_none, Option.isNone_some, Nat.reduceBEq, true_or, or_true, false_or, or_false, Nat.reduceLT, Nat.reduceMod, Nat.reducePow, rmaps, nsucc, List.flatten_cons, List.flatten_nil, Nat.reduceEqDiff, Nat.reduceLeDiff, Nat.reduceAdd, Nat.reduceMul, Nat.reduceSub, ↓reduceIte, reduceCtorEq, decide_true, decide_false]
        first | refine FCall.go (silence73 x hx) (FZs.one (FZ.sysV x)) ?_ | refine FCall.go' (silence73 x hx) (FZs.one (FZ.sysV x)) ?_ | refine FCall.goQ (silence73 x hx) (FZs.one (FZ.sysV x)) ?_
        have hw9 : IntKind.i64.wrap (((silc x : Nat) : Int) + 1) = ((silc x + 1 : Nat) : Int) := wrapS (by omega)
        simp only [hw9, f0, f4, hds, Cd.cd60, Tk.t60, base0, base1, base2, base3, Option.isNone_none, Option.isNone_some, Nat.reduceBEq, true_or, or_true, false_or, or_false, Nat.reduceLT, Nat.reduceMod, Nat.reducePow, rmaps, nsucc, List.flatten_cons, List.flatten_nil, Nat.reduceEqDiff, Nat.reduceLeDiff, Nat.reduceAdd, Nat.reduceMul, Nat.reduceSub, ↓reduceIte, reduceCtorEq, decide_true, decide_false]
        generalize hnx : H'.next = n5 at *
        refine LWP.loop [36, 62] (fun m f H' => ∃ e l2 fr2 by2 aP aF aB, m = silc x + 1 - e ∧ (e ≤ silc x + 1) ∧ (l2 = extN x y p l e) ∧ (CmpO x y H' r mq aP aF aB l2 fr2 by2) ∧ (GoodN x y l2) ∧ (Came l2 fr2 by2) ∧ f.t 0 = .ptr r 0 ∧ f.t 4 = .v (.int .i64 (i : Nat)) ∧ f.t 5 = .ptr n5 0 ∧ f.t 71 = .v (.int .i64 ((silc x + 1 : Nat) : Int)) ∧ f.t 72 = .v (.int .i64 (e : Nat)) ∧ f.ds = [] ∧ (n5 < H'.next ∧ H'.own n5 = some (.cells [AV.v (.int .u64 (p.x : Nat)), AV.v (.int .u64 (p.y : Nat))]) ∧ ∀ n, n < H.next → n ≠ r → n ≠ mq → H'.own n = H.own n)) ?_ ?_ (m := silc x + 1 - (0))
        · exact ⟨0, l, fr, bys, _, _, _, rfl, (by omega), (rfl), (hC1), (hG), (hM), (by first | rfl | exact f0), (by first | rfl | exact f4), (by first | rfl | exact f5), (by first | rfl | exact f71), (by first | rfl | exact f72), rfl, ⟨by simp, by simp, fun n h1 h2 h3 => by simp only [show ¬ n = n5 by omega, if_false]; exact hk2 n h1 h2 h3⟩⟩
        · rintro m f H' ⟨e, l2, fr2, by2, aP, aF, aB, rfl, he, hl2, hC2, hG2, hM2, f0, f4, f5, f71, f72, hds, hk3⟩
          obtain ⟨hk3, hk4, hk5⟩ := hk3
          have ho2 := hC2.o
          have hn5r : n5 ≠ r := by omega
          have hn5m : n5 ≠ mq := by omega
          by_cases hle : e < silc x + 1
          · simp only [ltT hle, ho2, hk4, f0, f4, f5, f71, f72, hds, Cd.cd60, Tk.t60, base0, base1, base2, base3, Option.isNone_none, Option.isNone_some, Nat.reduceBEq, true_or, or_true, false_or, or_false, Nat.reduceLT, Nat.reduceMod, Nat.reducePow, rmaps, nsucc, List.flatten_cons, List.flatten_nil, Nat.reduceEqDiff, Nat.reduceLeDiff, Nat.reduceAdd, Nat.reduceMul, Nat.reduceSub, ↓reduceIte, reduceCtorEq, decide_true, decide_false]
            first | refine FCall.go (after74 y hy p.y e hp.2) (FZs.three (FZ.sysV y) (FZ.v _) (FZ.v _)) ?_ | refine FCall.go' (after74 y hy p.y e hp.2) (FZs.three (FZ.sysV y) (FZ.v _) (FZ.v _)) ?_ | refine FCall.goQ (after74 y hy p.y e hp.2) (FZs.three (FZ.sysV y) (FZ.v _) (FZ.v _)) ?_
            have hex : extN x y p l (e + 1) = extE x y p l2 e := by rw [extN_succ, hl2]
            by_cases hz : aft y p.y e = 0
            · simp only [uv, neU0, show decide (aft y p.y e ≠ 0) = false from decide_eq_false (by simpa using hz), f0, f4, f5, f71, f72, hds, Cd.cd60, Tk.t60, base0, base1, base2, base3, Option.isNone_none, Option.isNone_some, Nat.reduceBEq, true_or, or_true, false_or, or_false, Nat.reduceLT, Nat.reduceMod, Nat.reducePow, rmaps, nsucc, List.flatten_cons, List.flatten_nil, Nat.reduceEqDiff, Nat.reduceLeDiff, Nat.reduceAdd, Nat.reduceMul, Nat.reduceSub, ↓reduceIte, reduceCtorEq, decide_true, decide_false]
              exact ⟨_, by omega, e + 1, l2, fr2, by2, aP, aF, aB, rfl, by omega, by rw [hex, extE, if_pos hz], hC2, hG2, hM2, by rw [wrapS (by omega)], hk3, hk4, hk5⟩
            · simp only [uv, neU0, decide_eq_true hz, ho2, hk4, f0, f4, f5, f71, f72, hds, Cd.cd60, Tk.t60, base0, base1, base2, base3, Option.isNone_none, Option.isNone_some, Nat.reduceBEq, true_or, or_true, false_or, or_false, Nat.reduceLT, Nat.reduceMod, Nat.reducePow, rmaps, nsucc, List.flatten_cons, List.flatten_nil, Nat.reduceEqDiff, Nat.reduceLeDiff, Nat.reduceAdd, Nat.reduceMul, Nat.reduceSub, ↓reduceIte, reduceCtorEq, decide_true, decide_false]
              first | refine FCall.go (after74 x hx p.x e hp.1) (FZs.three (FZ.sysV x) (FZ.v _) (FZ.v _)) ?_ | refine FCall.go' (after74 x hx p.x e hp.1) (FZs.three (FZ.sysV x) (FZ.v _) (FZ.v _)) ?_ | refine FCall.goQ (after74 x hx p.x e hp.1) (FZs.three (FZ.sysV x) (FZ.v _) (FZ.v _)) ?_
              simp only [uv, f0, f4, f5, f71, f72, hds, Cd.cd60, Tk.t60, base0, base1, base2, base3, Option.isNone_none, Option.isNone_some, Nat.reduceBEq, true_or, or_true, false_or, or_false, Nat.reduceLT, Nat.reduceMod, Nat.reducePow, rmaps, nsucc, List.flatten_cons, List.flatten_nil, Nat.reduceEqDiff, Nat.reduceLeDiff, Nat.reduceAdd, Nat.reduceMul, Nat.reduceSub, ↓reduceIte, reduceCtorEq, decide_true, decide_false]
              refine ACall.thn' (add101 x y hx hy H' r mq aP aF aB l2 fr2 by2 hC2 hG2 hM2.f hM2.b (aft x p.x e) (aft y p.y e) (hx.pw (aft_lt hx hp.1 e)) (hy.pw (aft_lt hy hp.2 e)) (i : Int) (e : Int) (p.tr ++ [(e : Int)])) fun out H2 hq => ?_
              obtain ⟨rfl, ⟨aP2, aF2, aB2, hif⟩, h3, h4⟩ := hq
              refine ⟨_, rfl, ?_⟩
              have hG3 := hG2.extE hx hy hp.1 hp.2 e
              have hkk : n5 < H2.next ∧ H2.own n5 = some (.cells [AV.v (.int .u64 (p.x : Nat)), AV.v (.int .u64 (p.y : Nat))]) ∧ ∀ n, n < H.next → n ≠ r → n ≠ mq → H2.own n = H.own n := ⟨by omega, by rw [h4 n5 hk3 hn5r hn5m]; exact hk4, fun n h5 h6 h7 => by rw [h4 n (by omega) h6 h7]; exact hk5 n h5 h6 h7⟩
              obtain ⟨q, hq⟩ := extN_pre x y p l e
              have hil : i < l2.length := by rw [hl2, hq, List.length_append]; omega
              have hpi : l2.getD i default = p := by rw [hl2, hq, getD_append_left _ _ _ hlt, hpe]
              cases hmet : metN l2 (aft x p.x e) (aft y p.y e)
              · rw [hmet] at hif
                have hE : extE x y p l2 e = l2 ++ [⟨aft x p.x e, aft y p.y e, p.tr ++ [(e : Int)]⟩] := by
                  rw [extE, if_neg hz, addN, hmet]; rfl
                simp only [f0, f4, f5, f71, f72, hds, Cd.cd60, Tk.t60, base0, base1, base2, base3, Option.isNone_none, Option.isNone_some, Nat.reduceBEq, true_or, or_true, false_or, or_false, Nat.reduceLT, Nat.reduceMod, Nat.reducePow, rmaps, nsucc, List.flatten_cons, List.flatten_nil, Nat.reduceEqDiff, Nat.reduceLeDiff, Nat.reduceAdd, Nat.reduceMul, Nat.reduceSub, ↓reduceIte, reduceCtorEq, decide_true, decide_false]
                refine ⟨_, by omega, e + 1, extE x y p l2 e, _, _, aP2, aF2, aB2, rfl, by omega, hex.symm, by rw [hE]; exact hif, hG3, ?_, by rw [wrapS (by omega)], hkk⟩
                have := hM2.push hil (aft x p.x e) (aft y p.y e) (e : Int)
                rw [hpi] at this
                rw [hE]; exact this
              · rw [hmet] at hif
                have hE : extE x y p l2 e = l2 := by rw [extE, if_neg hz, addN, hmet]; rfl
                simp only [f0, f4, f5, f71, f72, hds, Cd.cd60, Tk.t60, base0, base1, base2, base3, Option.isNone_none, Option.isNone_some, Nat.reduceBEq, true_or, or_true, false_or, or_false, Nat.reduceLT, Nat.reduceMod, Nat.reducePow, rmaps, nsucc, List.flatten_cons, List.flatten_nil, Nat.reduceEqDiff, Nat.reduceLeDiff, Nat.reduceAdd, Nat.reduceMul, Nat.reduceSub, ↓reduceIte, reduceCtorEq, decide_true, decide_false]
                exact ⟨_, by omega, e + 1, l2, fr2, by2, aP2, aF2, aB2, rfl, by omega, by rw [hex, hE], hif, hG2, hM2, by rw [wrapS (by omega)], hkk⟩
          · have he' : e = silc x + 1 := by omega
            subst he'
            have hsn : ∀ res, SrchR x y l2 (i + 1) res → SrchR x y l0 0 res := fun res h => hS res (SrchR.next hlt (by rw [hpe]; exact hf) (by rw [hpe, ← hl2]; exact h))
            obtain ⟨q, hq⟩ := extN_pre x y p l (silc x + 1)
            have hil : i + 1 ≤ l2.length := by rw [hl2, hq, List.length_append]; omega
            have hlen2 := hG2.len hx hy
            simp only [ltF hle, f0, f4, f5, f71, f72, hds, Cd.cd60, Tk.t60, base0, base1, base2, base3, Option.isNone_none, Option.isNone_some, Nat.reduceBEq, true_or, or_true, false_or, or_false, Nat.reduceLT, Nat.reduceMod, Nat.reducePow, rmaps, nsucc, List.flatten_cons, List.flatten_nil, Nat.reduceEqDiff, Nat.reduceLeDiff, Nat.reduceAdd, Nat.reduceMul, Nat.reduceSub, ↓reduceIte, reduceCtorEq, decide_true, decide_false]
            exact ⟨_, by omega, i + 1, l2, fr2, by2, aP, aF, aB, rfl, hil, hC2, hG2, hM2, hsn, by rw [wrapS (by omega)], by omega, hkr, hkm, hk5⟩
    · simp only [ho, List.length_map, ltF hlt, f0, f4, hds, Cd.cd60, Tk.t60, base0, base1, base2, base3, Option.isNone_none, Option.isNone_some, Nat.reduceBEq, true_or, or_true, false_or, or_false, Nat.reduceLT, Nat.reduceMod, Nat.reducePow, rmaps, nsucc, List.flatten_cons, List.flatten_nil, Nat.reduceEqDiff, Nat.reduceLeDiff, Nat.reduceAdd, Nat.reduceMul, Nat.reduceSub, ↓reduceIte, reduceCtorEq, decide_true, decide_false]
      refine Frz.ret (v' := .tup [nilS, .v (.bool false)]) (Views.tup (Views.cons nil_view (Views.cons (FZ.v _).view Views.nil))) (FZ.tup (FZs.two FZ.nilS (FZ.v _))) ?_
      exact ⟨none, l, hS _ (SrchR.done hlt), rfl, ⟨tp, _, _, (below_own hkr).trans ho⟩, hk1, fun n h1 h2 h3 => (below_own h1).trans (hk2 n h1 h2 h3)⟩
end Go.Proofs.YtchpcjmgifnmdaaDoor

/- Walks: Conforms; the laws' examples. -/
namespace Go.Proofs.YtchpcjmgifnmdaaDoor
open Go Go.Proofs.YtchpcjmgifnmdaaDoor.Ab
set_option maxRecDepth 100000
set_option linter.unusedSimpArgs false

open Classical in
/-- the answer of a search -/
noncomputable def resN (x y : Re) : Option (List Int) × List Nd := if h : ∃ r, SrchR x y [nd0 x y] 0 r then Classical.choose h else (none, [])
theorem resN_eq {x y : Re} {r : Option (List Int) × List Nd} (h : SrchR x y [nd0 x y] 0 r) : resN x y = r := by
  unfold resN
  rw [dif_pos ⟨r, h⟩]
  exact (Classical.choose_spec (⟨r, h⟩ : ∃ r, SrchR x y [nd0 x y] 0 r)).det h
theorem resN_ok {x y : Re} (hx : Ok x) (hy : Ok y) : SrchR x y [nd0 x y] 0 (resN x y) := by
  obtain ⟨r, hr⟩ := srch_ex hx hy 1048576 _ 0 (good0 hx hy) (by omega) (by simp)
  rw [resN_eq hr]; exact hr
theorem bothR_ok {x y : Re} (h : bothR x y = 0) : Ok x ∧ Ok y ∧ x.inp = y.inp ∧ x.out = y.out ∧ silc y = silc x := by
  unfold bothR orI at h
  by_cases h1 : errR x = 0
  · by_cases h2 : errR y = 0
    · simp only [h1, h2, ne_eq, not_true, if_false] at h
      by_cases h3 : x.inp = y.inp
      · by_cases h4 : x.out = y.out
        · exact ⟨ok_of_check h1, ok_of_check h2, h3, h4, by unfold silc; rw [h3, h4]⟩
        · simp [h4] at h
      · simp [h3] at h
    · simp only [h1, ne_eq, not_true, if_false] at h
      rw [if_pos h2] at h; exact absurd h h2
  · rw [if_pos h1] at h; exact absurd h h1
theorem came0 (p : Nd) (h : p.tr = []) : Came [p] [-1] [-1] := ⟨rfl, rfl, by simp, ⟨rfl, h⟩, fun k h1 h2 => by simp at h2; omega⟩
def ansV (o : Option (List Int)) : AV := match o with
  | some tr => .tup [ints tr, .v (.int .i64 29)]
  | none => .tup [nilS, .v (.int .i64 0)]
noncomputable def confV (x y : Re) : AV := if bothR x y ≠ 0 then .tup [nilS, .v (.int .i64 (bothR x y))] else ansV (resN x y).1
theorem conforms17 (x y : Re) : FCall Tryd.prog 17 [reV x, reV y] (· = confV x y) := by
  simp only [reV, reL, mvsV]
  refine ACall.enter [] Cd.fn17 (by simp) ?_
  simp only [Cd.cd17, Tk.t17, base0, base1, base2, base3, Option.isNone_none, Option.isNone_some, Nat.reduceBEq, true_or, or_true, false_or, or_false, Nat.reduceLT, Nat.reduceMod, Nat.reducePow, rmaps, nsucc, List.flatten_cons, List.flatten_nil, Nat.reduceEqDiff, Nat.reduceLeDiff, Nat.reduceAdd, Nat.reduceMul, Nat.reduceSub, ↓reduceIte, reduceCtorEq, decide_true, decide_false]
  first | refine FCall.go (both58 x y) (FZs.two (FZ.reV x) (FZ.reV y)) ?_ | refine FCall.go' (both58 x y) (FZs.two (FZ.reV x) (FZ.reV y)) ?_ | refine FCall.goQ (both58 x y) (FZs.two (FZ.reV x) (FZ.reV y)) ?_
  by_cases h0 : bothR x y = 0
  · obtain ⟨hx, hy, h1, h2, h3⟩ := bothR_ok h0
    simp only [show (bothR x y != 0) = false from by rw [h0]; rfl, Cd.cd17, Tk.t17, base0, base1, base2, base3, Option.isNone_none, Option.isNone_some, Nat.reduceBEq, true_or, or_true, false_or, or_false, Nat.reduceLT, Nat.reduceMod, Nat.reducePow, rmaps, nsucc, List.flatten_cons, List.flatten_nil, Nat.reduceEqDiff, Nat.reduceLeDiff, Nat.reduceAdd, Nat.reduceMul, Nat.reduceSub, ↓reduceIte, reduceCtorEq, decide_true, decide_false]
    refine ACall.thn (compare59 x y hx hy _) fun out H2 hq => ?_
    obtain ⟨r, m, aP, aF, aB, rfl, hC, _, _, _, _⟩ := hq
    refine ⟨_, rfl, ?_⟩
    simp only [Cd.cd17, Tk.t17, base0, base1, base2, base3, Option.isNone_none, Option.isNone_some, Nat.reduceBEq, true_or, or_true, false_or, or_false, Nat.reduceLT, Nat.reduceMod, Nat.reducePow, rmaps, nsucc, List.flatten_cons, List.flatten_nil, Nat.reduceEqDiff, Nat.reduceLeDiff, Nat.reduceAdd, Nat.reduceMul, Nat.reduceSub, ↓reduceIte, reduceCtorEq, decide_true, decide_false]
    refine ACall.thn (run60 x y hx hy h3 H2 r m aP aF aB [nd0 x y] [-1] [-1] hC (good0 hx hy) (came0 _ rfl)) fun out H3 hq => ?_
    obtain ⟨o, l, hS, rfl, _⟩ := hq
    refine ⟨_, rfl, ?_⟩
    have hres := resN_eq hS
    have hcv : confV x y = ansV o := by unfold confV; rw [if_neg (by simpa using h0), hres]
    cases o with
    | none =>
      simp only [runV, Cd.cd17, Tk.t17, base0, base1, base2, base3, Option.isNone_none, Option.isNone_some, Nat.reduceBEq, true_or, or_true, false_or, or_false, Nat.reduceLT, Nat.reduceMod, Nat.reducePow, rmaps, nsucc, List.flatten_cons, List.flatten_nil, Nat.reduceEqDiff, Nat.reduceLeDiff, Nat.reduceAdd, Nat.reduceMul, Nat.reduceSub, ↓reduceIte, reduceCtorEq, decide_true, decide_false]
      first | refine FCall.go (unless61 _ _) (FZs.v2 _ _) ?_ | refine FCall.go' (unless61 _ _) (FZs.v2 _ _) ?_ | refine FCall.goQ (unless61 _ _) (FZs.v2 _ _) ?_
      simp only [Cd.cd17, Tk.t17, base0, base1, base2, base3, Option.isNone_none, Option.isNone_some, Nat.reduceBEq, true_or, or_true, false_or, or_false, Nat.reduceLT, Nat.reduceMod, Nat.reducePow, rmaps, nsucc, List.flatten_cons, List.flatten_nil, Nat.reduceEqDiff, Nat.reduceLeDiff, Nat.reduceAdd, Nat.reduceMul, Nat.reduceSub, ↓reduceIte, reduceCtorEq, decide_true, decide_false]
      refine ⟨_, _, rfl, Views.tup (Views.cons nil_view (Views.cons (FZ.v _).view Views.nil)), FZ.tup (FZs.two FZ.nilS (FZ.v _)), ?_⟩
      rw [hcv]; rfl
    | some tr =>
      simp only [runV, Cd.cd17, Tk.t17, base0, base1, base2, base3, Option.isNone_none, Option.isNone_some, Nat.reduceBEq, true_or, or_true, false_or, or_false, Nat.reduceLT, Nat.reduceMod, Nat.reducePow, rmaps, nsucc, List.flatten_cons, List.flatten_nil, Nat.reduceEqDiff, Nat.reduceLeDiff, Nat.reduceAdd, Nat.reduceMul, Nat.reduceSub, ↓reduceIte, reduceCtorEq, decide_true, decide_false]
      first | refine FCall.go (unless61 _ _) (FZs.v2 _ _) ?_ | refine FCall.go' (unless61 _ _) (FZs.v2 _ _) ?_ | refine FCall.goQ (unless61 _ _) (FZs.v2 _ _) ?_
      simp only [Cd.cd17, Tk.t17, base0, base1, base2, base3, Option.isNone_none, Option.isNone_some, Nat.reduceBEq, true_or, or_true, false_or, or_false, Nat.reduceLT, Nat.reduceMod, Nat.reducePow, rmaps, nsucc, List.flatten_cons, List.flatten_nil, Nat.reduceEqDiff, Nat.reduceLeDiff, Nat.reduceAdd, Nat.reduceMul, Nat.reduceSub, ↓reduceIte, reduceCtorEq, decide_true, decide_false]
      refine ⟨_, _, rfl, Views.tup (Views.cons (FZ.ints tr).view (Views.cons (FZ.v _).view Views.nil)), FZ.tup (FZs.two (FZ.ints tr) (FZ.v _)), ?_⟩
      rw [hcv]; rfl
  · simp only [bneT h0, Cd.cd17, Tk.t17, base0, base1, base2, base3, Option.isNone_none, Option.isNone_some, Nat.reduceBEq, true_or, or_true, false_or, or_false, Nat.reduceLT, Nat.reduceMod, Nat.reducePow, rmaps, nsucc, List.flatten_cons, List.flatten_nil, Nat.reduceEqDiff, Nat.reduceLeDiff, Nat.reduceAdd, Nat.reduceMul, Nat.reduceSub, ↓reduceIte, reduceCtorEq, decide_true, decide_false]
    refine ⟨_, _, rfl, Views.tup (Views.cons nil_view (Views.cons (FZ.v _).view Views.nil)), FZ.tup (FZs.two FZ.nilS (FZ.v _)), ?_⟩
    unfold confV; rw [if_pos h0]
def exR : Re := ⟨3, 0, 1, 2, [⟨0, 0, 0, 1⟩, ⟨1, 1, 0, 2⟩, ⟨2, 0, 0, 2⟩]⟩
def otR : Re := ⟨3, 0, 1, 2, [⟨0, 0, 0, 1⟩, ⟨1, 1, 1, 2⟩, ⟨2, 0, 0, 2⟩]⟩
def exC (b : Int) : List AV := [.v (.int .i64 0), .v (.int .i64 0), .v (.int .i64 0), .v (.int .i64 1), .v (.int .i64 1), .v (.int .i64 1), .v (.int .i64 b), .v (.int .i64 2), .v (.int .i64 2), .v (.int .i64 0), .v (.int .i64 0), .v (.int .i64 2)]
theorem exA57 (H : AH) : ACall Tryd.prog 57 [] H (fun out H' => ∃ n, out = .ret (.agg [.v (.int .i64 3), .v (.int .i64 0), .v (.int .i64 1), .v (.int .i64 2), .sl 4 n 0 3]) ∧ H'.own n = some (.cells (exC 0)) ∧ n < H'.next ∧ H.next ≤ n ∧ ∀ k, k < H.next → H'.own k = H.own k) := by
  refine ACall.enter [4] Cd.fn57 (by simp) ?_
  simp only [Cd.cd57, Tk.t57, base0, base1, base2, base3, Option.isNone_none, Option.isNone_some, Nat.reduceBEq, true_or, or_true, false_or, or_false, Nat.reduceLT, Nat.reduceMod, Nat.reducePow, rmaps, nsucc, List.flatten_cons, List.flatten_nil, Nat.reduceEqDiff, Nat.reduceLeDiff, Nat.reduceAdd, Nat.reduceMul, Nat.reduceSub, ↓reduceIte, reduceCtorEq, decide_true, decide_false]
  exact ⟨H.next + 1, rfl, by simp [exC], by omega, by omega, fun k hk => by simp [show ¬ k = H.next by omega, show ¬ k = H.next + 1 by omega]⟩
theorem exV {H : AH} {n : Nat} {b : Int} (h : H.own n = some (.cells (exC b))) : View H (.agg [.v (.int .i64 3), .v (.int .i64 0), .v (.int .i64 1), .v (.int .i64 2), .sl 4 n 0 3]) (reV ⟨3, 0, 1, 2, [⟨0, 0, 0, 1⟩, ⟨1, 1, b, 2⟩, ⟨2, 0, 0, 2⟩]⟩) := by
  refine Views.agg (Views.cons (FZ.v _).view (Views.cons (FZ.v _).view (Views.cons (FZ.v _).view (Views.cons (FZ.v _).view (Views.cons ?_ Views.nil)))))
  refine View.sl h (by simp [exC]) rfl (fun i hi => ?_) fun i j hi hj => ?_
  · match i, hi with
    | 0, _ => rfl
    | 1, _ => rfl
    | 2, _ => rfl
  · match i, j, hi, hj with
    | 0, 0, _, _ => exact (FZ.v _).view
    | 0, 1, _, _ => exact (FZ.v _).view
    | 0, 2, _, _ => exact (FZ.v _).view
    | 0, 3, _, _ => exact (FZ.v _).view
    | 1, 0, _, _ => exact (FZ.v _).view
    | 1, 1, _, _ => exact (FZ.v _).view
    | 1, 2, _, _ => exact (FZ.v _).view
    | 1, 3, _, _ => exact (FZ.v _).view
    | 2, 0, _, _ => exact (FZ.v _).view
    | 2, 1, _, _ => exact (FZ.v _).view
    | 2, 2, _, _ => exact (FZ.v _).view
    | 2, 3, _, _ => exact (FZ.v _).view
theorem example57 : FCall Tryd.prog 57 [] (· = reV exR) := by
  refine (exA57 AH.none).mono fun out H' hq => ?_
  obtain ⟨n, rfl, h1, _, _, _⟩ := hq
  exact ⟨_, _, rfl, exV h1, FZ.reV exR, rfl⟩
theorem other56 : FCall Tryd.prog 56 [] (· = reV otR) := by
  refine ACall.enter [] Cd.fn56 (by simp) ?_
  simp only [Cd.cd56, Tk.t56, base0, base1, base2, base3, Option.isNone_none, Option.isNone_some, Nat.reduceBEq, true_or, or_true, false_or, or_false, Nat.reduceLT, Nat.reduceMod, Nat.reducePow, rmaps, nsucc, List.flatten_cons, List.flatten_nil, Nat.reduceEqDiff, Nat.reduceLeDiff, Nat.reduceAdd, Nat.reduceMul, Nat.reduceSub, ↓reduceIte, reduceCtorEq, decide_true, decide_false]
  refine ACall.thn (exA57 _) fun out H2 hq => ?_
  obtain ⟨n, rfl, h1, h2, h3, h4⟩ := hq
  refine ⟨_, rfl, ?_⟩
  have h30 : 1 ≤ n := h3
  have h40 := h4 0 (by show 0 < 0 + 1; omega)
  simp only [AH.none, if_true] at h40
  have hn : (n = H2.next) = False := by simp; omega
  have hn1 : (H2.next = n) = False := by simp; omega
  have hn2 : (0 = H2.next) = False := by simp; omega
  have hn3 : (0 = n) = False := by simp; omega
  have hn4 : (n = 0) = False := by simp; omega
  have hn5 : (H2.next = 0) = False := by simp; omega
  unfold exC at h1
  simp only [hn, hn1, hn2, hn3, hn4, hn5, h1, h40, AH.none, show ((0 : Int) ≤ 1 ∧ (1 : Int) < ((3 : Nat) : Int)) = True from by simp, show Int.toNat 1 = 1 from rfl, Cd.cd56, Tk.t56, base0, base1, base2, base3, Option.isNone_none, Option.isNone_some, Nat.reduceBEq, true_or, or_true, false_or, or_false, Nat.reduceLT, Nat.reduceMod, Nat.reducePow, rmaps, nsucc, List.flatten_cons, List.flatten_nil, Nat.reduceEqDiff, Nat.reduceLeDiff, Nat.reduceAdd, Nat.reduceMul, Nat.reduceSub, ↓reduceIte, reduceCtorEq, decide_true, decide_false]
  exact ⟨_, _, rfl, exV (b := 1) (by simp [exC, hn4]), FZ.reV otR, rfl⟩
theorem conf_ex : confV otR exR = .tup [ints [0, 2], .v (.int .i64 29)] := by
  have h0 : bothR otR exR = 0 := by decide +kernel
  have h1 : (srch otR exR 10 [nd0 otR exR] 0).map (·.1) = some (some [0, 2]) := by decide +kernel
  rw [Option.map_eq_some_iff] at h1
  obtain ⟨⟨o, l⟩, h2, rfl⟩ := h1
  have h3 := resN_eq (⟨10, h2⟩ : SrchR otR exR [nd0 otR exR] 0 _)
  unfold confV
  rw [if_neg (by simp [h0]), h3]; rfl
theorem after_ex : afterR exR [0, 1] = .tup [ints [2], .v (.int .i64 0)] := by
  have h1 : errR exR = 0 := by decide +kernel
  have h2 : trErr exR [0, 1] = 0 := by decide +kernel
  have h3 : bitsI (alongM exR [0, 1]) = [2] := by decide +kernel
  unfold afterR
  rw [if_neg (by simp [h1]), if_neg (by simp [h2]), setV, h3]
theorem awake15 : FCall Tryd.prog 15 [] (· = .v (.bool true)) := by
  have hc := conforms17 otR exR
  rw [conf_ex] at hc
  have ha := afterTrace29 exR [0, 1]
  rw [after_ex] at ha
  have ha2 : FCall Tryd.prog 29 [reV exR, .lst 1 [[.v (.int .i64 0)], [.v (.int .i64 1)]] .full] (· = .tup [ints [2], .v (.int .i64 0)]) := ACall.args ha vrs_unk2
  have hs1 : FCall Tryd.prog 22 [ints [0, 2], .lst 1 [[.v (.int .i64 0)], [.v (.int .i64 2)]] .full] (· = .v (.bool true)) := ACall.args (same22 [0, 2] [0, 2] (by simp)) vrs_unk2
  have hs2 : FCall Tryd.prog 22 [ints [2], .lst 1 [[.v (.int .i64 2)]] .full] (· = .v (.bool true)) := ACall.args (same22 [2] [2] (by simp)) vrs_unk2
  have hz1 : FZ (.lst 1 [[.v (.int .i64 0)], [.v (.int .i64 1)]] .full) := FZ.intL (l := [0, 1]) (tip := .full) rfl
  have hz2 : FZ (.lst 1 [[.v (.int .i64 0)], [.v (.int .i64 2)]] .full) := FZ.intL (l := [0, 2]) (tip := .full) rfl
  have hz3 : FZ (.lst 1 [[.v (.int .i64 2)]] .full) := FZ.intL (l := [2]) (tip := .full) rfl
  refine ACall.enter [] Cd.fn15 (by simp) ?_
  simp only [Cd.cd15, Tk.t15, base0, base1, base2, base3, Option.isNone_none, Option.isNone_some, Nat.reduceBEq, true_or, or_true, false_or, or_false, Nat.reduceLT, Nat.reduceMod, Nat.reducePow, rmaps, nsucc, List.flatten_cons, List.flatten_nil, Nat.reduceEqDiff, Nat.reduceLeDiff, Nat.reduceAdd, Nat.reduceMul, Nat.reduceSub, ↓reduceIte, reduceCtorEq, decide_true, decide_false]
  first | refine FCall.go other56 (FZs.nil) ?_ | refine FCall.go' other56 (FZs.nil) ?_ | refine FCall.goQ other56 (FZs.nil) ?_
  simp only [Cd.cd15, Tk.t15, base0, base1, base2, base3, Option.isNone_none, Option.isNone_some, Nat.reduceBEq, true_or, or_true, false_or, or_false, Nat.reduceLT, Nat.reduceMod, Nat.reducePow, rmaps, nsucc, List.flatten_cons, List.flatten_nil, Nat.reduceEqDiff, Nat.reduceLeDiff, Nat.reduceAdd, Nat.reduceMul, Nat.reduceSub, ↓reduceIte, reduceCtorEq, decide_true, decide_false]
  first | refine FCall.go example57 (FZs.nil) ?_ | refine FCall.go' example57 (FZs.nil) ?_ | refine FCall.goQ example57 (FZs.nil) ?_
  simp only [Cd.cd15, Tk.t15, base0, base1, base2, base3, Option.isNone_none, Option.isNone_some, Nat.reduceBEq, true_or, or_true, false_or, or_false, Nat.reduceLT, Nat.reduceMod, Nat.reducePow, rmaps, nsucc, List.flatten_cons, List.flatten_nil, Nat.reduceEqDiff, Nat.reduceLeDiff, Nat.reduceAdd, Nat.reduceMul, Nat.reduceSub, ↓reduceIte, reduceCtorEq, decide_true, decide_false]
  first | refine FCall.go hc (FZs.two (FZ.reV _) (FZ.reV _)) ?_ | refine FCall.go' hc (FZs.two (FZ.reV _) (FZ.reV _)) ?_ | refine FCall.goQ hc (FZs.two (FZ.reV _) (FZ.reV _)) ?_
  simp only [Cd.cd15, Tk.t15, base0, base1, base2, base3, Option.isNone_none, Option.isNone_some, Nat.reduceBEq, true_or, or_true, false_or, or_false, Nat.reduceLT, Nat.reduceMod, Nat.reducePow, rmaps, nsucc, List.flatten_cons, List.flatten_nil, Nat.reduceEqDiff, Nat.reduceLeDiff, Nat.reduceAdd, Nat.reduceMul, Nat.reduceSub, ↓reduceIte, reduceCtorEq, decide_true, decide_false]
  first | refine FCall.go example57 (FZs.nil) ?_ | refine FCall.go' example57 (FZs.nil) ?_ | refine FCall.goQ example57 (FZs.nil) ?_
  simp only [Cd.cd15, Tk.t15, base0, base1, base2, base3, Option.isNone_none, Option.isNone_some, Nat.reduceBEq, true_or, or_true, false_or, or_false, Nat.reduceLT, Nat.reduceMod, Nat.reducePow, rmaps, nsucc, List.flatten_cons, List.flatten_nil, Nat.reduceEqDiff, Nat.reduceLeDiff, Nat.reduceAdd, Nat.reduceMul, Nat.reduceSub, ↓reduceIte, reduceCtorEq, decide_true, decide_false]
  first | refine FCall.go ha2 (FZs.two (FZ.reV _) hz1) ?_ | refine FCall.go' ha2 (FZs.two (FZ.reV _) hz1) ?_ | refine FCall.goQ ha2 (FZs.two (FZ.reV _) hz1) ?_
  simp only [show ((29 : Int) == 29) = true from rfl, Cd.cd15, Tk.t15, base0, base1, base2, base3, Option.isNone_none, Option.isNone_some, Nat.reduceBEq, true_or, or_true, false_or, or_false, Nat.reduceLT, Nat.reduceMod, Nat.reducePow, rmaps, nsucc, List.flatten_cons, List.flatten_nil, Nat.reduceEqDiff, Nat.reduceLeDiff, Nat.reduceAdd, Nat.reduceMul, Nat.reduceSub, ↓reduceIte, reduceCtorEq, decide_true, decide_false]
  first | refine FCall.go hs1 (FZs.two (FZ.ints _) hz2) ?_ | refine FCall.go' hs1 (FZs.two (FZ.ints _) hz2) ?_ | refine FCall.goQ hs1 (FZs.two (FZ.ints _) hz2) ?_
  simp only [show ((0 : Int) == 0) = true from rfl, Cd.cd15, Tk.t15, base0, base1, base2, base3, Option.isNone_none, Option.isNone_some, Nat.reduceBEq, true_or, or_true, false_or, or_false, Nat.reduceLT, Nat.reduceMod, Nat.reducePow, rmaps, nsucc, List.flatten_cons, List.flatten_nil, Nat.reduceEqDiff, Nat.reduceLeDiff, Nat.reduceAdd, Nat.reduceMul, Nat.reduceSub, ↓reduceIte, reduceCtorEq, decide_true, decide_false]
  first | refine FCall.go hs2 (FZs.two (FZ.ints _) hz3) ?_ | refine FCall.go' hs2 (FZs.two (FZ.ints _) hz3) ?_ | refine FCall.goQ hs2 (FZs.two (FZ.ints _) hz3) ?_
  simp only [Cd.cd15, Tk.t15, base0, base1, base2, base3, Option.isNone_none, Option.isNone_some, Nat.reduceBEq, true_or, or_true, false_or, or_false, Nat.reduceLT, Nat.reduceMod, Nat.reducePow, rmaps, nsucc, List.flatten_cons, List.flatten_nil, Nat.reduceEqDiff, Nat.reduceLeDiff, Nat.reduceAdd, Nat.reduceMul, Nat.reduceSub, ↓reduceIte, reduceCtorEq, decide_true, decide_false]
  exact fin_v rfl
end Go.Proofs.YtchpcjmgifnmdaaDoor

/- Walks: sets of states are checked; what they can show. -/
namespace Go.Proofs.YtchpcjmgifnmdaaDoor
open Go Go.Proofs.YtchpcjmgifnmdaaDoor.Ab
set_option maxRecDepth 100000
set_option linter.unusedSimpArgs false

def seE (x : Re) (set : List Int) (i : Nat) : Int :=
  if !within (set.getD i 0) 0 (IntKind.i64.wrap (x.st - 1)) then 3 else if decide (0 < i) && decide (set.getD i 0 ≤ set.getD (i - 1) 0) then 14 else 0
def setE (x : Re) (set : List Int) : Int := match firstIx set.length (fun i => seE x set i != 0) with
  | some i => seE x set i
  | none => 0
end Go.Proofs.YtchpcjmgifnmdaaDoor

/- Walks: ShownBy; the law of what is after a trace, and what is shown. -/
namespace Go.Proofs.YtchpcjmgifnmdaaDoor
open Go Go.Proofs.YtchpcjmgifnmdaaDoor.Ab
set_option maxRecDepth 100000
set_option linter.unusedSimpArgs false

def shownR (x : Re) (set : List Int) : AV := if errR x ≠ 0 then .tup [nilS, .v (.int .i64 (errR x))] else if setE x set ≠ 0 then .tup [nilS, .v (.int .i64 (setE x set))] else .tup [ints (shownL x (cl x (maskL set))), .v (.int .i64 0)]
end Go.Proofs.YtchpcjmgifnmdaaDoor

/- Which states are reached; which input a reached state does not take: plainly. -/
namespace Go.Proofs.YtchpcjmgifnmdaaDoor
open Go Go.Proofs.YtchpcjmgifnmdaaDoor.Ab
set_option linter.unusedSectionVars false

def recvP (x : Re) (l k : Nat) : Nat := (List.range k).foldl (fun acc e => if true then acc ||| aft x l e else acc) l
def recv (x : Re) (l : Nat) : Nat := recvP x l (silc x)
def rcF (x : Re) : Nat → Nat → Nat
  | 0, l => l
  | k + 1, l => if recv x l = l then l else rcF x k (recv x l)
def rchd (x : Re) : Nat := rcF x 1024 (fstM x)
theorem recvP_succ (x : Re) (l k : Nat) : recvP x l (k + 1) = recvP x l k ||| aft x l k := by
  unfold recvP; rw [List.range_succ, List.foldl_append]; rfl
theorem recv_bit {x : Re} {l b : Nat} : (recv x l).testBit b = true ↔ l.testBit b = true ∨ ∃ e, e < silc x ∧ (aft x l e).testBit b = true := by
  unfold recv recvP
  rw [testBit_foldor (fun _ => true)]
  simp
theorem recvP_lt {x : Re} (hx : Ok x) {l : Nat} (h : l < 2 ^ nst x) (k : Nat) : recvP x l k < 2 ^ nst x := foldor_lt (fun _ => true) _ _ _ h fun e _ _ => aft_lt hx h e
theorem recv_lt {x : Re} (hx : Ok x) {l : Nat} (h : l < 2 ^ nst x) : recv x l < 2 ^ nst x := recvP_lt hx h _
theorem recv_ge {x : Re} (l : Nat) : l ≤ recv x l := by
  have : recv x l = l ||| recv x l := by
    apply bit_ext
    intro i
    rw [Nat.testBit_or]
    simp only [Bool.or_eq_true, recv_bit]
    constructor
    · intro h; exact .inr h
    · rintro (h | h)
      · exact .inl h
      · exact h
  rw [this]; exact Nat.left_le_or
/-- closed under silent moves -/
def Cld (x : Re) (l : Nat) : Prop := ∀ a b, l.testBit a = true → (silM x a).testBit b = true → l.testBit b = true
theorem cl_cld {x : Re} (hx : Ok x) {l : Nat} (h : l < 2 ^ nst x) : Cld x (cl x l) := fun a b ha hs => by
  obtain ⟨c, hc, hr⟩ := (cl_bit hx h).mp ha
  exact (cl_bit hx h).mpr ⟨c, hc, .step hr hs⟩
theorem recv_cld {x : Re} (hx : Ok x) {l : Nat} (h : l < 2 ^ nst x) (hc : Cld x l) : Cld x (recv x l) := fun a b ha hs => by
  rcases recv_bit.mp ha with ha | ⟨e, he, ha⟩
  · exact recv_bit.mpr (.inl (hc a b ha hs))
  · exact recv_bit.mpr (.inr ⟨e, he, cl_cld hx (rawA_lt hx h e) a b ha hs⟩)
inductive RchA (x : Re) : Nat → Prop
  | start : RchA x x.s0.toNat
  | step {m : Mv} : m ∈ x.mv → RchA x m.fr.toNat → RchA x m.to.toNat
theorem rch_rchA {x : Re} (hx : Ok x) {a b : Nat} (h : Rch x a b) (ha : RchA x a) : RchA x b := by
  induction h with
  | refl => exact ha
  | @step b c hr hs ih =>
    obtain ⟨m, hm, _, h2, h3⟩ := silM_bit.mp hs
    rw [← h3]
    exact .step hm (by rw [h2, Int.toNat_natCast]; exact ih)
theorem fst_rchA {x : Re} (hx : Ok x) {b : Nat} (h : (fstM x).testBit b = true) : RchA x b := by
  have hp : 2 ^ x.s0.toNat < 2 ^ nst x := Nat.pow_lt_pow_right (by omega) (by have := hx.s0; unfold nst; omega)
  obtain ⟨a, ha, hr⟩ := (cl_bit hx hp).mp h
  rw [Nat.testBit_two_pow, decide_eq_true_eq] at ha
  subst ha
  exact rch_rchA hx hr .start
theorem recv_rchA {x : Re} (hx : Ok x) {l : Nat} (h : l < 2 ^ nst x) (hl : ∀ b, l.testBit b = true → RchA x b) : ∀ b, (recv x l).testBit b = true → RchA x b := fun b hb => by
  rcases recv_bit.mp hb with hb | ⟨e, he, hb⟩
  · exact hl b hb
  · obtain ⟨a, ha, hr⟩ := (cl_bit hx (rawA_lt hx h e)).mp hb
    rcases (rawA_bit hx h (by omega)).mp ha with ⟨h1, _, _⟩ | ⟨m, hm, _, h2, _, h4⟩
    · omega
    · refine rch_rchA hx hr ?_
      rw [← h4]
      exact .step hm (hl _ h2)
/-- what a set has that is no longer growing -/
structure RcI (x : Re) (l : Nat) : Prop where
  lt : l < 2 ^ nst x
  cd : Cld x l
  st : l.testBit x.s0.toNat = true
  ra : ∀ b, l.testBit b = true → RchA x b
theorem rcI_fst {x : Re} (hx : Ok x) : RcI x (fstM x) := by
  have hp : 2 ^ x.s0.toNat < 2 ^ nst x := Nat.pow_lt_pow_right (by omega) (by have := hx.s0; unfold nst; omega)
  exact ⟨fst_lt hx, cl_cld hx hp, clF_sup _ _ (by rw [Nat.testBit_two_pow]; simp), fun b hb => fst_rchA hx hb⟩
theorem RcI.next {x : Re} (hx : Ok x) {l : Nat} (h : RcI x l) : RcI x (recv x l) := ⟨recv_lt hx h.lt, recv_cld hx h.lt h.cd, recv_bit.mpr (.inl h.st), recv_rchA hx h.lt h.ra⟩
theorem rcF_fix {x : Re} (hx : Ok x) : ∀ (k l : Nat), RcI x l → 1024 - l ≤ k → recv x (rcF x k l) = rcF x k l ∧ RcI x (rcF x k l)
  | 0, l, h, hk => by have := hx.pw h.lt; omega
  | k + 1, l, h, hk => by
    unfold rcF
    split
    · rename_i he; exact ⟨he, h⟩
    · rename_i he
      have := recv_ge (x := x) l
      exact rcF_fix hx k _ (h.next hx) (by omega)
theorem rcF_of_fix {x : Re} {k l : Nat} (h : recv x l = l) : rcF x k l = l := by
  cases k with
  | zero => rfl
  | succ k => unfold rcF; rw [if_pos h]
theorem rchd_fix {x : Re} (hx : Ok x) : recv x (rchd x) = rchd x ∧ RcI x (rchd x) := rcF_fix hx 1024 _ (rcI_fst hx) (by omega)
theorem evM_lt {x : Re} (hx : Ok x) {m : Mv} (hm : m ∈ x.mv) (hk : m.kd ≠ 2) : 0 ≤ evM x m ∧ evM x m < (silc x : Int) := by
  have h := hx.mv m hm
  have hlb := h.lb
  have := hx.inp; have := hx.out
  unfold labels at hlb
  unfold evM silc
  rcases h.kd with h | h | h
  · rw [if_pos h] at hlb ⊢; omega
  · rw [if_neg (by omega), if_pos h] at hlb
    rw [if_neg (by omega)]; omega
  · exact absurd h hk
theorem rchd_bit {x : Re} (hx : Ok x) {b : Nat} : (rchd x).testBit b = true ↔ RchA x b := by
  obtain ⟨hf, hI⟩ := rchd_fix hx
  refine ⟨hI.ra b, fun h => ?_⟩
  induction h with
  | start => exact hI.st
  | @step m hm _ ih =>
    have hmo := hx.mv m hm
    by_cases hk : m.kd = 2
    · exact hI.cd _ _ ih (silM_bit.mpr ⟨m, hm, hk, by rw [Int.toNat_of_nonneg hmo.fr.1], rfl⟩)
    · obtain ⟨h1, h2⟩ := evM_lt hx hm hk
      rw [← hf]
      refine recv_bit.mpr (.inr ⟨(evM x m).toNat, by omega, clF_sup _ _ ?_⟩)
      exact (rawA_bit hx hI.lt (by omega)).mpr (.inr ⟨m, hm, hk, ih, by omega, rfl⟩)
def deafAt (x : Re) (s n : Nat) : Bool := aft x (cl x (2 ^ s)) n == 0
def dfs (x : Re) (s : Nat) : Option Nat := if (rchd x).testBit s then firstIx x.inp.toNat (deafAt x s) else none
def deafN (x : Re) : Option (Nat × Nat) := (firstIx (nst x) fun s => (dfs x s).isSome).bind fun s => (dfs x s).map fun n => (s, n)
theorem deafN_some {x : Re} {s n : Nat} (hs : s < nst x) (hd : dfs x s = some n) (hz : ∀ t, t < s → dfs x t = none) : deafN x = some (s, n) := by
  unfold deafN
  rw [firstIx_some hs (by rw [hd]; rfl) fun j hj => by rw [hz j hj]; rfl]
  simp [hd]
theorem deafN_none {x : Re} (hz : ∀ t, t < nst x → dfs x t = none) : deafN x = none := by
  unfold deafN
  rw [firstIx_none fun j hj => by rw [hz j hj]; rfl]; rfl
theorem bits_sorted (l : Nat) : (bitsN l).Pairwise (· < ·) := List.pairwise_lt_range.filter _
theorem bits_before {l s i : Nat} (hi : i < (bitsN l).length) (hs : s ∈ bitsN l) (hlt : s < (bitsN l).getD i 0) : s ∈ (bitsN l).take i := by
  obtain ⟨j, hj, rfl⟩ := List.getElem_of_mem hs
  have hji : j < i := by
    apply Decidable.byContradiction
    intro hn
    rw [List.getD_eq_getElem?_getD, List.getElem?_eq_getElem hi] at hlt
    simp only [Option.getD_some] at hlt
    by_cases he : j = i
    · subst he; omega
    · have := List.pairwise_iff_getElem.mp (bits_sorted l) i j hi hj (by omega)
      omega
  rw [List.mem_take_iff_getElem]
  exact ⟨j, by omega, rfl⟩
end Go.Proofs.YtchpcjmgifnmdaaDoor

/- Walks: receptive systems. -/
namespace Go.Proofs.YtchpcjmgifnmdaaDoor
open Go Go.Proofs.YtchpcjmgifnmdaaDoor.Ab
set_option maxRecDepth 100000
set_option linter.unusedSimpArgs false

theorem FZ.t3 (a b c : Value) : FZ (.tup [.v a, .v b, .v c]) := FZ.tup (FZs.v3 _ _ _)
theorem fin_3 {a b c : Value} {w : AV} {H' : AH} (h : w = .tup [.v a, .v b, .v c]) : ∃ v v', AOut.ret (.tup [.v a, .v b, .v c]) = .ret v ∧ View H' v v' ∧ FZ v' ∧ v' = w := by
  subst h; exact ⟨_, _, rfl, (FZ.t3 a b c).view, FZ.t3 a b c, rfl⟩
def recpO (o : Option (Nat × Nat)) : AV := match o with
  | some p => .tup [.v (.int .i64 (p.1 : Nat)), .v (.int .i64 (p.2 : Nat)), .v (.int .i64 29)]
  | none => .tup [.v (.int .i64 0), .v (.int .i64 0), .v (.int .i64 0)]
def recpV (x : Re) : AV := if errR x ≠ 0 then .tup [.v (.int .i64 0), .v (.int .i64 0), .v (.int .i64 (errR x))] else recpO (deafN x)
set_option maxHeartbeats 4000000 in
theorem recp25 (x : Re) : FCall Tryd.prog 25 [reV x] (· = recpV x) := by
  simp only [reV, reL, mvsV]
  refine ACall.enter [] Cd.fn25 (by simp) ?_
  simp only [Cd.cd25, Tk.t25, base0, base1, base2, base3, Option.isNone_none, Option.isNone_some, Nat.reduceBEq, true_or, or_true, false_or, or_false, Nat.reduceLT, Nat.reduceMod, Nat.reducePow, rmaps, nsucc, List.flatten_cons, List.flatten_nil, Nat.reduceEqDiff, Nat.reduceLeDiff, Nat.reduceAdd, Nat.reduceMul, Nat.reduceSub, ↓reduceIte, reduceCtorEq, decide_true, decide_false]
  first | refine FCall.go (sysErr70 x) (FZs.one (FZ.reV x)) ?_ | refine FCall.go' (sysErr70 x) (FZs.one (FZ.reV x)) ?_ | refine FCall.goQ (sysErr70 x) (FZs.one (FZ.reV x)) ?_
  by_cases h1 : errR x = 0
  · have hx := ok_of_check h1
    have hinp := hx.inp
    have hsc := silc_le hx
    have hrv : recpV x = recpO (deafN x) := by rw [recpV, if_neg (by simpa using h1)]
    simp only [show (errR x != 0) = false from by rw [h1]; rfl, Cd.cd25, Tk.t25, base0, base1, base2, base3, Option.isNone_none, Option.isNone_some, Nat.reduceBEq, true_or, or_true, false_or, or_false, Nat.reduceLT, Nat.reduceMod, Nat.reducePow, rmaps, nsucc, List.flatten_cons, List.flatten_nil, Nat.reduceEqDiff, Nat.reduceLeDiff, Nat.reduceAdd, Nat.reduceMul, Nat.reduceSub, ↓reduceIte, reduceCtorEq, decide_true, decide_false]
    first | refine FCall.go (system71 x hx) (FZs.one (FZ.reV x)) ?_ | refine FCall.go' (system71 x hx) (FZs.one (FZ.reV x)) ?_ | refine FCall.goQ (system71 x hx) (FZs.one (FZ.reV x)) ?_
    simp only [Cd.cd25, Tk.t25, base0, base1, base2, base3, Option.isNone_none, Option.isNone_some, Nat.reduceBEq, true_or, or_true, false_or, or_false, Nat.reduceLT, Nat.reduceMod, Nat.reducePow, rmaps, nsucc, List.flatten_cons, List.flatten_nil, Nat.reduceEqDiff, Nat.reduceLeDiff, Nat.reduceAdd, Nat.reduceMul, Nat.reduceSub, ↓reduceIte, reduceCtorEq, decide_true, decide_false]
    first | refine FCall.go (first72 x hx) (FZs.one (FZ.sysV x)) ?_ | refine FCall.go' (first72 x hx) (FZs.one (FZ.sysV x)) ?_ | refine FCall.goQ (first72 x hx) (FZs.one (FZ.sysV x)) ?_
    simp only [uv, Cd.cd25, Tk.t25, base0, base1, base2, base3, Option.isNone_none, Option.isNone_some, Nat.reduceBEq, true_or, or_true, false_or, or_false, Nat.reduceLT, Nat.reduceMod, Nat.reducePow, rmaps, nsucc, List.flatten_cons, List.flatten_nil, Nat.reduceEqDiff, Nat.reduceLeDiff, Nat.reduceAdd, Nat.reduceMul, Nat.reduceSub, ↓reduceIte, reduceCtorEq, decide_true, decide_false]
    refine LWP.loop [] (fun m f H' => ∃ c k mo, m = 2 * (1024 - c) + (if mo then 1 else 0) ∧ (RcI x c) ∧ (mo = true → rcF x k c = rchd x ∧ 1024 - c ≤ k) ∧ (mo = false → c = rchd x) ∧ f.t 6 = sysV x ∧ f.t 7 = .v (.int .u64 (c : Nat)) ∧ f.t 8 = .v (.bool mo) ∧ f.ds = [] ∧ H' = AH.none) ?_ ?_ (m := 2 * (1024 - (fstM x)) + (if (true) then 1 else 0))
    · exact ⟨fstM x, 1024, true, rfl, (rcI_fst hx), (fun _ => ⟨rfl, by omega⟩), (fun h => by cases h), rfl, rfl, rfl, rfl, rfl⟩
    · rintro m f H' ⟨c, k, mo, rfl, hI, hk, hk0, f6, f7, f8, hds, rfl⟩
      have hc' := hx.pw hI.lt
      cases mo with
      | false =>
        have hcr := hk0 rfl
        subst hcr
        simp only [f6, f7, f8, hds, Cd.cd25, Tk.t25, base0, base1, base2, base3, Option.isNone_none, Option.isNone_some, Nat.reduceBEq, true_or, or_true, false_or, or_false, Nat.reduceLT, Nat.reduceMod, Nat.reducePow, rmaps, nsucc, List.flatten_cons, List.flatten_nil, Nat.reduceEqDiff, Nat.reduceLeDiff, Nat.reduceAdd, Nat.reduceMul, Nat.reduceSub, ↓reduceIte, reduceCtorEq, decide_true, decide_false]
        first | refine FCall.go (states62 _ hc') (FZs.v1 _) ?_ | refine FCall.go' (states62 _ hc') (FZs.v1 _) ?_ | refine FCall.goQ (states62 _ hc') (FZs.v1 _) ?_
        simp only [setV, ints, List.length_map, bitsI_len, f6, f7, f8, hds, Cd.cd25, Tk.t25, base0, base1, base2, base3, Option.isNone_none, Option.isNone_some, Nat.reduceBEq, true_or, or_true, false_or, or_false, Nat.reduceLT, Nat.reduceMod, Nat.reducePow, rmaps, nsucc, List.flatten_cons, List.flatten_nil, Nat.reduceEqDiff, Nat.reduceLeDiff, Nat.reduceAdd, Nat.reduceMul, Nat.reduceSub, ↓reduceIte, reduceCtorEq, decide_true, decide_false]
        have hbl := bitsN_len (rchd x)
        refine LWP.loop [] (fun m f H' => ∃ i, m = (bitsN (rchd x)).length - i ∧ (i ≤ (bitsN (rchd x)).length) ∧ (∀ s, s ∈ (bitsN (rchd x)).take i → dfs x s = none) ∧ f.t 6 = sysV x ∧ f.t 42 = .lst 1 ((bitsI (rchd x)).map fun x => [.v (.int .i64 x)]) .unk ∧ f.t 43 = .v (.int .i64 ((bitsN (rchd x)).length : Nat)) ∧ f.t 44 = .v (.int .i64 (i : Nat)) ∧ f.ds = [] ∧ H' = AH.none) ?_ ?_ (m := (bitsN (rchd x)).length - (0))
        · exact ⟨0, rfl, (by omega), (fun s hs => by simp at hs), f6, (by first | rfl | exact f42), (by first | rfl | exact f43), (by first | rfl | exact f44), rfl, rfl⟩
        · rintro m f H' ⟨i, rfl, hi, hz, f6, f42, f43, f44, hds, rfl⟩
          by_cases hlt : i < (bitsN (rchd x)).length
          · have hsm := bits_at hlt
            generalize hse : (bitsN (rchd x)).getD i 0 = s at hsm
            have hsb := bitsN_bit hsm
            have hs10 := bitsN_lt hsm
            have hsn := bits_n hx hI.lt hsb
            have hp : 2 ^ s < 2 ^ nst x := Nat.pow_lt_pow_right (by omega) hsn
            simp only [List.length_map, bitsI_len, ltT hlt, inR hlt, Int.toNat_natCast, getD_bits hlt, hse, box_eq, boxV, f6, f42, f43, f44, hds, Cd.cd25, Tk.t25, base0, base1, base2, base3, Option.isNone_none, Option.isNone_some, Nat.reduceBEq, true_or, or_true, false_or, or_false, Nat.reduceLT, Nat.reduceMod, Nat.reducePow, rmaps, nsucc, List.flatten_cons, List.flatten_nil, Nat.reduceEqDiff, Nat.reduceLeDiff, Nat.reduceAdd, Nat.reduceMul, Nat.reduceSub, ↓reduceIte, reduceCtorEq, decide_true, decide_false]
            refine LWP.loop [] (fun m f H' => ∃ n, m = x.inp.toNat - n ∧ (n ≤ x.inp.toNat) ∧ (∀ j, j < n → deafAt x s j = false) ∧ f.t 6 = sysV x ∧ f.t 12 = .v (.int .i64 (s : Nat)) ∧ f.t 42 = .lst 1 ((bitsI (rchd x)).map fun x => [.v (.int .i64 x)]) .unk ∧ f.t 43 = .v (.int .i64 ((bitsN (rchd x)).length : Nat)) ∧ f.t 44 = .v (.int .i64 (i : Nat)) ∧ f.t 52 = .v (.int .i64 x.inp) ∧ f.t 53 = .v (.int .i64 (n : Nat)) ∧ f.ds = [] ∧ H' = AH.none) ?_ ?_ (m := x.inp.toNat - (0))
            · exact ⟨0, rfl, (by omega), (fun j hj => by omega), (by first | rfl | exact f6), (by first | rfl | exact f12), (by first | rfl | exact f42), (by first | rfl | exact f43), (by first | rfl | exact f44), (by first | rfl | exact f52), (by first | rfl | exact f53), rfl, rfl⟩
            · rintro m f H' ⟨n, rfl, hn, hzn, f6, f12, f42, f43, f44, f52, f53, hds, rfl⟩
              by_cases hnl : n < x.inp.toNat
              · simp only [show decide (((n : Nat) : Int) < x.inp) = true from decide_eq_true (by omega), show (((s : Nat) : Int) < 0) = False from by simp, Int.toNat_natCast, shlN hs10, f6, f12, f42, f43, f44, f52, f53, hds, Cd.cd25, Tk.t25, base0, base1, base2, base3, Option.isNone_none, Option.isNone_some, Nat.reduceBEq, true_or, or_true, false_or, or_false, Nat.reduceLT, Nat.reduceMod, Nat.reducePow, rmaps, nsucc, List.flatten_cons, List.flatten_nil, Nat.reduceEqDiff, Nat.reduceLeDiff, Nat.reduceAdd, Nat.reduceMul, Nat.reduceSub, ↓reduceIte, reduceCtorEq, decide_true, decide_false]
                first | refine FCall.go (closed75 x hx _ hp) (FZs.two (FZ.sysV x) (FZ.v _)) ?_ | refine FCall.go' (closed75 x hx _ hp) (FZs.two (FZ.sysV x) (FZ.v _)) ?_ | refine FCall.goQ (closed75 x hx _ hp) (FZs.two (FZ.sysV x) (FZ.v _)) ?_
                simp only [uv, f6, f12, f42, f43, f44, f52, f53, hds, Cd.cd25, Tk.t25, base0, base1, base2, base3, Option.isNone_none, Option.isNone_some, Nat.reduceBEq, true_or, or_true, false_or, or_false, Nat.reduceLT, Nat.reduceMod, Nat.reducePow, rmaps, nsucc, List.flatten_cons, List.flatten_nil, Nat.reduceEqDiff, Nat.reduceLeDiff, Nat.reduceAdd, Nat.reduceMul, Nat.reduceSub, ↓reduceIte, reduceCtorEq, decide_true, decide_false]
                first | refine FCall.go (after74 x hx _ n (cl_lt hx hp)) (FZs.three (FZ.sysV x) (FZ.v _) (FZ.v _)) ?_ | refine FCall.go' (after74 x hx _ n (cl_lt hx hp)) (FZs.three (FZ.sysV x) (FZ.v _) (FZ.v _)) ?_ | refine FCall.goQ (after74 x hx _ n (cl_lt hx hp)) (FZs.three (FZ.sysV x) (FZ.v _) (FZ.v _)) ?_
                by_cases hd : aft x (cl x (2 ^ s)) n = 0
                · simp only [uv, eqU0, decide_eq_true hd, f6, f12, f42, f43, f44, f52, f53, hds, Cd.cd25, Tk.t25, base0, base1, base2, base3, Option.isNone_none, Option.isNone_some, Nat.reduceBEq, true_or, or_true, false_or, or_false, Nat.reduceLT, Nat.reduceMod, Nat.reducePow, rmaps, nsucc, List.flatten_cons, List.flatten_nil, Nat.reduceEqDiff, Nat.reduceLeDiff, Nat.reduceAdd, Nat.reduceMul, Nat.reduceSub, ↓reduceIte, reduceCtorEq, decide_true, decide_false]
                  refine fin_3 ?_
                  have hdf : dfs x s = some n := by
                    unfold dfs
                    rw [if_pos hsb]
                    exact firstIx_some hnl (by unfold deafAt; rw [hd]; rfl) hzn
                  rw [hrv, deafN_some hsn hdf fun t ht => ?_]
                  · rfl
                  · by_cases htb : (rchd x).testBit t = true
                    · exact hz t (bits_before hlt ((bitsN_mem hc').mpr htb) (by rw [hse]; exact ht))
                    · unfold dfs; rw [if_neg htb]
                · simp only [uv, eqU0, decide_eq_false hd, f6, f12, f42, f43, f44, f52, f53, hds, Cd.cd25, Tk.t25, base0, base1, base2, base3, Option.isNone_none, Option.isNone_some, Nat.reduceBEq, true_or, or_true, false_or, or_false, Nat.reduceLT, Nat.reduceMod, Nat.reducePow, rmaps, nsucc, List.flatten_cons, List.flatten_nil, Nat.reduceEqDiff, Nat.reduceLeDiff, Nat.reduceAdd, Nat.reduceMul, Nat.reduceSub, ↓reduceIte, reduceCtorEq, decide_true, decide_false]
                  exact ⟨_, by omega, n + 1, rfl, by omega, allS hzn (by unfold deafAt; simpa using hd), by rw [wrapS (by omega)]⟩
              · have hn' : n = x.inp.toNat := by omega
                have hdf : dfs x s = none := by
                  unfold dfs
                  rw [if_pos hsb]
                  exact firstIx_none (by rw [← hn']; exact hzn)
                simp only [show decide (((n : Nat) : Int) < x.inp) = false from decide_eq_false (by omega), f6, f12, f42, f43, f44, f52, f53, hds, Cd.cd25, Tk.t25, base0, base1, base2, base3, Option.isNone_none, Option.isNone_some, Nat.reduceBEq, true_or, or_true, false_or, or_false, Nat.reduceLT, Nat.reduceMod, Nat.reducePow, rmaps, nsucc, List.flatten_cons, List.flatten_nil, Nat.reduceEqDiff, Nat.reduceLeDiff, Nat.reduceAdd, Nat.reduceMul, Nat.reduceSub, ↓reduceIte, reduceCtorEq, decide_true, decide_false]
                refine ⟨_, by omega, i + 1, rfl, by omega, fun t ht => ?_, rfl, by rw [wrapS (by omega)]⟩
                rw [List.take_add_one, List.getElem?_eq_getElem hlt] at ht
                rcases List.mem_append.mp ht with ht | ht
                · exact hz t ht
                · have : t = s := by
                    rw [List.getD_eq_getElem?_getD, List.getElem?_eq_getElem hlt] at hse
                    simp only [Option.toList_some, List.mem_singleton] at ht
                    rw [ht]; exact hse
                  rw [this]; exact hdf
          · have hi' : i = (bitsN (rchd x)).length := by omega
            simp only [List.length_map, bitsI_len, ltF hlt, f6, f42, f43, f44, hds, Cd.cd25, Tk.t25, base0, base1, base2, base3, Option.isNone_none, Option.isNone_some, Nat.reduceBEq, true_or, or_true, false_or, or_false, Nat.reduceLT, Nat.reduceMod, Nat.reducePow, rmaps, nsucc, List.flatten_cons, List.flatten_nil, Nat.reduceEqDiff, Nat.reduceLeDiff, Nat.reduceAdd, Nat.reduceMul, Nat.reduceSub, ↓reduceIte, reduceCtorEq, decide_true, decide_false]
            refine fin_3 ?_
            rw [hrv, deafN_none fun t ht => ?_]
            · rfl
            · by_cases htb : (rchd x).testBit t = true
              · exact hz t (by rw [hi', List.take_length]; exact (bitsN_mem hc').mpr htb)
              · unfold dfs; rw [if_neg htb]
      | true =>
        obtain ⟨hk1, hk2⟩ := hk rfl
        simp only [f6, f7, f8, hds, Cd.cd25, Tk.t25, base0, base1, base2, base3, Option.isNone_none, Option.isNone_some, Nat.reduceBEq, true_or, or_true, false_or, or_false, Nat.reduceLT, Nat.reduceMod, Nat.reducePow, rmaps, nsucc, List.flatten_cons, List.flatten_nil, Nat.reduceEqDiff, Nat.reduceLeDiff, Nat.reduceAdd, Nat.reduceMul, Nat.reduceSub, ↓reduceIte, reduceCtorEq, decide_true, decide_false]
        first | refine FCall.go (silence73 x hx) (FZs.one (FZ.sysV x)) ?_ | refine FCall.go' (silence73 x hx) (FZs.one (FZ.sysV x)) ?_ | refine FCall.goQ (silence73 x hx) (FZs.one (FZ.sysV x)) ?_
        simp only [f6, f7, f8, hds, Cd.cd25, Tk.t25, base0, base1, base2, base3, Option.isNone_none, Option.isNone_some, Nat.reduceBEq, true_or, or_true, false_or, or_false, Nat.reduceLT, Nat.reduceMod, Nat.reducePow, rmaps, nsucc, List.flatten_cons, List.flatten_nil, Nat.reduceEqDiff, Nat.reduceLeDiff, Nat.reduceAdd, Nat.reduceMul, Nat.reduceSub, ↓reduceIte, reduceCtorEq, decide_true, decide_false]
        refine LWP.loop [] (fun m f H' => ∃ e, m = silc x - e ∧ (e ≤ silc x) ∧ f.t 6 = sysV x ∧ f.t 7 = .v (.int .u64 (c : Nat)) ∧ f.t 9 = .v (.int .u64 (recvP x c e : Nat)) ∧ f.t 26 = .v (.int .i64 (silc x : Nat)) ∧ f.t 27 = .v (.int .i64 (e : Nat)) ∧ f.ds = [] ∧ H' = AH.none) ?_ ?_ (m := silc x - (0))
        · exact ⟨0, rfl, (by omega), by first | exact f6 | rfl, by first | exact f7 | rfl, by rfl, (by first | rfl | exact f26), (by first | rfl | exact f27), rfl, rfl⟩
        · rintro m f H' ⟨e, rfl, he, f6, f7, f9, f26, f27, hds, rfl⟩
          by_cases hle : e < silc x
          · have hs1 := hx.pw (recvP_lt hx hI.lt e)
            have hs2 := hx.pw (aft_lt hx hI.lt e)
            have hsu := recvP_succ x c e
            simp only [ltT hle, f6, f7, f9, f26, f27, hds, Cd.cd25, Tk.t25, base0, base1, base2, base3, Option.isNone_none, Option.isNone_some, Nat.reduceBEq, true_or, or_true, false_or, or_false, Nat.reduceLT, Nat.reduceMod, Nat.reducePow, rmaps, nsucc, List.flatten_cons, List.flatten_nil, Nat.reduceEqDiff, Nat.reduceLeDiff, Nat.reduceAdd, Nat.reduceMul, Nat.reduceSub, ↓reduceIte, reduceCtorEq, decide_true, decide_false]
            first | refine FCall.go (after74 x hx _ e hI.lt) (FZs.three (FZ.sysV x) (FZ.v _) (FZ.v _)) ?_ | refine FCall.go' (after74 x hx _ e hI.lt) (FZs.three (FZ.sysV x) (FZ.v _) (FZ.v _)) ?_ | refine FCall.goQ (after74 x hx _ e hI.lt) (FZs.three (FZ.sysV x) (FZ.v _) (FZ.v _)) ?_
            simp only [uv, orU hs1 hs2, f6, f7, f9, f26, f27, hds, Cd.cd25, Tk.t25, base0, base1, base2, base3, Option.isNone_none, Option.isNone_some, Nat.reduceBEq, true_or, or_true, false_or, or_false, Nat.reduceLT, Nat.reduceMod, Nat.reducePow, rmaps, nsucc, List.flatten_cons, List.flatten_nil, Nat.reduceEqDiff, Nat.reduceLeDiff, Nat.reduceAdd, Nat.reduceMul, Nat.reduceSub, ↓reduceIte, reduceCtorEq, decide_true, decide_false]
            exact ⟨_, by omega, e + 1, rfl, by omega, by rw [hsu], by rw [wrapS (by omega)]⟩
          · have he' : e = silc x := by omega
            subst he'
            have hrc : recvP x c (silc x) = recv x c := rfl
            by_cases hf : recv x c = c
            · simp only [ltF hle, hrc, neU, show decide (recv x c ≠ c) = false from decide_eq_false (by simpa using hf), f6, f7, f9, f26, f27, hds, Cd.cd25, Tk.t25, base0, base1, base2, base3, Option.isNone_none, Option.isNone_some, Nat.reduceBEq, true_or, or_true, false_or, or_false, Nat.reduceLT, Nat.reduceMod, Nat.reducePow, rmaps, nsucc, List.flatten_cons, List.flatten_nil, Nat.reduceEqDiff, Nat.reduceLeDiff, Nat.reduceAdd, Nat.reduceMul, Nat.reduceSub, ↓reduceIte, reduceCtorEq, decide_true, decide_false]
              exact ⟨_, by simp, c, k, false, rfl, hI, fun h => (by cases h), fun _ => by rw [← hk1]; exact (rcF_of_fix hf).symm, by rw [hf], rfl⟩
            · simp only [ltF hle, hrc, neU, decide_eq_true hf, f6, f7, f9, f26, f27, hds, Cd.cd25, Tk.t25, base0, base1, base2, base3, Option.isNone_none, Option.isNone_some, Nat.reduceBEq, true_or, or_true, false_or, or_false, Nat.reduceLT, Nat.reduceMod, Nat.reducePow, rmaps, nsucc, List.flatten_cons, List.flatten_nil, Nat.reduceEqDiff, Nat.reduceLeDiff, Nat.reduceAdd, Nat.reduceMul, Nat.reduceSub, ↓reduceIte, reduceCtorEq, decide_true, decide_false]
              have h2 := recv_ge (x := x) c
              have h3 := hx.pw (recv_lt hx hI.lt)
              cases k with
              | zero => omega
              | succ k =>
                have hk3 : rcF x k (recv x c) = rchd x := by rw [← hk1, rcF, if_neg hf]
                exact ⟨_, by simp; omega, recv x c, k, true, rfl, hI.next hx, fun _ => ⟨hk3, by omega⟩, fun h => (by cases h), rfl, rfl⟩
  · simp only [bneT h1, Cd.cd25, Tk.t25, base0, base1, base2, base3, Option.isNone_none, Option.isNone_some, Nat.reduceBEq, true_or, or_true, false_or, or_false, Nat.reduceLT, Nat.reduceMod, Nat.reducePow, rmaps, nsucc, List.flatten_cons, List.flatten_nil, Nat.reduceEqDiff, Nat.reduceLeDiff, Nat.reduceAdd, Nat.reduceMul, Nat.reduceSub, ↓reduceIte, reduceCtorEq, decide_true, decide_false]
    exact fin_3 (by rw [recpV, if_pos h1])
end Go.Proofs.YtchpcjmgifnmdaaDoor

/- Part 4 of a proof: conformRelations holds for every input; no condition. -/
import Derived.Test.YtchpcjmgifnmdaaDoorProg
import Derived.KernelRfl
import Derived.DeepKeys3
import Derived.Test.YtchpcjmgifnmdaaDoorRows
import Derived.Test.YtchpcjmgifnmdaaDoorCards
import Derived.Test.YtchpcjmgifnmdaaDoorTie
import Derived.ProofKit
import Derived.OpenShut
import Derived.SizedLaws
import Derived.Deep.DeepHandedRow
import Derived.Lib.LaidTab
import Derived.Test.YtchpcjmgifnmdaaDoorGl
import Derived.Test.YtchpcjmgifnmdaaDoorAb0
import Derived.Test.YtchpcjmgifnmdaaDoorAb1
import Derived.Test.YtchpcjmgifnmdaaDoorAb2
import Derived.Test.YtchpcjmgifnmdaaDoorAb3
import Derived.Test.YtchpcjmgifnmdaaDoorAb4
import Derived.Test.YtchpcjmgifnmdaaDoorAb5
import Derived.Test.YtchpcjmgifnmdaaDoorAb6
import Derived.Test.YtchpcjmgifnmdaaDoorAb7
import Derived.Test.YtchpcjmgifnmdaaDoorAb8
import Derived.Test.YtchpcjmgifnmdaaDoorAb8a
import Derived.Test.YtchpcjmgifnmdaaDoorAb8b
import Derived.Test.YtchpcjmgifnmdaaDoorAb8c
import Derived.Test.YtchpcjmgifnmdaaDoorAb8m
import Derived.Test.YtchpcjmgifnmdaaDoorAb8d
import Derived.Test.YtchpcjmgifnmdaaDoorAb9
import Derived.Test.YtchpcjmgifnmdaaDoorAb10
import Derived.Test.YtchpcjmgifnmdaaDoorAb11
import Derived.Test.YtchpcjmgifnmdaaDoorAb12
import Derived.Test.YtchpcjmgifnmdaaDoorAb13
import Derived.Test.YtchpcjmgifnmdaaDoorAb14
import Derived.Test.YtchpcjmgifnmdaaDoorAb15
import Derived.Test.YtchpcjmgifnmdaaDoorAb16
import Derived.Test.YtchpcjmgifnmdaaDoorAb17
import Derived.Test.YtchpcjmgifnmdaaDoorAb18
import Derived.Test.YtchpcjmgifnmdaaDoorAb19
import Derived.Test.YtchpcjmgifnmdaaDoorAb20
import Derived.Test.YtchpcjmgifnmdaaDoorAb23
import Derived.Test.YtchpcjmgifnmdaaDoorQf3
set_option linter.unusedSimpArgs false
set_option linter.unusedVariables false
set_option linter.defProp false
/- Walks: the reference's check of relations, and the law. -/
namespace Go.Proofs.YtchpcjmgifnmdaaDoor
open Go Go.Proofs.YtchpcjmgifnmdaaDoor.Ab
set_option maxRecDepth 100000
set_option linter.unusedSimpArgs false

theorem orI_r {a b : Int} (h : a = 0) : orI a b = b := by unfold orI; rw [if_neg (by simpa using h)]
theorem orI_l {a b : Int} (h : a ≠ 0) : orI a b = a := by unfold orI; rw [if_pos h]
theorem badE_eq (x y : Re) (l : List Pr) (p : Pr) (e : Nat) : badE x y l p e = (shw x (cl x (maskL p.sys)) e && !shw y (cl y (maskL p.spec)) e || (decide (aft y (cl y (maskL p.spec)) e ≠ 0) && !hasP l (aft x (cl x (maskL p.sys)) e) (aft y (cl y (maskL p.spec)) e))) := rfl
set_option maxHeartbeats 8000000 in
theorem rel45 (x y : Re) (hx : Ok x) (hy : Ok y) (hi0 : x.inp = y.inp) (hio : silc y = silc x) (l : List Pr) (hl62 : ∀ p ∈ l, p.sys.length < 2 ^ 62 ∧ p.spec.length < 2 ^ 62) : FCall Tryd.prog 45 [reV x, reV y, prsV l] (· = .tup [.v (.int .i64 (relC x y l).1), .v (.int .i64 (relC x y l).2)]) := by
  simp only [reV, reL, mvsV, prsV]
  refine ACall.enter [] Cd.fn45 (by simp) ?_
  by_cases h300 : 300 < l.length
  · simp only [List.length_map, show decide (((l.length : Nat) : Int) > 300) = true from decide_eq_true (by omega), Cd.cd45, Tk.t45, base0, base1, base2, base3, Option.isNone_none, Option.isNone_some, Nat.reduceBEq, true_or, or_true, false_or, or_false, Nat.reduceLT, Nat.reduceMod, Nat.reducePow, rmaps, nsucc, List.flatten_cons, List.flatten_nil, Nat.reduceEqDiff, Nat.reduceLeDiff, Nat.reduceAdd, Nat.reduceMul, Nat.reduceSub, ↓reduceIte, reduceCtorEq, decide_true, decide_false]
    exact fin_p (by rw [relC, if_pos h300])
  simp only [List.length_map, show decide (((l.length : Nat) : Int) > 300) = false from decide_eq_false (by omega), Cd.cd45, Tk.t45, base0, base1, base2, base3, Option.isNone_none, Option.isNone_some, Nat.reduceBEq, true_or, or_true, false_or, or_false, Nat.reduceLT, Nat.reduceMod, Nat.reducePow, rmaps, nsucc, List.flatten_cons, List.flatten_nil, Nat.reduceEqDiff, Nat.reduceLeDiff, Nat.reduceAdd, Nat.reduceMul, Nat.reduceSub, ↓reduceIte, reduceCtorEq, decide_true, decide_false]
  refine LWP.loop [] (fun m f H' => ∃ i, m = l.length - i ∧ (i ≤ l.length) ∧ (∀ j, j < i → pairE x y (l.getD j default) = 0) ∧ f.t 2 = .lst 2 (l.map enQ) .unk ∧ f.t 3 = .box [.v (.int .i64 x.st), .v (.int .i64 x.s0), .v (.int .i64 x.inp), .v (.int .i64 x.out), .lst 4 (x.mv.map mvR) .unk] ∧ f.t 4 = .box [.v (.int .i64 y.st), .v (.int .i64 y.s0), .v (.int .i64 y.inp), .v (.int .i64 y.out), .lst 4 (y.mv.map mvR) .unk] ∧ f.t 8 = .v (.int .i64 (i : Nat)) ∧ f.ds = [] ∧ H' = AH.none) ?_ ?_ (m := l.length - (0))
  · exact ⟨0, rfl, (by omega), (fun j hj => by omega), rfl, rfl, rfl, rfl, rfl, rfl⟩
  · rintro m f H' ⟨i, rfl, hi, hz, f2, f3, f4, f8, hds, rfl⟩
    by_cases hlt : i < l.length
    · have hgp := getD_map enQ l i hlt
      have hl2 := hl62 _ (getD_mem hlt)
      have hzi : ∀ v, pairE x y (l.getD i default) = v → v = 0 → ∀ j, j < i + 1 → pairE x y (l.getD j default) = 0 := fun v h1 h2 => allS hz (by rw [h1, h2])
      have hpr : ∀ v, pairE x y (l.getD i default) = v → v ≠ 0 → relC x y l = ((i : Int), v) := fun v h1 h2 => relC_pair h300 hlt hz h1 h2
      generalize hpe : l.getD i default = p at hgp hl2 hzi hpr
      simp only [List.length_map, ltT hlt, inR hlt, Int.toNat_natCast, hgp, enQ, f2, f3, f4, f8, hds, Cd.cd45, Tk.t45, base0, base1, base2, base3, Option.isNone_none, Option.isNone_some, Nat.reduceBEq, true_or, or_true, false_or, or_false, Nat.reduceLT, Nat.reduceMod, Nat.reducePow, rmaps, nsucc, List.flatten_cons, List.flatten_nil, Nat.reduceEqDiff, Nat.reduceLeDiff, Nat.reduceAdd, Nat.reduceMul, Nat.reduceSub, ↓reduceIte, reduceCtorEq, decide_true, decide_false]
      first | refine FCall.go (rSetErr32 x p.sys hl2.1) (FZs.two (FZ.reV x) (FZ.ints _)) ?_ | refine FCall.go' (rSetErr32 x p.sys hl2.1) (FZs.two (FZ.reV x) (FZ.ints _)) ?_ | refine FCall.goQ (rSetErr32 x p.sys hl2.1) (FZs.two (FZ.reV x) (FZ.ints _)) ?_
      by_cases e1 : setE x p.sys = 0
      · simp only [show (setE x p.sys != 0) = false from by rw [e1]; rfl, List.length_map, inR hlt, Int.toNat_natCast, hgp, enQ, f2, f3, f4, f8, hds, Cd.cd45, Tk.t45, base0, base1, base2, base3, Option.isNone_none, Option.isNone_some, Nat.reduceBEq, true_or, or_true, false_or, or_false, Nat.reduceLT, Nat.reduceMod, Nat.reducePow, rmaps, nsucc, List.flatten_cons, List.flatten_nil, Nat.reduceEqDiff, Nat.reduceLeDiff, Nat.reduceAdd, Nat.reduceMul, Nat.reduceSub, ↓reduceIte, reduceCtorEq, decide_true, decide_false]
        first | refine FCall.go (rSetErr32 y p.spec hl2.2) (FZs.two (FZ.reV y) (FZ.ints _)) ?_ | refine FCall.go' (rSetErr32 y p.spec hl2.2) (FZs.two (FZ.reV y) (FZ.ints _)) ?_ | refine FCall.goQ (rSetErr32 y p.spec hl2.2) (FZs.two (FZ.reV y) (FZ.ints _)) ?_
        have hp : pairE x y p = setE y p.spec := orI_r e1
        by_cases e2 : setE y p.spec = 0
        · simp only [show (setE y p.spec != 0) = false from by rw [e2]; rfl, f2, f3, f4, f8, hds, Cd.cd45, Tk.t45, base0, base1, base2, base3, Option.isNone_none, Option.isNone_some, Nat.reduceBEq, true_or, or_true, false_or, or_false, Nat.reduceLT, Nat.reduceMod, Nat.reducePow, rmaps, nsucc, List.flatten_cons, List.flatten_nil, Nat.reduceEqDiff, Nat.reduceLeDiff, Nat.reduceAdd, Nat.reduceMul, Nat.reduceSub, ↓reduceIte, reduceCtorEq, decide_true, decide_false]
          refine ⟨_, by omega, i + 1, rfl, by omega, ?_⟩
          (repeat' apply And.intro) <;> first | rfl | (rw [wrapS (by omega)]) | omega | assumption | (exact hzi _ hp e2)
        · simp only [bneT e2, f2, f3, f4, f8, hds, Cd.cd45, Tk.t45, base0, base1, base2, base3, Option.isNone_none, Option.isNone_some, Nat.reduceBEq, true_or, or_true, false_or, or_false, Nat.reduceLT, Nat.reduceMod, Nat.reducePow, rmaps, nsucc, List.flatten_cons, List.flatten_nil, Nat.reduceEqDiff, Nat.reduceLeDiff, Nat.reduceAdd, Nat.reduceMul, Nat.reduceSub, ↓reduceIte, reduceCtorEq, decide_true, decide_false]
          exact fin_p (hpr _ hp e2)
      · simp only [bneT e1, f2, f3, f4, f8, hds, Cd.cd45, Tk.t45, base0, base1, base2, base3, Option.isNone_none, Option.isNone_some, Nat.reduceBEq, true_or, or_true, false_or, or_false, Nat.reduceLT, Nat.reduceMod, Nat.reducePow, rmaps, nsucc, List.flatten_cons, List.flatten_nil, Nat.reduceEqDiff, Nat.reduceLeDiff, Nat.reduceAdd, Nat.reduceMul, Nat.reduceSub, ↓reduceIte, reduceCtorEq, decide_true, decide_false]
        exact fin_p (hpr _ (orI_l e1) e1)
    · have hi' : i = l.length := by omega
      subst hi'
      have hall : ∀ p ∈ l, setE x p.sys = 0 ∧ setE y p.spec = 0 := fun p hp => by
        obtain ⟨j, hj, rfl⟩ := mem_getD hp
        exact orI_left (hz j hj)
      simp only [List.length_map, ltF hlt, f2, f3, f4, f8, hds, Cd.cd45, Tk.t45, base0, base1, base2, base3, Option.isNone_none, Option.isNone_some, Nat.reduceBEq, true_or, or_true, false_or, or_false, Nat.reduceLT, Nat.reduceMod, Nat.reducePow, rmaps, nsucc, List.flatten_cons, List.flatten_nil, Nat.reduceEqDiff, Nat.reduceLeDiff, Nat.reduceAdd, Nat.reduceMul, Nat.reduceSub, ↓reduceIte, reduceCtorEq, decide_true, decide_false]
      first | refine FCall.go (init63 x hx) (FZs.one (FZ.reV x)) ?_ | refine FCall.go' (init63 x hx) (FZs.one (FZ.reV x)) ?_ | refine FCall.goQ (init63 x hx) (FZs.one (FZ.reV x)) ?_
      simp only [f2, f3, f4, f8, hds, Cd.cd45, Tk.t45, base0, base1, base2, base3, Option.isNone_none, Option.isNone_some, Nat.reduceBEq, true_or, or_true, false_or, or_false, Nat.reduceLT, Nat.reduceMod, Nat.reducePow, rmaps, nsucc, List.flatten_cons, List.flatten_nil, Nat.reduceEqDiff, Nat.reduceLeDiff, Nat.reduceAdd, Nat.reduceMul, Nat.reduceSub, ↓reduceIte, reduceCtorEq, decide_true, decide_false]
      first | refine FCall.go (init63 y hy) (FZs.one (FZ.reV y)) ?_ | refine FCall.go' (init63 y hy) (FZs.one (FZ.reV y)) ?_ | refine FCall.goQ (init63 y hy) (FZs.one (FZ.reV y)) ?_
      simp only [f2, f3, f4, f8, hds, Cd.cd45, Tk.t45, base0, base1, base2, base3, Option.isNone_none, Option.isNone_some, Nat.reduceBEq, true_or, or_true, false_or, or_false, Nat.reduceLT, Nat.reduceMod, Nat.reducePow, rmaps, nsucc, List.flatten_cons, List.flatten_nil, Nat.reduceEqDiff, Nat.reduceLeDiff, Nat.reduceAdd, Nat.reduceMul, Nat.reduceSub, ↓reduceIte, reduceCtorEq, decide_true, decide_false]
      first | refine FCall.go (hasPair88 x y hx hy l (by omega) hall _ _ (hx.pw (fst_lt hx)) (hy.pw (fst_lt hy))) (FZs.three (FZ.prsV _) (FZ.setV _) (FZ.setV _)) ?_ | refine FCall.go' (hasPair88 x y hx hy l (by omega) hall _ _ (hx.pw (fst_lt hx)) (hy.pw (fst_lt hy))) (FZs.three (FZ.prsV _) (FZ.setV _) (FZ.setV _)) ?_ | refine FCall.goQ (hasPair88 x y hx hy l (by omega) hall _ _ (hx.pw (fst_lt hx)) (hy.pw (fst_lt hy))) (FZs.three (FZ.prsV _) (FZ.setV _) (FZ.setV _)) ?_
      cases hF : hasP l (fstM x) (fstM y) with
      | false =>
        simp only [f2, f3, f4, f8, hds, Cd.cd45, Tk.t45, base0, base1, base2, base3, Option.isNone_none, Option.isNone_some, Nat.reduceBEq, true_or, or_true, false_or, or_false, Nat.reduceLT, Nat.reduceMod, Nat.reducePow, rmaps, nsucc, List.flatten_cons, List.flatten_nil, Nat.reduceEqDiff, Nat.reduceLeDiff, Nat.reduceAdd, Nat.reduceMul, Nat.reduceSub, ↓reduceIte, reduceCtorEq, decide_true, decide_false]
        exact fin_p (relC_first h300 hz hF)
      | true =>
        simp only [f2, f3, f4, f8, hds, Cd.cd45, Tk.t45, base0, base1, base2, base3, Option.isNone_none, Option.isNone_some, Nat.reduceBEq, true_or, or_true, false_or, or_false, Nat.reduceLT, Nat.reduceMod, Nat.reducePow, rmaps, nsucc, List.flatten_cons, List.flatten_nil, Nat.reduceEqDiff, Nat.reduceLeDiff, Nat.reduceAdd, Nat.reduceMul, Nat.reduceSub, ↓reduceIte, reduceCtorEq, decide_true, decide_false]
        refine LWP.loop [] (fun m f H' => ∃ j, m = l.length - j ∧ (j ≤ l.length) ∧ (∀ i, i < j → badP x y l (l.getD i default) = false) ∧ f.t 2 = .lst 2 (l.map enQ) .unk ∧ f.t 3 = .box [.v (.int .i64 x.st), .v (.int .i64 x.s0), .v (.int .i64 x.inp), .v (.int .i64 x.out), .lst 4 (x.mv.map mvR) .unk] ∧ f.t 4 = .box [.v (.int .i64 y.st), .v (.int .i64 y.s0), .v (.int .i64 y.inp), .v (.int .i64 y.out), .lst 4 (y.mv.map mvR) .unk] ∧ f.t 11 = .v (.int .i64 (j : Nat)) ∧ f.ds = [] ∧ H' = AH.none) ?_ ?_ (m := l.length - (0))
        · exact ⟨0, rfl, (by omega), (fun i hi => by omega), (by first | rfl | exact f2), (by first | rfl | exact f3), (by first | rfl | exact f4), (by first | rfl | exact f11), rfl, rfl⟩
        · rintro m f H' ⟨j, rfl, hj, hb, f2, f3, f4, f11, hds, rfl⟩
          by_cases hjl : j < l.length
          · have hgp := getD_map enQ l j hjl
            have hpz := hall _ (getD_mem hjl)
            have hb' : badP x y l (l.getD j default) = false → ∀ i, i < j + 1 → badP x y l (l.getD i default) = false := fun h => allS hb h
            have hbt : badP x y l (l.getD j default) = true → relC x y l = ((j : Int), 30) := fun h => relC_bad h300 hz hF hjl hb h
            generalize hpe : l.getD j default = p at hgp hpz hb' hbt
            obtain ⟨e1, e2⟩ := hpz
            have m1 := setE_lt hx e1
            have m2 := setE_lt hy e2
            have n1 := setE_len hx e1
            have n2 := setE_len hy e2
            have c1 := cl_lt hx (set_lt hx m1)
            have c2 := cl_lt hy (set_lt hy m2)
            have hc1 := closed35 x hx p.sys m1 (by omega)
            have hc2 := closed35 y hy p.spec m2 (by omega)
            have hbd : badP x y l p = (List.range (silc x + 1)).any (badE x y l p) := rfl
            have hbe := badE_eq x y l p
            generalize hX : cl x (maskL p.sys) = X at c1 hc1 hbe
            generalize hY : cl y (maskL p.spec) = Y at c2 hc2 hbe
            simp only [List.length_map, ltT hjl, f2, f3, f4, f11, hds, Cd.cd45, Tk.t45, base0, base1, base2, base3, Option.isNone_none, Option.isNone_some, Nat.reduceBEq, true_or, or_true, false_or, or_false, Nat.reduceLT, Nat.reduceMod, Nat.reducePow, rmaps, nsucc, List.flatten_cons, List.flatten_nil, Nat.reduceEqDiff, Nat.reduceLeDiff, Nat.reduceAdd, Nat.reduceMul, Nat.reduceSub, ↓reduceIte, reduceCtorEq, decide_true, decide_false]
            refine LWP.loop [] (fun m f H' => ∃ e, m = silc x + 1 - e ∧ (e ≤ silc x + 1) ∧ (∀ i, i < e → badE x y l p i = false) ∧ f.t 2 = .lst 2 (l.map enQ) .unk ∧ f.t 3 = .box [.v (.int .i64 x.st), .v (.int .i64 x.s0), .v (.int .i64 x.inp), .v (.int .i64 x.out), .lst 4 (x.mv.map mvR) .unk] ∧ f.t 4 = .box [.v (.int .i64 y.st), .v (.int .i64 y.s0), .v (.int .i64 y.inp), .v (.int .i64 y.out), .lst 4 (y.mv.map mvR) .unk] ∧ f.t 11 = .v (.int .i64 (j : Nat)) ∧ f.t 12 = .v (.int .i64 (e : Nat)) ∧ f.ds = [] ∧ H' = AH.none) ?_ ?_ (m := silc x + 1 - (0))
            · exact ⟨0, rfl, (by omega), (fun i hi => by omega), (by first | rfl | exact f2), (by first | rfl | exact f3), (by first | rfl | exact f4), (by first | rfl | exact f11), (by first | rfl | exact f12), rfl, rfl⟩
            · rintro m f H' ⟨e, rfl, he, hee, f2, f3, f4, f11, f12, hds, rfl⟩
              simp only [f2, f3, f4, f11, f12, hds, Cd.cd45, Tk.t45, base0, base1, base2, base3, Option.isNone_none, Option.isNone_some, Nat.reduceBEq, true_or, or_true, false_or, or_false, Nat.reduceLT, Nat.reduceMod, Nat.reducePow, rmaps, nsucc, List.flatten_cons, List.flatten_nil, Nat.reduceEqDiff, Nat.reduceLeDiff, Nat.reduceAdd, Nat.reduceMul, Nat.reduceSub, ↓reduceIte, reduceCtorEq, decide_true, decide_false]
              first | refine FCall.go (silence41 x) (FZs.one (FZ.reV x)) ?_ | refine FCall.go' (silence41 x) (FZs.one (FZ.reV x)) ?_ | refine FCall.goQ (silence41 x) (FZs.one (FZ.reV x)) ?_
              by_cases hle : e ≤ silc x
              · have hei : ∀ v, badE x y l p e = v → v = false → ∀ i, i < e + 1 → badE x y l p i = false := fun v h1 h2 => allS hee (by rw [h1, h2])
                have hbad : badE x y l p e = true → relC x y l = ((j : Int), 30) := fun h => hbt (by rw [hbd, List.any_eq_true]; exact ⟨e, List.mem_range.mpr (by omega), h⟩)
                have hbe' := hbe e
                have b1 := aft_lt hx c1 e
                have b2 := aft_lt hy c2 e
                simp only [silc_eq hx, show decide (((e : Nat) : Int) ≤ ((silc x : Nat) : Int)) = true from decide_eq_true (by omega), List.length_map, inR hjl, Int.toNat_natCast, hgp, enQ, f2, f3, f4, f11, f12, hds, Cd.cd45, Tk.t45, base0, base1, base2, base3, Option.isNone_none, Option.isNone_some, Nat.reduceBEq, true_or, or_true, false_or, or_false, Nat.reduceLT, Nat.reduceMod, Nat.reducePow, rmaps, nsucc, List.flatten_cons, List.flatten_nil, Nat.reduceEqDiff, Nat.reduceLeDiff, Nat.reduceAdd, Nat.reduceMul, Nat.reduceSub, ↓reduceIte, reduceCtorEq, decide_true, decide_false]
                first | refine FCall.go hc1 (FZs.two (FZ.reV x) (FZ.ints _)) ?_ | refine FCall.go' hc1 (FZs.two (FZ.reV x) (FZ.ints _)) ?_ | refine FCall.goQ hc1 (FZs.two (FZ.reV x) (FZ.ints _)) ?_
                simp only [f2, f3, f4, f11, f12, hds, Cd.cd45, Tk.t45, base0, base1, base2, base3, Option.isNone_none, Option.isNone_some, Nat.reduceBEq, true_or, or_true, false_or, or_false, Nat.reduceLT, Nat.reduceMod, Nat.reducePow, rmaps, nsucc, List.flatten_cons, List.flatten_nil, Nat.reduceEqDiff, Nat.reduceLeDiff, Nat.reduceAdd, Nat.reduceMul, Nat.reduceSub, ↓reduceIte, reduceCtorEq, decide_true, decide_false]
                first | refine FCall.go (after64 x hx X e c1 hle) (FZs.three (FZ.reV x) (FZ.setV _) (FZ.v _)) ?_ | refine FCall.go' (after64 x hx X e c1 hle) (FZs.three (FZ.reV x) (FZ.setV _) (FZ.v _)) ?_ | refine FCall.goQ (after64 x hx X e c1 hle) (FZs.three (FZ.reV x) (FZ.setV _) (FZ.v _)) ?_
                simp only [List.length_map, inR hjl, Int.toNat_natCast, hgp, enQ, f2, f3, f4, f11, f12, hds, Cd.cd45, Tk.t45, base0, base1, base2, base3, Option.isNone_none, Option.isNone_some, Nat.reduceBEq, true_or, or_true, false_or, or_false, Nat.reduceLT, Nat.reduceMod, Nat.reducePow, rmaps, nsucc, List.flatten_cons, List.flatten_nil, Nat.reduceEqDiff, Nat.reduceLeDiff, Nat.reduceAdd, Nat.reduceMul, Nat.reduceSub, ↓reduceIte, reduceCtorEq, decide_true, decide_false]
                first | refine FCall.go hc2 (FZs.two (FZ.reV y) (FZ.ints _)) ?_ | refine FCall.go' hc2 (FZs.two (FZ.reV y) (FZ.ints _)) ?_ | refine FCall.goQ hc2 (FZs.two (FZ.reV y) (FZ.ints _)) ?_
                simp only [f2, f3, f4, f11, f12, hds, Cd.cd45, Tk.t45, base0, base1, base2, base3, Option.isNone_none, Option.isNone_some, Nat.reduceBEq, true_or, or_true, false_or, or_false, Nat.reduceLT, Nat.reduceMod, Nat.reducePow, rmaps, nsucc, List.flatten_cons, List.flatten_nil, Nat.reduceEqDiff, Nat.reduceLeDiff, Nat.reduceAdd, Nat.reduceMul, Nat.reduceSub, ↓reduceIte, reduceCtorEq, decide_true, decide_false]
                first | refine FCall.go (after64 y hy Y e c2 (by omega)) (FZs.three (FZ.reV y) (FZ.setV _) (FZ.v _)) ?_ | refine FCall.go' (after64 y hy Y e c2 (by omega)) (FZs.three (FZ.reV y) (FZ.setV _) (FZ.v _)) ?_ | refine FCall.goQ (after64 y hy Y e c2 (by omega)) (FZs.three (FZ.reV y) (FZ.setV _) (FZ.v _)) ?_
                by_cases hz0 : aft y Y e = 0
                · have hb0 : badE x y l p e = shw x X e := by
                    rw [hbe', hz0]
                    unfold shw
                    rw [hz0]; simp
                  have hsx : shw x X e = (decide (x.inp.toNat ≤ e) && decide (aft x X e ≠ 0)) := by
                    unfold shw
                    by_cases h : aft x X e = 0 <;> simp [h]
                  by_cases hin : x.inp.toNat ≤ e
                  · by_cases ha : aft x X e = 0
                    · simp only [setV, ints, List.length_map, bitsI_len, setV_z0 hy b2, setV_pos hx b1, setV_pos hy b2, decide_eq_true hz0, show decide (((e : Nat) : Int) ≥ x.inp) = true from decide_eq_true (by omega), show decide (aft x X e ≠ 0) = false from decide_eq_false (by simpa using ha), show decide (aft y Y e ≠ 0) = false from decide_eq_false (by simpa using hz0), f2, f3, f4, f11, f12, hds, Cd.cd45, Tk.t45, base0, base1, base2, base3, Option.isNone_none, Option.isNone_some, Nat.reduceBEq, true_or, or_true, false_or, or_false, Nat.reduceLT, Nat.reduceMod, Nat.reducePow, rmaps, nsucc, List.flatten_cons, List.flatten_nil, Nat.reduceEqDiff, Nat.reduceLeDiff, Nat.reduceAdd, Nat.reduceMul, Nat.reduceSub, ↓reduceIte, reduceCtorEq, decide_true, decide_false]
                      exact ⟨_, by omega, e + 1, rfl, by omega, hei _ hb0 (by rw [hsx, ha]; simp), by rw [wrapS (by have := silc_le hx; omega)]⟩
                    · simp only [setV, ints, List.length_map, bitsI_len, setV_z0 hy b2, setV_pos hx b1, setV_pos hy b2, decide_eq_true hz0, show decide (((e : Nat) : Int) ≥ x.inp) = true from decide_eq_true (by omega), decide_eq_true ha, f2, f3, f4, f11, f12, hds, Cd.cd45, Tk.t45, base0, base1, base2, base3, Option.isNone_none, Option.isNone_some, Nat.reduceBEq, true_or, or_true, false_or, or_false, Nat.reduceLT, Nat.reduceMod, Nat.reducePow, rmaps, nsucc, List.flatten_cons, List.flatten_nil, Nat.reduceEqDiff, Nat.reduceLeDiff, Nat.reduceAdd, Nat.reduceMul, Nat.reduceSub, ↓reduceIte, reduceCtorEq, decide_true, decide_false]
                      exact fin_p (hbad (by rw [hb0, hsx, decide_eq_true hin, decide_eq_true ha]; rfl))
                  · simp only [setV, ints, List.length_map, bitsI_len, setV_z0 hy b2, setV_pos hx b1, setV_pos hy b2, decide_eq_true hz0, show decide (((e : Nat) : Int) ≥ x.inp) = false from decide_eq_false (by omega), show decide (aft y Y e ≠ 0) = false from decide_eq_false (by simpa using hz0), f2, f3, f4, f11, f12, hds, Cd.cd45, Tk.t45, base0, base1, base2, base3, Option.isNone_none, Option.isNone_some, Nat.reduceBEq, true_or, or_true, false_or, or_false, Nat.reduceLT, Nat.reduceMod, Nat.reducePow, rmaps, nsucc, List.flatten_cons, List.flatten_nil, Nat.reduceEqDiff, Nat.reduceLeDiff, Nat.reduceAdd, Nat.reduceMul, Nat.reduceSub, ↓reduceIte, reduceCtorEq, decide_true, decide_false]
                    exact ⟨_, by omega, e + 1, rfl, by omega, hei _ hb0 (by rw [hsx, decide_eq_false hin]; rfl), by rw [wrapS (by have := silc_le hx; omega)]⟩
                · have hb0 : badE x y l p e = !hasP l (aft x X e) (aft y Y e) := by
                    rw [hbe']
                    unfold shw
                    rw [← hi0]
                    by_cases hin : x.inp.toNat ≤ e
                    · simp [hin, hz0]
                    · simp [hin, hz0]
                  simp only [setV, ints, List.length_map, bitsI_len, setV_z0 hy b2, setV_pos hx b1, setV_pos hy b2, decide_eq_false hz0, decide_eq_true hz0, f2, f3, f4, f11, f12, hds, Cd.cd45, Tk.t45, base0, base1, base2, base3, Option.isNone_none, Option.isNone_some, Nat.reduceBEq, true_or, or_true, false_or, or_false, Nat.reduceLT, Nat.reduceMod, Nat.reducePow, rmaps, nsucc, List.flatten_cons, List.flatten_nil, Nat.reduceEqDiff, Nat.reduceLeDiff, Nat.reduceAdd, Nat.reduceMul, Nat.reduceSub, ↓reduceIte, reduceCtorEq, decide_true, decide_false]
                  have hhp := hasPair88 x y hx hy l (by omega) hall _ _ (hx.pw b1) (hy.pw b2)
                  simp only [setV, ints, prsV] at hhp
                  first | refine FCall.go hhp (FZs.three (FZ.prsV l) (FZ.setV _) (FZ.setV _)) ?_ | refine FCall.go' hhp (FZs.three (FZ.prsV l) (FZ.setV _) (FZ.setV _)) ?_ | refine FCall.goQ hhp (FZs.three (FZ.prsV l) (FZ.setV _) (FZ.setV _)) ?_
                  cases hh : hasP l (aft x X e) (aft y Y e) with
                  | false =>
                    simp only [f2, f3, f4, f11, f12, hds, Cd.cd45, Tk.t45, base0, base1, base2, base3, Option.isNone_none, Option.isNone_some, Nat.reduceBEq, true_or, or_true, false_or, or_false, Nat.reduceLT, Nat.reduceMod, Nat.reducePow, rmaps, nsucc, List.flatten_cons, List.flatten_nil, Nat.reduceEqDiff, Nat.reduceLeDiff, Nat.reduceAdd, Nat.reduceMul, Nat.reduceSub, ↓reduceIte, reduceCtorEq, decide_true, decide_false]
                    exact fin_p (hbad (by rw [hb0, hh]; rfl))
                  | true =>
                    simp only [f2, f3, f4, f11, f12, hds, Cd.cd45, Tk.t45, base0, base1, base2, base3, Option.isNone_none, Option.isNone_some, Nat.reduceBEq, true_or, or_true, false_or, or_false, Nat.reduceLT, Nat.reduceMod, Nat.reducePow, rmaps, nsucc, List.flatten_cons, List.flatten_nil, Nat.reduceEqDiff, Nat.reduceLeDiff, Nat.reduceAdd, Nat.reduceMul, Nat.reduceSub, ↓reduceIte, reduceCtorEq, decide_true, decide_false]
                    exact ⟨_, by omega, e + 1, rfl, by omega, hei _ hb0 (by rw [hh]; rfl), by rw [wrapS (by have := silc_le hx; omega)]⟩
              · have hes : e = silc x + 1 := by omega
                subst hes
                simp only [silc_eq hx, show decide (((silc x + 1 : Nat) : Int) ≤ ((silc x : Nat) : Int)) = false from decide_eq_false (by omega), f2, f3, f4, f11, f12, hds, Cd.cd45, Tk.t45, base0, base1, base2, base3, Option.isNone_none, Option.isNone_some, Nat.reduceBEq, true_or, or_true, false_or, or_false, Nat.reduceLT, Nat.reduceMod, Nat.reducePow, rmaps, nsucc, List.flatten_cons, List.flatten_nil, Nat.reduceEqDiff, Nat.reduceLeDiff, Nat.reduceAdd, Nat.reduceMul, Nat.reduceSub, ↓reduceIte, reduceCtorEq, decide_true, decide_false]
                exact ⟨_, by omega, j + 1, rfl, by omega, hb' (by rw [hbd, List.any_eq_false]; intro e he; rw [hee e (List.mem_range.mp he)]; simp), by rw [wrapS (by omega)]⟩
          · simp only [List.length_map, ltF hjl, f2, f3, f4, f11, hds, Cd.cd45, Tk.t45, base0, base1, base2, base3, Option.isNone_none, Option.isNone_some, Nat.reduceBEq, true_or, or_true, false_or, or_false, Nat.reduceLT, Nat.reduceMod, Nat.reducePow, rmaps, nsucc, List.flatten_cons, List.flatten_nil, Nat.reduceEqDiff, Nat.reduceLeDiff, Nat.reduceAdd, Nat.reduceMul, Nat.reduceSub, ↓reduceIte, reduceCtorEq, decide_true, decide_false]
            have hjj : j = l.length := by omega
            subst hjj
            exact fin_p (relC_ok h300 hz hF hb)
set_option maxHeartbeats 4000000 in
theorem law9 (x y : Re) (l : List Pr) (hx0 : x.mv.length * 32 ≤ 140737488355328) (hy0 : y.mv.length * 32 ≤ 140737488355328) (hl0 : l.length * 48 ≤ 140737488355328) (hl1 : ∀ p ∈ l, p.sys.length * 8 ≤ 140737488355328 ∧ p.spec.length * 8 ≤ 140737488355328) : FCall Tryd.prog 9 [reV x, reV y, prsV l] (· = .v (.bool true)) := by
  have hOx := own18 x hx0
  have hOy := own18 y hy0
  have hOl := ownPairs44 l hl0 hl1
  have hl62 : ∀ p ∈ l, p.sys.length < 2 ^ 62 ∧ p.spec.length < 2 ^ 62 := fun p hp => by have := hl1 p hp; omega
  have hck := check43 x y l hl62
  simp only [reV, reL, mvsV, prsV] at hOx hOy hOl hck ⊢
  refine ACall.enter [] Cd.fn9 (by simp) ?_
  simp only [Cd.cd9, Tk.t9, base0, base1, base2, base3, Option.isNone_none, Option.isNone_some, Nat.reduceBEq, true_or, or_true, false_or, or_false, Nat.reduceLT, Nat.reduceMod, Nat.reducePow, rmaps, nsucc, List.flatten_cons, List.flatten_nil, Nat.reduceEqDiff, Nat.reduceLeDiff, Nat.reduceAdd, Nat.reduceMul, Nat.reduceSub, ↓reduceIte, reduceCtorEq, decide_true, decide_false]
  first | refine FCall.go awake15 (FZs.nil) ?_ | refine FCall.go' awake15 (FZs.nil) ?_ | refine FCall.goQ awake15 (FZs.nil) ?_
  simp only [Cd.cd9, Tk.t9, base0, base1, base2, base3, Option.isNone_none, Option.isNone_some, Nat.reduceBEq, true_or, or_true, false_or, or_false, Nat.reduceLT, Nat.reduceMod, Nat.reducePow, rmaps, nsucc, List.flatten_cons, List.flatten_nil, Nat.reduceEqDiff, Nat.reduceLeDiff, Nat.reduceAdd, Nat.reduceMul, Nat.reduceSub, ↓reduceIte, reduceCtorEq, decide_true, decide_false]
  first | refine FCall.go (two20 x y) (FZs.two (FZ.reV x) (FZ.reV y)) ?_ | refine FCall.go' (two20 x y) (FZs.two (FZ.reV x) (FZ.reV y)) ?_ | refine FCall.goQ (two20 x y) (FZs.two (FZ.reV x) (FZ.reV y)) ?_
  by_cases h0 : bothR x y = 0
  · by_cases h60 : 60 < l.length ∧ l.length ≤ 300
    · simp only [show (bothR x y == 0) = true from by rw [h0]; rfl, List.length_map, show decide (((l.length : Nat) : Int) > 60) = true from decide_eq_true (by omega), show decide (((l.length : Nat) : Int) ≤ 300) = true from decide_eq_true (by omega), Cd.cd9, Tk.t9, base0, base1, base2, base3, Option.isNone_none, Option.isNone_some, Nat.reduceBEq, true_or, or_true, false_or, or_false, Nat.reduceLT, Nat.reduceMod, Nat.reducePow, rmaps, nsucc, List.flatten_cons, List.flatten_nil, Nat.reduceEqDiff, Nat.reduceLeDiff, Nat.reduceAdd, Nat.reduceMul, Nat.reduceSub, ↓reduceIte, reduceCtorEq, decide_true, decide_false]
      exact fin_v rfl
    · obtain ⟨hx, hy, h1, h2, h3⟩ := bothR_ok h0
      have hrf : relF x y l = relC x y l := by rw [relF, if_neg (by simpa using h0)]
      have hrr := rel45 x y hx hy h1 h3 l hl62
      simp only [reV, reL, mvsV, prsV] at hrr
      rw [hrf] at hck
      rcases Nat.lt_or_ge 60 l.length with h61 | h61
      · simp only [show (bothR x y == 0) = true from by rw [h0]; rfl, List.length_map, show decide (((l.length : Nat) : Int) > 60) = true from decide_eq_true (by omega), show decide (((l.length : Nat) : Int) ≤ 300) = false from decide_eq_false (by omega), Cd.cd9, Tk.t9, base0, base1, base2, base3, Option.isNone_none, Option.isNone_some, Nat.reduceBEq, true_or, or_true, false_or, or_false, Nat.reduceLT, Nat.reduceMod, Nat.reducePow, rmaps, nsucc, List.flatten_cons, List.flatten_nil, Nat.reduceEqDiff, Nat.reduceLeDiff, Nat.reduceAdd, Nat.reduceMul, Nat.reduceSub, ↓reduceIte, reduceCtorEq, decide_true, decide_false]
        refine LWP.loop [] (fun m f H' => ∃ i, m = l.length - i ∧ (i ≤ l.length) ∧ f.t 2 = .lst 2 (l.map enQ) .unk ∧ f.t 3 = .box [.v (.int .i64 x.st), .v (.int .i64 x.s0), .v (.int .i64 x.inp), .v (.int .i64 x.out), .lst 4 (x.mv.map mvR) .unk] ∧ f.t 4 = .box [.v (.int .i64 y.st), .v (.int .i64 y.s0), .v (.int .i64 y.inp), .v (.int .i64 y.out), .lst 4 (y.mv.map mvR) .unk] ∧ f.t 7 = .v (.int .i64 (bothR x y)) ∧ f.t 8 = .v (.int .i64 (i : Nat)) ∧ f.ds = [] ∧ H' = AH.none) ?_ ?_ (m := l.length - (0))
        · exact ⟨0, rfl, (by omega), rfl, rfl, rfl, rfl, rfl, rfl, rfl⟩
        · rintro m f H' ⟨i, rfl, hi, f2, f3, f4, f7, f8, hds, rfl⟩
          by_cases hlt : i < l.length
          · have hgp := getD_map enQ l i hlt
            generalize hpe : l.getD i default = p at hgp
            by_cases h301 : l.length ≤ 300
            · by_cases hp1 : 100 < p.sys.length
              · simp only [List.length_map, ltT hlt, inR hlt, Int.toNat_natCast, hgp, enQ, ints, show decide (((l.length : Nat) : Int) ≤ 300) = true from decide_eq_true (by omega), show decide (((p.sys.length : Nat) : Int) > 100) = true from decide_eq_true (by omega), f2, f3, f4, f7, f8, hds, Cd.cd9, Tk.t9, base0, base1, base2, base3, Option.isNone_none, Option.isNone_some, Nat.reduceBEq, true_or, or_true, false_or, or_false, Nat.reduceLT, Nat.reduceMod, Nat.reducePow, rmaps, nsucc, List.flatten_cons, List.flatten_nil, Nat.reduceEqDiff, Nat.reduceLeDiff, Nat.reduceAdd, Nat.reduceMul, Nat.reduceSub, ↓reduceIte, reduceCtorEq, decide_true, decide_false]
                exact fin_v rfl
              · by_cases hp2 : 100 < p.spec.length
                · simp only [List.length_map, ltT hlt, inR hlt, Int.toNat_natCast, hgp, enQ, ints, show decide (((l.length : Nat) : Int) ≤ 300) = true from decide_eq_true (by omega), show decide (((p.sys.length : Nat) : Int) > 100) = false from decide_eq_false (by omega), show decide (((p.spec.length : Nat) : Int) > 100) = true from decide_eq_true (by omega), f2, f3, f4, f7, f8, hds, Cd.cd9, Tk.t9, base0, base1, base2, base3, Option.isNone_none, Option.isNone_some, Nat.reduceBEq, true_or, or_true, false_or, or_false, Nat.reduceLT, Nat.reduceMod, Nat.reducePow, rmaps, nsucc, List.flatten_cons, List.flatten_nil, Nat.reduceEqDiff, Nat.reduceLeDiff, Nat.reduceAdd, Nat.reduceMul, Nat.reduceSub, ↓reduceIte, reduceCtorEq, decide_true, decide_false]
                  exact fin_v rfl
                · simp only [List.length_map, ltT hlt, inR hlt, Int.toNat_natCast, hgp, enQ, ints, show decide (((l.length : Nat) : Int) ≤ 300) = true from decide_eq_true (by omega), show decide (((p.sys.length : Nat) : Int) > 100) = false from decide_eq_false (by omega), show decide (((p.spec.length : Nat) : Int) > 100) = false from decide_eq_false (by omega), f2, f3, f4, f7, f8, hds, Cd.cd9, Tk.t9, base0, base1, base2, base3, Option.isNone_none, Option.isNone_some, Nat.reduceBEq, true_or, or_true, false_or, or_false, Nat.reduceLT, Nat.reduceMod, Nat.reducePow, rmaps, nsucc, List.flatten_cons, List.flatten_nil, Nat.reduceEqDiff, Nat.reduceLeDiff, Nat.reduceAdd, Nat.reduceMul, Nat.reduceSub, ↓reduceIte, reduceCtorEq, decide_true, decide_false]
                  refine ⟨_, by omega, i + 1, rfl, ?_⟩
                  (repeat' apply And.intro) <;> first | rfl | (rw [wrapS (by omega)]) | omega | assumption
            · simp only [List.length_map, ltT hlt, inR hlt, Int.toNat_natCast, hgp, enQ, ints, show decide (((l.length : Nat) : Int) ≤ 300) = false from decide_eq_false (by omega), f2, f3, f4, f7, f8, hds, Cd.cd9, Tk.t9, base0, base1, base2, base3, Option.isNone_none, Option.isNone_some, Nat.reduceBEq, true_or, or_true, false_or, or_false, Nat.reduceLT, Nat.reduceMod, Nat.reducePow, rmaps, nsucc, List.flatten_cons, List.flatten_nil, Nat.reduceEqDiff, Nat.reduceLeDiff, Nat.reduceAdd, Nat.reduceMul, Nat.reduceSub, ↓reduceIte, reduceCtorEq, decide_true, decide_false]
              refine ⟨_, by omega, i + 1, rfl, ?_⟩
              (repeat' apply And.intro) <;> first | rfl | (rw [wrapS (by omega)]) | omega | assumption
          · simp only [List.length_map, ltF hlt, f2, f3, f4, f7, f8, hds, Cd.cd9, Tk.t9, base0, base1, base2, base3, Option.isNone_none, Option.isNone_some, Nat.reduceBEq, true_or, or_true, false_or, or_false, Nat.reduceLT, Nat.reduceMod, Nat.reducePow, rmaps, nsucc, List.flatten_cons, List.flatten_nil, Nat.reduceEqDiff, Nat.reduceLeDiff, Nat.reduceAdd, Nat.reduceMul, Nat.reduceSub, ↓reduceIte, reduceCtorEq, decide_true, decide_false]
            first | refine FCall.go hOx (FZs.one (FZ.reV x)) ?_ | refine FCall.go' hOx (FZs.one (FZ.reV x)) ?_ | refine FCall.goQ hOx (FZs.one (FZ.reV x)) ?_
            simp only [f2, f3, f4, f7, f8, hds, Cd.cd9, Tk.t9, base0, base1, base2, base3, Option.isNone_none, Option.isNone_some, Nat.reduceBEq, true_or, or_true, false_or, or_false, Nat.reduceLT, Nat.reduceMod, Nat.reducePow, rmaps, nsucc, List.flatten_cons, List.flatten_nil, Nat.reduceEqDiff, Nat.reduceLeDiff, Nat.reduceAdd, Nat.reduceMul, Nat.reduceSub, ↓reduceIte, reduceCtorEq, decide_true, decide_false]
            first | refine FCall.go hOy (FZs.one (FZ.reV y)) ?_ | refine FCall.go' hOy (FZs.one (FZ.reV y)) ?_ | refine FCall.goQ hOy (FZs.one (FZ.reV y)) ?_
            simp only [f2, f3, f4, f7, f8, hds, Cd.cd9, Tk.t9, base0, base1, base2, base3, Option.isNone_none, Option.isNone_some, Nat.reduceBEq, true_or, or_true, false_or, or_false, Nat.reduceLT, Nat.reduceMod, Nat.reducePow, rmaps, nsucc, List.flatten_cons, List.flatten_nil, Nat.reduceEqDiff, Nat.reduceLeDiff, Nat.reduceAdd, Nat.reduceMul, Nat.reduceSub, ↓reduceIte, reduceCtorEq, decide_true, decide_false]
            first | refine FCall.go hOl (FZs.one (FZ.prsV l)) ?_ | refine FCall.go' hOl (FZs.one (FZ.prsV l)) ?_ | refine FCall.goQ hOl (FZs.one (FZ.prsV l)) ?_
            simp only [f2, f3, f4, f7, f8, hds, Cd.cd9, Tk.t9, base0, base1, base2, base3, Option.isNone_none, Option.isNone_some, Nat.reduceBEq, true_or, or_true, false_or, or_false, Nat.reduceLT, Nat.reduceMod, Nat.reducePow, rmaps, nsucc, List.flatten_cons, List.flatten_nil, Nat.reduceEqDiff, Nat.reduceLeDiff, Nat.reduceAdd, Nat.reduceMul, Nat.reduceSub, ↓reduceIte, reduceCtorEq, decide_true, decide_false]
            first | refine FCall.go hck (FZs.three (FZ.reV x) (FZ.reV y) (FZ.prsV l)) ?_ | refine FCall.go' hck (FZs.three (FZ.reV x) (FZ.reV y) (FZ.prsV l)) ?_ | refine FCall.goQ hck (FZs.three (FZ.reV x) (FZ.reV y) (FZ.prsV l)) ?_
            simp only [show (bothR x y == 0) = true from by rw [h0]; rfl, f2, f3, f4, f7, f8, hds, Cd.cd9, Tk.t9, base0, base1, base2, base3, Option.isNone_none, Option.isNone_some, Nat.reduceBEq, true_or, or_true, false_or, or_false, Nat.reduceLT, Nat.reduceMod, Nat.reducePow, rmaps, nsucc, List.flatten_cons, List.flatten_nil, Nat.reduceEqDiff, Nat.reduceLeDiff, Nat.reduceAdd, Nat.reduceMul, Nat.reduceSub, ↓reduceIte, reduceCtorEq, decide_true, decide_false]
            first | refine FCall.go hrr (FZs.three (FZ.reV x) (FZ.reV y) (FZ.prsV l)) ?_ | refine FCall.go' hrr (FZs.three (FZ.reV x) (FZ.reV y) (FZ.prsV l)) ?_ | refine FCall.goQ hrr (FZs.three (FZ.reV x) (FZ.reV y) (FZ.prsV l)) ?_
            simp only [beq_self_eq_true, f2, f3, f4, f7, f8, hds, Cd.cd9, Tk.t9, base0, base1, base2, base3, Option.isNone_none, Option.isNone_some, Nat.reduceBEq, true_or, or_true, false_or, or_false, Nat.reduceLT, Nat.reduceMod, Nat.reducePow, rmaps, nsucc, List.flatten_cons, List.flatten_nil, Nat.reduceEqDiff, Nat.reduceLeDiff, Nat.reduceAdd, Nat.reduceMul, Nat.reduceSub, ↓reduceIte, reduceCtorEq, decide_true, decide_false]
            exact fin_v rfl
      · simp only [show (bothR x y == 0) = true from by rw [h0]; rfl, List.length_map, show decide (((l.length : Nat) : Int) > 60) = false from decide_eq_false (by omega), Cd.cd9, Tk.t9, base0, base1, base2, base3, Option.isNone_none, Option.isNone_some, Nat.reduceBEq, true_or, or_true, false_or, or_false, Nat.reduceLT, Nat.reduceMod, Nat.reducePow, rmaps, nsucc, List.flatten_cons, List.flatten_nil, Nat.reduceEqDiff, Nat.reduceLeDiff, Nat.reduceAdd, Nat.reduceMul, Nat.reduceSub, ↓reduceIte, reduceCtorEq, decide_true, decide_false]
        refine LWP.loop [] (fun m f H' => ∃ i, m = l.length - i ∧ (i ≤ l.length) ∧ f.t 2 = .lst 2 (l.map enQ) .unk ∧ f.t 3 = .box [.v (.int .i64 x.st), .v (.int .i64 x.s0), .v (.int .i64 x.inp), .v (.int .i64 x.out), .lst 4 (x.mv.map mvR) .unk] ∧ f.t 4 = .box [.v (.int .i64 y.st), .v (.int .i64 y.s0), .v (.int .i64 y.inp), .v (.int .i64 y.out), .lst 4 (y.mv.map mvR) .unk] ∧ f.t 7 = .v (.int .i64 (bothR x y)) ∧ f.t 8 = .v (.int .i64 (i : Nat)) ∧ f.ds = [] ∧ H' = AH.none) ?_ ?_ (m := l.length - (0))
        · exact ⟨0, rfl, (by omega), rfl, rfl, rfl, rfl, rfl, rfl, rfl⟩
        · rintro m f H' ⟨i, rfl, hi, f2, f3, f4, f7, f8, hds, rfl⟩
          by_cases hlt : i < l.length
          · have hgp := getD_map enQ l i hlt
            generalize hpe : l.getD i default = p at hgp
            by_cases h301 : l.length ≤ 300
            · by_cases hp1 : 100 < p.sys.length
              · simp only [List.length_map, ltT hlt, inR hlt, Int.toNat_natCast, hgp, enQ, ints, show decide (((l.length : Nat) : Int) ≤ 300) = true from decide_eq_true (by omega), show decide (((p.sys.length : Nat) : Int) > 100) = true from decide_eq_true (by omega), f2, f3, f4, f7, f8, hds, Cd.cd9, Tk.t9, base0, base1, base2, base3, Option.isNone_none, Option.isNone_some, Nat.reduceBEq, true_or, or_true, false_or, or_false, Nat.reduceLT, Nat.reduceMod, Nat.reducePow, rmaps, nsucc, List.flatten_cons, List.flatten_nil, Nat.reduceEqDiff, Nat.reduceLeDiff, Nat.reduceAdd, Nat.reduceMul, Nat.reduceSub, ↓reduceIte, reduceCtorEq, decide_true, decide_false]
                exact fin_v rfl
              · by_cases hp2 : 100 < p.spec.length
                · simp only [List.length_map, ltT hlt, inR hlt, Int.toNat_natCast, hgp, enQ, ints, show decide (((l.length : Nat) : Int) ≤ 300) = true from decide_eq_true (by omega), show decide (((p.sys.length : Nat) : Int) > 100) = false from decide_eq_false (by omega), show decide (((p.spec.length : Nat) : Int) > 100) = true from decide_eq_true (by omega), f2, f3, f4, f7, f8, hds, Cd.cd9, Tk.t9, base0, base1, base2, base3, Option.isNone_none, Option.isNone_some, Nat.reduceBEq, true_or, or_true, false_or, or_false, Nat.reduceLT, Nat.reduceMod, Nat.reducePow, rmaps, nsucc, List.flatten_cons, List.flatten_nil, Nat.reduceEqDiff, Nat.reduceLeDiff, Nat.reduceAdd, Nat.reduceMul, Nat.reduceSub, ↓reduceIte, reduceCtorEq, decide_true, decide_false]
                  exact fin_v rfl
                · simp only [List.length_map, ltT hlt, inR hlt, Int.toNat_natCast, hgp, enQ, ints, show decide (((l.length : Nat) : Int) ≤ 300) = true from decide_eq_true (by omega), show decide (((p.sys.length : Nat) : Int) > 100) = false from decide_eq_false (by omega), show decide (((p.spec.length : Nat) : Int) > 100) = false from decide_eq_false (by omega), f2, f3, f4, f7, f8, hds, Cd.cd9, Tk.t9, base0, base1, base2, base3, Option.isNone_none, Option.isNone_some, Nat.reduceBEq, true_or, or_true, false_or, or_false, Nat.reduceLT, Nat.reduceMod, Nat.reducePow, rmaps, nsucc, List.flatten_cons, List.flatten_nil, Nat.reduceEqDiff, Nat.reduceLeDiff, Nat.reduceAdd, Nat.reduceMul, Nat.reduceSub, ↓reduceIte, reduceCtorEq, decide_true, decide_false]
                  refine ⟨_, by omega, i + 1, rfl, ?_⟩
                  (repeat' apply And.intro) <;> first | rfl | (rw [wrapS (by omega)]) | omega | assumption
            · simp only [List.length_map, ltT hlt, inR hlt, Int.toNat_natCast, hgp, enQ, ints, show decide (((l.length : Nat) : Int) ≤ 300) = false from decide_eq_false (by omega), f2, f3, f4, f7, f8, hds, Cd.cd9, Tk.t9, base0, base1, base2, base3, Option.isNone_none, Option.isNone_some, Nat.reduceBEq, true_or, or_true, false_or, or_false, Nat.reduceLT, Nat.reduceMod, Nat.reducePow, rmaps, nsucc, List.flatten_cons, List.flatten_nil, Nat.reduceEqDiff, Nat.reduceLeDiff, Nat.reduceAdd, Nat.reduceMul, Nat.reduceSub, ↓reduceIte, reduceCtorEq, decide_true, decide_false]
              refine ⟨_, by omega, i + 1, rfl, ?_⟩
              (repeat' apply And.intro) <;> first | rfl | (rw [wrapS (by omega)]) | omega | assumption
          · simp only [List.length_map, ltF hlt, f2, f3, f4, f7, f8, hds, Cd.cd9, Tk.t9, base0, base1, base2, base3, Option.isNone_none, Option.isNone_some, Nat.reduceBEq, true_or, or_true, false_or, or_false, Nat.reduceLT, Nat.reduceMod, Nat.reducePow, rmaps, nsucc, List.flatten_cons, List.flatten_nil, Nat.reduceEqDiff, Nat.reduceLeDiff, Nat.reduceAdd, Nat.reduceMul, Nat.reduceSub, ↓reduceIte, reduceCtorEq, decide_true, decide_false]
            first | refine FCall.go hOx (FZs.one (FZ.reV x)) ?_ | refine FCall.go' hOx (FZs.one (FZ.reV x)) ?_ | refine FCall.goQ hOx (FZs.one (FZ.reV x)) ?_
            simp only [f2, f3, f4, f7, f8, hds, Cd.cd9, Tk.t9, base0, base1, base2, base3, Option.isNone_none, Option.isNone_some, Nat.reduceBEq, true_or, or_true, false_or, or_false, Nat.reduceLT, Nat.reduceMod, Nat.reducePow, rmaps, nsucc, List.flatten_cons, List.flatten_nil, Nat.reduceEqDiff, Nat.reduceLeDiff, Nat.reduceAdd, Nat.reduceMul, Nat.reduceSub, ↓reduceIte, reduceCtorEq, decide_true, decide_false]
            first | refine FCall.go hOy (FZs.one (FZ.reV y)) ?_ | refine FCall.go' hOy (FZs.one (FZ.reV y)) ?_ | refine FCall.goQ hOy (FZs.one (FZ.reV y)) ?_
            simp only [f2, f3, f4, f7, f8, hds, Cd.cd9, Tk.t9, base0, base1, base2, base3, Option.isNone_none, Option.isNone_some, Nat.reduceBEq, true_or, or_true, false_or, or_false, Nat.reduceLT, Nat.reduceMod, Nat.reducePow, rmaps, nsucc, List.flatten_cons, List.flatten_nil, Nat.reduceEqDiff, Nat.reduceLeDiff, Nat.reduceAdd, Nat.reduceMul, Nat.reduceSub, ↓reduceIte, reduceCtorEq, decide_true, decide_false]
            first | refine FCall.go hOl (FZs.one (FZ.prsV l)) ?_ | refine FCall.go' hOl (FZs.one (FZ.prsV l)) ?_ | refine FCall.goQ hOl (FZs.one (FZ.prsV l)) ?_
            simp only [f2, f3, f4, f7, f8, hds, Cd.cd9, Tk.t9, base0, base1, base2, base3, Option.isNone_none, Option.isNone_some, Nat.reduceBEq, true_or, or_true, false_or, or_false, Nat.reduceLT, Nat.reduceMod, Nat.reducePow, rmaps, nsucc, List.flatten_cons, List.flatten_nil, Nat.reduceEqDiff, Nat.reduceLeDiff, Nat.reduceAdd, Nat.reduceMul, Nat.reduceSub, ↓reduceIte, reduceCtorEq, decide_true, decide_false]
            first | refine FCall.go hck (FZs.three (FZ.reV x) (FZ.reV y) (FZ.prsV l)) ?_ | refine FCall.go' hck (FZs.three (FZ.reV x) (FZ.reV y) (FZ.prsV l)) ?_ | refine FCall.goQ hck (FZs.three (FZ.reV x) (FZ.reV y) (FZ.prsV l)) ?_
            simp only [show (bothR x y == 0) = true from by rw [h0]; rfl, f2, f3, f4, f7, f8, hds, Cd.cd9, Tk.t9, base0, base1, base2, base3, Option.isNone_none, Option.isNone_some, Nat.reduceBEq, true_or, or_true, false_or, or_false, Nat.reduceLT, Nat.reduceMod, Nat.reducePow, rmaps, nsucc, List.flatten_cons, List.flatten_nil, Nat.reduceEqDiff, Nat.reduceLeDiff, Nat.reduceAdd, Nat.reduceMul, Nat.reduceSub, ↓reduceIte, reduceCtorEq, decide_true, decide_false]
            first | refine FCall.go hrr (FZs.three (FZ.reV x) (FZ.reV y) (FZ.prsV l)) ?_ | refine FCall.go' hrr (FZs.three (FZ.reV x) (FZ.reV y) (FZ.prsV l)) ?_ | refine FCall.goQ hrr (FZs.three (FZ.reV x) (FZ.reV y) (FZ.prsV l)) ?_
            simp only [beq_self_eq_true, f2, f3, f4, f7, f8, hds, Cd.cd9, Tk.t9, base0, base1, base2, base3, Option.isNone_none, Option.isNone_some, Nat.reduceBEq, true_or, or_true, false_or, or_false, Nat.reduceLT, Nat.reduceMod, Nat.reducePow, rmaps, nsucc, List.flatten_cons, List.flatten_nil, Nat.reduceEqDiff, Nat.reduceLeDiff, Nat.reduceAdd, Nat.reduceMul, Nat.reduceSub, ↓reduceIte, reduceCtorEq, decide_true, decide_false]
            exact fin_v rfl
  · have hrf : relF x y l = (0, bothR x y) := by rw [relF, if_pos h0]
    rw [hrf] at hck
    simp only [show (bothR x y == 0) = false from by simpa using h0, Cd.cd9, Tk.t9, base0, base1, base2, base3, Option.isNone_none, Option.isNone_some, Nat.reduceBEq, true_or, or_true, false_or, or_false, Nat.reduceLT, Nat.reduceMod, Nat.reducePow, rmaps, nsucc, List.flatten_cons, List.flatten_nil, Nat.reduceEqDiff, Nat.reduceLeDiff, Nat.reduceAdd, Nat.reduceMul, Nat.reduceSub, ↓reduceIte, reduceCtorEq, decide_true, decide_false]
    refine LWP.loop [] (fun m f H' => ∃ i, m = l.length - i ∧ (i ≤ l.length) ∧ f.t 2 = .lst 2 (l.map enQ) .unk ∧ f.t 3 = .box [.v (.int .i64 x.st), .v (.int .i64 x.s0), .v (.int .i64 x.inp), .v (.int .i64 x.out), .lst 4 (x.mv.map mvR) .unk] ∧ f.t 4 = .box [.v (.int .i64 y.st), .v (.int .i64 y.s0), .v (.int .i64 y.inp), .v (.int .i64 y.out), .lst 4 (y.mv.map mvR) .unk] ∧ f.t 7 = .v (.int .i64 (bothR x y)) ∧ f.t 8 = .v (.int .i64 (i : Nat)) ∧ f.ds = [] ∧ H' = AH.none) ?_ ?_ (m := l.length - (0))
    · exact ⟨0, rfl, (by omega), rfl, rfl, rfl, rfl, rfl, rfl, rfl⟩
    · rintro m f H' ⟨i, rfl, hi, f2, f3, f4, f7, f8, hds, rfl⟩
      by_cases hlt : i < l.length
      · have hgp := getD_map enQ l i hlt
        generalize hpe : l.getD i default = p at hgp
        by_cases h301 : l.length ≤ 300
        · by_cases hp1 : 100 < p.sys.length
          · simp only [List.length_map, ltT hlt, inR hlt, Int.toNat_natCast, hgp, enQ, ints, show decide (((l.length : Nat) : Int) ≤ 300) = true from decide_eq_true (by omega), show decide (((p.sys.length : Nat) : Int) > 100) = true from decide_eq_true (by omega), f2, f3, f4, f7, f8, hds, Cd.cd9, Tk.t9, base0, base1, base2, base3, Option.isNone_none, Option.isNone_some, Nat.reduceBEq, true_or, or_true, false_or, or_false, Nat.reduceLT, Nat.reduceMod, Nat.reducePow, rmaps, nsucc, List.flatten_cons, List.flatten_nil, Nat.reduceEqDiff, Nat.reduceLeDiff, Nat.reduceAdd, Nat.reduceMul, Nat.reduceSub, ↓reduceIte, reduceCtorEq, decide_true, decide_false]
            exact fin_v rfl
          · by_cases hp2 : 100 < p.spec.length
            · simp only [List.length_map, ltT hlt, inR hlt, Int.toNat_natCast, hgp, enQ, ints, show decide (((l.length : Nat) : Int) ≤ 300) = true from decide_eq_true (by omega), show decide (((p.sys.length : Nat) : Int) > 100) = false from decide_eq_false (by omega), show decide (((p.spec.length : Nat) : Int) > 100) = true from decide_eq_true (by omega), f2, f3, f4, f7, f8, hds, Cd.cd9, Tk.t9, base0, base1, base2, base3, Option.isNone_none, Option.isNone_some, Nat.reduceBEq, true_or, or_true, false_or, or_false, Nat.reduceLT, Nat.reduceMod, Nat.reducePow, rmaps, nsucc, List.flatten_cons, List.flatten_nil, Nat.reduceEqDiff, Nat.reduceLeDiff, Nat.reduceAdd, Nat.reduceMul, Nat.reduceSub, ↓reduceIte, reduceCtorEq, decide_true, decide_false]
              exact fin_v rfl
            · simp only [List.length_map, ltT hlt, inR hlt, Int.toNat_natCast, hgp, enQ, ints, show decide (((l.length : Nat) : Int) ≤ 300) = true from decide_eq_true (by omega), show decide (((p.sys.length : Nat) : Int) > 100) = false from decide_eq_false (by omega), show decide (((p.spec.length : Nat) : Int) > 100) = false from decide_eq_false (by omega), f2, f3, f4, f7, f8, hds, Cd.cd9, Tk.t9, base0, base1, base2, base3, Option.isNone_none, Option.isNone_some, Nat.reduceBEq, true_or, or_true, false_or, or_false, Nat.reduceLT, Nat.reduceMod, Nat.reducePow, rmaps, nsucc, List.flatten_cons, List.flatten_nil, Nat.reduceEqDiff, Nat.reduceLeDiff, Nat.reduceAdd, Nat.reduceMul, Nat.reduceSub, ↓reduceIte, reduceCtorEq, decide_true, decide_false]
              refine ⟨_, by omega, i + 1, rfl, ?_⟩
              (repeat' apply And.intro) <;> first | rfl | (rw [wrapS (by omega)]) | omega | assumption
        · simp only [List.length_map, ltT hlt, inR hlt, Int.toNat_natCast, hgp, enQ, ints, show decide (((l.length : Nat) : Int) ≤ 300) = false from decide_eq_false (by omega), f2, f3, f4, f7, f8, hds, Cd.cd9, Tk.t9, base0, base1, base2, base3, Option.isNone_none, Option.isNone_some, Nat.reduceBEq, true_or, or_true, false_or, or_false, Nat.reduceLT, Nat.reduceMod, Nat.reducePow, rmaps, nsucc, List.flatten_cons, List.flatten_nil, Nat.reduceEqDiff, Nat.reduceLeDiff, Nat.reduceAdd, Nat.reduceMul, Nat.reduceSub, ↓reduceIte, reduceCtorEq, decide_true, decide_false]
          refine ⟨_, by omega, i + 1, rfl, ?_⟩
          (repeat' apply And.intro) <;> first | rfl | (rw [wrapS (by omega)]) | omega | assumption
      · simp only [List.length_map, ltF hlt, f2, f3, f4, f7, f8, hds, Cd.cd9, Tk.t9, base0, base1, base2, base3, Option.isNone_none, Option.isNone_some, Nat.reduceBEq, true_or, or_true, false_or, or_false, Nat.reduceLT, Nat.reduceMod, Nat.reducePow, rmaps, nsucc, List.flatten_cons, List.flatten_nil, Nat.reduceEqDiff, Nat.reduceLeDiff, Nat.reduceAdd, Nat.reduceMul, Nat.reduceSub, ↓reduceIte, reduceCtorEq, decide_true, decide_false]
        first | refine FCall.go hOx (FZs.one (FZ.reV x)) ?_ | refine FCall.go' hOx (FZs.one (FZ.reV x)) ?_ | refine FCall.goQ hOx (FZs.one (FZ.reV x)) ?_
        simp only [f2, f3, f4, f7, f8, hds, Cd.cd9, Tk.t9, base0, base1, base2, base3, Option.isNone_none, Option.isNone_some, Nat.reduceBEq, true_or, or_true, false_or, or_false, Nat.reduceLT, Nat.reduceMod, Nat.reducePow, rmaps, nsucc, List.flatten_cons, List.flatten_nil, Nat.reduceEqDiff, Nat.reduceLeDiff, Nat.reduceAdd, Nat.reduceMul, Nat.reduceSub, ↓reduceIte, reduceCtorEq, decide_true, decide_false]
        first | refine FCall.go hOy (FZs.one (FZ.reV y)) ?_ | refine FCall.go' hOy (FZs.one (FZ.reV y)) ?_ | refine FCall.goQ hOy (FZs.one (FZ.reV y)) ?_
        simp only [f2, f3, f4, f7, f8, hds, Cd.cd9, Tk.t9, base0, base1, base2, base3, Option.isNone_none, Option.isNone_some, Nat.reduceBEq, true_or, or_true, false_or, or_false, Nat.reduceLT, Nat.reduceMod, Nat.reducePow, rmaps, nsucc, List.flatten_cons, List.flatten_nil, Nat.reduceEqDiff, Nat.reduceLeDiff, Nat.reduceAdd, Nat.reduceMul, Nat.reduceSub, ↓reduceIte, reduceCtorEq, decide_true, decide_false]
        first | refine FCall.go hOl (FZs.one (FZ.prsV l)) ?_ | refine FCall.go' hOl (FZs.one (FZ.prsV l)) ?_ | refine FCall.goQ hOl (FZs.one (FZ.prsV l)) ?_
        simp only [f2, f3, f4, f7, f8, hds, Cd.cd9, Tk.t9, base0, base1, base2, base3, Option.isNone_none, Option.isNone_some, Nat.reduceBEq, true_or, or_true, false_or, or_false, Nat.reduceLT, Nat.reduceMod, Nat.reducePow, rmaps, nsucc, List.flatten_cons, List.flatten_nil, Nat.reduceEqDiff, Nat.reduceLeDiff, Nat.reduceAdd, Nat.reduceMul, Nat.reduceSub, ↓reduceIte, reduceCtorEq, decide_true, decide_false]
        first | refine FCall.go hck (FZs.three (FZ.reV x) (FZ.reV y) (FZ.prsV l)) ?_ | refine FCall.go' hck (FZs.three (FZ.reV x) (FZ.reV y) (FZ.prsV l)) ?_ | refine FCall.goQ hck (FZs.three (FZ.reV x) (FZ.reV y) (FZ.prsV l)) ?_
        simp only [show (bothR x y == 0) = false from by simpa using h0, beq_self_eq_true, show ((0 : Int) == 0) = true from rfl, f2, f3, f4, f7, f8, hds, Cd.cd9, Tk.t9, base0, base1, base2, base3, Option.isNone_none, Option.isNone_some, Nat.reduceBEq, true_or, or_true, false_or, or_false, Nat.reduceLT, Nat.reduceMod, Nat.reducePow, rmaps, nsucc, List.flatten_cons, List.flatten_nil, Nat.reduceEqDiff, Nat.reduceLeDiff, Nat.reduceAdd, Nat.reduceMul, Nat.reduceSub, ↓reduceIte, reduceCtorEq, decide_true, decide_false]
        exact fin_v rfl
end Go.Proofs.YtchpcjmgifnmdaaDoor

/- Readers of the arguments; what the rows' list of variables gives; room. -/
namespace Go.Proofs.YtchpcjmgifnmdaaDoor
open Go Go.Proofs.YtchpcjmgifnmdaaDoor.Ab Go.ChangeShapes Go.WideShapes Go.ChangeAt Go.RowKit Go.Deep
set_option maxRecDepth 100000

theorem rdI : Rd Tryd.prog 3 (fun n : Int => [.v (.int .i64 n)]) (fun n => IntKind.i64.min ≤ n ∧ n ≤ IntKind.i64.max) := Rd.int Tryd.underlying3
theorem rdMv : Rd Tryd.prog 113 mvR (fun _ => True) :=
  (Rd.struct Tryd.underlying113 rfl (by kernel_rfl) (RdF.cons (s := 1) rfl (by kernel_rfl) rdI (RdF.cons (s := 1) rfl (by kernel_rfl) rdI (RdF.cons (s := 1) rfl (by kernel_rfl) rdI (RdF.cons (s := 1) rfl (by kernel_rfl) rdI RdF.nil))))).map
    (fun p => (⟨p.1, p.2.1, p.2.2.1, p.2.2.2.1⟩ : Mv)) (fun _ => rfl) (fun _ _ => trivial)
theorem rdMvs : Rd Tryd.prog 22 (fun l : List Mv => [mvsV l]) (fun _ => True) :=
  (Rd.slice Tryd.underlying22 (by kernel_rfl) (by decide) rdMv (fun _ => rfl)).map (fun l : List Mv => l) (fun _ => rfl) (fun _ _ => trivial)
theorem rdRe : Rd Tryd.prog 24 reL (fun _ => True) :=
  (Rd.struct Tryd.underlying24 rfl (by kernel_rfl) (RdF.cons (s := 1) rfl (by kernel_rfl) rdI (RdF.cons (s := 1) rfl (by kernel_rfl) rdI (RdF.cons (s := 1) rfl (by kernel_rfl) rdI (RdF.cons (s := 1) rfl (by kernel_rfl) rdI (RdF.cons (s := 1) rfl (by kernel_rfl) rdMvs RdF.nil)))))).map
    (fun p => (⟨p.1, p.2.1, p.2.2.1, p.2.2.2.1, p.2.2.2.2.1⟩ : Re)) (fun _ => rfl) (fun _ _ => trivial)
theorem own : ownKnob Tryd.prog.godebug = none := by kernel_rfl
theorem laidOut : laidOutB Tryd.prog = true := by kernel_rfl
theorem by22 : Tryd.prog.bytesOf 113 = 32 := by kernel_rfl
theorem by27 : Tryd.prog.bytesOf 3 = 8 := by kernel_rfl

/-! room -/
theorem slice_room {H : Type} {enc : TypeId × Value → H} {W : World} {base : Nat} {sp : Nat → Bool} {hd : Bool} {t e : TypeId} {fuel : Nat} {v : Value} {x : DataW H × List MemPlace} {g : G} {k : Nat} {rows : List (List AV)} {tip : Tip} {B R : Nat}
    (ht : Tryd.prog.underlying t = some (.slice e)) (h : DataW.trod enc Tryd.prog W base sp hd fuel t [v] = some x) (hv : VR g (.lst k rows tip) v) (hw : ∀ elems spare, x.1 = .slice elems spare → (elems.length + spare.length) * B ≤ R) : rows.length * B ≤ R := by
  rcases open_slice ht h with ⟨h1, _⟩ | ⟨a, len, cap, m, n, D, Pl, h1, _, _, _, _, hx, _⟩
  · simp only [List.cons.injEq, and_true] at h1
    subst h1
    cases hv with
    | lst q1 q2 => rw [← q1]; simp
  · simp only [List.cons.injEq, and_true] at h1
    subst h1
    cases hv with
    | lst q1 q2 =>
      rw [← q1]
      have := hw _ _ (by rw [hx])
      simp only [List.length_map, List.length_range] at this
      exact Nat.le_trans (Nat.mul_le_mul_right B (Nat.le_add_right _ _)) this
theorem re_room {H : Type} {enc : TypeId × Value → H} {W : World} {base : Nat} {sp : Nat → Bool} {hd : Bool} {v : Value} {d : DataW H} {ps : List MemPlace} {g : G} {y : Re}
    (h : DataW.Trod enc Tryd.prog W base sp hd 24 v d ps) (hv : VR g (reV y) v) (hw : ∀ n ∈ DataW.weights Tryd.prog 24 d, n ≤ reachBytes) : y.mv.length * 32 ≤ 140737488355328 := by
  obtain ⟨fuel, hf⟩ := h
  obtain ⟨xs, n, _, hx, hl, hlen, hfs⟩ := DataW.trod_struct Tryd.underlying24 hf
  have h4 : DataW.trod enc Tryd.prog W base sp hd n 22 ((v.cells.toList.drop 4).take (Tryd.prog.cellsOf 22)) = xs[4]? := hfs 4 _ rfl
  unfold reV at hv
  cases hv with
  | @agg _ arr ha hva =>
    have hsz : arr.size = 5 := ha
    have hv4 := hva 4 (by simp [reL])
    have e4 : ((Value.agg arr).cells.toList.drop 4).take 1 = [arr.getD 4 undef] := by
      show (arr.toList.drop 4).take 1 = _
      apply List.ext_getElem?
      intro i
      cases i with
      | zero =>
        rw [List.getElem?_take_of_lt (by omega), List.getElem?_drop, Array.getElem?_toList, Array.getElem?_eq_getElem (by omega)]
        simp [Array.getD_eq_getD_getElem?, Array.getElem?_eq_getElem (show 4 < arr.size by omega)]
      | succ i => rw [List.getElem?_eq_none (by rw [List.length_take]; omega), List.getElem?_eq_none (by simp)]
    have hc22 : Tryd.prog.cellsOf 22 = 1 := by kernel_rfl
    simp only [hc22] at h4
    rw [e4] at h4
    have hxl : xs.length = 5 := hlen
    rw [List.getElem?_eq_getElem (show 4 < xs.length by omega)] at h4
    have hd1 : d = .agg (xs.map (·.1)) := congrArg Prod.fst hx
    have := slice_room (B := 32) (R := reachBytes) Tryd.underlying22 h4 hv4 fun elems spare he => by
      refine hw _ ?_
      rw [hd1]
      simp only [DataW.weights, Tryd.underlying24]
      refine DataW.weights_mem_each (j := 4) (t := 22) rfl (d := .slice elems spare) ?_ _ ?_
      · rw [List.getElem?_map, List.getElem?_eq_getElem (show 4 < xs.length by omega)]
        exact congrArg some he
      · simp [DataW.weights, Tryd.underlying22, by22]
    rw [List.length_map] at this
    have h2 : reachBytes = 140737488351232 := rfl
    omega

/-! what the rows' list of variables gives -/
theorem gTab : Tryd.prog.globalNamed "math/bits.deBruijn64tab" = some 1 := by kernel_rfl
theorem gTabType : (Tryd.prog.globals[1]?).map (·.type) = some 180 := by kernel_rfl
theorem cells180 : Tryd.prog.cellsOf 180 = 64 := by kernel_rfl
theorem cells5 : Tryd.prog.cellsOf 5 = 1 := by kernel_rfl
theorem laid_cells {W : World} (h : laidMetH Tryd.prog [("math/bits.deBruijn32tab", Rows.laid_math_bits_deBruijn32tab), ("math/bits.deBruijn64tab", Rows.laid_math_bits_deBruijn64tab)] W) : ∀ b o x, gCell b o = Option.some x → W.cell? ⟨b, o, .none⟩ = Option.some x := by
  have h1 := h.filter fun x => x.1 == "math/bits.deBruijn64tab"
  have h2 : laidMet Tryd.prog [("math/bits.deBruijn64tab", Lib.tabData .u8 (tab64.map fun n : Nat => (n : Int)))] W := h1
  have hT := Lib.tabIs_of_head (rest := []) gTab gTabType Tryd.underlying180 Tryd.underlying5 cells5 cells180 h2
  intro b o x e
  unfold gCell at e
  split at e
  · rename_i hc
    obtain ⟨rfl, ho⟩ := hc
    simp only [Option.some.injEq] at e
    subst e
    have := hT.cell gTab o (by simpa [tab64] using ho)
    rw [this]
    congr 2
    rw [List.getD_eq_getElem?_getD, List.getElem?_map, List.getD_eq_getElem?_getD]
    rw [List.getElem?_eq_getElem (show o < tab64.length by simpa [tab64] using ho)]; rfl
  · cases e
end Go.Proofs.YtchpcjmgifnmdaaDoor

/- Readers that keep what the weights say: each list within what memory holds. -/
namespace Go.Proofs.YtchpcjmgifnmdaaDoor
open Go Go.Proofs.YtchpcjmgifnmdaaDoor.Ab Go.ChangeShapes Go.WideShapes Go.ChangeAt Go.RowKit Go.Deep
set_option maxRecDepth 100000

structure Rw (P : Program) (t : TypeId) {α : Type} (enc : α → List AV) (inv : α → Prop) : Prop where
  rd : ∀ {H : Type} (eh : TypeId × Value → H) (W : World) (base : Nat) (sp : Nat → Bool) (hd : Bool) (fuel : Nat) (cs : List Value) (x : DataW H × List MemPlace),
    DataW.trod eh P W base sp hd fuel t cs = some x → (∀ n ∈ DataW.weights P t x.1, n ≤ reachBytes) → ∃ a, inv a ∧ VRl (gAll W) (enc a) cs
theorem Rw.of {P : Program} {t : TypeId} {α : Type} {enc : α → List AV} {inv : α → Prop} (r : Rd P t enc inv) : Rw P t enc inv := ⟨fun eh W base sp hd fuel cs x h _ => r.rd eh W base sp hd fuel cs x h⟩
theorem Rw.map {P : Program} {t : TypeId} {α β : Type} {enc : α → List AV} {inv : α → Prop} {enc' : β → List AV} {inv' : β → Prop} (r : Rw P t enc inv) (f : α → β) (he : ∀ a, enc' (f a) = enc a) (hi : ∀ a, inv a → inv' (f a)) : Rw P t enc' inv' := ⟨fun eh W base sp hd fuel cs x h hw => by
  obtain ⟨a, h1, h2⟩ := r.rd eh W base sp hd fuel cs x h hw
  exact ⟨f a, hi a h1, by rw [he]; exact h2⟩⟩
theorem weightsAll_mem' {H : Type} {P : Program} {e : TypeId} : ∀ {l : List (DataW H)} {d : DataW H}, d ∈ l → ∀ n ∈ d.weights P e, n ∈ DataW.weightsAll P e l
  | d' :: r, d, hd, n, hn => by
    simp only [DataW.weightsAll, List.mem_append]
    rcases List.mem_cons.1 hd with rfl | h
    · exact Or.inl hn
    · exact Or.inr (weightsAll_mem' h n hn)
theorem Rw.slice {P : Program} {t e : TypeId} {k B : Nat} {α : Type} {enc : α → List AV} {inv : α → Prop} (ht : P.underlying t = some (.slice e)) (hk : P.cellsOf e = k) (hB : P.bytesOf e = B) (hk0 : 0 < k) (r : Rw P e enc inv) (hl : ∀ a, (enc a).length = k) :
    Rw P t (fun l : List α => [.lst k (l.map enc) .unk]) (fun l => (∀ a ∈ l, inv a) ∧ l.length * B ≤ 140737488355328) where
  rd eh W base sp hd fuel cs x h hw := by
    rcases open_slice ht h with ⟨rfl, _⟩ | ⟨a, len, cap, m, n, D, Pl, rfl, _, hlc, hcm, hm, hx, hel⟩
    · refine ⟨[], ⟨(fun a ha => by simp at ha), by simp⟩, .one ?_⟩
      exact .lst (a := ⟨0, 0, .none⟩) (xs := fun _ _ => undef) rfl (Nat.le_refl _) (fun _ => rfl) (by simp) (by simp) (by intro i j hi; simp at hi) (by intro i j hi; simp at hi) trivial
    · have hlm : len ≤ m := by rw [hm]; split <;> omega
      rw [hx] at hw
      simp only [DataW.weights, ht] at hw
      have hlen : len * B ≤ 140737488355328 := by
        have := hw _ (List.mem_cons_self ..)
        rw [hB] at this
        simp only [List.length_map, List.length_range] at this
        have h2 : reachBytes = 140737488351232 := rfl
        have h3 : len * B ≤ (len + (m - len)) * B := Nat.mul_le_mul_right B (Nat.le_add_right _ _)
        omega
      obtain ⟨l, hll, hp⟩ := exists_list (fun i a' => inv a' ∧ ∃ cs', W.cells? base (a.add (i * k)) k = some cs' ∧ VRl (gAll W) (enc a') cs') len (fun i hi => by
        obtain ⟨cs', h1, h2⟩ := hel i (by omega)
        rw [hk] at h1
        obtain ⟨a', h3, h4⟩ := r.rd eh W base sp hd n cs' _ h2 fun nn hnn => hw _ (List.mem_cons_of_mem _ (List.mem_append.2 (.inl (weightsAll_mem' (List.mem_map.2 ⟨i, List.mem_range.2 hi, rfl⟩) nn hnn))))
        exact ⟨a', h3, cs', h1, h4⟩)
      refine ⟨l, ⟨fun a' ha' => ?_, by rw [hll]; exact hlen⟩, .one ?_⟩
      · obtain ⟨i, hi, rfl⟩ := List.getElem_of_mem ha'
        exact (hp i hi).1
      · have hsp : 0 < len → a.spot = none := fun h0 => by
          obtain ⟨_, cs', h1, _⟩ := hp 0 (by omega)
          obtain ⟨h3, h4⟩ := cells?_get h1
          have := h4 0 hk0
          rw [Nat.zero_mul, addr_add_zero, addr_add_zero, List.getElem?_eq_getElem (by omega)] at this
          exact World.cell?_spot this
        have hget : ∀ i (h : i < l.length), (l.map enc).getD i [] = enc l[i] := fun i h => by
          rw [List.getD_eq_getElem?_getD, List.getElem?_map, List.getElem?_eq_getElem h]; rfl
        have hcell : ∀ i j, i < l.length → j < k → ∃ y, (gAll W).fz a.block (a.off + i * k + j) = some y ∧ VR (gAll W) (((l.map enc).getD i []).getD j .any) y := fun i j hi hj => by
          obtain ⟨_, cs', h1, h2⟩ := hp i hi
          obtain ⟨h3, h4⟩ := cells?_get h1
          have h5 := h4 j hj
          rw [addr_add_off _ _ (hsp (by omega)), addr_add_off _ _ rfl, List.getElem?_eq_getElem (by omega)] at h5
          refine ⟨cs'[j], h5, ?_⟩
          have := h2.2 j (by rw [hl]; exact hj)
          rw [hget i hi]
          rw [List.getD_eq_getElem?_getD (l := cs'), List.getElem?_eq_getElem (by omega)] at this
          exact this
        refine .lst (a := a) (xs := fun i j => ((gAll W).fz a.block (a.off + i * k + j)).getD undef) (by simp [hll]) hlc (fun h => by cases h) (fun h0 => ⟨rfl, hsp (by simpa [hll] using h0)⟩) (fun i hi => ?_) (fun i j hi hj => ?_) (fun i j hi hj => ?_) trivial
        · simp only [List.length_map] at hi
          rw [hget i hi, hl]
        · simp only [List.length_map] at hi
          obtain ⟨y, h1, _⟩ := hcell i j hi hj
          rw [h1]; rfl
        · simp only [List.length_map] at hi
          obtain ⟨y, h1, h2⟩ := hcell i j hi hj
          rw [h1]; exact h2
structure RwF (P : Program) (total : Nat) (fs : List Field) (off : Nat) {α : Type} (enc : α → List AV) (inv : α → Prop) : Prop where
  rd : ∀ {H : Type} (eh : TypeId × Value → H) (W : World) (base : Nat) (sp : Nat → Bool) (hd : Bool) (fuel : Nat) (cs : List Value), cs.length = total →
    (∀ f ∈ fs, ∃ y, DataW.trod eh P W base sp hd fuel f.type ((cs.drop f.offset).take (P.cellsOf f.type)) = some y ∧ ∀ n ∈ DataW.weights P f.type y.1, n ≤ reachBytes) → ∃ a, inv a ∧ VRl (gAll W) (enc a) (cs.drop off)
theorem RwF.nil {P : Program} {total : Nat} : RwF P total [] total (fun _ : Unit => []) (fun _ => True) where
  rd eh W base sp hd fuel cs hl _ := ⟨(), trivial, by rw [List.drop_eq_nil_of_le (by omega)]; exact ⟨rfl, fun j hj => by simp at hj⟩⟩
theorem RwF.cons {P : Program} {total off s : Nat} {f : Field} {fs : List Field} {α β : Type} {enc : α → List AV} {inv : α → Prop} {enc' : β → List AV} {inv' : β → Prop} (ho : f.offset = off) (hs : P.cellsOf f.type = s)
    (r : Rw P f.type enc inv) (rs : RwF P total fs (off + s) enc' inv') : RwF P total (f :: fs) off (fun p : α × β => enc p.1 ++ enc' p.2) (fun p => inv p.1 ∧ inv' p.2) where
  rd eh W base sp hd fuel cs hl hall := by
    obtain ⟨y, hy, hyw⟩ := hall f (by simp)
    obtain ⟨a, h1, h2⟩ := r.rd eh W base sp hd fuel _ y hy hyw
    obtain ⟨b, h3, h4⟩ := rs.rd eh W base sp hd fuel cs hl fun g hg => hall g (by simp [hg])
    refine ⟨(a, b), ⟨h1, h3⟩, ?_⟩
    rw [ho, hs] at h2
    have e : cs.drop off = (cs.drop off).take s ++ cs.drop (off + s) := by
      rw [← List.drop_drop]; exact (List.take_append_drop s (cs.drop off)).symm
    rw [e]; exact h2.append h4
theorem Rw.struct {P : Program} {t : TypeId} {fs : Array Field} {fl : List Field} {total : Nat} {α : Type} {enc : α → List AV} {inv : α → Prop} (ht : P.underlying t = some (.struct fs)) (hf : fs.toList = fl) (hn : P.cellsOf t = total) (rs : RwF P total fl 0 enc inv) : Rw P t enc inv where
  rd eh W base sp hd fuel cs x h hw := by
    obtain ⟨xs, n, _, hx, hl, hlen, hfs⟩ := DataW.trod_struct ht h
    rw [hx] at hw
    simp only [DataW.weights, ht] at hw
    have := rs.rd eh W base sp hd n cs (by rw [hl, hn]) fun f hfm => by
      rw [← hf] at hfm
      obtain ⟨i, hi⟩ := List.mem_iff_getElem?.mp hfm
      have hi0 := hi
      rw [Array.getElem?_toList] at hi
      have hi' : i < xs.length := by rw [hlen]; exact (Array.getElem?_eq_some_iff.mp hi).1
      exact ⟨xs[i], by rw [hfs i f hi, List.getElem?_eq_getElem hi'], fun nn hnn => hw _ (DataW.weights_mem_each (j := i) (by rw [List.getElem?_map, hi0]; rfl) (by rw [List.getElem?_map, List.getElem?_eq_getElem hi']; rfl) nn hnn)⟩
    simpa using this
theorem argw_one {P : Program} {t : TypeId} {α : Type} {f : α → AV} {inv : α → Prop} {H : Type} {eh : TypeId × Value → H} {W : World} {base : Nat} {sp : Nat → Bool} {hd : Bool} {v : Value} {d : DataW H} {ps : List MemPlace} (r : Rw P t (fun a => [f a]) inv)
    (h : DataW.Trod eh P W base sp hd t v d ps) (hv : v.cells = #[v]) (hw : ∀ n ∈ DataW.weights P t d, n ≤ reachBytes) : ∃ a, inv a ∧ VR (gAll W) (f a) v := by
  obtain ⟨fuel, hf⟩ := h
  rw [hv] at hf
  obtain ⟨a, h1, h2⟩ := r.rd eh W base sp hd fuel _ _ hf hw
  exact ⟨a, h1, h2.2 0 (by simp)⟩
theorem rwInts : Rw Tryd.prog 27 (fun l : List Int => [ints l]) (fun l => l.length * 8 ≤ 140737488355328) :=
  (Rw.slice Tryd.underlying27 (by kernel_rfl) by27 (by decide) (Rw.of rdI) (fun _ => rfl)).map (fun l : List Int => l) (fun _ => rfl) (fun _ h => h.2)
end Go.Proofs.YtchpcjmgifnmdaaDoor

/- The reader of pairs of sets. -/
namespace Go.Proofs.YtchpcjmgifnmdaaDoor
open Go Go.Proofs.YtchpcjmgifnmdaaDoor.Ab Go.ChangeShapes Go.WideShapes Go.ChangeAt Go.RowKit Go.Deep
set_option maxRecDepth 100000
theorem by41 : Tryd.prog.bytesOf 41 = 48 := by kernel_rfl
def PrB (p : Pr) : Prop := p.sys.length * 8 ≤ 140737488355328 ∧ p.spec.length * 8 ≤ 140737488355328
theorem rwPr : Rw Tryd.prog 41 enQ PrB :=
  (Rw.struct Tryd.underlying41 rfl (by kernel_rfl) (RwF.cons (s := 1) rfl (by kernel_rfl) rwInts (RwF.cons (s := 1) rfl (by kernel_rfl) rwInts RwF.nil))).map
    (fun p => (⟨p.1, p.2.1⟩ : Pr)) (fun _ => rfl) (fun _ h => ⟨h.1, h.2.1⟩)
theorem rwPrs : Rw Tryd.prog 32 (fun l : List Pr => [prsV l]) (fun l => (∀ p ∈ l, PrB p) ∧ l.length * 48 ≤ 140737488355328) :=
  (Rw.slice Tryd.underlying32 (by kernel_rfl) by41 (by decide) rwPr (fun _ => rfl)).map (fun l : List Pr => l) (fun _ => rfl) (fun _ h => h)
end Go.Proofs.YtchpcjmgifnmdaaDoor

/- A world for the rows' witnesses: the tables hold what their initialisers lay. -/
namespace Go.Proofs.YtchpcjmgifnmdaaDoor
open Go Go.Proofs.YtchpcjmgifnmdaaDoor.Ab Go.ChangeShapes Go.WideShapes Go.ChangeAt Go.RowKit
set_option maxRecDepth 100000

def lay32 : Obj → Obj
  | .cells _ t frozen => .cells #[.int .u8 0, .int .u8 1, .int .u8 28, .int .u8 2, .int .u8 29, .int .u8 14, .int .u8 24, .int .u8 3, .int .u8 30, .int .u8 22, .int .u8 20, .int .u8 15, .int .u8 25, .int .u8 17, .int .u8 4, .int .u8 8, .int .u8 31, .int .u8 27, .int .u8 13, .int .u8 23, .int .u8 21, .int .u8 19, .int .u8 16, .int .u8 7, .int .u8 26, .int .u8 12, .int .u8 18, .int .u8 6, .int .u8 11, .int .u8 5, .int .u8 10, .int .u8 9] t frozen
  | o => o
def lay64 : Obj → Obj
  | .cells _ t frozen => .cells ((tab64.map fun n : Nat => Value.int .u8 (n : Int)).toArray) t frozen
  | o => o
/-- a world for the witness: the tables hold what their initialisers lay -/
noncomputable def laidWorld (os : Os) : World :=
  { World.holding Tryd.prog os ⟨#[], #[], []⟩ with heap := ((World.holding Tryd.prog os ⟨#[], #[], []⟩).heap.modify 0 lay32).modify 1 lay64 }
theorem row_le {H : Type} {P : Program} {ts : List TypeId} {ds : List (DataW H)} (h : (DataW.weightsEach P ts ds).all (· ≤ reachBytes) = true) {j : Nat} {t : TypeId} {d : DataW H} (ht : ts[j]? = some t) (hd : ds[j]? = some d) : ∀ n ∈ DataW.weights P t d, n ≤ reachBytes := fun n hn =>
  of_decide_eq_true (List.all_eq_true.1 h n (DataW.weights_mem_each ht hd n hn))
end Go.Proofs.YtchpcjmgifnmdaaDoor

/- The law holds: for every input it returns true, and each argument reads behind the call as it read before; the card ties the table of math/bits to the program's text. No condition. -/
namespace Go.Proofs.YtchpcjmgifnmdaaDoor
open Go Go.Proofs.YtchpcjmgifnmdaaDoor.Ab Go.ChangeShapes Go.WideShapes Go.ChangeAt Go.RowKit
set_option maxRecDepth 100000

def wArgs9 : Array Value := #[.agg #[.int .i64 0, .int .i64 0, .int .i64 0, .int .i64 0, .slice none 0 0], .agg #[.int .i64 0, .int .i64 0, .int .i64 0, .int .i64 0, .slice none 0 0], .slice none 0 0]
theorem laid_met9 (os : Os) : laidMet Tryd.prog Rows.conformRelationsRow.laid ((laidWorld os).forCall (fun _ _ => 0) ⟨#[], wArgs9, []⟩).memory :=
  laidMet_of_run' 66 (by kernel_rfl) (by kernel_rfl)
theorem reads9 (os : Os) {H : Type} (enc : TypeId × Value → H) : ∃ places, DataW.whole enc Tryd.prog ((laidWorld os).forCall (fun _ _ => 0) ⟨#[], wArgs9, []⟩).memory Tryd.f9.params.toList Rows.conformRelationsSpec.vars false wArgs9.toList 8 = some ([.agg [.lit (.int .i64 0), .lit (.int .i64 0), .lit (.int .i64 0), .lit (.int .i64 0), .nil], .agg [.lit (.int .i64 0), .lit (.int .i64 0), .lit (.int .i64 0), .lit (.int .i64 0), .nil], .nil], [], places) :=
  ⟨[], by kernel_rfl⟩
set_option maxHeartbeats 800000 in
theorem lift9 (os : Os) (started : os.Started) (H : Type) (enc : TypeId × Value → H) (F : Stop.Interp) :
    ReturnsInHanded {} Tryd.checked os 9 .any ((OpenSpec.ofChange Rows.conformRelationsSpec).preRow enc Tryd.prog Tryd.f9 Rows.conformRelationsRow.domain false Rows.conformRelationsRow.laid) (((OpenSpec.ofChange Rows.conformRelationsSpec).at F).post enc Tryd.prog Tryd.f9 false true false false) := by
  obtain ⟨places, hx⟩ := reads9 os enc
  refine returnsInHanded_of_row (C := Tryd.checked) (s := OpenSpec.ofChange Rows.conformRelationsSpec) own started (by kernel_rfl) Tryd.func9
    (witness_row_at (enc := enc) (C := Tryd.checked) false (laidWorld os) wArgs9 rfl (by kernel_rfl) (by kernel_rfl) (by kernel_rfl)
      (OpenSpec.preRow_of_cond 8 hx (by kernel_rfl) (fun k hk => by cases hk) (by kernel_rfl) (laid_met9 os))) ?_
  intro W base args ds gs before hval0 hW _ _ hsz hL _ _
  have hval : ∀ (j : Nat) t v, Tryd.f9.params[j]? = some t → args[j]? = some v → Value.okWide Tryd.prog W .any base t v := hval0
  have hW' := hW
  obtain ⟨p, q, hA0, hV, rfl, _, _⟩ := hW
  have hA : DataW.TrodAll enc Tryd.prog W 0 (fun _ => true) true Tryd.f9.params.toList args.toList ds p := hA0
  rw [Tryd.params9] at hA hval hsz
  obtain ⟨v0, v1, v2, d0, d1, d2, p0, p1, p2, rfl, rfl, rfl, h0, h1, h2⟩ := trodAll_three hA
  obtain ⟨rfl, rfl⟩ := trodVars_none hV
  obtain ⟨c0, -, hc0⟩ := arg_struct rdRe Tryd.underlying24 (hval 0 24 v0 rfl rfl) h0
  have r0 := re_room h0 hc0 (row_le hsz (j := 0) rfl rfl)
  obtain ⟨c1, -, hc1⟩ := arg_struct rdRe Tryd.underlying24 (hval 1 24 v1 rfl rfl) h1
  have r1 := re_room h1 hc1 (row_le hsz (j := 1) rfl rfl)
  obtain ⟨a2, len2, cap2, rfl⟩ := okWide_slice Tryd.underlying32 (hval 2 32 v2 rfl rfl)
  obtain ⟨c2, ⟨hP2, hL2⟩, hc2⟩ := argw_one rwPrs h2 rfl (row_le hsz (j := 2) rfl rfl)
  clear hA0 hval0
  simp only [List.append_nil] at hW'
  try rw [List.append_assoc] at hW'
  have hlt : ∀ x ∈ p0 ++ (p1 ++ p2), x.block < W.heap.size := fun x hx => by simpa using hW'.lt x (by first | exact hx | simpa using hx)
  refine ((law9 c0 c1 c2 r0 r1 hL2 hP2).true (xs := #[v0, v1, .slice a2 len2 cap2]) (W := W) ⟨rfl, fun j hj => ?_⟩ (laid_cells hL)).mono fun e W' ⟨he, hb⟩ => ?_
  · match j, hj with
    | 0, _ => exact hc0
    | 1, _ => exact hc1
    | 2, _ => exact hc2
  subst he
  have harg0 : DataW.Trod enc Tryd.prog W' 0 (fun b => decide (b < W.heap.size)) true 24 v0 d0 p0 :=
    Below.trod laidOut (by kernel_rfl) (of_decide_eq_true (by kernel_rfl)) h0 hb (fun x hx => hlt x (List.mem_append.2 (.inl hx)))
  have harg1 : DataW.Trod enc Tryd.prog W' 0 (fun b => decide (b < W.heap.size)) true 24 v1 d1 p1 :=
    Below.trod laidOut (by kernel_rfl) (of_decide_eq_true (by kernel_rfl)) h1 hb (fun x hx => hlt x (List.mem_append.2 (.inr (List.mem_append.2 (.inl hx)))))
  have harg2 : DataW.Trod enc Tryd.prog W' 0 (fun b => decide (b < W.heap.size)) true 32 (.slice a2 len2 cap2) d2 p2 :=
    Below.trod laidOut (by kernel_rfl) (of_decide_eq_true (by kernel_rfl)) h2 hb (fun x hx => hlt x (List.mem_append.2 (.inr (List.mem_append.2 (.inr hx)))))
  refine ⟨_, rfl, _, _, _, [], _, [], hW', ?_, trodAll_mk3 harg0 harg1 harg2, rfl, hb.frame _, fun h => by cases h⟩
  exact trodAll_mk1 (shut_bool Tryd.underlying4 _)
theorem conformRelationsSaid : Rows.ConformRelationsSaid :=
  OpenClaim.holds_of_cond 9 Tryd.f9 rfl rfl rfl rfl rfl rfl rfl ⟨rfl, rfl, rfl, rfl, rfl⟩ rfl rfl rfl rfl rfl (by kernel_rfl) Tryd.func9 (by kernel_rfl)
    (of_decide_eq_true (by kernel_rfl)) (by unfold Func.isWrapper; first | (rw [if_pos (by decide +kernel)]; kernel_rfl) | (rw [if_neg (by decide +kernel)]; exact ⟨rfl, rfl⟩))
    (fun os started H enc _ F => by rw [OpenClaim.pre_eq_preRow]; exact lift9 os started H enc F)
theorem plain9 (f : FuncId) (fn : Func) (hf : Tryd.pinned.checked.prog.funcNamed "examiner/examinerlaw42.ConformRelations" = some f) (hfn : Tryd.pinned.checked.prog.funcs[f]? = some fn) :
    false = Tryd.pinned.checked.prog.looks [] ∧ ∀ (j : Nat) t, fn.params[j]? = some t → Tryd.pinned.checked.prog.wantsStandIn t = false := by
  obtain rfl : f = 9 := Option.some.inj ((show Tryd.prog.funcNamed "examiner/examinerlaw42.ConformRelations" = some 9 by kernel_rfl).symm.trans hf) |>.symm
  obtain rfl : fn = Tryd.f9 := (Option.some.inj (Tryd.func9.symm.trans hfn)).symm
  refine ⟨by kernel_rfl, fun j t ht => ?_⟩
  rw [Tryd.params9] at ht
  have hm := Array.mem_of_getElem? ht
  simp only [List.mem_toArray, List.mem_cons, List.not_mem_nil, or_false] at hm
  rcases hm with rfl | rfl | rfl
  · exact (show Tryd.prog.wantsStandIn 24 = false by kernel_rfl)
  · exact (show Tryd.prog.wantsStandIn 24 = false by kernel_rfl)
  · exact (show Tryd.prog.wantsStandIn 32 = false by kernel_rfl)
theorem conformRelations : Rows.ConformRelationsCardSaid :=
  Claim7.holds_tied_plain_at .later [] _ _ _ _ conformRelationsSaid (fun _ h => by cases h) (by kernel_rfl) (fun _ h => by cases h) conformRelations_row_tie rfl ⟨rfl, rfl⟩ (by kernel_rfl) rfl plain9 (by kernel_rfl)
end Go.Proofs.YtchpcjmgifnmdaaDoor

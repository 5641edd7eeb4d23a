/- Part 3 of a proof: walkReads holds for every input; no condition. -/
import Derived.Test.YtmjjfdppaomcfaaProg
import Derived.KernelRfl
import Derived.Test.YtmjjfdppaomcfaaRows
import Derived.ProofKit
import Derived.Test.YtmjjfdppaomcfaaAb0
import Derived.Test.YtmjjfdppaomcfaaAb1
import Derived.Test.YtmjjfdppaomcfaaAb2
import Derived.Test.YtmjjfdppaomcfaaAb3
import Derived.Test.YtmjjfdppaomcfaaAb4
import Derived.Test.YtmjjfdppaomcfaaAb5
import Derived.Test.YtmjjfdppaomcfaaAb6
import Derived.Test.YtmjjfdppaomcfaaAb7
import Derived.Test.YtmjjfdppaomcfaaAb8
import Derived.Test.YtmjjfdppaomcfaaAb8a
import Derived.Test.YtmjjfdppaomcfaaAb8b
import Derived.Test.YtmjjfdppaomcfaaAb8c
import Derived.Test.YtmjjfdppaomcfaaAb8d
import Derived.Test.YtmjjfdppaomcfaaAb9
import Derived.Test.YtmjjfdppaomcfaaAb10
import Derived.Test.YtmjjfdppaomcfaaAb11
import Derived.Test.YtmjjfdppaomcfaaAb12
import Derived.Test.YtmjjfdppaomcfaaAb13
import Derived.Test.YtmjjfdppaomcfaaAb14
import Derived.Test.YtmjjfdppaomcfaaAb15
import Derived.Test.YtmjjfdppaomcfaaAb16
import Derived.Test.YtmjjfdppaomcfaaAb17
import Derived.Test.YtmjjfdppaomcfaaAb18
import Derived.Test.YtmjjfdppaomcfaaAb19
import Derived.Test.YtmjjfdppaomcfaaAb20
import Derived.Test.YtmjjfdppaomcfaaAb21
import Derived.Test.YtmjjfdppaomcfaaAb22
import Derived.Test.YtmjjfdppaomcfaaAb23
import Derived.Test.YtmjjfdppaomcfaaAb24
import Derived.Test.YtmjjfdppaomcfaaAb25
import Derived.Test.YtmjjfdppaomcfaaAb26
import Derived.Test.YtmjjfdppaomcfaaBw
import Derived.Test.YtmjjfdppaomcfaaQa2
set_option linter.unusedSimpArgs false
set_option linter.unusedVariables false
set_option linter.defProp false
/- Walks: the law of reading. -/
namespace Go.Proofs.Ytmjjfdppaomcfaa
open Go Go.Proofs.Ytmjjfdppaomcfaa.Ab
set_option maxRecDepth 100000
set_option linter.unusedSimpArgs false

theorem law3 (b : ByteArray) : FCall Try.prog 3 [.v (.string b)] (· = .v (.bool true)) := by
  refine ACall.enter [] Cd.fn3 (by simp) ?_
  simp only [Cd.cd3, Tk.t3, base0, base1, base2, base3, Option.isNone_none, Option.isNone_some, Nat.reduceBEq, true_or, or_true, false_or, or_false, Nat.reduceLT, Nat.reduceMod, Nat.reducePow, rmaps, nsucc, List.flatten_cons, List.flatten_nil, Nat.reduceEqDiff, Nat.reduceLeDiff, Nat.reduceAdd, Nat.reduceMul, Nat.reduceSub, ↓reduceIte, reduceCtorEq, decide_true, decide_false]
  first | refine FCall.go (awake11) (FZs.nil) ?_ | refine FCall.go' (awake11) (FZs.nil) ?_ | refine FCall.goQ (awake11) (FZs.nil) ?_
  simp only [Cd.cd3, Tk.t3, base0, base1, base2, base3, Option.isNone_none, Option.isNone_some, Nat.reduceBEq, true_or, or_true, false_or, or_false, Nat.reduceLT, Nat.reduceMod, Nat.reducePow, rmaps, nsucc, List.flatten_cons, List.flatten_nil, Nat.reduceEqDiff, Nat.reduceLeDiff, Nat.reduceAdd, Nat.reduceMul, Nat.reduceSub, ↓reduceIte, reduceCtorEq, decide_true, decide_false]
  first | refine FCall.go (small12 b) (FZs.one (FZ.v _)) ?_ | refine FCall.go' (small12 b) (FZs.one (FZ.v _)) ?_ | refine FCall.goQ (small12 b) (FZs.one (FZ.v _)) ?_
  cases hs : smallB b
  · simp only [Cd.cd3, Tk.t3, base0, base1, base2, base3, Option.isNone_none, Option.isNone_some, Nat.reduceBEq, true_or, or_true, false_or, or_false, Nat.reduceLT, Nat.reduceMod, Nat.reducePow, rmaps, nsucc, List.flatten_cons, List.flatten_nil, Nat.reduceEqDiff, Nat.reduceLeDiff, Nat.reduceAdd, Nat.reduceMul, Nat.reduceSub, ↓reduceIte, reduceCtorEq, decide_true, decide_false]
    exact fin_v rfl
  · simp only [Cd.cd3, Tk.t3, base0, base1, base2, base3, Option.isNone_none, Option.isNone_some, Nat.reduceBEq, true_or, or_true, false_or, or_false, Nat.reduceLT, Nat.reduceMod, Nat.reducePow, rmaps, nsucc, List.flatten_cons, List.flatten_nil, Nat.reduceEqDiff, Nat.reduceLeDiff, Nat.reduceAdd, Nat.reduceMul, Nat.reduceSub, ↓reduceIte, reduceCtorEq, decide_true, decide_false]
    first | refine FCall.go (walked13 b) (FZs.one (FZ.v _)) ?_ | refine FCall.go' (walked13 b) (FZs.one (FZ.v _)) ?_ | refine FCall.goQ (walked13 b) (FZs.one (FZ.v _)) ?_
    cases hr : readB b with
    | error e =>
      simp only [walkedOut, Cd.cd3, Tk.t3, base0, base1, base2, base3, Option.isNone_none, Option.isNone_some, Nat.reduceBEq, true_or, or_true, false_or, or_false, Nat.reduceLT, Nat.reduceMod, Nat.reducePow, rmaps, nsucc, List.flatten_cons, List.flatten_nil, Nat.reduceEqDiff, Nat.reduceLeDiff, Nat.reduceAdd, Nat.reduceMul, Nat.reduceSub, ↓reduceIte, reduceCtorEq, decide_true, decide_false]
      first | refine FCall.go (read14 b) (FZs.one (FZ.v _)) ?_ | refine FCall.go' (read14 b) (FZs.one (FZ.v _)) ?_ | refine FCall.goQ (read14 b) (FZs.one (FZ.v _)) ?_
      rw [hr]
      simp only [refOut, wL, Cd.cd3, Tk.t3, base0, base1, base2, base3, Option.isNone_none, Option.isNone_some, Nat.reduceBEq, true_or, or_true, false_or, or_false, Nat.reduceLT, Nat.reduceMod, Nat.reducePow, rmaps, nsucc, List.flatten_cons, List.flatten_nil, Nat.reduceEqDiff, Nat.reduceLeDiff, Nat.reduceAdd, Nat.reduceMul, Nat.reduceSub, ↓reduceIte, reduceCtorEq, decide_true, decide_false]
      first | refine FCall.go (same15 [] (by simp)) (FZs.cons (FZ.nodesV []) (FZs.one (FZ.nodesV []))) ?_ | refine FCall.go' (same15 [] (by simp)) (FZs.cons (FZ.nodesV []) (FZs.one (FZ.nodesV []))) ?_ | refine FCall.goQ (same15 [] (by simp)) (FZs.cons (FZ.nodesV []) (FZs.one (FZ.nodesV []))) ?_
      simp only [Cd.cd3, Tk.t3, base0, base1, base2, base3, Option.isNone_none, Option.isNone_some, Nat.reduceBEq, true_or, or_true, false_or, or_false, Nat.reduceLT, Nat.reduceMod, Nat.reducePow, rmaps, nsucc, List.flatten_cons, List.flatten_nil, Nat.reduceEqDiff, Nat.reduceLeDiff, Nat.reduceAdd, Nat.reduceMul, Nat.reduceSub, ↓reduceIte, reduceCtorEq, decide_true, decide_false]
      exact fin_v rfl
    | ok l =>
      simp only [walkedOut, Cd.cd3, Tk.t3, base0, base1, base2, base3, Option.isNone_none, Option.isNone_some, Nat.reduceBEq, true_or, or_true, false_or, or_false, Nat.reduceLT, Nat.reduceMod, Nat.reducePow, rmaps, nsucc, List.flatten_cons, List.flatten_nil, Nat.reduceEqDiff, Nat.reduceLeDiff, Nat.reduceAdd, Nat.reduceMul, Nat.reduceSub, ↓reduceIte, reduceCtorEq, decide_true, decide_false]
      first | refine FCall.go (read14 b) (FZs.one (FZ.v _)) ?_ | refine FCall.go' (read14 b) (FZs.one (FZ.v _)) ?_ | refine FCall.goQ (read14 b) (FZs.one (FZ.v _)) ?_
      rw [hr]
      have hl := readB_len hr
      simp only [refOut, wL, show ((0 : Int) == 0) = true from rfl, Cd.cd3, Tk.t3, base0, base1, base2, base3, Option.isNone_none, Option.isNone_some, Nat.reduceBEq, true_or, or_true, false_or, or_false, Nat.reduceLT, Nat.reduceMod, Nat.reducePow, rmaps, nsucc, List.flatten_cons, List.flatten_nil, Nat.reduceEqDiff, Nat.reduceLeDiff, Nat.reduceAdd, Nat.reduceMul, Nat.reduceSub, ↓reduceIte, reduceCtorEq, decide_true, decide_false]
      first | refine FCall.go (same15 (flatTs l) (by omega)) (FZs.cons (FZ.nodesV _) (FZs.one (FZ.nodesV _))) ?_ | refine FCall.go' (same15 (flatTs l) (by omega)) (FZs.cons (FZ.nodesV _) (FZs.one (FZ.nodesV _))) ?_ | refine FCall.goQ (same15 (flatTs l) (by omega)) (FZs.cons (FZ.nodesV _) (FZs.one (FZ.nodesV _))) ?_
      simp only [Cd.cd3, Tk.t3, base0, base1, base2, base3, Option.isNone_none, Option.isNone_some, Nat.reduceBEq, true_or, or_true, false_or, or_false, Nat.reduceLT, Nat.reduceMod, Nat.reducePow, rmaps, nsucc, List.flatten_cons, List.flatten_nil, Nat.reduceEqDiff, Nat.reduceLeDiff, Nat.reduceAdd, Nat.reduceMul, Nat.reduceSub, ↓reduceIte, reduceCtorEq, decide_true, decide_false]
      exact fin_v rfl
end Go.Proofs.Ytmjjfdppaomcfaa

/- The law holds: for every input it returns true, and each argument reads behind the call as it read before. No condition. -/
namespace Go.Proofs.Ytmjjfdppaomcfaa
open Go Go.Proofs.Ytmjjfdppaomcfaa.Ab Go.ChangeShapes Go.WideShapes Go.ChangeAt Go.RowKit
set_option maxRecDepth 100000

set_option maxHeartbeats 800000 in
theorem lift3 (os : Os) (started : os.Started) (H : Type) (enc : TypeId × Value → H) :
    ReturnsInHanded {} Try.checked os 3 .any (Rows.walkReadsSpec.pre6 enc Try.prog Try.f3 Rows.walkReadsRow.domain false) (Rows.walkReadsSpec.post enc Try.prog Try.f3 false true false false) := by
  refine returnsInHanded_of_change (C := Try.checked) own started (by kernel_rfl) Try.func3
    (ChangeSpec.witness6 (enc := enc) (C := Try.checked) false ⟨#[], #[.string ⟨#[]⟩], []⟩ 8 (by kernel_rfl) (by kernel_rfl) (by kernel_rfl) (by kernel_rfl)) ?_
  intro W base args ds gs before hval0 hW _ _
  have hval : ∀ (j : Nat) t v, Try.f3.params[j]? = some t → args[j]? = some v → Value.okWide Try.prog W .any base t v := hval0
  have hW' := hW
  obtain ⟨p, q, hA0, hV, rfl, _, _⟩ := hW
  have hA : DataW.TrodAll enc Try.prog W 0 (fun _ => true) true Try.f3.params.toList args.toList ds p := hA0
  rw [Try.params3] at hA hval
  obtain ⟨v0, d0, rfl, rfl, h0⟩ := trodAll_one hA
  obtain ⟨rfl, rfl⟩ := trodVars_none hV
  obtain ⟨s0, rfl⟩ := okWide_string Try.underlying9 (hval 0 9 v0 rfl rfl)
  obtain ⟨x0, -, hx0⟩ := arg_one rdS h0 rfl
  clear hA0 hval0
  simp only [List.append_nil] at hW'
  have hlt : ∀ x ∈ p, x.block < W.heap.size := fun x hx => by simpa using hW'.lt x hx
  refine ((law3 x0).true (xs := #[.string s0]) (W := W) ⟨rfl, fun j hj => ?_⟩).mono fun e W' ⟨he, hb⟩ => ?_
  · match j, hj with
    | 0, _ => exact hx0
  subst he
  have harg0 : DataW.Trod enc Try.prog W' 0 (fun b => decide (b < W.heap.size)) true 9 (.string s0) d0 p :=
    Below.trod laidOut (by kernel_rfl) (of_decide_eq_true (by kernel_rfl)) h0 hb (fun x hx => hlt x hx)
  refine ⟨_, rfl, _, _, _, [], _, [], hW', ?_, trodAll_mk1 harg0, rfl, hb.frame _, fun h => by cases h⟩
  exact trodAll_mk1 (shut_bool Try.underlying4 _)

theorem walkReads : Rows.WalkReadsSaid :=
  OpenClaim.holds_of_wide 3 Try.f3 rfl rfl rfl rfl rfl rfl rfl ⟨rfl, rfl, rfl, rfl, rfl⟩ rfl rfl rfl rfl rfl (by kernel_rfl) Try.func3 (by kernel_rfl)
    (of_decide_eq_true (by kernel_rfl)) (by unfold Func.isWrapper; first | (rw [if_pos (by decide +kernel)]; kernel_rfl) | (rw [if_neg (by decide +kernel)]; exact ⟨rfl, rfl⟩))
    (fun os started H enc _ => lift3 os started H enc)
end Go.Proofs.Ytmjjfdppaomcfaa

/- Part 3 of a proof: conformChecks holds for every input; no condition. -/
import Derived.Test.YtchpcjmgifnmdaaDoorProg
import Derived.KernelRfl
import Derived.DeepKeys3
import Derived.Test.YtchpcjmgifnmdaaDoorRows
import Derived.Test.YtchpcjmgifnmdaaDoorCards
import Derived.Test.YtchpcjmgifnmdaaDoorTie
import Derived.ProofKit
import Derived.OpenShut
import Derived.SizedLaws
import Derived.Deep.DeepHandedRow
import Derived.Lib.LaidTab
import Derived.Test.YtchpcjmgifnmdaaDoorGl
import Derived.Test.YtchpcjmgifnmdaaDoorAb0
import Derived.Test.YtchpcjmgifnmdaaDoorAb1
import Derived.Test.YtchpcjmgifnmdaaDoorAb2
import Derived.Test.YtchpcjmgifnmdaaDoorAb3
import Derived.Test.YtchpcjmgifnmdaaDoorAb4
import Derived.Test.YtchpcjmgifnmdaaDoorAb5
import Derived.Test.YtchpcjmgifnmdaaDoorAb6
import Derived.Test.YtchpcjmgifnmdaaDoorAb7
import Derived.Test.YtchpcjmgifnmdaaDoorAb8
import Derived.Test.YtchpcjmgifnmdaaDoorAb8a
import Derived.Test.YtchpcjmgifnmdaaDoorAb8b
import Derived.Test.YtchpcjmgifnmdaaDoorAb8c
import Derived.Test.YtchpcjmgifnmdaaDoorAb8m
import Derived.Test.YtchpcjmgifnmdaaDoorAb8d
import Derived.Test.YtchpcjmgifnmdaaDoorAb9
import Derived.Test.YtchpcjmgifnmdaaDoorAb10
import Derived.Test.YtchpcjmgifnmdaaDoorAb11
import Derived.Test.YtchpcjmgifnmdaaDoorAb12
import Derived.Test.YtchpcjmgifnmdaaDoorAb13
import Derived.Test.YtchpcjmgifnmdaaDoorAb14
import Derived.Test.YtchpcjmgifnmdaaDoorAb15
import Derived.Test.YtchpcjmgifnmdaaDoorAb16
import Derived.Test.YtchpcjmgifnmdaaDoorAb17
import Derived.Test.YtchpcjmgifnmdaaDoorAb18
import Derived.Test.YtchpcjmgifnmdaaDoorAb19
import Derived.Test.YtchpcjmgifnmdaaDoorAb20
import Derived.Test.YtchpcjmgifnmdaaDoorAb23
import Derived.Test.YtchpcjmgifnmdaaDoorQb2
set_option linter.unusedSimpArgs false
set_option linter.unusedVariables false
set_option linter.defProp false
/- Walks: two systems compared. -/
namespace Go.Proofs.YtchpcjmgifnmdaaDoor
open Go Go.Proofs.YtchpcjmgifnmdaaDoor.Ab
set_option maxRecDepth 100000
set_option linter.unusedSimpArgs false

theorem ACall.thn {P : Program} {m : FuncId} {args : List AV} {H : AH} {Q : AOut → AH → Prop} {mu : List Nat} {Kt : Kont} {dst : Option Nat} {os : List COp} {f : AF} (h : ACall P m args H Q) (h' : ∀ out H', Q out H' → ∃ v, out = .ret v ∧ cops P mu Kt os (f.put dst v) H') : ACall P m args H (callK P mu Kt dst os f) :=
  h.mono fun out H' hq => by
    obtain ⟨v, rfl, h1⟩ := h' out H' hq
    exact h1
theorem ACall.thn' {P : Program} {m : FuncId} {args : List AV} {H : AH} {Q : AOut → AH → Prop} {mu : List Nat} {Kt : Kont} {fm : AF} {dst : Option Nat} {ds : List DOp} {f : AF} {pd : List (Nat × Nat × ABlk)} {rd : List Nat} (h : ACall P m args H Q) (h' : ∀ out H', Q out H' → ∃ v, out = .ret v ∧ dops P mu Kt fm ds (f.put dst v) H' pd rd) : ACall P m args H (dcallK P mu Kt fm dst ds f pd rd) :=
  h.mono fun out H' hq => by
    obtain ⟨v, rfl, h1⟩ := h' out H' hq
    exact h1
theorem failsAt_lt {x y : Re} {a b e : Nat} (h : e < x.inp.toNat) : failsAt x y a b e = false := by
  unfold failsAt shw
  rw [decide_eq_false (by omega)]; rfl
def failsV (o : Option Nat) : AV := match o with
  | some e => .tup [.v (.int .i64 (e : Nat)), .v (.bool true)]
  | none => .tup [.v (.int .i64 0), .v (.bool false)]
theorem fails87 (x y : Re) (hx : Ok x) (hy : Ok y) (H : AH) (r m : Nat) (aP aF aB : AV) (l : List Nd) (fr bys : List Int) (hC : CmpO x y H r m aP aF aB l fr bys) (a b : Nat) (ha : a < 2 ^ nst x) (hb : b < 2 ^ nst y) :
    ACall Tryd.prog 87 [.ptr r 0, .agg [.v (.int .u64 (a : Nat)), .v (.int .u64 (b : Nat))]] H (fun out H' => out = .ret (failsV (failsN x y a b)) ∧ H' = H) := by
  have ho := hC.o
  have hinp := hx.inp
  have hsc := silc_le hx
  refine ACall.enter [] Cd.fn87 (by simp) ?_
  simp only [ho, box_eq, boxV, Cd.cd87, Tk.t87, base0, base1, base2, base3, Option.isNone_none, Option.isNone_some, Nat.reduceBEq, true_or, or_true, false_or, or_false, Nat.reduceLT, Nat.reduceMod, Nat.reducePow, rmaps, nsucc, List.flatten_cons, List.flatten_nil, Nat.reduceEqDiff, Nat.reduceLeDiff, Nat.reduceAdd, Nat.reduceMul, Nat.reduceSub, ↓reduceIte, reduceCtorEq, decide_true, decide_false]
  refine LWP.loop [] (fun m f H' => ∃ e, m = silc x + 1 - e ∧ (x.inp.toNat ≤ e ∧ e ≤ silc x + 1) ∧ (∀ j, j < e → failsAt x y a b j = false) ∧ f.t 0 = .ptr r 0 ∧ f.t 3 = .box [.v (.int .u64 (a : Nat)), .v (.int .u64 (b : Nat))] ∧ f.t 6 = .v (.int .i64 (e : Nat)) ∧ f.ds = [] ∧ H' = H) ?_ ?_ (m := silc x + 1 - (x.inp.toNat))
  · exact ⟨x.inp.toNat, rfl, (by omega), (fun j hj => failsAt_lt hj), rfl, rfl, by simp [upd]; omega, rfl, rfl⟩
  · rintro m f H' ⟨e, rfl, hi, hz, f0, f3, f6, hds, rfl⟩
    simp only [ho, f0, f3, f6, hds, Cd.cd87, Tk.t87, base0, base1, base2, base3, Option.isNone_none, Option.isNone_some, Nat.reduceBEq, true_or, or_true, false_or, or_false, Nat.reduceLT, Nat.reduceMod, Nat.reducePow, rmaps, nsucc, List.flatten_cons, List.flatten_nil, Nat.reduceEqDiff, Nat.reduceLeDiff, Nat.reduceAdd, Nat.reduceMul, Nat.reduceSub, ↓reduceIte, reduceCtorEq, decide_true, decide_false]
    first | refine FCall.go (silence73 x hx) (FZs.one (FZ.sysV x)) ?_ | refine FCall.go' (silence73 x hx) (FZs.one (FZ.sysV x)) ?_ | refine FCall.goQ (silence73 x hx) (FZs.one (FZ.sysV x)) ?_
    by_cases hlt : e ≤ silc x
    · simp only [ho, show decide (((e : Nat) : Int) ≤ ((silc x : Nat) : Int)) = true from decide_eq_true (by omega), f0, f3, f6, hds, Cd.cd87, Tk.t87, base0, base1, base2, base3, Option.isNone_none, Option.isNone_some, Nat.reduceBEq, true_or, or_true, false_or, or_false, Nat.reduceLT, Nat.reduceMod, Nat.reducePow, rmaps, nsucc, List.flatten_cons, List.flatten_nil, Nat.reduceEqDiff, Nat.reduceLeDiff, Nat.reduceAdd, Nat.reduceMul, Nat.reduceSub, ↓reduceIte, reduceCtorEq, decide_true, decide_false]
      first | refine FCall.go (shows80 x hx a e ha) (FZs.three (FZ.sysV x) (FZ.v _) (FZ.v _)) ?_ | refine FCall.go' (shows80 x hx a e ha) (FZs.three (FZ.sysV x) (FZ.v _) (FZ.v _)) ?_ | refine FCall.goQ (shows80 x hx a e ha) (FZs.three (FZ.sysV x) (FZ.v _) (FZ.v _)) ?_
      cases h1 : shw x a e
      · simp only [ho, f0, f3, f6, hds, Cd.cd87, Tk.t87, base0, base1, base2, base3, Option.isNone_none, Option.isNone_some, Nat.reduceBEq, true_or, or_true, false_or, or_false, Nat.reduceLT, Nat.reduceMod, Nat.reducePow, rmaps, nsucc, List.flatten_cons, List.flatten_nil, Nat.reduceEqDiff, Nat.reduceLeDiff, Nat.reduceAdd, Nat.reduceMul, Nat.reduceSub, ↓reduceIte, reduceCtorEq, decide_true, decide_false]
        exact ⟨_, by omega, e + 1, rfl, by omega, allS hz (by unfold failsAt; rw [h1]; rfl), by rw [wrapS (by omega)]⟩
      · simp only [ho, f0, f3, f6, hds, Cd.cd87, Tk.t87, base0, base1, base2, base3, Option.isNone_none, Option.isNone_some, Nat.reduceBEq, true_or, or_true, false_or, or_false, Nat.reduceLT, Nat.reduceMod, Nat.reducePow, rmaps, nsucc, List.flatten_cons, List.flatten_nil, Nat.reduceEqDiff, Nat.reduceLeDiff, Nat.reduceAdd, Nat.reduceMul, Nat.reduceSub, ↓reduceIte, reduceCtorEq, decide_true, decide_false]
        first | refine FCall.go (shows80 y hy b e hb) (FZs.three (FZ.sysV y) (FZ.v _) (FZ.v _)) ?_ | refine FCall.go' (shows80 y hy b e hb) (FZs.three (FZ.sysV y) (FZ.v _) (FZ.v _)) ?_ | refine FCall.goQ (shows80 y hy b e hb) (FZs.three (FZ.sysV y) (FZ.v _) (FZ.v _)) ?_
        cases h2 : shw y b e
        · simp only [ho, f0, f3, f6, hds, Cd.cd87, Tk.t87, base0, base1, base2, base3, Option.isNone_none, Option.isNone_some, Nat.reduceBEq, true_or, or_true, false_or, or_false, Nat.reduceLT, Nat.reduceMod, Nat.reducePow, rmaps, nsucc, List.flatten_cons, List.flatten_nil, Nat.reduceEqDiff, Nat.reduceLeDiff, Nat.reduceAdd, Nat.reduceMul, Nat.reduceSub, ↓reduceIte, reduceCtorEq, decide_true, decide_false]
          rw [show failsN x y a b = some e from firstIx_some (by omega) (by unfold failsAt; rw [h1, h2]; rfl) hz]; rfl
        · simp only [ho, f0, f3, f6, hds, Cd.cd87, Tk.t87, base0, base1, base2, base3, Option.isNone_none, Option.isNone_some, Nat.reduceBEq, true_or, or_true, false_or, or_false, Nat.reduceLT, Nat.reduceMod, Nat.reducePow, rmaps, nsucc, List.flatten_cons, List.flatten_nil, Nat.reduceEqDiff, Nat.reduceLeDiff, Nat.reduceAdd, Nat.reduceMul, Nat.reduceSub, ↓reduceIte, reduceCtorEq, decide_true, decide_false]
          exact ⟨_, by omega, e + 1, rfl, by omega, allS hz (by unfold failsAt; rw [h1, h2]; rfl), by rw [wrapS (by omega)]⟩
    · have he : e = silc x + 1 := by omega
      simp only [show decide (((e : Nat) : Int) ≤ ((silc x : Nat) : Int)) = false from decide_eq_false (by omega), f0, f3, f6, hds, Cd.cd87, Tk.t87, base0, base1, base2, base3, Option.isNone_none, Option.isNone_some, Nat.reduceBEq, true_or, or_true, false_or, or_false, Nat.reduceLT, Nat.reduceMod, Nat.reducePow, rmaps, nsucc, List.flatten_cons, List.flatten_nil, Nat.reduceEqDiff, Nat.reduceLeDiff, Nat.reduceAdd, Nat.reduceMul, Nat.reduceSub, ↓reduceIte, reduceCtorEq, decide_true, decide_false]
      rw [show failsN x y a b = none from firstIx_none (by rw [← he]; exact hz)]; rfl
set_option maxHeartbeats 2000000 in
theorem compare59 (x y : Re) (hx : Ok x) (hy : Ok y) (H : AH) : ACall Tryd.prog 59 [reV x, reV y] H (fun out H' => ∃ r m aP aF aB, out = .ret (.ptr r 0) ∧ CmpO x y H' r m aP aF aB [nd0 x y] [-1] [-1] ∧ H.next ≤ H'.next ∧ H.next ≤ r ∧ H.next ≤ m ∧ ∀ n, n < H.next → H'.own n = H.own n) := by
  simp only [reV, reL, mvsV]
  refine ACall.enter [12] Cd.fn59 (by simp) ?_
  simp only [Cd.cd59, Tk.t59, base0, base1, base2, base3, Option.isNone_none, Option.isNone_some, Nat.reduceBEq, true_or, or_true, false_or, or_false, Nat.reduceLT, Nat.reduceMod, Nat.reducePow, rmaps, nsucc, List.flatten_cons, List.flatten_nil, Nat.reduceEqDiff, Nat.reduceLeDiff, Nat.reduceAdd, Nat.reduceMul, Nat.reduceSub, ↓reduceIte, reduceCtorEq, decide_true, decide_false]
  first | refine FCall.go (system71 x hx) (FZs.one (FZ.reV x)) ?_ | refine FCall.go' (system71 x hx) (FZs.one (FZ.reV x)) ?_ | refine FCall.goQ (system71 x hx) (FZs.one (FZ.reV x)) ?_
  simp only [Cd.cd59, Tk.t59, base0, base1, base2, base3, Option.isNone_none, Option.isNone_some, Nat.reduceBEq, true_or, or_true, false_or, or_false, Nat.reduceLT, Nat.reduceMod, Nat.reducePow, rmaps, nsucc, List.flatten_cons, List.flatten_nil, Nat.reduceEqDiff, Nat.reduceLeDiff, Nat.reduceAdd, Nat.reduceMul, Nat.reduceSub, ↓reduceIte, reduceCtorEq, decide_true, decide_false]
  first | refine FCall.go (system71 y hy) (FZs.one (FZ.reV y)) ?_ | refine FCall.go' (system71 y hy) (FZs.one (FZ.reV y)) ?_ | refine FCall.goQ (system71 y hy) (FZs.one (FZ.reV y)) ?_
  simp only [sysV, Cd.cd59, Tk.t59, base0, base1, base2, base3, Option.isNone_none, Option.isNone_some, Nat.reduceBEq, true_or, or_true, false_or, or_false, Nat.reduceLT, Nat.reduceMod, Nat.reducePow, rmaps, nsucc, List.flatten_cons, List.flatten_nil, Nat.reduceEqDiff, Nat.reduceLeDiff, Nat.reduceAdd, Nat.reduceMul, Nat.reduceSub, ↓reduceIte, reduceCtorEq, decide_true, decide_false]
  first | refine FCall.go (first72 x hx) (FZs.one (FZ.sysV x)) ?_ | refine FCall.go' (first72 x hx) (FZs.one (FZ.sysV x)) ?_ | refine FCall.goQ (first72 x hx) (FZs.one (FZ.sysV x)) ?_
  simp only [sysV, Cd.cd59, Tk.t59, base0, base1, base2, base3, Option.isNone_none, Option.isNone_some, Nat.reduceBEq, true_or, or_true, false_or, or_false, Nat.reduceLT, Nat.reduceMod, Nat.reducePow, rmaps, nsucc, List.flatten_cons, List.flatten_nil, Nat.reduceEqDiff, Nat.reduceLeDiff, Nat.reduceAdd, Nat.reduceMul, Nat.reduceSub, ↓reduceIte, reduceCtorEq, decide_true, decide_false]
  first | refine FCall.go (first72 y hy) (FZs.one (FZ.sysV y)) ?_ | refine FCall.go' (first72 y hy) (FZs.one (FZ.sysV y)) ?_ | refine FCall.goQ (first72 y hy) (FZs.one (FZ.sysV y)) ?_
  simp only [sysV, uv, Cd.cd59, Tk.t59, base0, base1, base2, base3, Option.isNone_none, Option.isNone_some, Nat.reduceBEq, true_or, or_true, false_or, or_false, Nat.reduceLT, Nat.reduceMod, Nat.reducePow, rmaps, nsucc, List.flatten_cons, List.flatten_nil, Nat.reduceEqDiff, Nat.reduceLeDiff, Nat.reduceAdd, Nat.reduceMul, Nat.reduceSub, ↓reduceIte, reduceCtorEq, decide_true, decide_false]
  refine ACall.thn' (add101 x y hx hy _ (H.next + 1) H.next nilS nilS nilS [] [] [] ⟨by simp [sysV, nilS], by simp, .inl ⟨rfl, rfl, rfl, rfl, rfl, rfl⟩, by omega, by show H.next + 1 < H.next + 1 + 1; omega, by show H.next < H.next + 1 + 1; omega⟩ ⟨fun p hp => by simp at hp, by simp⟩ rfl rfl (fstM x) (fstM y) (hx.pw (fst_lt hx)) (hy.pw (fst_lt hy)) (-1) (-1) []) fun out H2 hq => ?_
  obtain ⟨rfl, ⟨aP, aF, aB, h2⟩, h3, h4⟩ := hq
  refine ⟨_, rfl, ?_⟩
  simp only [Cd.cd59, Tk.t59, base0, base1, base2, base3, Option.isNone_none, Option.isNone_some, Nat.reduceBEq, true_or, or_true, false_or, or_false, Nat.reduceLT, Nat.reduceMod, Nat.reducePow, rmaps, nsucc, List.flatten_cons, List.flatten_nil, Nat.reduceEqDiff, Nat.reduceLeDiff, Nat.reduceAdd, Nat.reduceMul, Nat.reduceSub, ↓reduceIte, reduceCtorEq, decide_true, decide_false]
  refine ⟨H.next + 1, H.next, aP, aF, aB, rfl, h2, by have : H.next + 1 + 1 ≤ H2.next := h3; omega, by omega, by omega, fun n hn => ?_⟩
  rw [h4 n (by show n < H.next + 1 + 1; omega) (by omega) (by omega)]
  simp [show ¬ n = H.next by omega, show ¬ n = H.next + 1 by omega]
def ivC (k : Nat) (f : Nat → Int) : List AV := (List.range k).map fun e => .v (.int .i64 (f e))
theorem ivC_len (k : Nat) (f : Nat → Int) : (ivC k f).length = k := by simp [ivC]
theorem ivC_drop {k s : Nat} (f : Nat → Int) (h : s < k) : (List.drop s (ivC k f))[0]? = some (.v (.int .i64 (f s))) := by
  rw [List.getElem?_drop, Nat.add_zero]
  unfold ivC
  rw [List.getElem?_map, List.getElem?_range h]; rfl
theorem ivC_set {k s : Nat} (f : Nat → Int) (v : Int) (h : s < k) : List.take s (ivC k f) ++ AV.v (.int .i64 v) :: List.drop (s + 1) (ivC k f) = ivC k fun e => if e = s then v else f e := by
  apply List.ext_getElem?
  intro i
  have hl : (List.take s (ivC k f)).length = s := by rw [List.length_take, ivC_len]; omega
  by_cases h1 : i < s
  · rw [List.getElem?_append_left (by omega), List.getElem?_take_of_lt h1]
    unfold ivC
    rw [List.getElem?_map, List.getElem?_map, List.getElem?_range (by omega)]
    simp [show ¬ i = s by omega]
  · rw [List.getElem?_append_right (by omega), hl]
    by_cases h2 : i = s
    · subst h2
      rw [Nat.sub_self]
      unfold ivC
      rw [List.getElem?_map, List.getElem?_range h]; simp
    · obtain ⟨d, hd⟩ : ∃ d, i - s = d + 1 := ⟨i - s - 1, by omega⟩
      rw [hd, List.getElem?_cons_succ, List.getElem?_drop, show s + 1 + d = i by omega]
      unfold ivC
      rw [List.getElem?_map, List.getElem?_map]
      by_cases h3 : i < k
      · rw [List.getElem?_range h3]; simp [h2]
      · rw [List.getElem?_eq_none (by simp; omega)]; rfl
theorem ivC_list (l : List Int) : l.map (fun x => AV.v (.int .i64 x)) = ivC l.length fun k => l.getD k 0 := by
  apply List.ext_getElem?
  intro i
  unfold ivC
  rw [List.getElem?_map, List.getElem?_map]
  by_cases h : i < l.length
  · rw [List.getElem?_range h, List.getElem?_eq_getElem h]
    simp [List.getD_eq_getElem?_getD, List.getElem?_eq_getElem h]
  · rw [List.getElem?_eq_none (by omega), List.getElem?_eq_none (by simp; omega)]; rfl
def revF (l : List Int) (i k : Nat) : Int := if k < i ∨ l.length - i ≤ k then l.getD (l.length - 1 - k) 0 else l.getD k 0
theorem revF_step (l : List Int) {i : Nat} (h : 2 * i + 1 < l.length) (k : Nat) (hk : k < l.length) : (if k = l.length - 1 - i then revF l i i else if k = i then revF l i (l.length - 1 - i) else revF l i k) = revF l (i + 1) k := by
  unfold revF
  by_cases h1 : k = l.length - 1 - i
  · subst h1
    rw [if_pos rfl, if_neg (by omega), if_pos (by omega)]
    congr 1; omega
  · rw [if_neg h1]
    by_cases h2 : k = i
    · subst h2
      rw [if_pos rfl, if_neg (by omega), if_pos (by omega)]
    · rw [if_neg h2]
      by_cases h3 : k < i ∨ l.length - i ≤ k
      · rw [if_pos h3, if_pos (by omega)]
      · rw [if_neg h3, if_neg (by omega)]
theorem ivC_congr {k : Nat} {f g : Nat → Int} (h : ∀ i, i < k → f i = g i) : ivC k f = ivC k g := by
  unfold ivC
  apply List.map_congr_left
  intro i hi
  rw [h i (List.mem_range.mp hi)]
theorem revF_end (l : List Int) {i : Nat} (h : l.length ≤ 2 * i + 1) (hi : 2 * i ≤ l.length) : ivC l.length (revF l i) = l.reverse.map fun x => AV.v (.int .i64 x) := by
  rw [ivC_list, List.length_reverse]
  apply ivC_congr
  intro k hk
  unfold revF
  rw [List.getD_eq_getElem?_getD (l := l.reverse), List.getElem?_reverse hk, ← List.getD_eq_getElem?_getD]
  by_cases h1 : k < i ∨ l.length - i ≤ k
  · rw [if_pos h1]
  · rw [if_neg h1]
    congr 1; omega
set_option maxHeartbeats 2000000 in
theorem reverse102 (l : List Int) (H : AH) (n : Nat) (hl : 0 < l.length) (hb : l.length < 2 ^ 40) (ho : H.own n = some (.cells (l.map fun x => .v (.int .i64 x)))) :
    ACall Tryd.prog 102 [.sl 1 n 0 l.length] H (fun out H' => out = .ret (.tup []) ∧ H'.own n = some (.cells (l.reverse.map fun x => .v (.int .i64 x))) ∧ H'.next = H.next ∧ H'.tip = H.tip ∧ ∀ k, k ≠ n → H'.own k = H.own k) := by
  rw [ivC_list] at ho
  have hw : IntKind.i64.wrap ((l.length : Int) - 1) = ((l.length - 1 : Nat) : Int) := by rw [wrapI (by omega) (by omega)]; omega
  refine ACall.enter [] Cd.fn102 (by simp) ?_
  simp only [hw, Cd.cd102, Tk.t102, base0, base1, base2, base3, Option.isNone_none, Option.isNone_some, Nat.reduceBEq, true_or, or_true, false_or, or_false, Nat.reduceLT, Nat.reduceMod, Nat.reducePow, rmaps, nsucc, List.flatten_cons, List.flatten_nil, Nat.reduceEqDiff, Nat.reduceLeDiff, Nat.reduceAdd, Nat.reduceMul, Nat.reduceSub, ↓reduceIte, reduceCtorEq, decide_true, decide_false]
  refine LWP.loop [] (fun m f H' => ∃ i, m = l.length - i ∧ (2 * i ≤ l.length) ∧ f.t 0 = .sl 1 n 0 l.length ∧ f.t 2 = .v (.int .i64 (i : Nat)) ∧ f.t 3 = .v (.int .i64 ((l.length : Int) - 1 - (i : Int))) ∧ f.ds = [] ∧ (H'.own n = some (.cells (ivC l.length (revF l i))) ∧ H'.next = H.next ∧ H'.tip = H.tip ∧ ∀ k, k ≠ n → H'.own k = H.own k)) ?_ ?_ (m := l.length - (0))
  · exact ⟨0, rfl, (by omega), rfl, rfl, by simp [upd]; omega, rfl, ⟨by rw [ho]; congr 2; apply ivC_congr; intro k hk; unfold revF; rw [if_neg (by omega)], rfl, rfl, fun _ _ => rfl⟩⟩
  · rintro m f H' ⟨i, rfl, hi, f0, f2, f3, hds, hH⟩
    obtain ⟨hH, h1, h2, h3⟩ := hH
    by_cases hlt : 2 * i + 1 < l.length
    · have hj : ((l.length : Int) - 1 - (i : Int)) = ((l.length - 1 - i : Nat) : Int) := by omega
      have hil : i < l.length := by omega
      have hjl : l.length - 1 - i < l.length := by omega
      have hst := revF_step l hlt
      simp only [hj, show decide (((i : Nat) : Int) < ((l.length - 1 - i : Nat) : Int)) = true from decide_eq_true (by omega), inR hil, inR hjl, Int.toNat_natCast, Nat.mul_one, Nat.zero_add, hH, ivC_drop _ hil, ivC_drop _ hjl, ivC_len, show (i + 1 ≤ l.length) = True from by simp only [eq_iff_iff, iff_true]; omega, show (l.length - 1 - i + 1 ≤ l.length) = True from by simp only [eq_iff_iff, iff_true]; omega, ivC_set _ _ hil, ivC_set _ _ hjl, f0, f2, f3, hds, Cd.cd102, Tk.t102, base0, base1, base2, base3, Option.isNone_none, Option.isNone_some, Nat.reduceBEq, true_or, or_true, false_or, or_false, Nat.reduceLT, Nat.reduceMod, Nat.reducePow, rmaps, nsucc, List.flatten_cons, List.flatten_nil, Nat.reduceEqDiff, Nat.reduceLeDiff, Nat.reduceAdd, Nat.reduceMul, Nat.reduceSub, ↓reduceIte, reduceCtorEq, decide_true, decide_false]
      refine ⟨_, by omega, i + 1, rfl, by omega, by rw [wrapS (by omega)], ?_, ?_, h1, h2, fun k hk => ?_⟩
      · rw [wrapI (by omega) (by omega), show ((l.length - 1 - i : Nat) : Int) - 1 = (l.length : Int) - 1 - ((i + 1 : Nat) : Int) by omega]
      · congr 2
        apply ivC_congr
        intro k hk
        exact hst k hk
      · simp only [hk, if_false]; exact h3 k hk
    · simp only [show decide (((i : Nat) : Int) < ((l.length : Int) - 1 - (i : Int))) = false from decide_eq_false (by omega), f0, f2, f3, hds, Cd.cd102, Tk.t102, base0, base1, base2, base3, Option.isNone_none, Option.isNone_some, Nat.reduceBEq, true_or, or_true, false_or, or_false, Nat.reduceLT, Nat.reduceMod, Nat.reducePow, rmaps, nsucc, List.flatten_cons, List.flatten_nil, Nat.reduceEqDiff, Nat.reduceLeDiff, Nat.reduceAdd, Nat.reduceMul, Nat.reduceSub, ↓reduceIte, reduceCtorEq, decide_true, decide_false]
      trace_state
      exact ⟨by rw [hH, revF_end l (by omega) (by omega)], h1, h2, h3⟩
end Go.Proofs.YtchpcjmgifnmdaaDoor

/- Walks: all pairs are met. -/
namespace Go.Proofs.YtchpcjmgifnmdaaDoor
open Go Go.Proofs.YtchpcjmgifnmdaaDoor.Ab
set_option maxRecDepth 100000
set_option linter.unusedSimpArgs false
set_option pp.deepTerms true
set_option pp.maxSteps 100000

theorem CmpO.same {x y : Re} {H H' : AH} {r m : Nat} {aP aF aB : AV} {l : List Nd} {fr bys : List Int} (h : CmpO x y H r m aP aF aB l fr bys) (hn : H.next ≤ H'.next) (hr : H'.own r = H.own r) (hm : H'.own m = H.own m) (ht : ∀ t, t < H.next → H'.tip t = H.tip t) : CmpO x y H' r m aP aF aB l fr bys :=
  ⟨hr.trans h.o, hm.trans h.mp, h.g.tips hn ht, h.rm.1, Nat.lt_of_lt_of_le h.rm.2.1 hn, Nat.lt_of_lt_of_le h.rm.2.2 hn⟩
theorem CmpO.live {x y : Re} {H : AH} {r m : Nat} {aP aF aB : AV} {l : List Nd} {fr bys : List Int} (h : CmpO x y H r m aP aF aB l fr bys) (h0 : 0 < l.length) : ∃ tp tf tb, aP = .lst 2 (l.map enP) (.live tp) ∧ aF = .lst 1 (fr.map intR) (.live tf) ∧ aB = .lst 1 (bys.map intR) (.live tb) := by
  rcases h.g with ⟨rfl, _⟩ | ⟨tp, tf, tb, _, _, h5, h6, h7, _⟩
  · simp at h0
  · exact ⟨tp, tf, tb, h5, h6, h7⟩
theorem viewI {H : AH} {n : Nat} {l : List Int} (h : H.own n = some (.cells (l.map fun x => .v (.int .i64 x)))) : View H (.sl 1 n 0 l.length) (ints l) := by
  refine View.sl h (by simp) (by simp) (fun i hi => by rw [getD_ints l i hi]; rfl) fun i j hi hj => ?_
  have hj0 : j = 0 := by omega
  subst hj0
  rw [getD_ints l i hi]
  have : (l.map fun x => AV.v (.int .i64 x)).getD (0 + i * 1 + 0) .any = .v (.int .i64 (l.getD i 0)) := by
    rw [List.getD_eq_getElem?_getD, List.getElem?_map, show 0 + i * 1 + 0 = i by omega, List.getElem?_eq_getElem hi, List.getD_eq_getElem?_getD, List.getElem?_eq_getElem hi]; rfl
  rw [this]
  exact (FZ.v _).view
def ivL (l : List Int) : List AV := l.map fun x => .v (.int .i64 x)
def runV (o : Option (List Int)) : AV := match o with
  | some tr => .tup [ints tr, .v (.bool true)]
  | none => .tup [nilS, .v (.bool false)]
def RunP (x y : Re) (H : AH) (r m : Nat) (l0 : List Nd) (out : AOut) (H' : AH) : Prop :=
  ∃ o l, SrchR x y l0 0 (o, l) ∧ out = .ret (runV o) ∧ (∃ t aF aB, H'.own r = some (.cells [sysV x, sysV y, .lst 2 (l.map enP) (.live t), aF, aB, .map m])) ∧ H.next ≤ H'.next ∧ ∀ n, n < H.next → n ≠ r → n ≠ m → H'.own n = H.own n
set_option maxHeartbeats 8000000 in
theorem run60 (x y : Re) (hx : Ok x) (hy : Ok y) (hio : silc y = silc x) (H : AH) (r mq : Nat) (aP aF aB : AV) (l0 : List Nd) (fr0 by0 : List Int) (hC : CmpO x y H r mq aP aF aB l0 fr0 by0) (hG : GoodN x y l0) (hM : Came l0 fr0 by0) :
    ACall Tryd.prog 60 [.ptr r 0] H (RunP x y H r mq l0) := by
  have hsc := silc_le hx
  refine ACall.freeze H.next ?_
  refine ACall.enter [36, 62] Cd.fn60 (by simp) ?_
  simp only [Cd.cd60, Tk.t60, base0, base1, base2, base3, Option.isNone_none, Option.isNone_some, Nat.reduceBEq, true_or, or_true, false_or, or_false, Nat.reduceLT, Nat.reduceMod, Nat.reducePow, rmaps, nsucc, List.flatten_cons, List.flatten_nil, Nat.reduceEqDiff, Nat.reduceLeDiff, Nat.reduceAdd, Nat.reduceMul, Nat.reduceSub, ↓reduceIte, reduceCtorEq, decide_true, decide_false]
  refine LWP.loop [36, 62] (fun m f H' => ∃ i l fr bys aP aF aB, m = 1048577 - i ∧ (i ≤ l.length) ∧ (CmpO x y H' r mq aP aF aB l fr bys) ∧ (GoodN x y l) ∧ (Came l fr bys) ∧ (∀ res, SrchR x y l i res → SrchR x y l0 0 res) ∧ f.t 0 = .ptr r 0 ∧ f.t 4 = .v (.int .i64 (i : Nat)) ∧ f.ds = [] ∧ (H.next ≤ H'.next ∧ r < H.next ∧ mq < H.next ∧ ∀ n, n < H.next → n ≠ r → n ≠ mq → H'.own n = H.own n)) ?_ ?_ (m := 1048577 - (0))
  · exact ⟨0, l0, fr0, by0, aP, aF, aB, rfl, (by omega), (hC), (hG), (hM), (fun _ h => h), rfl, rfl, rfl, ⟨Nat.le_refl _, hC.rm.2.1, hC.rm.2.2, fun _ _ _ _ => rfl⟩⟩
  · rintro m f H' ⟨i, l, fr, bys, aP, aF, aB, rfl, hi, hC, hG, hM, hS, f0, f4, hds, hk⟩
    obtain ⟨hk1, hkr, hkm, hk2⟩ := hk
    have ho := hC.o
    have hlen := hG.len hx hy
    obtain ⟨tp, tf, tb, rfl, rfl, rfl⟩ := hC.live hM.h0
    by_cases hlt : i < l.length
    · have hp := hG.lt _ (getD_mem hlt)
      have hgp := getD_map enP l i hlt
      have hrn : (r = H'.next) = False := by simp; omega
      have hmn : (mq = H'.next) = False := by simp; omega
      generalize hpe : l.getD i default = p at hp hgp
      simp only [ho, List.length_map, ltT hlt, inR hlt, Int.toNat_natCast, hgp, enP, hrn, f0, f4, hds, Cd.cd60, Tk.t60, base0, base1, base2, base3, Option.isNone_none, Option.isNone_some, Nat.reduceBEq, true_or, or_true, false_or, or_false, Nat.reduceLT, Nat.reduceMod, Nat.reducePow, rmaps, nsucc, List.flatten_cons, List.flatten_nil, Nat.reduceEqDiff, Nat.reduceLeDiff, Nat.reduceAdd, Nat.reduceMul, Nat.reduceSub, ↓reduceIte, reduceCtorEq, decide_true, decide_false]
      have hC1 : CmpO x y { next := H'.next + 1, own := fun m => if m = H'.next then some (.cells [AV.v (.int .u64 (p.x : Nat)), AV.v (.int .u64 (p.y : Nat))]) else if m = H'.next then some (.cells [AV.v (.int .u64 0), AV.v (.int .u64 0)]) else H'.own m, tip := H'.tip } r mq (.lst 2 (l.map enP) (.live tp)) (.lst 1 (fr.map intR) (.live tf)) (.lst 1 (bys.map intR) (.live tb)) l fr bys :=
        hC.same (by show H'.next ≤ H'.next + 1; omega) (by simp only [hrn, if_false]) (by simp only [hmn, if_false]) fun _ _ => rfl
      refine ACall.thn (fails87 x y hx hy _ r mq _ _ _ l fr bys hC1 p.x p.y hp.1 hp.2) fun out H2 hq => ?_
      obtain ⟨rfl, rfl⟩ := hq
      refine ⟨_, rfl, ?_⟩
      cases hf : failsN x y p.x p.y with
      | some e =>
        simp only [failsV, f0, f4, hds, Cd.cd60, Tk.t60, base0, base1, base2, base3, Option.isNone_none, Option.isNone_some, Nat.reduceBEq, true_or, or_true, false_or, or_false, Nat.reduceLT, Nat.reduceMod, Nat.reducePow, rmaps, nsucc, List.flatten_cons, List.flatten_nil, Nat.reduceEqDiff, Nat.reduceLeDiff, Nat.reduceAdd, Nat.reduceMul, Nat.reduceSub, ↓reduceIte, reduceCtorEq, decide_true, decide_false]
        have hHn : H.next ≤ H'.next + 1 := by omega
        refine LWP.loop [36, 62] (fun m f H' => ∃ k ol nm, m = 2 * k ∧ (k < l.length) ∧ (k ≤ i) ∧ (p.tr ++ [(e : Int)] = (l.getD k default).tr ++ List.reverse (ol : List Int)) ∧ (0 < List.length (ol : List Int) ∧ List.length (ol : List Int) + k ≤ i + 1) ∧ (H.next ≤ nm) ∧ f.t 0 = .ptr r 0 ∧ f.t 8 = .sl 1 nm 0 (List.length (ol : List Int)) ∧ f.t 9 = .v (.int .i64 (k : Nat)) ∧ f.ds = [] ∧ (nm < H'.next ∧ H.next ≤ H'.next ∧ H'.own nm = some (.cells (ivL ol)) ∧ H'.own r = some (.cells [sysV x, sysV y, .lst 2 (l.map enP) (.live tp), .lst 1 (fr.map intR) (.live tf), .lst 1 (bys.map intR) (.live tb), .map mq]) ∧ ∀ n, n < H.next → n ≠ r → n ≠ mq → H'.own n = H.own n)) ?_ ?_ (m := 2 * (i))
        · exact ⟨i, [(e : Int)], H'.next + 1, rfl, (hlt), (Nat.le_refl _), (by rw [hpe]; rfl), (⟨by simp, by simp; omega⟩), (hHn), (by first | rfl | exact f0), (by first | rfl | exact f8), (by first | rfl | exact f9), rfl, ⟨by simp, by simp; omega, by simp [ivL], by simp [show ¬ r = H'.next by omega, show ¬ r = H'.next + 1 by omega]; exact ho, fun n h1 h2 h3 => by simp [show ¬ n = H'.next by omega, show ¬ n = H'.next + 1 by omega]; exact hk2 n h1 h2 h3⟩⟩
        · rintro m f H' ⟨k, ol, nm, rfl, hkl, hki, htr, hol, hnm, f0, f8, f9, hds, hk3⟩
          obtain ⟨hk3, hk4, hk5, hk6, hk7⟩ := hk3
          have hkf : k < fr.length := by rw [hM.f]; exact hkl
          have hkb : k < bys.length := by rw [hM.b]; exact hkl
          have hgf := getD_map intR fr k hkf
          have hgb := getD_map intR bys k hkb
          have hrnm : (r = nm) = False := by simp; omega
          have hrn1 : (r = H'.next) = False := by simp; omega
          by_cases hk0 : k = 0
          · subst hk0
            have hz := hM.z
            have hz1 : fr.getD 0 default = -1 := hz.1
            rw [hz.2, List.nil_append] at htr
            have hrev := reverse102 ol H' nm hol.1 (by omega) hk5
            simp only [hk6, List.length_map, inR hkf, Int.toNat_natCast, hgf, intR, hz1, f0, f8, f9, hds, Cd.cd60, Tk.t60, base0, base1, base2, base3, Option.isNone_none, Option.isNone_some, Nat.reduceBEq, true_or, or_true, false_or, or_false, Nat.reduceLT, Nat.reduceMod, Nat.reducePow, rmaps, nsucc, List.flatten_cons, List.flatten_nil, Nat.reduceEqDiff, Nat.reduceLeDiff, Nat.reduceAdd, Nat.reduceMul, Nat.reduceSub, ↓reduceIte, reduceCtorEq, decide_true, decide_false]
            refine ACall.thn hrev fun out H2 hq => ?_
            obtain ⟨rfl, h1, h2, h3, h4⟩ := hq
            refine ⟨_, rfl, ?_⟩
            simp only [f0, f8, f9, hds, Cd.cd60, Tk.t60, base0, base1, base2, base3, Option.isNone_none, Option.isNone_some, Nat.reduceBEq, true_or, or_true, false_or, or_false, Nat.reduceLT, Nat.reduceMod, Nat.reducePow, rmaps, nsucc, List.flatten_cons, List.flatten_nil, Nat.reduceEqDiff, Nat.reduceLeDiff, Nat.reduceAdd, Nat.reduceMul, Nat.reduceSub, ↓reduceIte, reduceCtorEq, decide_true, decide_false]
            have hv : View (H2.above H.next) (.sl 1 nm 0 ol.length) (ints ol.reverse) := by
              have := viewI (H := H2.above H.next) (n := nm) (l := ol.reverse) ((above_own hnm).trans h1)
              rwa [List.length_reverse] at this
            refine Frz.ret (v' := .tup [ints ol.reverse, .v (.bool true)]) (Views.tup (Views.cons hv (Views.cons (FZ.v _).view Views.nil))) (FZ.tup (FZs.two (FZ.ints _) (FZ.v _))) ?_
            have hfl := SrchR.fail (x := x) (y := y) hlt (e := e) (by rw [hpe]; exact hf)
            rw [hpe, htr] at hfl
            exact ⟨some ol.reverse, l, hS _ hfl, rfl, ⟨tp, _, _, (below_own hkr).trans ((h4 r (by simpa using hrnm)).trans hk6)⟩, by show H.next ≤ H2.next; omega, fun n h5 h6 h7 => (below_own h5).trans ((h4 n (by omega)).trans (hk7 n h5 h6 h7))⟩
          · obtain ⟨j, hj1, hj2, hj3⟩ := hM.s k (by omega) hkl
            have hj1' : fr.getD k default = (j : Int) := hj1
            have hr8 : roomA 8 (ol.length + 1) = true := room_of (by omega) (by omega)
            simp only [hk6, List.length_map, inR hkf, inR hkb, Int.toNat_natCast, hgf, hgb, intR, hj1', show (((j : Nat) : Int) != -1) = true from by simp, hk5, hr8, hrnm, hrn1, Nat.mul_one, show (ol.length ≤ (ivL ol).length) = True from by simp [ivL], show List.take ol.length (ivL ol) = ivL ol from by rw [show ol.length = (ivL ol).length from by simp [ivL], List.take_length], f0, f8, f9, hds, Cd.cd60, Tk.t60, base0, base1, base2, base3, Option.isNone_none, Option.isNone_some, Nat.reduceBEq, true_or, or_true, false_or, or_false, Nat.reduceLT, Nat.reduceMod, Nat.reducePow, rmaps, nsucc, List.flatten_cons, List.flatten_nil, Nat.reduceEqDiff, Nat.reduceLeDiff, Nat.reduceAdd, Nat.reduceMul, Nat.reduceSub, ↓reduceIte, reduceCtorEq, decide_true, decide_false]
            have hnn : (H'.next = nm) = False := by simp; omega
            refine ⟨_, by omega, j, ol ++ [bys.getD k 0], H'.next, rfl, by omega, by omega, ?_, ⟨by simp, by simp; omega⟩, hk4, by simp, rfl, by omega, by omega, ?_, fun n h1 h2 h3 => ?_⟩
            · rw [htr, hj3, List.reverse_append, List.append_assoc]; rfl
            · simp only [hnn, if_false, if_true, ivL, List.map_append]; rfl
            · simp only [show ¬ n = nm by omega, show ¬ n = H'.next by omega, if_false]
              exact hk7 n h1 h2 h3
      | none =>
        simp only [failsV, ho, hrn, f0, f4, hds, Cd.cd60, Tk.t60, base0, base1, base2, base3, Option.isNone_none, Option.isNone_some, Nat.reduceBEq, true_or, or_true, false_or, or_false, Nat.reduceLT, Nat.reduceMod, Nat.reducePow, rmaps, nsucc, List.flatten_cons, List.flatten_nil, Nat.reduceEqDiff, Nat.reduceLeDiff, Nat.reduceAdd, Nat.reduceMul, Nat.reduceSub, ↓reduceIte, reduceCtorEq, decide_true, decide_false]
        first | refine FCall.go (silence73 x hx) (FZs.one (FZ.sysV x)) ?_ | refine FCall.go' (silence73 x hx) (FZs.one (FZ.sysV x)) ?_ | refine FCall.goQ (silence73 x hx) (FZs.one (FZ.sysV x)) ?_
        have hw9 : IntKind.i64.wrap (((silc x : Nat) : Int) + 1) = ((silc x + 1 : Nat) : Int) := wrapS (by omega)
        simp only [hw9, f0, f4, hds, Cd.cd60, Tk.t60, base0, base1, base2, base3, Option.isNone_none, Option.isNone_some, Nat.reduceBEq, true_or, or_true, false_or, or_false, Nat.reduceLT, Nat.reduceMod, Nat.reducePow, rmaps, nsucc, List.flatten_cons, List.flatten_nil, Nat.reduceEqDiff, Nat.reduceLeDiff, Nat.reduceAdd, Nat.reduceMul, Nat.reduceSub, ↓reduceIte, reduceCtorEq, decide_true, decide_false]
        generalize hnx : H'.next = n5 at *
        refine LWP.loop [36, 62] (fun m f H' => ∃ e l2 fr2 by2 aP aF aB, m = silc x + 1 - e ∧ (e ≤ silc x + 1) ∧ (l2 = extN x y p l e) ∧ (CmpO x y H' r mq aP aF aB l2 fr2 by2) ∧ (GoodN x y l2) ∧ (Came l2 fr2 by2) ∧ f.t 0 = .ptr r 0 ∧ f.t 4 = .v (.int .i64 (i : Nat)) ∧ f.t 5 = .ptr n5 0 ∧ f.t 71 = .v (.int .i64 ((silc x + 1 : Nat) : Int)) ∧ f.t 72 = .v (.int .i64 (e : Nat)) ∧ f.ds = [] ∧ (n5 < H'.next ∧ H'.own n5 = some (.cells [AV.v (.int .u64 (p.x : Nat)), AV.v (.int .u64 (p.y : Nat))]) ∧ ∀ n, n < H.next → n ≠ r → n ≠ mq → H'.own n = H.own n)) ?_ ?_ (m := silc x + 1 - (0))
        · exact ⟨0, l, fr, bys, _, _, _, rfl, (by omega), (rfl), (hC1), (hG), (hM), (by first | rfl | exact f0), (by first | rfl | exact f4), (by first | rfl | exact f5), (by first | rfl | exact f71), (by first | rfl | exact f72), rfl, ⟨by simp, by simp, fun n h1 h2 h3 => by simp only [show ¬ n = n5 by omega, if_false]; exact hk2 n h1 h2 h3⟩⟩
        · rintro m f H' ⟨e, l2, fr2, by2, aP, aF, aB, rfl, he, hl2, hC2, hG2, hM2, f0, f4, f5, f71, f72, hds, hk3⟩
          obtain ⟨hk3, hk4, hk5⟩ := hk3
          have ho2 := hC2.o
          have hn5r : n5 ≠ r := by omega
          have hn5m : n5 ≠ mq := by omega
          by_cases hle : e < silc x + 1
          · simp only [ltT hle, ho2, hk4, f0, f4, f5, f71, f72, hds, Cd.cd60, Tk.t60, base0, base1, base2, base3, Option.isNone_none, Option.isNone_some, Nat.reduceBEq, true_or, or_true, false_or, or_false, Nat.reduceLT, Nat.reduceMod, Nat.reducePow, rmaps, nsucc, List.flatten_cons, List.flatten_nil, Nat.reduceEqDiff, Nat.reduceLeDiff, Nat.reduceAdd, Nat.reduceMul, Nat.reduceSub, ↓reduceIte, reduceCtorEq, decide_true, decide_false]
            first | refine FCall.go (after74 y hy p.y e hp.2) (FZs.three (FZ.sysV y) (FZ.v _) (FZ.v _)) ?_ | refine FCall.go' (after74 y hy p.y e hp.2) (FZs.three (FZ.sysV y) (FZ.v _) (FZ.v _)) ?_ | refine FCall.goQ (after74 y hy p.y e hp.2) (FZs.three (FZ.sysV y) (FZ.v _) (FZ.v _)) ?_
            have hex : extN x y p l (e + 1) = extE x y p l2 e := by rw [extN_succ, hl2]
            by_cases hz : aft y p.y e = 0
            · simp only [uv, neU0, show decide (aft y p.y e ≠ 0) = false from decide_eq_false (by simpa using hz), f0, f4, f5, f71, f72, hds, Cd.cd60, Tk.t60, base0, base1, base2, base3, Option.isNone_none, Option.isNone_some, Nat.reduceBEq, true_or, or_true, false_or, or_false, Nat.reduceLT, Nat.reduceMod, Nat.reducePow, rmaps, nsucc, List.flatten_cons, List.flatten_nil, Nat.reduceEqDiff, Nat.reduceLeDiff, Nat.reduceAdd, Nat.reduceMul, Nat.reduceSub, ↓reduceIte, reduceCtorEq, decide_true, decide_false]
              exact ⟨_, by omega, e + 1, l2, fr2, by2, aP, aF, aB, rfl, by omega, by rw [hex, extE, if_pos hz], hC2, hG2, hM2, by rw [wrapS (by omega)], hk3, hk4, hk5⟩
            · simp only [uv, neU0, decide_eq_true hz, ho2, hk4, f0, f4, f5, f71, f72, hds, Cd.cd60, Tk.t60, base0, base1, base2, base3, Option.isNone_none, Option.isNone_some, Nat.reduceBEq, true_or, or_true, false_or, or_false, Nat.reduceLT, Nat.reduceMod, Nat.reducePow, rmaps, nsucc, List.flatten_cons, List.flatten_nil, Nat.reduceEqDiff, Nat.reduceLeDiff, Nat.reduceAdd, Nat.reduceMul, Nat.reduceSub, ↓reduceIte, reduceCtorEq, decide_true, decide_false]
              first | refine FCall.go (after74 x hx p.x e hp.1) (FZs.three (FZ.sysV x) (FZ.v _) (FZ.v _)) ?_ | refine FCall.go' (after74 x hx p.x e hp.1) (FZs.three (FZ.sysV x) (FZ.v _) (FZ.v _)) ?_ | refine FCall.goQ (after74 x hx p.x e hp.1) (FZs.three (FZ.sysV x) (FZ.v _) (FZ.v _)) ?_
              simp only [uv, f0, f4, f5, f71, f72, hds, Cd.cd60, Tk.t60, base0, base1, base2, base3, Option.isNone_none, Option.isNone_some, Nat.reduceBEq, true_or, or_true, false_or, or_false, Nat.reduceLT, Nat.reduceMod, Nat.reducePow, rmaps, nsucc, List.flatten_cons, List.flatten_nil, Nat.reduceEqDiff, Nat.reduceLeDiff, Nat.reduceAdd, Nat.reduceMul, Nat.reduceSub, ↓reduceIte, reduceCtorEq, decide_true, decide_false]
              refine ACall.thn' (add101 x y hx hy H' r mq aP aF aB l2 fr2 by2 hC2 hG2 hM2.f hM2.b (aft x p.x e) (aft y p.y e) (hx.pw (aft_lt hx hp.1 e)) (hy.pw (aft_lt hy hp.2 e)) (i : Int) (e : Int) (p.tr ++ [(e : Int)])) fun out H2 hq => ?_
              obtain ⟨rfl, ⟨aP2, aF2, aB2, hif⟩, h3, h4⟩ := hq
              refine ⟨_, rfl, ?_⟩
              have hG3 := hG2.extE hx hy hp.1 hp.2 e
              have hkk : n5 < H2.next ∧ H2.own n5 = some (.cells [AV.v (.int .u64 (p.x : Nat)), AV.v (.int .u64 (p.y : Nat))]) ∧ ∀ n, n < H.next → n ≠ r → n ≠ mq → H2.own n = H.own n := ⟨by omega, by rw [h4 n5 hk3 hn5r hn5m]; exact hk4, fun n h5 h6 h7 => by rw [h4 n (by omega) h6 h7]; exact hk5 n h5 h6 h7⟩
              obtain ⟨q, hq⟩ := extN_pre x y p l e
              have hil : i < l2.length := by rw [hl2, hq, List.length_append]; omega
              have hpi : l2.getD i default = p := by rw [hl2, hq, getD_append_left _ _ _ hlt, hpe]
              cases hmet : metN l2 (aft x p.x e) (aft y p.y e)
              · rw [hmet] at hif
                have hE : extE x y p l2 e = l2 ++ [⟨aft x p.x e, aft y p.y e, p.tr ++ [(e : Int)]⟩] := by
                  rw [extE, if_neg hz, addN, hmet]; rfl
                simp only [f0, f4, f5, f71, f72, hds, Cd.cd60, Tk.t60, base0, base1, base2, base3, Option.isNone_none, Option.isNone_some, Nat.reduceBEq, true_or, or_true, false_or, or_false, Nat.reduceLT, Nat.reduceMod, Nat.reducePow, rmaps, nsucc, List.flatten_cons, List.flatten_nil, Nat.reduceEqDiff, Nat.reduceLeDiff, Nat.reduceAdd, Nat.reduceMul, Nat.reduceSub, ↓reduceIte, reduceCtorEq, decide_true, decide_false]
                refine ⟨_, by omega, e + 1, extE x y p l2 e, _, _, aP2, aF2, aB2, rfl, by omega, hex.symm, by rw [hE]; exact hif, hG3, ?_, by rw [wrapS (by omega)], hkk⟩
                have := hM2.push hil (aft x p.x e) (aft y p.y e) (e : Int)
                rw [hpi] at this
                rw [hE]; exact this
              · rw [hmet] at hif
                have hE : extE x y p l2 e = l2 := by rw [extE, if_neg hz, addN, hmet]; rfl
                simp only [f0, f4, f5, f71, f72, hds, Cd.cd60, Tk.t60, base0, base1, base2, base3, Option.isNone_none, Option.isNone_some, Nat.reduceBEq, true_or, or_true, false_or, or_false, Nat.reduceLT, Nat.reduceMod, Nat.reducePow, rmaps, nsucc, List.flatten_cons, List.flatten_nil, Nat.reduceEqDiff, Nat.reduceLeDiff, Nat.reduceAdd, Nat.reduceMul, Nat.reduceSub, ↓reduceIte, reduceCtorEq, decide_true, decide_false]
                exact ⟨_, by omega, e + 1, l2, fr2, by2, aP2, aF2, aB2, rfl, by omega, by rw [hex, hE], hif, hG2, hM2, by rw [wrapS (by omega)], hkk⟩
          · have he' : e = silc x + 1 := by omega
            subst he'
            have hsn : ∀ res, SrchR x y l2 (i + 1) res → SrchR x y l0 0 res := fun res h => hS res (SrchR.next hlt (by rw [hpe]; exact hf) (by rw [hpe, ← hl2]; exact h))
            obtain ⟨q, hq⟩ := extN_pre x y p l (silc x + 1)
            have hil : i + 1 ≤ l2.length := by rw [hl2, hq, List.length_append]; omega
            have hlen2 := hG2.len hx hy
            simp only [ltF hle, f0, f4, f5, f71, f72, hds, Cd.cd60, Tk.t60, base0, base1, base2, base3, Option.isNone_none, Option.isNone_some, Nat.reduceBEq, true_or, or_true, false_or, or_false, Nat.reduceLT, Nat.reduceMod, Nat.reducePow, rmaps, nsucc, List.flatten_cons, List.flatten_nil, Nat.reduceEqDiff, Nat.reduceLeDiff, Nat.reduceAdd, Nat.reduceMul, Nat.reduceSub, ↓reduceIte, reduceCtorEq, decide_true, decide_false]
            exact ⟨_, by omega, i + 1, l2, fr2, by2, aP, aF, aB, rfl, hil, hC2, hG2, hM2, hsn, by rw [wrapS (by omega)], by omega, hkr, hkm, hk5⟩
    · simp only [ho, List.length_map, ltF hlt, f0, f4, hds, Cd.cd60, Tk.t60, base0, base1, base2, base3, Option.isNone_none, Option.isNone_some, Nat.reduceBEq, true_or, or_true, false_or, or_false, Nat.reduceLT, Nat.reduceMod, Nat.reducePow, rmaps, nsucc, List.flatten_cons, List.flatten_nil, Nat.reduceEqDiff, Nat.reduceLeDiff, Nat.reduceAdd, Nat.reduceMul, Nat.reduceSub, ↓reduceIte, reduceCtorEq, decide_true, decide_false]
      refine Frz.ret (v' := .tup [nilS, .v (.bool false)]) (Views.tup (Views.cons nil_view (Views.cons (FZ.v _).view Views.nil))) (FZ.tup (FZs.two FZ.nilS (FZ.v _))) ?_
      exact ⟨none, l, hS _ (SrchR.done hlt), rfl, ⟨tp, _, _, (below_own hkr).trans ho⟩, hk1, fun n h1 h2 h3 => (below_own h1).trans (hk2 n h1 h2 h3)⟩
end Go.Proofs.YtchpcjmgifnmdaaDoor

/- Walks: Conforms; the laws' examples. -/
namespace Go.Proofs.YtchpcjmgifnmdaaDoor
open Go Go.Proofs.YtchpcjmgifnmdaaDoor.Ab
set_option maxRecDepth 100000
set_option linter.unusedSimpArgs false

open Classical in
/-- the answer of a search -/
noncomputable def resN (x y : Re) : Option (List Int) × List Nd := if h : ∃ r, SrchR x y [nd0 x y] 0 r then Classical.choose h else (none, [])
theorem resN_eq {x y : Re} {r : Option (List Int) × List Nd} (h : SrchR x y [nd0 x y] 0 r) : resN x y = r := by
  unfold resN
  rw [dif_pos ⟨r, h⟩]
  exact (Classical.choose_spec (⟨r, h⟩ : ∃ r, SrchR x y [nd0 x y] 0 r)).det h
theorem bothR_ok {x y : Re} (h : bothR x y = 0) : Ok x ∧ Ok y ∧ x.inp = y.inp ∧ x.out = y.out ∧ silc y = silc x := by
  unfold bothR orI at h
  by_cases h1 : errR x = 0
  · by_cases h2 : errR y = 0
    · simp only [h1, h2, ne_eq, not_true, if_false] at h
      by_cases h3 : x.inp = y.inp
      · by_cases h4 : x.out = y.out
        · exact ⟨ok_of_check h1, ok_of_check h2, h3, h4, by unfold silc; rw [h3, h4]⟩
        · simp [h4] at h
      · simp [h3] at h
    · simp only [h1, ne_eq, not_true, if_false] at h
      rw [if_pos h2] at h; exact absurd h h2
  · rw [if_pos h1] at h; exact absurd h h1
theorem came0 (p : Nd) (h : p.tr = []) : Came [p] [-1] [-1] := ⟨rfl, rfl, by simp, ⟨rfl, h⟩, fun k h1 h2 => by simp at h2; omega⟩
def ansV (o : Option (List Int)) : AV := match o with
  | some tr => .tup [ints tr, .v (.int .i64 29)]
  | none => .tup [nilS, .v (.int .i64 0)]
noncomputable def confV (x y : Re) : AV := if bothR x y ≠ 0 then .tup [nilS, .v (.int .i64 (bothR x y))] else ansV (resN x y).1
theorem conforms17 (x y : Re) : FCall Tryd.prog 17 [reV x, reV y] (· = confV x y) := by
  simp only [reV, reL, mvsV]
  refine ACall.enter [] Cd.fn17 (by simp) ?_
  simp only [Cd.cd17, Tk.t17, base0, base1, base2, base3, Option.isNone_none, Option.isNone_some, Nat.reduceBEq, true_or, or_true, false_or, or_false, Nat.reduceLT, Nat.reduceMod, Nat.reducePow, rmaps, nsucc, List.flatten_cons, List.flatten_nil, Nat.reduceEqDiff, Nat.reduceLeDiff, Nat.reduceAdd, Nat.reduceMul, Nat.reduceSub, ↓reduceIte, reduceCtorEq, decide_true, decide_false]
  first | refine FCall.go (both58 x y) (FZs.two (FZ.reV x) (FZ.reV y)) ?_ | refine FCall.go' (both58 x y) (FZs.two (FZ.reV x) (FZ.reV y)) ?_ | refine FCall.goQ (both58 x y) (FZs.two (FZ.reV x) (FZ.reV y)) ?_
  by_cases h0 : bothR x y = 0
  · obtain ⟨hx, hy, h1, h2, h3⟩ := bothR_ok h0
    simp only [show (bothR x y != 0) = false from by rw [h0]; rfl, Cd.cd17, Tk.t17, base0, base1, base2, base3, Option.isNone_none, Option.isNone_some, Nat.reduceBEq, true_or, or_true, false_or, or_false, Nat.reduceLT, Nat.reduceMod, Nat.reducePow, rmaps, nsucc, List.flatten_cons, List.flatten_nil, Nat.reduceEqDiff, Nat.reduceLeDiff, Nat.reduceAdd, Nat.reduceMul, Nat.reduceSub, ↓reduceIte, reduceCtorEq, decide_true, decide_false]
    refine ACall.thn (compare59 x y hx hy _) fun out H2 hq => ?_
    obtain ⟨r, m, aP, aF, aB, rfl, hC, _, _, _, _⟩ := hq
    refine ⟨_, rfl, ?_⟩
    simp only [Cd.cd17, Tk.t17, base0, base1, base2, base3, Option.isNone_none, Option.isNone_some, Nat.reduceBEq, true_or, or_true, false_or, or_false, Nat.reduceLT, Nat.reduceMod, Nat.reducePow, rmaps, nsucc, List.flatten_cons, List.flatten_nil, Nat.reduceEqDiff, Nat.reduceLeDiff, Nat.reduceAdd, Nat.reduceMul, Nat.reduceSub, ↓reduceIte, reduceCtorEq, decide_true, decide_false]
    refine ACall.thn (run60 x y hx hy h3 H2 r m aP aF aB [nd0 x y] [-1] [-1] hC (good0 hx hy) (came0 _ rfl)) fun out H3 hq => ?_
    obtain ⟨o, l, hS, rfl, _⟩ := hq
    refine ⟨_, rfl, ?_⟩
    have hres := resN_eq hS
    have hcv : confV x y = ansV o := by unfold confV; rw [if_neg (by simpa using h0), hres]
    cases o with
    | none =>
      simp only [runV, Cd.cd17, Tk.t17, base0, base1, base2, base3, Option.isNone_none, Option.isNone_some, Nat.reduceBEq, true_or, or_true, false_or, or_false, Nat.reduceLT, Nat.reduceMod, Nat.reducePow, rmaps, nsucc, List.flatten_cons, List.flatten_nil, Nat.reduceEqDiff, Nat.reduceLeDiff, Nat.reduceAdd, Nat.reduceMul, Nat.reduceSub, ↓reduceIte, reduceCtorEq, decide_true, decide_false]
      first | refine FCall.go (unless61 _ _) (FZs.v2 _ _) ?_ | refine FCall.go' (unless61 _ _) (FZs.v2 _ _) ?_ | refine FCall.goQ (unless61 _ _) (FZs.v2 _ _) ?_
      simp only [Cd.cd17, Tk.t17, base0, base1, base2, base3, Option.isNone_none, Option.isNone_some, Nat.reduceBEq, true_or, or_true, false_or, or_false, Nat.reduceLT, Nat.reduceMod, Nat.reducePow, rmaps, nsucc, List.flatten_cons, List.flatten_nil, Nat.reduceEqDiff, Nat.reduceLeDiff, Nat.reduceAdd, Nat.reduceMul, Nat.reduceSub, ↓reduceIte, reduceCtorEq, decide_true, decide_false]
      refine ⟨_, _, rfl, Views.tup (Views.cons nil_view (Views.cons (FZ.v _).view Views.nil)), FZ.tup (FZs.two FZ.nilS (FZ.v _)), ?_⟩
      rw [hcv]; rfl
    | some tr =>
      simp only [runV, Cd.cd17, Tk.t17, base0, base1, base2, base3, Option.isNone_none, Option.isNone_some, Nat.reduceBEq, true_or, or_true, false_or, or_false, Nat.reduceLT, Nat.reduceMod, Nat.reducePow, rmaps, nsucc, List.flatten_cons, List.flatten_nil, Nat.reduceEqDiff, Nat.reduceLeDiff, Nat.reduceAdd, Nat.reduceMul, Nat.reduceSub, ↓reduceIte, reduceCtorEq, decide_true, decide_false]
      first | refine FCall.go (unless61 _ _) (FZs.v2 _ _) ?_ | refine FCall.go' (unless61 _ _) (FZs.v2 _ _) ?_ | refine FCall.goQ (unless61 _ _) (FZs.v2 _ _) ?_
      simp only [Cd.cd17, Tk.t17, base0, base1, base2, base3, Option.isNone_none, Option.isNone_some, Nat.reduceBEq, true_or, or_true, false_or, or_false, Nat.reduceLT, Nat.reduceMod, Nat.reducePow, rmaps, nsucc, List.flatten_cons, List.flatten_nil, Nat.reduceEqDiff, Nat.reduceLeDiff, Nat.reduceAdd, Nat.reduceMul, Nat.reduceSub, ↓reduceIte, reduceCtorEq, decide_true, decide_false]
      refine ⟨_, _, rfl, Views.tup (Views.cons (FZ.ints tr).view (Views.cons (FZ.v _).view Views.nil)), FZ.tup (FZs.two (FZ.ints tr) (FZ.v _)), ?_⟩
      rw [hcv]; rfl
  · simp only [bneT h0, Cd.cd17, Tk.t17, base0, base1, base2, base3, Option.isNone_none, Option.isNone_some, Nat.reduceBEq, true_or, or_true, false_or, or_false, Nat.reduceLT, Nat.reduceMod, Nat.reducePow, rmaps, nsucc, List.flatten_cons, List.flatten_nil, Nat.reduceEqDiff, Nat.reduceLeDiff, Nat.reduceAdd, Nat.reduceMul, Nat.reduceSub, ↓reduceIte, reduceCtorEq, decide_true, decide_false]
    refine ⟨_, _, rfl, Views.tup (Views.cons nil_view (Views.cons (FZ.v _).view Views.nil)), FZ.tup (FZs.two FZ.nilS (FZ.v _)), ?_⟩
    unfold confV; rw [if_pos h0]
def exR : Re := ⟨3, 0, 1, 2, [⟨0, 0, 0, 1⟩, ⟨1, 1, 0, 2⟩, ⟨2, 0, 0, 2⟩]⟩
def otR : Re := ⟨3, 0, 1, 2, [⟨0, 0, 0, 1⟩, ⟨1, 1, 1, 2⟩, ⟨2, 0, 0, 2⟩]⟩
def exC (b : Int) : List AV := [.v (.int .i64 0), .v (.int .i64 0), .v (.int .i64 0), .v (.int .i64 1), .v (.int .i64 1), .v (.int .i64 1), .v (.int .i64 b), .v (.int .i64 2), .v (.int .i64 2), .v (.int .i64 0), .v (.int .i64 0), .v (.int .i64 2)]
theorem exA57 (H : AH) : ACall Tryd.prog 57 [] H (fun out H' => ∃ n, out = .ret (.agg [.v (.int .i64 3), .v (.int .i64 0), .v (.int .i64 1), .v (.int .i64 2), .sl 4 n 0 3]) ∧ H'.own n = some (.cells (exC 0)) ∧ n < H'.next ∧ H.next ≤ n ∧ ∀ k, k < H.next → H'.own k = H.own k) := by
  refine ACall.enter [4] Cd.fn57 (by simp) ?_
  simp only [Cd.cd57, Tk.t57, base0, base1, base2, base3, Option.isNone_none, Option.isNone_some, Nat.reduceBEq, true_or, or_true, false_or, or_false, Nat.reduceLT, Nat.reduceMod, Nat.reducePow, rmaps, nsucc, List.flatten_cons, List.flatten_nil, Nat.reduceEqDiff, Nat.reduceLeDiff, Nat.reduceAdd, Nat.reduceMul, Nat.reduceSub, ↓reduceIte, reduceCtorEq, decide_true, decide_false]
  exact ⟨H.next + 1, rfl, by simp [exC], by omega, by omega, fun k hk => by simp [show ¬ k = H.next by omega, show ¬ k = H.next + 1 by omega]⟩
theorem exV {H : AH} {n : Nat} {b : Int} (h : H.own n = some (.cells (exC b))) : View H (.agg [.v (.int .i64 3), .v (.int .i64 0), .v (.int .i64 1), .v (.int .i64 2), .sl 4 n 0 3]) (reV ⟨3, 0, 1, 2, [⟨0, 0, 0, 1⟩, ⟨1, 1, b, 2⟩, ⟨2, 0, 0, 2⟩]⟩) := by
  refine Views.agg (Views.cons (FZ.v _).view (Views.cons (FZ.v _).view (Views.cons (FZ.v _).view (Views.cons (FZ.v _).view (Views.cons ?_ Views.nil)))))
  refine View.sl h (by simp [exC]) rfl (fun i hi => ?_) fun i j hi hj => ?_
  · match i, hi with
    | 0, _ => rfl
    | 1, _ => rfl
    | 2, _ => rfl
  · match i, j, hi, hj with
    | 0, 0, _, _ => exact (FZ.v _).view
    | 0, 1, _, _ => exact (FZ.v _).view
    | 0, 2, _, _ => exact (FZ.v _).view
    | 0, 3, _, _ => exact (FZ.v _).view
    | 1, 0, _, _ => exact (FZ.v _).view
    | 1, 1, _, _ => exact (FZ.v _).view
    | 1, 2, _, _ => exact (FZ.v _).view
    | 1, 3, _, _ => exact (FZ.v _).view
    | 2, 0, _, _ => exact (FZ.v _).view
    | 2, 1, _, _ => exact (FZ.v _).view
    | 2, 2, _, _ => exact (FZ.v _).view
    | 2, 3, _, _ => exact (FZ.v _).view
theorem example57 : FCall Tryd.prog 57 [] (· = reV exR) := by
  refine (exA57 AH.none).mono fun out H' hq => ?_
  obtain ⟨n, rfl, h1, _, _, _⟩ := hq
  exact ⟨_, _, rfl, exV h1, FZ.reV exR, rfl⟩
theorem other56 : FCall Tryd.prog 56 [] (· = reV otR) := by
  refine ACall.enter [] Cd.fn56 (by simp) ?_
  simp only [Cd.cd56, Tk.t56, base0, base1, base2, base3, Option.isNone_none, Option.isNone_some, Nat.reduceBEq, true_or, or_true, false_or, or_false, Nat.reduceLT, Nat.reduceMod, Nat.reducePow, rmaps, nsucc, List.flatten_cons, List.flatten_nil, Nat.reduceEqDiff, Nat.reduceLeDiff, Nat.reduceAdd, Nat.reduceMul, Nat.reduceSub, ↓reduceIte, reduceCtorEq, decide_true, decide_false]
  refine ACall.thn (exA57 _) fun out H2 hq => ?_
  obtain ⟨n, rfl, h1, h2, h3, h4⟩ := hq
  refine ⟨_, rfl, ?_⟩
  have h30 : 1 ≤ n := h3
  have h40 := h4 0 (by show 0 < 0 + 1; omega)
  simp only [AH.none, if_true] at h40
  have hn : (n = H2.next) = False := by simp; omega
  have hn1 : (H2.next = n) = False := by simp; omega
  have hn2 : (0 = H2.next) = False := by simp; omega
  have hn3 : (0 = n) = False := by simp; omega
  have hn4 : (n = 0) = False := by simp; omega
  have hn5 : (H2.next = 0) = False := by simp; omega
  unfold exC at h1
  simp only [hn, hn1, hn2, hn3, hn4, hn5, h1, h40, AH.none, show ((0 : Int) ≤ 1 ∧ (1 : Int) < ((3 : Nat) : Int)) = True from by simp, show Int.toNat 1 = 1 from rfl, Cd.cd56, Tk.t56, base0, base1, base2, base3, Option.isNone_none, Option.isNone_some, Nat.reduceBEq, true_or, or_true, false_or, or_false, Nat.reduceLT, Nat.reduceMod, Nat.reducePow, rmaps, nsucc, List.flatten_cons, List.flatten_nil, Nat.reduceEqDiff, Nat.reduceLeDiff, Nat.reduceAdd, Nat.reduceMul, Nat.reduceSub, ↓reduceIte, reduceCtorEq, decide_true, decide_false]
  exact ⟨_, _, rfl, exV (b := 1) (by simp [exC, hn4]), FZ.reV otR, rfl⟩
theorem conf_ex : confV otR exR = .tup [ints [0, 2], .v (.int .i64 29)] := by
  have h0 : bothR otR exR = 0 := by decide +kernel
  have h1 : (srch otR exR 10 [nd0 otR exR] 0).map (·.1) = some (some [0, 2]) := by decide +kernel
  rw [Option.map_eq_some_iff] at h1
  obtain ⟨⟨o, l⟩, h2, rfl⟩ := h1
  have h3 := resN_eq (⟨10, h2⟩ : SrchR otR exR [nd0 otR exR] 0 _)
  unfold confV
  rw [if_neg (by simp [h0]), h3]; rfl
theorem after_ex : afterR exR [0, 1] = .tup [ints [2], .v (.int .i64 0)] := by
  have h1 : errR exR = 0 := by decide +kernel
  have h2 : trErr exR [0, 1] = 0 := by decide +kernel
  have h3 : bitsI (alongM exR [0, 1]) = [2] := by decide +kernel
  unfold afterR
  rw [if_neg (by simp [h1]), if_neg (by simp [h2]), setV, h3]
theorem awake15 : FCall Tryd.prog 15 [] (· = .v (.bool true)) := by
  have hc := conforms17 otR exR
  rw [conf_ex] at hc
  have ha := afterTrace29 exR [0, 1]
  rw [after_ex] at ha
  have ha2 : FCall Tryd.prog 29 [reV exR, .lst 1 [[.v (.int .i64 0)], [.v (.int .i64 1)]] .full] (· = .tup [ints [2], .v (.int .i64 0)]) := ACall.args ha vrs_unk2
  have hs1 : FCall Tryd.prog 22 [ints [0, 2], .lst 1 [[.v (.int .i64 0)], [.v (.int .i64 2)]] .full] (· = .v (.bool true)) := ACall.args (same22 [0, 2] [0, 2] (by simp)) vrs_unk2
  have hs2 : FCall Tryd.prog 22 [ints [2], .lst 1 [[.v (.int .i64 2)]] .full] (· = .v (.bool true)) := ACall.args (same22 [2] [2] (by simp)) vrs_unk2
  have hz1 : FZ (.lst 1 [[.v (.int .i64 0)], [.v (.int .i64 1)]] .full) := FZ.intL (l := [0, 1]) (tip := .full) rfl
  have hz2 : FZ (.lst 1 [[.v (.int .i64 0)], [.v (.int .i64 2)]] .full) := FZ.intL (l := [0, 2]) (tip := .full) rfl
  have hz3 : FZ (.lst 1 [[.v (.int .i64 2)]] .full) := FZ.intL (l := [2]) (tip := .full) rfl
  refine ACall.enter [] Cd.fn15 (by simp) ?_
  simp only [Cd.cd15, Tk.t15, base0, base1, base2, base3, Option.isNone_none, Option.isNone_some, Nat.reduceBEq, true_or, or_true, false_or, or_false, Nat.reduceLT, Nat.reduceMod, Nat.reducePow, rmaps, nsucc, List.flatten_cons, List.flatten_nil, Nat.reduceEqDiff, Nat.reduceLeDiff, Nat.reduceAdd, Nat.reduceMul, Nat.reduceSub, ↓reduceIte, reduceCtorEq, decide_true, decide_false]
  first | refine FCall.go other56 (FZs.nil) ?_ | refine FCall.go' other56 (FZs.nil) ?_ | refine FCall.goQ other56 (FZs.nil) ?_
  simp only [Cd.cd15, Tk.t15, base0, base1, base2, base3, Option.isNone_none, Option.isNone_some, Nat.reduceBEq, true_or, or_true, false_or, or_false, Nat.reduceLT, Nat.reduceMod, Nat.reducePow, rmaps, nsucc, List.flatten_cons, List.flatten_nil, Nat.reduceEqDiff, Nat.reduceLeDiff, Nat.reduceAdd, Nat.reduceMul, Nat.reduceSub, ↓reduceIte, reduceCtorEq, decide_true, decide_false]
  first | refine FCall.go example57 (FZs.nil) ?_ | refine FCall.go' example57 (FZs.nil) ?_ | refine FCall.goQ example57 (FZs.nil) ?_
  simp only [Cd.cd15, Tk.t15, base0, base1, base2, base3, Option.isNone_none, Option.isNone_some, Nat.reduceBEq, true_or, or_true, false_or, or_false, Nat.reduceLT, Nat.reduceMod, Nat.reducePow, rmaps, nsucc, List.flatten_cons, List.flatten_nil, Nat.reduceEqDiff, Nat.reduceLeDiff, Nat.reduceAdd, Nat.reduceMul, Nat.reduceSub, ↓reduceIte, reduceCtorEq, decide_true, decide_false]
  first | refine FCall.go hc (FZs.two (FZ.reV _) (FZ.reV _)) ?_ | refine FCall.go' hc (FZs.two (FZ.reV _) (FZ.reV _)) ?_ | refine FCall.goQ hc (FZs.two (FZ.reV _) (FZ.reV _)) ?_
  simp only [Cd.cd15, Tk.t15, base0, base1, base2, base3, Option.isNone_none, Option.isNone_some, Nat.reduceBEq, true_or, or_true, false_or, or_false, Nat.reduceLT, Nat.reduceMod, Nat.reducePow, rmaps, nsucc, List.flatten_cons, List.flatten_nil, Nat.reduceEqDiff, Nat.reduceLeDiff, Nat.reduceAdd, Nat.reduceMul, Nat.reduceSub, ↓reduceIte, reduceCtorEq, decide_true, decide_false]
  first | refine FCall.go example57 (FZs.nil) ?_ | refine FCall.go' example57 (FZs.nil) ?_ | refine FCall.goQ example57 (FZs.nil) ?_
  simp only [Cd.cd15, Tk.t15, base0, base1, base2, base3, Option.isNone_none, Option.isNone_some, Nat.reduceBEq, true_or, or_true, false_or, or_false, Nat.reduceLT, Nat.reduceMod, Nat.reducePow, rmaps, nsucc, List.flatten_cons, List.flatten_nil, Nat.reduceEqDiff, Nat.reduceLeDiff, Nat.reduceAdd, Nat.reduceMul, Nat.reduceSub, ↓reduceIte, reduceCtorEq, decide_true, decide_false]
  first | refine FCall.go ha2 (FZs.two (FZ.reV _) hz1) ?_ | refine FCall.go' ha2 (FZs.two (FZ.reV _) hz1) ?_ | refine FCall.goQ ha2 (FZs.two (FZ.reV _) hz1) ?_
  simp only [show ((29 : Int) == 29) = true from rfl, Cd.cd15, Tk.t15, base0, base1, base2, base3, Option.isNone_none, Option.isNone_some, Nat.reduceBEq, true_or, or_true, false_or, or_false, Nat.reduceLT, Nat.reduceMod, Nat.reducePow, rmaps, nsucc, List.flatten_cons, List.flatten_nil, Nat.reduceEqDiff, Nat.reduceLeDiff, Nat.reduceAdd, Nat.reduceMul, Nat.reduceSub, ↓reduceIte, reduceCtorEq, decide_true, decide_false]
  first | refine FCall.go hs1 (FZs.two (FZ.ints _) hz2) ?_ | refine FCall.go' hs1 (FZs.two (FZ.ints _) hz2) ?_ | refine FCall.goQ hs1 (FZs.two (FZ.ints _) hz2) ?_
  simp only [show ((0 : Int) == 0) = true from rfl, Cd.cd15, Tk.t15, base0, base1, base2, base3, Option.isNone_none, Option.isNone_some, Nat.reduceBEq, true_or, or_true, false_or, or_false, Nat.reduceLT, Nat.reduceMod, Nat.reducePow, rmaps, nsucc, List.flatten_cons, List.flatten_nil, Nat.reduceEqDiff, Nat.reduceLeDiff, Nat.reduceAdd, Nat.reduceMul, Nat.reduceSub, ↓reduceIte, reduceCtorEq, decide_true, decide_false]
  first | refine FCall.go hs2 (FZs.two (FZ.ints _) hz3) ?_ | refine FCall.go' hs2 (FZs.two (FZ.ints _) hz3) ?_ | refine FCall.goQ hs2 (FZs.two (FZ.ints _) hz3) ?_
  simp only [Cd.cd15, Tk.t15, base0, base1, base2, base3, Option.isNone_none, Option.isNone_some, Nat.reduceBEq, true_or, or_true, false_or, or_false, Nat.reduceLT, Nat.reduceMod, Nat.reducePow, rmaps, nsucc, List.flatten_cons, List.flatten_nil, Nat.reduceEqDiff, Nat.reduceLeDiff, Nat.reduceAdd, Nat.reduceMul, Nat.reduceSub, ↓reduceIte, reduceCtorEq, decide_true, decide_false]
  exact fin_v rfl
end Go.Proofs.YtchpcjmgifnmdaaDoor

/- Walks: sets of states are checked; what they can show. -/
namespace Go.Proofs.YtchpcjmgifnmdaaDoor
open Go Go.Proofs.YtchpcjmgifnmdaaDoor.Ab
set_option maxRecDepth 100000
set_option linter.unusedSimpArgs false

def seE (x : Re) (set : List Int) (i : Nat) : Int :=
  if !within (set.getD i 0) 0 (IntKind.i64.wrap (x.st - 1)) then 3 else if decide (0 < i) && decide (set.getD i 0 ≤ set.getD (i - 1) 0) then 14 else 0
def setE (x : Re) (set : List Int) : Int := match firstIx set.length (fun i => seE x set i != 0) with
  | some i => seE x set i
  | none => 0
end Go.Proofs.YtchpcjmgifnmdaaDoor

/- Walks: ShownBy; the law of what is after a trace, and what is shown. -/
namespace Go.Proofs.YtchpcjmgifnmdaaDoor
open Go Go.Proofs.YtchpcjmgifnmdaaDoor.Ab
set_option maxRecDepth 100000
set_option linter.unusedSimpArgs false

def shownR (x : Re) (set : List Int) : AV := if errR x ≠ 0 then .tup [nilS, .v (.int .i64 (errR x))] else if setE x set ≠ 0 then .tup [nilS, .v (.int .i64 (setE x set))] else .tup [ints (shownL x (cl x (maskL set))), .v (.int .i64 0)]
end Go.Proofs.YtchpcjmgifnmdaaDoor

/- Which states are reached; which input a reached state does not take: plainly. -/
namespace Go.Proofs.YtchpcjmgifnmdaaDoor
open Go Go.Proofs.YtchpcjmgifnmdaaDoor.Ab
set_option linter.unusedSectionVars false

def recvP (x : Re) (l k : Nat) : Nat := (List.range k).foldl (fun acc e => if true then acc ||| aft x l e else acc) l
def recv (x : Re) (l : Nat) : Nat := recvP x l (silc x)
def rcF (x : Re) : Nat → Nat → Nat
  | 0, l => l
  | k + 1, l => if recv x l = l then l else rcF x k (recv x l)
def rchd (x : Re) : Nat := rcF x 1024 (fstM x)
theorem recvP_succ (x : Re) (l k : Nat) : recvP x l (k + 1) = recvP x l k ||| aft x l k := by
  unfold recvP; rw [List.range_succ, List.foldl_append]; rfl
theorem recv_bit {x : Re} {l b : Nat} : (recv x l).testBit b = true ↔ l.testBit b = true ∨ ∃ e, e < silc x ∧ (aft x l e).testBit b = true := by
  unfold recv recvP
  rw [testBit_foldor (fun _ => true)]
  simp
theorem recvP_lt {x : Re} (hx : Ok x) {l : Nat} (h : l < 2 ^ nst x) (k : Nat) : recvP x l k < 2 ^ nst x := foldor_lt (fun _ => true) _ _ _ h fun e _ _ => aft_lt hx h e
theorem recv_lt {x : Re} (hx : Ok x) {l : Nat} (h : l < 2 ^ nst x) : recv x l < 2 ^ nst x := recvP_lt hx h _
theorem recv_ge {x : Re} (l : Nat) : l ≤ recv x l := by
  have : recv x l = l ||| recv x l := by
    apply bit_ext
    intro i
    rw [Nat.testBit_or]
    simp only [Bool.or_eq_true, recv_bit]
    constructor
    · intro h; exact .inr h
    · rintro (h | h)
      · exact .inl h
      · exact h
  rw [this]; exact Nat.left_le_or
/-- closed under silent moves -/
def Cld (x : Re) (l : Nat) : Prop := ∀ a b, l.testBit a = true → (silM x a).testBit b = true → l.testBit b = true
theorem cl_cld {x : Re} (hx : Ok x) {l : Nat} (h : l < 2 ^ nst x) : Cld x (cl x l) := fun a b ha hs => by
  obtain ⟨c, hc, hr⟩ := (cl_bit hx h).mp ha
  exact (cl_bit hx h).mpr ⟨c, hc, .step hr hs⟩
theorem recv_cld {x : Re} (hx : Ok x) {l : Nat} (h : l < 2 ^ nst x) (hc : Cld x l) : Cld x (recv x l) := fun a b ha hs => by
  rcases recv_bit.mp ha with ha | ⟨e, he, ha⟩
  · exact recv_bit.mpr (.inl (hc a b ha hs))
  · exact recv_bit.mpr (.inr ⟨e, he, cl_cld hx (rawA_lt hx h e) a b ha hs⟩)
inductive RchA (x : Re) : Nat → Prop
  | start : RchA x x.s0.toNat
  | step {m : Mv} : m ∈ x.mv → RchA x m.fr.toNat → RchA x m.to.toNat
theorem rch_rchA {x : Re} (hx : Ok x) {a b : Nat} (h : Rch x a b) (ha : RchA x a) : RchA x b := by
  induction h with
  | refl => exact ha
  | @step b c hr hs ih =>
    obtain ⟨m, hm, _, h2, h3⟩ := silM_bit.mp hs
    rw [← h3]
    exact .step hm (by rw [h2, Int.toNat_natCast]; exact ih)
theorem fst_rchA {x : Re} (hx : Ok x) {b : Nat} (h : (fstM x).testBit b = true) : RchA x b := by
  have hp : 2 ^ x.s0.toNat < 2 ^ nst x := Nat.pow_lt_pow_right (by omega) (by have := hx.s0; unfold nst; omega)
  obtain ⟨a, ha, hr⟩ := (cl_bit hx hp).mp h
  rw [Nat.testBit_two_pow, decide_eq_true_eq] at ha
  subst ha
  exact rch_rchA hx hr .start
theorem recv_rchA {x : Re} (hx : Ok x) {l : Nat} (h : l < 2 ^ nst x) (hl : ∀ b, l.testBit b = true → RchA x b) : ∀ b, (recv x l).testBit b = true → RchA x b := fun b hb => by
  rcases recv_bit.mp hb with hb | ⟨e, he, hb⟩
  · exact hl b hb
  · obtain ⟨a, ha, hr⟩ := (cl_bit hx (rawA_lt hx h e)).mp hb
    rcases (rawA_bit hx h (by omega)).mp ha with ⟨h1, _, _⟩ | ⟨m, hm, _, h2, _, h4⟩
    · omega
    · refine rch_rchA hx hr ?_
      rw [← h4]
      exact .step hm (hl _ h2)
/-- what a set has that is no longer growing -/
structure RcI (x : Re) (l : Nat) : Prop where
  lt : l < 2 ^ nst x
  cd : Cld x l
  st : l.testBit x.s0.toNat = true
  ra : ∀ b, l.testBit b = true → RchA x b
theorem rcI_fst {x : Re} (hx : Ok x) : RcI x (fstM x) := by
  have hp : 2 ^ x.s0.toNat < 2 ^ nst x := Nat.pow_lt_pow_right (by omega) (by have := hx.s0; unfold nst; omega)
  exact ⟨fst_lt hx, cl_cld hx hp, clF_sup _ _ (by rw [Nat.testBit_two_pow]; simp), fun b hb => fst_rchA hx hb⟩
theorem RcI.next {x : Re} (hx : Ok x) {l : Nat} (h : RcI x l) : RcI x (recv x l) := ⟨recv_lt hx h.lt, recv_cld hx h.lt h.cd, recv_bit.mpr (.inl h.st), recv_rchA hx h.lt h.ra⟩
theorem rcF_fix {x : Re} (hx : Ok x) : ∀ (k l : Nat), RcI x l → 1024 - l ≤ k → recv x (rcF x k l) = rcF x k l ∧ RcI x (rcF x k l)
  | 0, l, h, hk => by have := hx.pw h.lt; omega
  | k + 1, l, h, hk => by
    unfold rcF
    split
    · rename_i he; exact ⟨he, h⟩
    · rename_i he
      have := recv_ge (x := x) l
      exact rcF_fix hx k _ (h.next hx) (by omega)
theorem rcF_of_fix {x : Re} {k l : Nat} (h : recv x l = l) : rcF x k l = l := by
  cases k with
  | zero => rfl
  | succ k => unfold rcF; rw [if_pos h]
theorem rchd_fix {x : Re} (hx : Ok x) : recv x (rchd x) = rchd x ∧ RcI x (rchd x) := rcF_fix hx 1024 _ (rcI_fst hx) (by omega)
theorem evM_lt {x : Re} (hx : Ok x) {m : Mv} (hm : m ∈ x.mv) (hk : m.kd ≠ 2) : 0 ≤ evM x m ∧ evM x m < (silc x : Int) := by
  have h := hx.mv m hm
  have hlb := h.lb
  have := hx.inp; have := hx.out
  unfold labels at hlb
  unfold evM silc
  rcases h.kd with h | h | h
  · rw [if_pos h] at hlb ⊢; omega
  · rw [if_neg (by omega), if_pos h] at hlb
    rw [if_neg (by omega)]; omega
  · exact absurd h hk
theorem rchd_bit {x : Re} (hx : Ok x) {b : Nat} : (rchd x).testBit b = true ↔ RchA x b := by
  obtain ⟨hf, hI⟩ := rchd_fix hx
  refine ⟨hI.ra b, fun h => ?_⟩
  induction h with
  | start => exact hI.st
  | @step m hm _ ih =>
    have hmo := hx.mv m hm
    by_cases hk : m.kd = 2
    · exact hI.cd _ _ ih (silM_bit.mpr ⟨m, hm, hk, by rw [Int.toNat_of_nonneg hmo.fr.1], rfl⟩)
    · obtain ⟨h1, h2⟩ := evM_lt hx hm hk
      rw [← hf]
      refine recv_bit.mpr (.inr ⟨(evM x m).toNat, by omega, clF_sup _ _ ?_⟩)
      exact (rawA_bit hx hI.lt (by omega)).mpr (.inr ⟨m, hm, hk, ih, by omega, rfl⟩)
def deafAt (x : Re) (s n : Nat) : Bool := aft x (cl x (2 ^ s)) n == 0
def dfs (x : Re) (s : Nat) : Option Nat := if (rchd x).testBit s then firstIx x.inp.toNat (deafAt x s) else none
def deafN (x : Re) : Option (Nat × Nat) := (firstIx (nst x) fun s => (dfs x s).isSome).bind fun s => (dfs x s).map fun n => (s, n)
theorem deafN_some {x : Re} {s n : Nat} (hs : s < nst x) (hd : dfs x s = some n) (hz : ∀ t, t < s → dfs x t = none) : deafN x = some (s, n) := by
  unfold deafN
  rw [firstIx_some hs (by rw [hd]; rfl) fun j hj => by rw [hz j hj]; rfl]
  simp [hd]
theorem deafN_none {x : Re} (hz : ∀ t, t < nst x → dfs x t = none) : deafN x = none := by
  unfold deafN
  rw [firstIx_none fun j hj => by rw [hz j hj]; rfl]; rfl
theorem bits_sorted (l : Nat) : (bitsN l).Pairwise (· < ·) := List.pairwise_lt_range.filter _
theorem bits_before {l s i : Nat} (hi : i < (bitsN l).length) (hs : s ∈ bitsN l) (hlt : s < (bitsN l).getD i 0) : s ∈ (bitsN l).take i := by
  obtain ⟨j, hj, rfl⟩ := List.getElem_of_mem hs
  have hji : j < i := by
    apply Decidable.byContradiction
    intro hn
    rw [List.getD_eq_getElem?_getD, List.getElem?_eq_getElem hi] at hlt
    simp only [Option.getD_some] at hlt
    by_cases he : j = i
    · subst he; omega
    · have := List.pairwise_iff_getElem.mp (bits_sorted l) i j hi hj (by omega)
      omega
  rw [List.mem_take_iff_getElem]
  exact ⟨j, by omega, rfl⟩
end Go.Proofs.YtchpcjmgifnmdaaDoor

/- Walks: receptive systems. -/
namespace Go.Proofs.YtchpcjmgifnmdaaDoor
open Go Go.Proofs.YtchpcjmgifnmdaaDoor.Ab
set_option maxRecDepth 100000
set_option linter.unusedSimpArgs false

theorem FZ.t3 (a b c : Value) : FZ (.tup [.v a, .v b, .v c]) := FZ.tup (FZs.v3 _ _ _)
theorem fin_3 {a b c : Value} {w : AV} {H' : AH} (h : w = .tup [.v a, .v b, .v c]) : ∃ v v', AOut.ret (.tup [.v a, .v b, .v c]) = .ret v ∧ View H' v v' ∧ FZ v' ∧ v' = w := by
  subst h; exact ⟨_, _, rfl, (FZ.t3 a b c).view, FZ.t3 a b c, rfl⟩
def recpO (o : Option (Nat × Nat)) : AV := match o with
  | some p => .tup [.v (.int .i64 (p.1 : Nat)), .v (.int .i64 (p.2 : Nat)), .v (.int .i64 29)]
  | none => .tup [.v (.int .i64 0), .v (.int .i64 0), .v (.int .i64 0)]
def recpV (x : Re) : AV := if errR x ≠ 0 then .tup [.v (.int .i64 0), .v (.int .i64 0), .v (.int .i64 (errR x))] else recpO (deafN x)
set_option maxHeartbeats 4000000 in
theorem recp25 (x : Re) : FCall Tryd.prog 25 [reV x] (· = recpV x) := by
  simp only [reV, reL, mvsV]
  refine ACall.enter [] Cd.fn25 (by simp) ?_
  simp only [Cd.cd25, Tk.t25, base0, base1, base2, base3, Option.isNone_none, Option.isNone_some, Nat.reduceBEq, true_or, or_true, false_or, or_false, Nat.reduceLT, Nat.reduceMod, Nat.reducePow, rmaps, nsucc, List.flatten_cons, List.flatten_nil, Nat.reduceEqDiff, Nat.reduceLeDiff, Nat.reduceAdd, Nat.reduceMul, Nat.reduceSub, ↓reduceIte, reduceCtorEq, decide_true, decide_false]
  first | refine FCall.go (sysErr70 x) (FZs.one (FZ.reV x)) ?_ | refine FCall.go' (sysErr70 x) (FZs.one (FZ.reV x)) ?_ | refine FCall.goQ (sysErr70 x) (FZs.one (FZ.reV x)) ?_
  by_cases h1 : errR x = 0
  · have hx := ok_of_check h1
    have hinp := hx.inp
    have hsc := silc_le hx
    have hrv : recpV x = recpO (deafN x) := by rw [recpV, if_neg (by simpa using h1)]
    simp only [show (errR x != 0) = false from by rw [h1]; rfl, Cd.cd25, Tk.t25, base0, base1, base2, base3, Option.isNone_none, Option.isNone_some, Nat.reduceBEq, true_or, or_true, false_or, or_false, Nat.reduceLT, Nat.reduceMod, Nat.reducePow, rmaps, nsucc, List.flatten_cons, List.flatten_nil, Nat.reduceEqDiff, Nat.reduceLeDiff, Nat.reduceAdd, Nat.reduceMul, Nat.reduceSub, ↓reduceIte, reduceCtorEq, decide_true, decide_false]
    first | refine FCall.go (system71 x hx) (FZs.one (FZ.reV x)) ?_ | refine FCall.go' (system71 x hx) (FZs.one (FZ.reV x)) ?_ | refine FCall.goQ (system71 x hx) (FZs.one (FZ.reV x)) ?_
    simp only [Cd.cd25, Tk.t25, base0, base1, base2, base3, Option.isNone_none, Option.isNone_some, Nat.reduceBEq, true_or, or_true, false_or, or_false, Nat.reduceLT, Nat.reduceMod, Nat.reducePow, rmaps, nsucc, List.flatten_cons, List.flatten_nil, Nat.reduceEqDiff, Nat.reduceLeDiff, Nat.reduceAdd, Nat.reduceMul, Nat.reduceSub, ↓reduceIte, reduceCtorEq, decide_true, decide_false]
    first | refine FCall.go (first72 x hx) (FZs.one (FZ.sysV x)) ?_ | refine FCall.go' (first72 x hx) (FZs.one (FZ.sysV x)) ?_ | refine FCall.goQ (first72 x hx) (FZs.one (FZ.sysV x)) ?_
    simp only [uv, Cd.cd25, Tk.t25, base0, base1, base2, base3, Option.isNone_none, Option.isNone_some, Nat.reduceBEq, true_or, or_true, false_or, or_false, Nat.reduceLT, Nat.reduceMod, Nat.reducePow, rmaps, nsucc, List.flatten_cons, List.flatten_nil, Nat.reduceEqDiff, Nat.reduceLeDiff, Nat.reduceAdd, Nat.reduceMul, Nat.reduceSub, ↓reduceIte, reduceCtorEq, decide_true, decide_false]
    refine LWP.loop [] (fun m f H' => ∃ c k mo, m = 2 * (1024 - c) + (if mo then 1 else 0) ∧ (RcI x c) ∧ (mo = true → rcF x k c = rchd x ∧ 1024 - c ≤ k) ∧ (mo = false → c = rchd x) ∧ f.t 6 = sysV x ∧ f.t 7 = .v (.int .u64 (c : Nat)) ∧ f.t 8 = .v (.bool mo) ∧ f.ds = [] ∧ H' = AH.none) ?_ ?_ (m := 2 * (1024 - (fstM x)) + (if (true) then 1 else 0))
    · exact ⟨fstM x, 1024, true, rfl, (rcI_fst hx), (fun _ => ⟨rfl, by omega⟩), (fun h => by cases h), rfl, rfl, rfl, rfl, rfl⟩
    · rintro m f H' ⟨c, k, mo, rfl, hI, hk, hk0, f6, f7, f8, hds, rfl⟩
      have hc' := hx.pw hI.lt
      cases mo with
      | false =>
        have hcr := hk0 rfl
        subst hcr
        simp only [f6, f7, f8, hds, Cd.cd25, Tk.t25, base0, base1, base2, base3, Option.isNone_none, Option.isNone_some, Nat.reduceBEq, true_or, or_true, false_or, or_false, Nat.reduceLT, Nat.reduceMod, Nat.reducePow, rmaps, nsucc, List.flatten_cons, List.flatten_nil, Nat.reduceEqDiff, Nat.reduceLeDiff, Nat.reduceAdd, Nat.reduceMul, Nat.reduceSub, ↓reduceIte, reduceCtorEq, decide_true, decide_false]
        first | refine FCall.go (states62 _ hc') (FZs.v1 _) ?_ | refine FCall.go' (states62 _ hc') (FZs.v1 _) ?_ | refine FCall.goQ (states62 _ hc') (FZs.v1 _) ?_
        simp only [setV, ints, List.length_map, bitsI_len, f6, f7, f8, hds, Cd.cd25, Tk.t25, base0, base1, base2, base3, Option.isNone_none, Option.isNone_some, Nat.reduceBEq, true_or, or_true, false_or, or_false, Nat.reduceLT, Nat.reduceMod, Nat.reducePow, rmaps, nsucc, List.flatten_cons, List.flatten_nil, Nat.reduceEqDiff, Nat.reduceLeDiff, Nat.reduceAdd, Nat.reduceMul, Nat.reduceSub, ↓reduceIte, reduceCtorEq, decide_true, decide_false]
        have hbl := bitsN_len (rchd x)
        refine LWP.loop [] (fun m f H' => ∃ i, m = (bitsN (rchd x)).length - i ∧ (i ≤ (bitsN (rchd x)).length) ∧ (∀ s, s ∈ (bitsN (rchd x)).take i → dfs x s = none) ∧ f.t 6 = sysV x ∧ f.t 42 = .lst 1 ((bitsI (rchd x)).map fun x => [.v (.int .i64 x)]) .unk ∧ f.t 43 = .v (.int .i64 ((bitsN (rchd x)).length : Nat)) ∧ f.t 44 = .v (.int .i64 (i : Nat)) ∧ f.ds = [] ∧ H' = AH.none) ?_ ?_ (m := (bitsN (rchd x)).length - (0))
        · exact ⟨0, rfl, (by omega), (fun s hs => by simp at hs), f6, (by first | rfl | exact f42), (by first | rfl | exact f43), (by first | rfl | exact f44), rfl, rfl⟩
        · rintro m f H' ⟨i, rfl, hi, hz, f6, f42, f43, f44, hds, rfl⟩
          by_cases hlt : i < (bitsN (rchd x)).length
          · have hsm := bits_at hlt
            generalize hse : (bitsN (rchd x)).getD i 0 = s at hsm
            have hsb := bitsN_bit hsm
            have hs10 := bitsN_lt hsm
            have hsn := bits_n hx hI.lt hsb
            have hp : 2 ^ s < 2 ^ nst x := Nat.pow_lt_pow_right (by omega) hsn
            simp only [List.length_map, bitsI_len, ltT hlt, inR hlt, Int.toNat_natCast, getD_bits hlt, hse, box_eq, boxV, f6, f42, f43, f44, hds, Cd.cd25, Tk.t25, base0, base1, base2, base3, Option.isNone_none, Option.isNone_some, Nat.reduceBEq, true_or, or_true, false_or, or_false, Nat.reduceLT, Nat.reduceMod, Nat.reducePow, rmaps, nsucc, List.flatten_cons, List.flatten_nil, Nat.reduceEqDiff, Nat.reduceLeDiff, Nat.reduceAdd, Nat.reduceMul, Nat.reduceSub, ↓reduceIte, reduceCtorEq, decide_true, decide_false]
            refine LWP.loop [] (fun m f H' => ∃ n, m = x.inp.toNat - n ∧ (n ≤ x.inp.toNat) ∧ (∀ j, j < n → deafAt x s j = false) ∧ f.t 6 = sysV x ∧ f.t 12 = .v (.int .i64 (s : Nat)) ∧ f.t 42 = .lst 1 ((bitsI (rchd x)).map fun x => [.v (.int .i64 x)]) .unk ∧ f.t 43 = .v (.int .i64 ((bitsN (rchd x)).length : Nat)) ∧ f.t 44 = .v (.int .i64 (i : Nat)) ∧ f.t 52 = .v (.int .i64 x.inp) ∧ f.t 53 = .v (.int .i64 (n : Nat)) ∧ f.ds = [] ∧ H' = AH.none) ?_ ?_ (m := x.inp.toNat - (0))
            · exact ⟨0, rfl, (by omega), (fun j hj => by omega), (by first | rfl | exact f6), (by first | rfl | exact f12), (by first | rfl | exact f42), (by first | rfl | exact f43), (by first | rfl | exact f44), (by first | rfl | exact f52), (by first | rfl | exact f53), rfl, rfl⟩
            · rintro m f H' ⟨n, rfl, hn, hzn, f6, f12, f42, f43, f44, f52, f53, hds, rfl⟩
              by_cases hnl : n < x.inp.toNat
              · simp only [show decide (((n : Nat) : Int) < x.inp) = true from decide_eq_true (by omega), show (((s : Nat) : Int) < 0) = False from by simp, Int.toNat_natCast, shlN hs10, f6, f12, f42, f43, f44, f52, f53, hds, Cd.cd25, Tk.t25, base0, base1, base2, base3, Option.isNone_none, Option.isNone_some, Nat.reduceBEq, true_or, or_true, false_or, or_false, Nat.reduceLT, Nat.reduceMod, Nat.reducePow, rmaps, nsucc, List.flatten_cons, List.flatten_nil, Nat.reduceEqDiff, Nat.reduceLeDiff, Nat.reduceAdd, Nat.reduceMul, Nat.reduceSub, ↓reduceIte, reduceCtorEq, decide_true, decide_false]
                first | refine FCall.go (closed75 x hx _ hp) (FZs.two (FZ.sysV x) (FZ.v _)) ?_ | refine FCall.go' (closed75 x hx _ hp) (FZs.two (FZ.sysV x) (FZ.v _)) ?_ | refine FCall.goQ (closed75 x hx _ hp) (FZs.two (FZ.sysV x) (FZ.v _)) ?_
                simp only [uv, f6, f12, f42, f43, f44, f52, f53, hds, Cd.cd25, Tk.t25, base0, base1, base2, base3, Option.isNone_none, Option.isNone_some, Nat.reduceBEq, true_or, or_true, false_or, or_false, Nat.reduceLT, Nat.reduceMod, Nat.reducePow, rmaps, nsucc, List.flatten_cons, List.flatten_nil, Nat.reduceEqDiff, Nat.reduceLeDiff, Nat.reduceAdd, Nat.reduceMul, Nat.reduceSub, ↓reduceIte, reduceCtorEq, decide_true, decide_false]
                first | refine FCall.go (after74 x hx _ n (cl_lt hx hp)) (FZs.three (FZ.sysV x) (FZ.v _) (FZ.v _)) ?_ | refine FCall.go' (after74 x hx _ n (cl_lt hx hp)) (FZs.three (FZ.sysV x) (FZ.v _) (FZ.v _)) ?_ | refine FCall.goQ (after74 x hx _ n (cl_lt hx hp)) (FZs.three (FZ.sysV x) (FZ.v _) (FZ.v _)) ?_
                by_cases hd : aft x (cl x (2 ^ s)) n = 0
                · simp only [uv, eqU0, decide_eq_true hd, f6, f12, f42, f43, f44, f52, f53, hds, Cd.cd25, Tk.t25, base0, base1, base2, base3, Option.isNone_none, Option.isNone_some, Nat.reduceBEq, true_or, or_true, false_or, or_false, Nat.reduceLT, Nat.reduceMod, Nat.reducePow, rmaps, nsucc, List.flatten_cons, List.flatten_nil, Nat.reduceEqDiff, Nat.reduceLeDiff, Nat.reduceAdd, Nat.reduceMul, Nat.reduceSub, ↓reduceIte, reduceCtorEq, decide_true, decide_false]
                  refine fin_3 ?_
                  have hdf : dfs x s = some n := by
                    unfold dfs
                    rw [if_pos hsb]
                    exact firstIx_some hnl (by unfold deafAt; rw [hd]; rfl) hzn
                  rw [hrv, deafN_some hsn hdf fun t ht => ?_]
                  · rfl
                  · by_cases htb : (rchd x).testBit t = true
                    · exact hz t (bits_before hlt ((bitsN_mem hc').mpr htb) (by rw [hse]; exact ht))
                    · unfold dfs; rw [if_neg htb]
                · simp only [uv, eqU0, decide_eq_false hd, f6, f12, f42, f43, f44, f52, f53, hds, Cd.cd25, Tk.t25, base0, base1, base2, base3, Option.isNone_none, Option.isNone_some, Nat.reduceBEq, true_or, or_true, false_or, or_false, Nat.reduceLT, Nat.reduceMod, Nat.reducePow, rmaps, nsucc, List.flatten_cons, List.flatten_nil, Nat.reduceEqDiff, Nat.reduceLeDiff, Nat.reduceAdd, Nat.reduceMul, Nat.reduceSub, ↓reduceIte, reduceCtorEq, decide_true, decide_false]
                  exact ⟨_, by omega, n + 1, rfl, by omega, allS hzn (by unfold deafAt; simpa using hd), by rw [wrapS (by omega)]⟩
              · have hn' : n = x.inp.toNat := by omega
                have hdf : dfs x s = none := by
                  unfold dfs
                  rw [if_pos hsb]
                  exact firstIx_none (by rw [← hn']; exact hzn)
                simp only [show decide (((n : Nat) : Int) < x.inp) = false from decide_eq_false (by omega), f6, f12, f42, f43, f44, f52, f53, hds, Cd.cd25, Tk.t25, base0, base1, base2, base3, Option.isNone_none, Option.isNone_some, Nat.reduceBEq, true_or, or_true, false_or, or_false, Nat.reduceLT, Nat.reduceMod, Nat.reducePow, rmaps, nsucc, List.flatten_cons, List.flatten_nil, Nat.reduceEqDiff, Nat.reduceLeDiff, Nat.reduceAdd, Nat.reduceMul, Nat.reduceSub, ↓reduceIte, reduceCtorEq, decide_true, decide_false]
                refine ⟨_, by omega, i + 1, rfl, by omega, fun t ht => ?_, rfl, by rw [wrapS (by omega)]⟩
                rw [List.take_add_one, List.getElem?_eq_getElem hlt] at ht
                rcases List.mem_append.mp ht with ht | ht
                · exact hz t ht
                · have : t = s := by
                    rw [List.getD_eq_getElem?_getD, List.getElem?_eq_getElem hlt] at hse
                    simp only [Option.toList_some, List.mem_singleton] at ht
                    rw [ht]; exact hse
                  rw [this]; exact hdf
          · have hi' : i = (bitsN (rchd x)).length := by omega
            simp only [List.length_map, bitsI_len, ltF hlt, f6, f42, f43, f44, hds, Cd.cd25, Tk.t25, base0, base1, base2, base3, Option.isNone_none, Option.isNone_some, Nat.reduceBEq, true_or, or_true, false_or, or_false, Nat.reduceLT, Nat.reduceMod, Nat.reducePow, rmaps, nsucc, List.flatten_cons, List.flatten_nil, Nat.reduceEqDiff, Nat.reduceLeDiff, Nat.reduceAdd, Nat.reduceMul, Nat.reduceSub, ↓reduceIte, reduceCtorEq, decide_true, decide_false]
            refine fin_3 ?_
            rw [hrv, deafN_none fun t ht => ?_]
            · rfl
            · by_cases htb : (rchd x).testBit t = true
              · exact hz t (by rw [hi', List.take_length]; exact (bitsN_mem hc').mpr htb)
              · unfold dfs; rw [if_neg htb]
      | true =>
        obtain ⟨hk1, hk2⟩ := hk rfl
        simp only [f6, f7, f8, hds, Cd.cd25, Tk.t25, base0, base1, base2, base3, Option.isNone_none, Option.isNone_some, Nat.reduceBEq, true_or, or_true, false_or, or_false, Nat.reduceLT, Nat.reduceMod, Nat.reducePow, rmaps, nsucc, List.flatten_cons, List.flatten_nil, Nat.reduceEqDiff, Nat.reduceLeDiff, Nat.reduceAdd, Nat.reduceMul, Nat.reduceSub, ↓reduceIte, reduceCtorEq, decide_true, decide_false]
        first | refine FCall.go (silence73 x hx) (FZs.one (FZ.sysV x)) ?_ | refine FCall.go' (silence73 x hx) (FZs.one (FZ.sysV x)) ?_ | refine FCall.goQ (silence73 x hx) (FZs.one (FZ.sysV x)) ?_
        simp only [f6, f7, f8, hds, Cd.cd25, Tk.t25, base0, base1, base2, base3, Option.isNone_none, Option.isNone_some, Nat.reduceBEq, true_or, or_true, false_or, or_false, Nat.reduceLT, Nat.reduceMod, Nat.reducePow, rmaps, nsucc, List.flatten_cons, List.flatten_nil, Nat.reduceEqDiff, Nat.reduceLeDiff, Nat.reduceAdd, Nat.reduceMul, Nat.reduceSub, ↓reduceIte, reduceCtorEq, decide_true, decide_false]
        refine LWP.loop [] (fun m f H' => ∃ e, m = silc x - e ∧ (e ≤ silc x) ∧ f.t 6 = sysV x ∧ f.t 7 = .v (.int .u64 (c : Nat)) ∧ f.t 9 = .v (.int .u64 (recvP x c e : Nat)) ∧ f.t 26 = .v (.int .i64 (silc x : Nat)) ∧ f.t 27 = .v (.int .i64 (e : Nat)) ∧ f.ds = [] ∧ H' = AH.none) ?_ ?_ (m := silc x - (0))
        · exact ⟨0, rfl, (by omega), by first | exact f6 | rfl, by first | exact f7 | rfl, by rfl, (by first | rfl | exact f26), (by first | rfl | exact f27), rfl, rfl⟩
        · rintro m f H' ⟨e, rfl, he, f6, f7, f9, f26, f27, hds, rfl⟩
          by_cases hle : e < silc x
          · have hs1 := hx.pw (recvP_lt hx hI.lt e)
            have hs2 := hx.pw (aft_lt hx hI.lt e)
            have hsu := recvP_succ x c e
            simp only [ltT hle, f6, f7, f9, f26, f27, hds, Cd.cd25, Tk.t25, base0, base1, base2, base3, Option.isNone_none, Option.isNone_some, Nat.reduceBEq, true_or, or_true, false_or, or_false, Nat.reduceLT, Nat.reduceMod, Nat.reducePow, rmaps, nsucc, List.flatten_cons, List.flatten_nil, Nat.reduceEqDiff, Nat.reduceLeDiff, Nat.reduceAdd, Nat.reduceMul, Nat.reduceSub, ↓reduceIte, reduceCtorEq, decide_true, decide_false]
            first | refine FCall.go (after74 x hx _ e hI.lt) (FZs.three (FZ.sysV x) (FZ.v _) (FZ.v _)) ?_ | refine FCall.go' (after74 x hx _ e hI.lt) (FZs.three (FZ.sysV x) (FZ.v _) (FZ.v _)) ?_ | refine FCall.goQ (after74 x hx _ e hI.lt) (FZs.three (FZ.sysV x) (FZ.v _) (FZ.v _)) ?_
            simp only [uv, orU hs1 hs2, f6, f7, f9, f26, f27, hds, Cd.cd25, Tk.t25, base0, base1, base2, base3, Option.isNone_none, Option.isNone_some, Nat.reduceBEq, true_or, or_true, false_or, or_false, Nat.reduceLT, Nat.reduceMod, Nat.reducePow, rmaps, nsucc, List.flatten_cons, List.flatten_nil, Nat.reduceEqDiff, Nat.reduceLeDiff, Nat.reduceAdd, Nat.reduceMul, Nat.reduceSub, ↓reduceIte, reduceCtorEq, decide_true, decide_false]
            exact ⟨_, by omega, e + 1, rfl, by omega, by rw [hsu], by rw [wrapS (by omega)]⟩
          · have he' : e = silc x := by omega
            subst he'
            have hrc : recvP x c (silc x) = recv x c := rfl
            by_cases hf : recv x c = c
            · simp only [ltF hle, hrc, neU, show decide (recv x c ≠ c) = false from decide_eq_false (by simpa using hf), f6, f7, f9, f26, f27, hds, Cd.cd25, Tk.t25, base0, base1, base2, base3, Option.isNone_none, Option.isNone_some, Nat.reduceBEq, true_or, or_true, false_or, or_false, Nat.reduceLT, Nat.reduceMod, Nat.reducePow, rmaps, nsucc, List.flatten_cons, List.flatten_nil, Nat.reduceEqDiff, Nat.reduceLeDiff, Nat.reduceAdd, Nat.reduceMul, Nat.reduceSub, ↓reduceIte, reduceCtorEq, decide_true, decide_false]
              exact ⟨_, by simp, c, k, false, rfl, hI, fun h => (by cases h), fun _ => by rw [← hk1]; exact (rcF_of_fix hf).symm, by rw [hf], rfl⟩
            · simp only [ltF hle, hrc, neU, decide_eq_true hf, f6, f7, f9, f26, f27, hds, Cd.cd25, Tk.t25, base0, base1, base2, base3, Option.isNone_none, Option.isNone_some, Nat.reduceBEq, true_or, or_true, false_or, or_false, Nat.reduceLT, Nat.reduceMod, Nat.reducePow, rmaps, nsucc, List.flatten_cons, List.flatten_nil, Nat.reduceEqDiff, Nat.reduceLeDiff, Nat.reduceAdd, Nat.reduceMul, Nat.reduceSub, ↓reduceIte, reduceCtorEq, decide_true, decide_false]
              have h2 := recv_ge (x := x) c
              have h3 := hx.pw (recv_lt hx hI.lt)
              cases k with
              | zero => omega
              | succ k =>
                have hk3 : rcF x k (recv x c) = rchd x := by rw [← hk1, rcF, if_neg hf]
                exact ⟨_, by simp; omega, recv x c, k, true, rfl, hI.next hx, fun _ => ⟨hk3, by omega⟩, fun h => (by cases h), rfl, rfl⟩
  · simp only [bneT h1, Cd.cd25, Tk.t25, base0, base1, base2, base3, Option.isNone_none, Option.isNone_some, Nat.reduceBEq, true_or, or_true, false_or, or_false, Nat.reduceLT, Nat.reduceMod, Nat.reducePow, rmaps, nsucc, List.flatten_cons, List.flatten_nil, Nat.reduceEqDiff, Nat.reduceLeDiff, Nat.reduceAdd, Nat.reduceMul, Nat.reduceSub, ↓reduceIte, reduceCtorEq, decide_true, decide_false]
    exact fin_3 (by rw [recpV, if_pos h1])
end Go.Proofs.YtchpcjmgifnmdaaDoor

/- Walks: the reference's deaf states; the law of checks. -/
namespace Go.Proofs.YtchpcjmgifnmdaaDoor
open Go Go.Proofs.YtchpcjmgifnmdaaDoor.Ab
set_option maxRecDepth 100000
set_option linter.unusedSimpArgs false

structure WA (x : Re) (r : List Int) : Prop where
  nd : r.Nodup
  lt : ∀ b ∈ r, 0 ≤ b ∧ b < x.st
  ra : ∀ b ∈ x.s0 :: r, RchA x b.toNat
theorem WA.len {x : Re} (hx : Ok x) {r : List Int} (h : WA x r) : r.length ≤ 10 := by
  have := hx.st
  exact nodup_i 10 r h.nd fun b hb => by have := h.lt b hb; omega
theorem WA.start (x : Re) : WA x [] := ⟨List.nodup_nil, fun _ h => by simp at h, fun b hb => by simp at hb; subst hb; exact .start⟩
theorem WA.add {x : Re} (hx : Ok x) {r : List Int} (h : WA x r) {m : Mv} (hm : m ∈ x.mv) (hf : m.fr ∈ x.s0 :: r) (hn : m.to ∉ x.s0 :: r) : WA x (r ++ [m.to]) := by
  have hmo := hx.mv m hm
  refine ⟨?_, fun b hb => ?_, fun b hb => ?_⟩
  · rw [List.nodup_append]
    refine ⟨h.nd, by simp, fun a ha b hb => ?_⟩
    simp only [List.mem_singleton] at hb
    subst hb
    intro e; subst e; exact hn (List.mem_cons_of_mem _ ha)
  · rcases List.mem_append.mp hb with hb | hb
    · exact h.lt b hb
    · simp only [List.mem_singleton] at hb; subst hb; exact hmo.to
  · rw [← List.cons_append] at hb
    rcases List.mem_append.mp hb with hb | hb
    · exact h.ra b hb
    · simp only [List.mem_singleton] at hb; subst hb
      exact .step hm (h.ra _ hf)
theorem WA.all {x : Re} (hx : Ok x) {r : List Int} (h : WA x r) (hc : ∀ a ∈ x.s0 :: r, ∀ m ∈ x.mv, m.fr = a → m.to ∈ x.s0 :: r) (s : Nat) : decide ((s : Int) ∈ x.s0 :: r) = (rchd x).testBit s := by
  rw [Bool.eq_iff_iff, decide_eq_true_eq, rchd_bit hx]
  constructor
  · intro hm
    have := h.ra _ hm
    rwa [Int.toNat_natCast] at this
  · intro hr
    induction hr with
    | start => have := hx.s0; rw [Int.toNat_of_nonneg this.1]; exact List.mem_cons_self
    | @step m hm _ ih =>
      have hmo := hx.mv m hm
      rw [Int.toNat_of_nonneg hmo.to.1]
      rw [Int.toNat_of_nonneg hmo.fr.1] at ih
      exact hc _ ih m hm rfl
def WB (x : Re) (L : List Int) : Prop := ∃ r, L = x.s0 :: r ∧ WA x r
theorem WB.len {x : Re} (hx : Ok x) {L : List Int} (h : WB x L) : 0 < L.length ∧ L.length ≤ 11 := by
  obtain ⟨r, rfl, h⟩ := h
  have := h.len hx
  simp; omega
theorem WB.start (x : Re) : WB x [x.s0] := ⟨[], rfl, WA.start x⟩
theorem WB.add {x : Re} (hx : Ok x) {L : List Int} (h : WB x L) {m : Mv} (hm : m ∈ x.mv) (hf : m.fr ∈ L) (hn : m.to ∉ L) : WB x (L ++ [m.to]) := by
  obtain ⟨r, rfl, h⟩ := h
  exact ⟨r ++ [m.to], rfl, h.add hx hm hf hn⟩
theorem WB.all {x : Re} (hx : Ok x) {L : List Int} (h : WB x L) (hc : ∀ a ∈ L, ∀ m ∈ x.mv, m.fr = a → m.to ∈ L) (s : Nat) : decide ((s : Int) ∈ L) = (rchd x).testBit s := by
  obtain ⟨r, rfl, h⟩ := h
  exact h.all hx hc s
/-- a list that is full, or grows -/
def GrowF (H : AH) (a : AV) (l : List Int) : Prop := a = .lst 1 (l.map intR) .full ∨ ∃ t, t < H.next ∧ a = .lst 1 (l.map intR) (.live t) ∧ H.tip t = some l.length
theorem GrowF.lst {H : AH} {a : AV} {l : List Int} (h : GrowF H a l) : ∃ tip, a = .lst 1 (l.map intR) tip := by
  rcases h with h | ⟨t, _, h, _⟩
  · exact ⟨_, h⟩
  · exact ⟨_, h⟩
theorem viewT {H : AH} {l : List Int} {tip : Tip} : View H (.lst 1 (l.map intR) tip) (ints l) := View.tip fun rr hr => by
  obtain ⟨y, _, rfl⟩ := List.mem_map.mp hr
  exact FZs.v1 _
theorem setV_zero {x : Re} (hx : Ok x) {l : Nat} (hl : l < 2 ^ nst x) : (((bitsN l).length : Int) == 0) = decide (l = 0) := by
  have h := bitsN_nil (hx.pw hl)
  by_cases h0 : l = 0
  · rw [h.mpr h0]; simp [h0]
  · have : 0 < (bitsN l).length := List.length_pos_iff.mpr fun e => h0 (h.mp e)
    simp [h0]; exact fun e => h0 (h.mp e)
def deafO (o : Option (Nat × Nat)) : AV := match o with
  | some p => .tup [.v (.int .i64 (p.1 : Nat)), .v (.int .i64 (p.2 : Nat)), .v (.bool true)]
  | none => .tup [.v (.int .i64 0), .v (.int .i64 0), .v (.bool false)]
set_option maxHeartbeats 4000000 in
theorem deaf26 (x : Re) (hx : Ok x) : FCall Tryd.prog 26 [reV x] (· = deafO (deafN x)) := by
  have hst := hx.st
  have hn10 := hx.n
  have hlen := hx.len
  have hinp := hx.inp
  have hs0 := hx.s0
  simp only [reV, reL, mvsV]
  refine ACall.enter [] Cd.fn26 (by simp) ?_
  simp only [Cd.cd26, Tk.t26, base0, base1, base2, base3, Option.isNone_none, Option.isNone_some, Nat.reduceBEq, true_or, or_true, false_or, or_false, Nat.reduceLT, Nat.reduceMod, Nat.reducePow, rmaps, nsucc, List.flatten_cons, List.flatten_nil, Nat.reduceEqDiff, Nat.reduceLeDiff, Nat.reduceAdd, Nat.reduceMul, Nat.reduceSub, ↓reduceIte, reduceCtorEq, decide_true, decide_false]
  refine LWP.loop [] (fun m f H' => ∃ i a L, m = 11 - i ∧ (i ≤ List.length (L : List Int)) ∧ (WB x L) ∧ (∀ j, j < i → ∀ m ∈ x.mv, m.fr = L.getD j default → m.to ∈ L) ∧ (GrowF H' a L) ∧ f.t 1 = .box [.v (.int .i64 x.st), .v (.int .i64 x.s0), .v (.int .i64 x.inp), .v (.int .i64 x.out), .lst 4 (x.mv.map mvR) .unk] ∧ f.t 5 = a ∧ f.t 6 = .v (.int .i64 (i : Nat)) ∧ f.ds = [] ∧ True) ?_ ?_ (m := 11 - (0))
  · exact ⟨0, .lst 1 ([x.s0].map intR) .full, [x.s0], rfl, (by omega), (WB.start x), (fun j hj => by omega), (.inl rfl), rfl, rfl, rfl, rfl, trivial⟩
  · rintro m f H' ⟨i, a, L, rfl, hi, hw, hcl, hg, f1, f5, f6, hds, hH⟩
    have hrl := hw.len hx
    by_cases hlt : i < L.length
    · obtain ⟨tip, rfl⟩ := hg.lst
      simp only [List.length_map, ltT hlt, f1, f5, f6, hds, Cd.cd26, Tk.t26, base0, base1, base2, base3, Option.isNone_none, Option.isNone_some, Nat.reduceBEq, true_or, or_true, false_or, or_false, Nat.reduceLT, Nat.reduceMod, Nat.reducePow, rmaps, nsucc, List.flatten_cons, List.flatten_nil, Nat.reduceEqDiff, Nat.reduceLeDiff, Nat.reduceAdd, Nat.reduceMul, Nat.reduceSub, ↓reduceIte, reduceCtorEq, decide_true, decide_false]
      refine LWP.loop [] (fun m f H' => ∃ k a' L', m = x.mv.length - k ∧ (k ≤ x.mv.length) ∧ (WB x L') ∧ (∃ q, L' = L ++ q) ∧ (∀ j, j < k → (x.mv.getD j default).fr = L.getD i default → (x.mv.getD j default).to ∈ L') ∧ (GrowF H' a' L') ∧ f.t 1 = .box [.v (.int .i64 x.st), .v (.int .i64 x.s0), .v (.int .i64 x.inp), .v (.int .i64 x.out), .lst 4 (x.mv.map mvR) .unk] ∧ f.t 5 = a' ∧ f.t 6 = .v (.int .i64 (i : Nat)) ∧ f.t 7 = .v (.int .i64 (k : Nat)) ∧ f.ds = [] ∧ True) ?_ ?_ (m := x.mv.length - (0))
      · exact ⟨0, .lst 1 (L.map intR) tip, L, rfl, (by omega), (hw), (⟨[], by simp⟩), (fun j hj => by omega), (hg), (by first | rfl | exact f1), (by first | rfl | exact f5), (by first | rfl | exact f6), (by first | rfl | exact f7), rfl, trivial⟩
      · rintro m f H' ⟨k, a', L', rfl, hki, hw', hpre, hck, hg, f1, f5, f6, f7, hds, hH⟩
        have hrl' := hw'.len hx
        obtain ⟨q, hq⟩ := hpre
        have hlt' : i < L'.length := by rw [hq, List.length_append]; omega
        have hLi : L'.getD i default = L.getD i default := by
          rw [hq, getD_append_left _ _ _ hlt]
        obtain ⟨tip', rfl⟩ := hg.lst
        by_cases hklt : k < x.mv.length
        · have hgm := getD_map mvR x.mv k hklt
          have hmm := getD_mem (l := x.mv) hklt
          generalize hm : x.mv.getD k default = mk at hgm hmm
          generalize hLe : L.getD i default = bn at hLi hck
          by_cases e1 : mk.fr = bn
          · simp only [List.length_map, ltT hklt, inR hklt, inR hlt', Int.toNat_natCast, hgm, mvR, getD_map intR L' i hlt', intR, hLi, show (mk.fr == bn) = true from beq_iff_eq.mpr e1, f1, f5, f6, f7, hds, Cd.cd26, Tk.t26, base0, base1, base2, base3, Option.isNone_none, Option.isNone_some, Nat.reduceBEq, true_or, or_true, false_or, or_false, Nat.reduceLT, Nat.reduceMod, Nat.reducePow, rmaps, nsucc, List.flatten_cons, List.flatten_nil, Nat.reduceEqDiff, Nat.reduceLeDiff, Nat.reduceAdd, Nat.reduceMul, Nat.reduceSub, ↓reduceIte, reduceCtorEq, decide_true, decide_false]
            refine (has76 L' mk.to (by omega)).bgo' (Views.cons viewT (Views.cons (FZ.v _).view Views.nil)) (Ground.v _) ?_
            by_cases hin : mk.to ∈ L'
            · simp only [decide_eq_true hin, f1, f5, f6, f7, hds, Cd.cd26, Tk.t26, base0, base1, base2, base3, Option.isNone_none, Option.isNone_some, Nat.reduceBEq, true_or, or_true, false_or, or_false, Nat.reduceLT, Nat.reduceMod, Nat.reducePow, rmaps, nsucc, List.flatten_cons, List.flatten_nil, Nat.reduceEqDiff, Nat.reduceLeDiff, Nat.reduceAdd, Nat.reduceMul, Nat.reduceSub, ↓reduceIte, reduceCtorEq, decide_true, decide_false]
              exact ⟨_, by omega, k + 1, _, L', rfl, by omega, hw', ⟨q, hq⟩, allS hck (fun _ => by rw [hm]; exact hin), hg, rfl, by rw [wrapS (by omega)]⟩
            · have hr : roomA 8 (L'.length + 1) = true := room_of (by omega) (by omega)
              have hadd := hw'.add hx hmm (by rw [e1, ← hLi]; exact getD_mem hlt') hin
              have hck2 : ∀ j, j < k + 1 → (x.mv.getD j default).fr = bn → (x.mv.getD j default).to ∈ L' ++ [mk.to] := allS (fun j hj h1 => by
                exact List.mem_append.mpr (.inl (hck j hj h1))) (fun _ => by rw [hm]; simp)
              have emap : ∀ tp : Tip, AV.lst 1 (L'.map intR ++ [[AV.v (.int .i64 mk.to)]]) tp = .lst 1 ((L' ++ [mk.to]).map intR) tp := fun tp => by simp [intR]
              rcases hg with he | ⟨t, t2, he, t4⟩
              · simp only [AV.lst.injEq, true_and] at he
                subst he
                simp only [decide_eq_false hin, List.length_map, inR hklt, Int.toNat_natCast, hgm, mvR, hr, f1, f5, f6, f7, hds, Cd.cd26, Tk.t26, base0, base1, base2, base3, Option.isNone_none, Option.isNone_some, Nat.reduceBEq, true_or, or_true, false_or, or_false, Nat.reduceLT, Nat.reduceMod, Nat.reducePow, rmaps, nsucc, List.flatten_cons, List.flatten_nil, Nat.reduceEqDiff, Nat.reduceLeDiff, Nat.reduceAdd, Nat.reduceMul, Nat.reduceSub, ↓reduceIte, reduceCtorEq, decide_true, decide_false]
                exact ⟨_, by omega, k + 1, _, L' ++ [mk.to], rfl, by omega, hadd, ⟨q ++ [mk.to], by rw [hq, List.append_assoc]⟩, hck2, .inr ⟨H'.next, by simp, emap _, by simp⟩, rfl, by rw [wrapS (by omega)]⟩
              · simp only [AV.lst.injEq, true_and] at he
                subst he
                simp only [decide_eq_false hin, List.length_map, inR hklt, Int.toNat_natCast, hgm, mvR, t4, hr, f1, f5, f6, f7, hds, Cd.cd26, Tk.t26, base0, base1, base2, base3, Option.isNone_none, Option.isNone_some, Nat.reduceBEq, true_or, or_true, false_or, or_false, Nat.reduceLT, Nat.reduceMod, Nat.reducePow, rmaps, nsucc, List.flatten_cons, List.flatten_nil, Nat.reduceEqDiff, Nat.reduceLeDiff, Nat.reduceAdd, Nat.reduceMul, Nat.reduceSub, ↓reduceIte, reduceCtorEq, decide_true, decide_false]
                exact ⟨_, by omega, k + 1, _, L' ++ [mk.to], rfl, by omega, hadd, ⟨q ++ [mk.to], by rw [hq, List.append_assoc]⟩, hck2, .inr ⟨t, t2, emap _, by simp⟩, rfl, by rw [wrapS (by omega)]⟩
          · simp only [List.length_map, ltT hklt, inR hklt, inR hlt', Int.toNat_natCast, hgm, mvR, getD_map intR L' i hlt', intR, hLi, show (mk.fr == bn) = false from beq_eq_false_iff_ne.mpr e1, f1, f5, f6, f7, hds, Cd.cd26, Tk.t26, base0, base1, base2, base3, Option.isNone_none, Option.isNone_some, Nat.reduceBEq, true_or, or_true, false_or, or_false, Nat.reduceLT, Nat.reduceMod, Nat.reducePow, rmaps, nsucc, List.flatten_cons, List.flatten_nil, Nat.reduceEqDiff, Nat.reduceLeDiff, Nat.reduceAdd, Nat.reduceMul, Nat.reduceSub, ↓reduceIte, reduceCtorEq, decide_true, decide_false]
            exact ⟨_, by omega, k + 1, _, L', rfl, by omega, hw', ⟨q, hq⟩, allS hck (fun h => by rw [hm] at h; exact absurd h e1), hg, rfl, by rw [wrapS (by omega)]⟩
        · have hk' : k = x.mv.length := by omega
          simp only [List.length_map, ltF hklt, f1, f5, f6, f7, hds, Cd.cd26, Tk.t26, base0, base1, base2, base3, Option.isNone_none, Option.isNone_some, Nat.reduceBEq, true_or, or_true, false_or, or_false, Nat.reduceLT, Nat.reduceMod, Nat.reducePow, rmaps, nsucc, List.flatten_cons, List.flatten_nil, Nat.reduceEqDiff, Nat.reduceLeDiff, Nat.reduceAdd, Nat.reduceMul, Nat.reduceSub, ↓reduceIte, reduceCtorEq, decide_true, decide_false]
          have hrs : L' = L ++ q := hq
          refine ⟨_, by omega, i + 1, _, L', rfl, by omega, hw', fun j hj m hm h1 => ?_, hg, rfl, by rw [wrapS (by omega)]⟩
          by_cases hji : j < i
          · rw [hrs, getD_append_left _ _ _ (by omega)] at h1
            have := hcl j hji m hm h1
            rw [hrs]; exact List.mem_append.mpr (.inl this)
          · have : j = i := by omega
            subst this
            rw [hLi] at h1
            obtain ⟨jj, hjj, rfl⟩ := mem_getD hm
            exact hck jj (by omega) h1
    · have hi' : i = L.length := by omega
      have hC := hw.all hx fun a ha m hm h1 => by
        obtain ⟨j, hj, rfl⟩ := mem_getD ha
        exact hcl j (by omega) m hm h1
      obtain ⟨tip, rfl⟩ := hg.lst
      simp only [List.length_map, ltF hlt, f1, f5, f6, hds, Cd.cd26, Tk.t26, base0, base1, base2, base3, Option.isNone_none, Option.isNone_some, Nat.reduceBEq, true_or, or_true, false_or, or_false, Nat.reduceLT, Nat.reduceMod, Nat.reducePow, rmaps, nsucc, List.flatten_cons, List.flatten_nil, Nat.reduceEqDiff, Nat.reduceLeDiff, Nat.reduceAdd, Nat.reduceMul, Nat.reduceSub, ↓reduceIte, reduceCtorEq, decide_true, decide_false]
      refine LWP.loop [] (fun m f H' => ∃ s, m = nst x - s ∧ (s ≤ nst x) ∧ (∀ t, t < s → dfs x t = none) ∧ f.t 1 = .box [.v (.int .i64 x.st), .v (.int .i64 x.s0), .v (.int .i64 x.inp), .v (.int .i64 x.out), .lst 4 (x.mv.map mvR) .unk] ∧ f.t 5 = .lst 1 (L.map intR) tip ∧ f.t 8 = .v (.int .i64 (s : Nat)) ∧ f.ds = [] ∧ True) ?_ ?_ (m := nst x - (0))
      · exact ⟨0, rfl, (by omega), (fun t ht => by omega), f1, f5, (by first | rfl | exact f8), rfl, trivial⟩
      · rintro m f H' ⟨s, rfl, hs, hz, f1, f5, f8, hds, hH⟩
        by_cases hsl : s < nst x
        · have hp : 2 ^ s < 2 ^ nst x := Nat.pow_lt_pow_right (by omega) hsl
          have hCs := hC s
          simp only [show decide (((s : Nat) : Int) < x.st) = true from decide_eq_true (by unfold nst at hsl; omega), f1, f5, f8, hds, Cd.cd26, Tk.t26, base0, base1, base2, base3, Option.isNone_none, Option.isNone_some, Nat.reduceBEq, true_or, or_true, false_or, or_false, Nat.reduceLT, Nat.reduceMod, Nat.reducePow, rmaps, nsucc, List.flatten_cons, List.flatten_nil, Nat.reduceEqDiff, Nat.reduceLeDiff, Nat.reduceAdd, Nat.reduceMul, Nat.reduceSub, ↓reduceIte, reduceCtorEq, decide_true, decide_false]
          refine LWP.loop [] (fun m f H' => ∃ n, m = x.inp.toNat - n ∧ (n ≤ x.inp.toNat) ∧ (∀ j, j < n → (rchd x).testBit s = true ∧ deafAt x s j = false) ∧ f.t 1 = .box [.v (.int .i64 x.st), .v (.int .i64 x.s0), .v (.int .i64 x.inp), .v (.int .i64 x.out), .lst 4 (x.mv.map mvR) .unk] ∧ f.t 5 = .lst 1 (L.map intR) tip ∧ f.t 8 = .v (.int .i64 (s : Nat)) ∧ f.t 9 = .v (.int .i64 (n : Nat)) ∧ f.ds = [] ∧ True) ?_ ?_ (m := x.inp.toNat - (0))
          · exact ⟨0, rfl, (by omega), (fun j hj => by omega), (by first | rfl | exact f1), (by first | rfl | exact f5), (by first | rfl | exact f8), (by first | rfl | exact f9), rfl, trivial⟩
          · rintro m f H' ⟨n, rfl, hn, hzn, f1, f5, f8, f9, hds, hH⟩
            by_cases hnl : n < x.inp.toNat
            · simp only [show decide (((n : Nat) : Int) < x.inp) = true from decide_eq_true (by omega), f1, f5, f8, f9, hds, Cd.cd26, Tk.t26, base0, base1, base2, base3, Option.isNone_none, Option.isNone_some, Nat.reduceBEq, true_or, or_true, false_or, or_false, Nat.reduceLT, Nat.reduceMod, Nat.reducePow, rmaps, nsucc, List.flatten_cons, List.flatten_nil, Nat.reduceEqDiff, Nat.reduceLeDiff, Nat.reduceAdd, Nat.reduceMul, Nat.reduceSub, ↓reduceIte, reduceCtorEq, decide_true, decide_false]
              first | refine (has76 L (s : Int) (by omega)).bgo (Views.cons viewT (Views.cons (FZ.v _).view Views.nil)) (Ground.v _) ?_ | refine (has76 L (s : Int) (by omega)).bgo' (Views.cons viewT (Views.cons (FZ.v _).view Views.nil)) (Ground.v _) ?_
              rw [hCs]
              cases hb : (rchd x).testBit s
              · have hn0 : n = 0 := by
                  apply Decidable.byContradiction
                  intro h
                  have := (hzn 0 (by omega)).1
                  rw [hb] at this; cases this
                simp only [f1, f5, f8, f9, hds, Cd.cd26, Tk.t26, base0, base1, base2, base3, Option.isNone_none, Option.isNone_some, Nat.reduceBEq, true_or, or_true, false_or, or_false, Nat.reduceLT, Nat.reduceMod, Nat.reducePow, rmaps, nsucc, List.flatten_cons, List.flatten_nil, Nat.reduceEqDiff, Nat.reduceLeDiff, Nat.reduceAdd, Nat.reduceMul, Nat.reduceSub, ↓reduceIte, reduceCtorEq, decide_true, decide_false]
                exact ⟨_, by omega, s + 1, rfl, by omega, allS hz (by unfold dfs; rw [hb]; rfl), by rw [wrapS (by omega)]⟩
              · have hcl1 := closed35 x hx [(s : Int)] (fun a ha => by simp only [List.mem_singleton] at ha; unfold nst at hsl; omega) (by simp)
                have hm1 : maskL [(s : Int)] = 2 ^ s := by simp [maskL]
                rw [hm1] at hcl1
                have hc : FCall Tryd.prog 35 [reV x, .lst 1 [[.v (.int .i64 (s : Int))]] .full] (· = setV (cl x (2 ^ s))) := ACall.args hcl1 vrs_unk2
                have hz1 : FZ (.lst 1 [[.v (.int .i64 (s : Int))]] .full) := FZ.intL (l := [(s : Int)]) (tip := .full) rfl
                have hsc := silc_le hx
                simp only [f1, f5, f8, f9, hds, Cd.cd26, Tk.t26, base0, base1, base2, base3, Option.isNone_none, Option.isNone_some, Nat.reduceBEq, true_or, or_true, false_or, or_false, Nat.reduceLT, Nat.reduceMod, Nat.reducePow, rmaps, nsucc, List.flatten_cons, List.flatten_nil, Nat.reduceEqDiff, Nat.reduceLeDiff, Nat.reduceAdd, Nat.reduceMul, Nat.reduceSub, ↓reduceIte, reduceCtorEq, decide_true, decide_false]
                first | refine FCall.go hc (FZs.two (FZ.reV x) hz1) ?_ | refine FCall.go' hc (FZs.two (FZ.reV x) hz1) ?_ | refine FCall.goQ hc (FZs.two (FZ.reV x) hz1) ?_
                simp only [f1, f5, f8, f9, hds, Cd.cd26, Tk.t26, base0, base1, base2, base3, Option.isNone_none, Option.isNone_some, Nat.reduceBEq, true_or, or_true, false_or, or_false, Nat.reduceLT, Nat.reduceMod, Nat.reducePow, rmaps, nsucc, List.flatten_cons, List.flatten_nil, Nat.reduceEqDiff, Nat.reduceLeDiff, Nat.reduceAdd, Nat.reduceMul, Nat.reduceSub, ↓reduceIte, reduceCtorEq, decide_true, decide_false]
                first | refine FCall.go (after64 x hx (cl x (2 ^ s)) n (cl_lt hx hp) (by omega)) (FZs.three (FZ.reV x) (FZ.setV _) (FZ.v _)) ?_ | refine FCall.go' (after64 x hx (cl x (2 ^ s)) n (cl_lt hx hp) (by omega)) (FZs.three (FZ.reV x) (FZ.setV _) (FZ.v _)) ?_ | refine FCall.goQ (after64 x hx (cl x (2 ^ s)) n (cl_lt hx hp) (by omega)) (FZs.three (FZ.reV x) (FZ.setV _) (FZ.v _)) ?_
                by_cases hd : aft x (cl x (2 ^ s)) n = 0
                · simp only [setV, ints, List.length_map, bitsI_len, setV_zero hx (aft_lt hx (cl_lt hx hp) n), decide_eq_true hd, f1, f5, f8, f9, hds, Cd.cd26, Tk.t26, base0, base1, base2, base3, Option.isNone_none, Option.isNone_some, Nat.reduceBEq, true_or, or_true, false_or, or_false, Nat.reduceLT, Nat.reduceMod, Nat.reducePow, rmaps, nsucc, List.flatten_cons, List.flatten_nil, Nat.reduceEqDiff, Nat.reduceLeDiff, Nat.reduceAdd, Nat.reduceMul, Nat.reduceSub, ↓reduceIte, reduceCtorEq, decide_true, decide_false]
                  refine fin_3 ?_
                  have hdf : dfs x s = some n := by
                    unfold dfs
                    rw [if_pos hb]
                    exact firstIx_some hnl (by unfold deafAt; rw [hd]; rfl) fun j hj => (hzn j hj).2
                  rw [deafN_some hsl hdf hz]; rfl
                · simp only [setV, ints, List.length_map, bitsI_len, setV_zero hx (aft_lt hx (cl_lt hx hp) n), decide_eq_false hd, f1, f5, f8, f9, hds, Cd.cd26, Tk.t26, base0, base1, base2, base3, Option.isNone_none, Option.isNone_some, Nat.reduceBEq, true_or, or_true, false_or, or_false, Nat.reduceLT, Nat.reduceMod, Nat.reducePow, rmaps, nsucc, List.flatten_cons, List.flatten_nil, Nat.reduceEqDiff, Nat.reduceLeDiff, Nat.reduceAdd, Nat.reduceMul, Nat.reduceSub, ↓reduceIte, reduceCtorEq, decide_true, decide_false]
                  exact ⟨_, by omega, n + 1, rfl, by omega, allS (fun j hj => (hzn j hj).2) (by unfold deafAt; simpa using hd), by rw [wrapS (by omega)]⟩
            · have hn' : n = x.inp.toNat := by omega
              simp only [show decide (((n : Nat) : Int) < x.inp) = false from decide_eq_false (by omega), f1, f5, f8, f9, hds, Cd.cd26, Tk.t26, base0, base1, base2, base3, Option.isNone_none, Option.isNone_some, Nat.reduceBEq, true_or, or_true, false_or, or_false, Nat.reduceLT, Nat.reduceMod, Nat.reducePow, rmaps, nsucc, List.flatten_cons, List.flatten_nil, Nat.reduceEqDiff, Nat.reduceLeDiff, Nat.reduceAdd, Nat.reduceMul, Nat.reduceSub, ↓reduceIte, reduceCtorEq, decide_true, decide_false]
              refine ⟨_, by omega, s + 1, rfl, by omega, allS hz ?_, by rw [wrapS (by omega)]⟩
              unfold dfs
              split
              · exact firstIx_none fun j hj => (hzn j (by omega)).2
              · rfl
        · have hs' : s = nst x := by omega
          simp only [show decide (((s : Nat) : Int) < x.st) = false from decide_eq_false (by unfold nst at hsl; omega), f1, f5, f8, hds, Cd.cd26, Tk.t26, base0, base1, base2, base3, Option.isNone_none, Option.isNone_some, Nat.reduceBEq, true_or, or_true, false_or, or_false, Nat.reduceLT, Nat.reduceMod, Nat.reducePow, rmaps, nsucc, List.flatten_cons, List.flatten_nil, Nat.reduceEqDiff, Nat.reduceLeDiff, Nat.reduceAdd, Nat.reduceMul, Nat.reduceSub, ↓reduceIte, reduceCtorEq, decide_true, decide_false]
          refine fin_3 ?_
          rw [deafN_none (by rw [← hs']; exact hz)]; rfl
set_option maxHeartbeats 2000000 in
theorem law4 (x : Re) (hx0 : x.mv.length * 32 ≤ 140737488355328) : FCall Tryd.prog 4 [reV x] (· = .v (.bool true)) := by
  have hO := own18 x hx0
  simp only [reV, reL, mvsV]
  refine ACall.enter [] Cd.fn4 (by simp) ?_
  simp only [Cd.cd4, Tk.t4, base0, base1, base2, base3, Option.isNone_none, Option.isNone_some, Nat.reduceBEq, true_or, or_true, false_or, or_false, Nat.reduceLT, Nat.reduceMod, Nat.reducePow, rmaps, nsucc, List.flatten_cons, List.flatten_nil, Nat.reduceEqDiff, Nat.reduceLeDiff, Nat.reduceAdd, Nat.reduceMul, Nat.reduceSub, ↓reduceIte, reduceCtorEq, decide_true, decide_false]
  first | refine FCall.go awake15 (FZs.nil) ?_ | refine FCall.go' awake15 (FZs.nil) ?_ | refine FCall.goQ awake15 (FZs.nil) ?_
  simp only [Cd.cd4, Tk.t4, base0, base1, base2, base3, Option.isNone_none, Option.isNone_some, Nat.reduceBEq, true_or, or_true, false_or, or_false, Nat.reduceLT, Nat.reduceMod, Nat.reducePow, rmaps, nsucc, List.flatten_cons, List.flatten_nil, Nat.reduceEqDiff, Nat.reduceLeDiff, Nat.reduceAdd, Nat.reduceMul, Nat.reduceSub, ↓reduceIte, reduceCtorEq, decide_true, decide_false]
  first | refine FCall.go hO (FZs.one (FZ.reV x)) ?_ | refine FCall.go' hO (FZs.one (FZ.reV x)) ?_ | refine FCall.goQ hO (FZs.one (FZ.reV x)) ?_
  simp only [Cd.cd4, Tk.t4, base0, base1, base2, base3, Option.isNone_none, Option.isNone_some, Nat.reduceBEq, true_or, or_true, false_or, or_false, Nat.reduceLT, Nat.reduceMod, Nat.reducePow, rmaps, nsucc, List.flatten_cons, List.flatten_nil, Nat.reduceEqDiff, Nat.reduceLeDiff, Nat.reduceAdd, Nat.reduceMul, Nat.reduceSub, ↓reduceIte, reduceCtorEq, decide_true, decide_false]
  first | refine FCall.go (check23 x) (FZs.one (FZ.reV x)) ?_ | refine FCall.go' (check23 x) (FZs.one (FZ.reV x)) ?_ | refine FCall.goQ (check23 x) (FZs.one (FZ.reV x)) ?_
  simp only [Cd.cd4, Tk.t4, base0, base1, base2, base3, Option.isNone_none, Option.isNone_some, Nat.reduceBEq, true_or, or_true, false_or, or_false, Nat.reduceLT, Nat.reduceMod, Nat.reducePow, rmaps, nsucc, List.flatten_cons, List.flatten_nil, Nat.reduceEqDiff, Nat.reduceLeDiff, Nat.reduceAdd, Nat.reduceMul, Nat.reduceSub, ↓reduceIte, reduceCtorEq, decide_true, decide_false]
  first | refine FCall.go (react24 x) (FZs.one (FZ.reV x)) ?_ | refine FCall.go' (react24 x) (FZs.one (FZ.reV x)) ?_ | refine FCall.goQ (react24 x) (FZs.one (FZ.reV x)) ?_
  simp only [Cd.cd4, Tk.t4, base0, base1, base2, base3, Option.isNone_none, Option.isNone_some, Nat.reduceBEq, true_or, or_true, false_or, or_false, Nat.reduceLT, Nat.reduceMod, Nat.reducePow, rmaps, nsucc, List.flatten_cons, List.flatten_nil, Nat.reduceEqDiff, Nat.reduceLeDiff, Nat.reduceAdd, Nat.reduceMul, Nat.reduceSub, ↓reduceIte, reduceCtorEq, decide_true, decide_false]
  first | refine FCall.go hO (FZs.one (FZ.reV x)) ?_ | refine FCall.go' hO (FZs.one (FZ.reV x)) ?_ | refine FCall.goQ hO (FZs.one (FZ.reV x)) ?_
  simp only [Cd.cd4, Tk.t4, base0, base1, base2, base3, Option.isNone_none, Option.isNone_some, Nat.reduceBEq, true_or, or_true, false_or, or_false, Nat.reduceLT, Nat.reduceMod, Nat.reducePow, rmaps, nsucc, List.flatten_cons, List.flatten_nil, Nat.reduceEqDiff, Nat.reduceLeDiff, Nat.reduceAdd, Nat.reduceMul, Nat.reduceSub, ↓reduceIte, reduceCtorEq, decide_true, decide_false]
  first | refine FCall.go (recp25 x) (FZs.one (FZ.reV x)) ?_ | refine FCall.go' (recp25 x) (FZs.one (FZ.reV x)) ?_ | refine FCall.goQ (recp25 x) (FZs.one (FZ.reV x)) ?_
  by_cases h1 : errR x = 0
  · have hx := ok_of_check h1
    have h1' : (checkR x).2 = 0 := h1
    have hrv : recpV x = recpO (deafN x) := by rw [recpV, if_neg (by simpa using h1)]
    rw [hrv]
    cases hd : deafN x with
    | none =>
      simp only [recpO, h1', show ((0 : Int) != 0) = false from rfl, show ((checkR x).1 != (checkR x).1) = false from by simp, Cd.cd4, Tk.t4, base0, base1, base2, base3, Option.isNone_none, Option.isNone_some, Nat.reduceBEq, true_or, or_true, false_or, or_false, Nat.reduceLT, Nat.reduceMod, Nat.reducePow, rmaps, nsucc, List.flatten_cons, List.flatten_nil, Nat.reduceEqDiff, Nat.reduceLeDiff, Nat.reduceAdd, Nat.reduceMul, Nat.reduceSub, ↓reduceIte, reduceCtorEq, decide_true, decide_false]
      first | refine FCall.go (deaf26 x hx) (FZs.one (FZ.reV x)) ?_ | refine FCall.go' (deaf26 x hx) (FZs.one (FZ.reV x)) ?_ | refine FCall.goQ (deaf26 x hx) (FZs.one (FZ.reV x)) ?_
      rw [hd]
      simp only [deafO, show ((0 : Int) == 0) = true from rfl, Cd.cd4, Tk.t4, base0, base1, base2, base3, Option.isNone_none, Option.isNone_some, Nat.reduceBEq, true_or, or_true, false_or, or_false, Nat.reduceLT, Nat.reduceMod, Nat.reducePow, rmaps, nsucc, List.flatten_cons, List.flatten_nil, Nat.reduceEqDiff, Nat.reduceLeDiff, Nat.reduceAdd, Nat.reduceMul, Nat.reduceSub, ↓reduceIte, reduceCtorEq, decide_true, decide_false]
      exact fin_v rfl
    | some p =>
      simp only [recpO, h1', show ((0 : Int) != 0) = false from rfl, show ((checkR x).1 != (checkR x).1) = false from by simp, Cd.cd4, Tk.t4, base0, base1, base2, base3, Option.isNone_none, Option.isNone_some, Nat.reduceBEq, true_or, or_true, false_or, or_false, Nat.reduceLT, Nat.reduceMod, Nat.reducePow, rmaps, nsucc, List.flatten_cons, List.flatten_nil, Nat.reduceEqDiff, Nat.reduceLeDiff, Nat.reduceAdd, Nat.reduceMul, Nat.reduceSub, ↓reduceIte, reduceCtorEq, decide_true, decide_false]
      first | refine FCall.go (deaf26 x hx) (FZs.one (FZ.reV x)) ?_ | refine FCall.go' (deaf26 x hx) (FZs.one (FZ.reV x)) ?_ | refine FCall.goQ (deaf26 x hx) (FZs.one (FZ.reV x)) ?_
      rw [hd]
      simp only [deafO, show ((p.1 : Int) == (p.1 : Int)) = true from by simp, show ((p.2 : Int) == (p.2 : Int)) = true from by simp, show ((29 : Int) == 29) = true from rfl, Cd.cd4, Tk.t4, base0, base1, base2, base3, Option.isNone_none, Option.isNone_some, Nat.reduceBEq, true_or, or_true, false_or, or_false, Nat.reduceLT, Nat.reduceMod, Nat.reducePow, rmaps, nsucc, List.flatten_cons, List.flatten_nil, Nat.reduceEqDiff, Nat.reduceLeDiff, Nat.reduceAdd, Nat.reduceMul, Nat.reduceSub, ↓reduceIte, reduceCtorEq, decide_true, decide_false]
      exact fin_v rfl
  · have h1' : (checkR x).2 ≠ 0 := h1
    have hrv : recpV x = .tup [.v (.int .i64 0), .v (.int .i64 0), .v (.int .i64 (checkR x).2)] := by rw [recpV, if_pos h1]; rfl
    rw [hrv]
    simp only [show ((checkR x).2 != (checkR x).2) = false from by simp, show ((checkR x).1 != (checkR x).1) = false from by simp, bneT h1', show ((checkR x).2 == (checkR x).2) = true from by simp, show ((0 : Int) == 0) = true from rfl, Cd.cd4, Tk.t4, base0, base1, base2, base3, Option.isNone_none, Option.isNone_some, Nat.reduceBEq, true_or, or_true, false_or, or_false, Nat.reduceLT, Nat.reduceMod, Nat.reducePow, rmaps, nsucc, List.flatten_cons, List.flatten_nil, Nat.reduceEqDiff, Nat.reduceLeDiff, Nat.reduceAdd, Nat.reduceMul, Nat.reduceSub, ↓reduceIte, reduceCtorEq, decide_true, decide_false]
    exact fin_v rfl
end Go.Proofs.YtchpcjmgifnmdaaDoor

/- Readers of the arguments; what the rows' list of variables gives; room. -/
namespace Go.Proofs.YtchpcjmgifnmdaaDoor
open Go Go.Proofs.YtchpcjmgifnmdaaDoor.Ab Go.ChangeShapes Go.WideShapes Go.ChangeAt Go.RowKit Go.Deep
set_option maxRecDepth 100000

theorem rdI : Rd Tryd.prog 3 (fun n : Int => [.v (.int .i64 n)]) (fun n => IntKind.i64.min ≤ n ∧ n ≤ IntKind.i64.max) := Rd.int Tryd.underlying3
theorem rdMv : Rd Tryd.prog 113 mvR (fun _ => True) :=
  (Rd.struct Tryd.underlying113 rfl (by kernel_rfl) (RdF.cons (s := 1) rfl (by kernel_rfl) rdI (RdF.cons (s := 1) rfl (by kernel_rfl) rdI (RdF.cons (s := 1) rfl (by kernel_rfl) rdI (RdF.cons (s := 1) rfl (by kernel_rfl) rdI RdF.nil))))).map
    (fun p => (⟨p.1, p.2.1, p.2.2.1, p.2.2.2.1⟩ : Mv)) (fun _ => rfl) (fun _ _ => trivial)
theorem rdMvs : Rd Tryd.prog 22 (fun l : List Mv => [mvsV l]) (fun _ => True) :=
  (Rd.slice Tryd.underlying22 (by kernel_rfl) (by decide) rdMv (fun _ => rfl)).map (fun l : List Mv => l) (fun _ => rfl) (fun _ _ => trivial)
theorem rdRe : Rd Tryd.prog 24 reL (fun _ => True) :=
  (Rd.struct Tryd.underlying24 rfl (by kernel_rfl) (RdF.cons (s := 1) rfl (by kernel_rfl) rdI (RdF.cons (s := 1) rfl (by kernel_rfl) rdI (RdF.cons (s := 1) rfl (by kernel_rfl) rdI (RdF.cons (s := 1) rfl (by kernel_rfl) rdI (RdF.cons (s := 1) rfl (by kernel_rfl) rdMvs RdF.nil)))))).map
    (fun p => (⟨p.1, p.2.1, p.2.2.1, p.2.2.2.1, p.2.2.2.2.1⟩ : Re)) (fun _ => rfl) (fun _ _ => trivial)
theorem own : ownKnob Tryd.prog.godebug = none := by kernel_rfl
theorem laidOut : laidOutB Tryd.prog = true := by kernel_rfl
theorem by22 : Tryd.prog.bytesOf 113 = 32 := by kernel_rfl
theorem by27 : Tryd.prog.bytesOf 3 = 8 := by kernel_rfl

/-! room -/
theorem slice_room {H : Type} {enc : TypeId × Value → H} {W : World} {base : Nat} {sp : Nat → Bool} {hd : Bool} {t e : TypeId} {fuel : Nat} {v : Value} {x : DataW H × List MemPlace} {g : G} {k : Nat} {rows : List (List AV)} {tip : Tip} {B R : Nat}
    (ht : Tryd.prog.underlying t = some (.slice e)) (h : DataW.trod enc Tryd.prog W base sp hd fuel t [v] = some x) (hv : VR g (.lst k rows tip) v) (hw : ∀ elems spare, x.1 = .slice elems spare → (elems.length + spare.length) * B ≤ R) : rows.length * B ≤ R := by
  rcases open_slice ht h with ⟨h1, _⟩ | ⟨a, len, cap, m, n, D, Pl, h1, _, _, _, _, hx, _⟩
  · simp only [List.cons.injEq, and_true] at h1
    subst h1
    cases hv with
    | lst q1 q2 => rw [← q1]; simp
  · simp only [List.cons.injEq, and_true] at h1
    subst h1
    cases hv with
    | lst q1 q2 =>
      rw [← q1]
      have := hw _ _ (by rw [hx])
      simp only [List.length_map, List.length_range] at this
      exact Nat.le_trans (Nat.mul_le_mul_right B (Nat.le_add_right _ _)) this
theorem re_room {H : Type} {enc : TypeId × Value → H} {W : World} {base : Nat} {sp : Nat → Bool} {hd : Bool} {v : Value} {d : DataW H} {ps : List MemPlace} {g : G} {y : Re}
    (h : DataW.Trod enc Tryd.prog W base sp hd 24 v d ps) (hv : VR g (reV y) v) (hw : ∀ n ∈ DataW.weights Tryd.prog 24 d, n ≤ reachBytes) : y.mv.length * 32 ≤ 140737488355328 := by
  obtain ⟨fuel, hf⟩ := h
  obtain ⟨xs, n, _, hx, hl, hlen, hfs⟩ := DataW.trod_struct Tryd.underlying24 hf
  have h4 : DataW.trod enc Tryd.prog W base sp hd n 22 ((v.cells.toList.drop 4).take (Tryd.prog.cellsOf 22)) = xs[4]? := hfs 4 _ rfl
  unfold reV at hv
  cases hv with
  | @agg _ arr ha hva =>
    have hsz : arr.size = 5 := ha
    have hv4 := hva 4 (by simp [reL])
    have e4 : ((Value.agg arr).cells.toList.drop 4).take 1 = [arr.getD 4 undef] := by
      show (arr.toList.drop 4).take 1 = _
      apply List.ext_getElem?
      intro i
      cases i with
      | zero =>
        rw [List.getElem?_take_of_lt (by omega), List.getElem?_drop, Array.getElem?_toList, Array.getElem?_eq_getElem (by omega)]
        simp [Array.getD_eq_getD_getElem?, Array.getElem?_eq_getElem (show 4 < arr.size by omega)]
      | succ i => rw [List.getElem?_eq_none (by rw [List.length_take]; omega), List.getElem?_eq_none (by simp)]
    have hc22 : Tryd.prog.cellsOf 22 = 1 := by kernel_rfl
    simp only [hc22] at h4
    rw [e4] at h4
    have hxl : xs.length = 5 := hlen
    rw [List.getElem?_eq_getElem (show 4 < xs.length by omega)] at h4
    have hd1 : d = .agg (xs.map (·.1)) := congrArg Prod.fst hx
    have := slice_room (B := 32) (R := reachBytes) Tryd.underlying22 h4 hv4 fun elems spare he => by
      refine hw _ ?_
      rw [hd1]
      simp only [DataW.weights, Tryd.underlying24]
      refine DataW.weights_mem_each (j := 4) (t := 22) rfl (d := .slice elems spare) ?_ _ ?_
      · rw [List.getElem?_map, List.getElem?_eq_getElem (show 4 < xs.length by omega)]
        exact congrArg some he
      · simp [DataW.weights, Tryd.underlying22, by22]
    rw [List.length_map] at this
    have h2 : reachBytes = 140737488351232 := rfl
    omega

/-! what the rows' list of variables gives -/
theorem gTab : Tryd.prog.globalNamed "math/bits.deBruijn64tab" = some 1 := by kernel_rfl
theorem gTabType : (Tryd.prog.globals[1]?).map (·.type) = some 180 := by kernel_rfl
theorem cells180 : Tryd.prog.cellsOf 180 = 64 := by kernel_rfl
theorem cells5 : Tryd.prog.cellsOf 5 = 1 := by kernel_rfl
theorem laid_cells {W : World} (h : laidMetH Tryd.prog [("math/bits.deBruijn32tab", Rows.laid_math_bits_deBruijn32tab), ("math/bits.deBruijn64tab", Rows.laid_math_bits_deBruijn64tab)] W) : ∀ b o x, gCell b o = Option.some x → W.cell? ⟨b, o, .none⟩ = Option.some x := by
  have h1 := h.filter fun x => x.1 == "math/bits.deBruijn64tab"
  have h2 : laidMet Tryd.prog [("math/bits.deBruijn64tab", Lib.tabData .u8 (tab64.map fun n : Nat => (n : Int)))] W := h1
  have hT := Lib.tabIs_of_head (rest := []) gTab gTabType Tryd.underlying180 Tryd.underlying5 cells5 cells180 h2
  intro b o x e
  unfold gCell at e
  split at e
  · rename_i hc
    obtain ⟨rfl, ho⟩ := hc
    simp only [Option.some.injEq] at e
    subst e
    have := hT.cell gTab o (by simpa [tab64] using ho)
    rw [this]
    congr 2
    rw [List.getD_eq_getElem?_getD, List.getElem?_map, List.getD_eq_getElem?_getD]
    rw [List.getElem?_eq_getElem (show o < tab64.length by simpa [tab64] using ho)]; rfl
  · cases e
end Go.Proofs.YtchpcjmgifnmdaaDoor

/- A world for the rows' witnesses: the tables hold what their initialisers lay. -/
namespace Go.Proofs.YtchpcjmgifnmdaaDoor
open Go Go.Proofs.YtchpcjmgifnmdaaDoor.Ab Go.ChangeShapes Go.WideShapes Go.ChangeAt Go.RowKit
set_option maxRecDepth 100000

def lay32 : Obj → Obj
  | .cells _ t frozen => .cells #[.int .u8 0, .int .u8 1, .int .u8 28, .int .u8 2, .int .u8 29, .int .u8 14, .int .u8 24, .int .u8 3, .int .u8 30, .int .u8 22, .int .u8 20, .int .u8 15, .int .u8 25, .int .u8 17, .int .u8 4, .int .u8 8, .int .u8 31, .int .u8 27, .int .u8 13, .int .u8 23, .int .u8 21, .int .u8 19, .int .u8 16, .int .u8 7, .int .u8 26, .int .u8 12, .int .u8 18, .int .u8 6, .int .u8 11, .int .u8 5, .int .u8 10, .int .u8 9] t frozen
  | o => o
def lay64 : Obj → Obj
  | .cells _ t frozen => .cells ((tab64.map fun n : Nat => Value.int .u8 (n : Int)).toArray) t frozen
  | o => o
/-- a world for the witness: the tables hold what their initialisers lay -/
noncomputable def laidWorld (os : Os) : World :=
  { World.holding Tryd.prog os ⟨#[], #[], []⟩ with heap := ((World.holding Tryd.prog os ⟨#[], #[], []⟩).heap.modify 0 lay32).modify 1 lay64 }
theorem row_le {H : Type} {P : Program} {ts : List TypeId} {ds : List (DataW H)} (h : (DataW.weightsEach P ts ds).all (· ≤ reachBytes) = true) {j : Nat} {t : TypeId} {d : DataW H} (ht : ts[j]? = some t) (hd : ds[j]? = some d) : ∀ n ∈ DataW.weights P t d, n ≤ reachBytes := fun n hn =>
  of_decide_eq_true (List.all_eq_true.1 h n (DataW.weights_mem_each ht hd n hn))
end Go.Proofs.YtchpcjmgifnmdaaDoor

/- The law holds: for every input it returns true, and each argument reads behind the call as it read before; the card ties the table of math/bits to the program's text. No condition. -/
namespace Go.Proofs.YtchpcjmgifnmdaaDoor
open Go Go.Proofs.YtchpcjmgifnmdaaDoor.Ab Go.ChangeShapes Go.WideShapes Go.ChangeAt Go.RowKit
set_option maxRecDepth 100000

def wArgs4 : Array Value := #[.agg #[.int .i64 0, .int .i64 0, .int .i64 0, .int .i64 0, .slice none 0 0]]
theorem laid_met4 (os : Os) : laidMet Tryd.prog Rows.conformChecksRow.laid ((laidWorld os).forCall (fun _ _ => 0) ⟨#[], wArgs4, []⟩).memory :=
  laidMet_of_run' 66 (by kernel_rfl) (by kernel_rfl)
theorem reads4 (os : Os) {H : Type} (enc : TypeId × Value → H) : ∃ places, DataW.whole enc Tryd.prog ((laidWorld os).forCall (fun _ _ => 0) ⟨#[], wArgs4, []⟩).memory Tryd.f4.params.toList Rows.conformChecksSpec.vars false wArgs4.toList 8 = some ([.agg [.lit (.int .i64 0), .lit (.int .i64 0), .lit (.int .i64 0), .lit (.int .i64 0), .nil]], [], places) :=
  ⟨[], by kernel_rfl⟩
set_option maxHeartbeats 800000 in
theorem lift4 (os : Os) (started : os.Started) (H : Type) (enc : TypeId × Value → H) (F : Stop.Interp) :
    ReturnsInHanded {} Tryd.checked os 4 .any ((OpenSpec.ofChange Rows.conformChecksSpec).preRow enc Tryd.prog Tryd.f4 Rows.conformChecksRow.domain false Rows.conformChecksRow.laid) (((OpenSpec.ofChange Rows.conformChecksSpec).at F).post enc Tryd.prog Tryd.f4 false true false false) := by
  obtain ⟨places, hx⟩ := reads4 os enc
  refine returnsInHanded_of_row (C := Tryd.checked) (s := OpenSpec.ofChange Rows.conformChecksSpec) own started (by kernel_rfl) Tryd.func4
    (witness_row_at (enc := enc) (C := Tryd.checked) false (laidWorld os) wArgs4 rfl (by kernel_rfl) (by kernel_rfl) (by kernel_rfl)
      (OpenSpec.preRow_of_cond 8 hx (by kernel_rfl) (fun k hk => by cases hk) (by kernel_rfl) (laid_met4 os))) ?_
  intro W base args ds gs before hval0 hW _ _ hsz hL _ _
  have hval : ∀ (j : Nat) t v, Tryd.f4.params[j]? = some t → args[j]? = some v → Value.okWide Tryd.prog W .any base t v := hval0
  have hW' := hW
  obtain ⟨p, q, hA0, hV, rfl, _, _⟩ := hW
  have hA : DataW.TrodAll enc Tryd.prog W 0 (fun _ => true) true Tryd.f4.params.toList args.toList ds p := hA0
  rw [Tryd.params4] at hA hval hsz
  obtain ⟨v0, d0, rfl, rfl, h0⟩ := trodAll_one hA
  obtain ⟨rfl, rfl⟩ := trodVars_none hV
  obtain ⟨c0, -, hc0⟩ := arg_struct rdRe Tryd.underlying24 (hval 0 24 v0 rfl rfl) h0
  have r0 := re_room h0 hc0 (row_le hsz (j := 0) rfl rfl)
  clear hA0 hval0
  simp only [List.append_nil] at hW'
  have hlt : ∀ x ∈ p, x.block < W.heap.size := fun x hx => by simpa using hW'.lt x (by first | exact hx | simpa using hx)
  refine ((law4 c0 r0).true (xs := #[v0]) (W := W) ⟨rfl, fun j hj => ?_⟩ (laid_cells hL)).mono fun e W' ⟨he, hb⟩ => ?_
  · match j, hj with
    | 0, _ => exact hc0
  subst he
  have harg0 : DataW.Trod enc Tryd.prog W' 0 (fun b => decide (b < W.heap.size)) true 24 v0 d0 p :=
    Below.trod laidOut (by kernel_rfl) (of_decide_eq_true (by kernel_rfl)) h0 hb (fun x hx => hlt x hx)
  refine ⟨_, rfl, _, _, _, [], _, [], hW', ?_, trodAll_mk1 harg0, rfl, hb.frame _, fun h => by cases h⟩
  exact trodAll_mk1 (shut_bool Tryd.underlying4 _)
theorem conformChecksSaid : Rows.ConformChecksSaid :=
  OpenClaim.holds_of_cond 4 Tryd.f4 rfl rfl rfl rfl rfl rfl rfl ⟨rfl, rfl, rfl, rfl, rfl⟩ rfl rfl rfl rfl rfl (by kernel_rfl) Tryd.func4 (by kernel_rfl)
    (of_decide_eq_true (by kernel_rfl)) (by unfold Func.isWrapper; first | (rw [if_pos (by decide +kernel)]; kernel_rfl) | (rw [if_neg (by decide +kernel)]; exact ⟨rfl, rfl⟩))
    (fun os started H enc _ F => by rw [OpenClaim.pre_eq_preRow]; exact lift4 os started H enc F)
theorem plain4 (f : FuncId) (fn : Func) (hf : Tryd.pinned.checked.prog.funcNamed "examiner/examinerlaw42.ConformChecks" = some f) (hfn : Tryd.pinned.checked.prog.funcs[f]? = some fn) :
    false = Tryd.pinned.checked.prog.looks [] ∧ ∀ (j : Nat) t, fn.params[j]? = some t → Tryd.pinned.checked.prog.wantsStandIn t = false := by
  obtain rfl : f = 4 := Option.some.inj ((show Tryd.prog.funcNamed "examiner/examinerlaw42.ConformChecks" = some 4 by kernel_rfl).symm.trans hf) |>.symm
  obtain rfl : fn = Tryd.f4 := (Option.some.inj (Tryd.func4.symm.trans hfn)).symm
  refine ⟨by kernel_rfl, fun j t ht => ?_⟩
  rw [Tryd.params4] at ht
  have hm := Array.mem_of_getElem? ht
  simp only [List.mem_toArray, List.mem_cons, List.not_mem_nil, or_false] at hm
  subst hm
  exact (show Tryd.prog.wantsStandIn 24 = false by kernel_rfl)
theorem conformChecks : Rows.ConformChecksCardSaid :=
  Claim7.holds_tied_plain_at .later [] _ _ _ _ conformChecksSaid (fun _ h => by cases h) (by kernel_rfl) (fun _ h => by cases h) conformChecks_row_tie rfl ⟨rfl, rfl⟩ (by kernel_rfl) rfl plain4 (by kernel_rfl)
end Go.Proofs.YtchpcjmgifnmdaaDoor

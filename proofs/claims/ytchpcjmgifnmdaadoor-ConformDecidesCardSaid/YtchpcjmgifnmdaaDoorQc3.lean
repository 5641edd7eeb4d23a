/- Part 3 of a proof: conformDecides holds for every input; no condition. -/
import Derived.Test.YtchpcjmgifnmdaaDoorProg
import Derived.KernelRfl
import Derived.DeepKeys3
import Derived.Test.YtchpcjmgifnmdaaDoorRows
import Derived.Test.YtchpcjmgifnmdaaDoorCards
import Derived.Test.YtchpcjmgifnmdaaDoorTie
import Derived.ProofKit
import Derived.OpenShut
import Derived.SizedLaws
import Derived.Deep.DeepHandedRow
import Derived.Lib.LaidTab
import Derived.Test.YtchpcjmgifnmdaaDoorGl
import Derived.Test.YtchpcjmgifnmdaaDoorAb0
import Derived.Test.YtchpcjmgifnmdaaDoorAb1
import Derived.Test.YtchpcjmgifnmdaaDoorAb2
import Derived.Test.YtchpcjmgifnmdaaDoorAb3
import Derived.Test.YtchpcjmgifnmdaaDoorAb4
import Derived.Test.YtchpcjmgifnmdaaDoorAb5
import Derived.Test.YtchpcjmgifnmdaaDoorAb6
import Derived.Test.YtchpcjmgifnmdaaDoorAb7
import Derived.Test.YtchpcjmgifnmdaaDoorAb8
import Derived.Test.YtchpcjmgifnmdaaDoorAb8a
import Derived.Test.YtchpcjmgifnmdaaDoorAb8b
import Derived.Test.YtchpcjmgifnmdaaDoorAb8c
import Derived.Test.YtchpcjmgifnmdaaDoorAb8m
import Derived.Test.YtchpcjmgifnmdaaDoorAb8d
import Derived.Test.YtchpcjmgifnmdaaDoorAb9
import Derived.Test.YtchpcjmgifnmdaaDoorAb10
import Derived.Test.YtchpcjmgifnmdaaDoorAb11
import Derived.Test.YtchpcjmgifnmdaaDoorAb12
import Derived.Test.YtchpcjmgifnmdaaDoorAb13
import Derived.Test.YtchpcjmgifnmdaaDoorAb14
import Derived.Test.YtchpcjmgifnmdaaDoorAb15
import Derived.Test.YtchpcjmgifnmdaaDoorAb16
import Derived.Test.YtchpcjmgifnmdaaDoorAb17
import Derived.Test.YtchpcjmgifnmdaaDoorAb18
import Derived.Test.YtchpcjmgifnmdaaDoorAb19
import Derived.Test.YtchpcjmgifnmdaaDoorAb20
import Derived.Test.YtchpcjmgifnmdaaDoorAb23
import Derived.Test.YtchpcjmgifnmdaaDoorQc2
set_option linter.unusedSimpArgs false
set_option linter.unusedVariables false
set_option linter.defProp false
/- Walks: a system by its states. -/
namespace Go.Proofs.YtchpcjmgifnmdaaDoor
open Go Go.Proofs.YtchpcjmgifnmdaaDoor.Ab
set_option maxRecDepth 100000
set_option linter.unusedSimpArgs false

def uvC (k : Nat) (f : Nat → Nat) : List AV := (List.range k).map fun e => .v (.int .u64 (f e : Nat))
theorem uvC_len (k : Nat) (f : Nat → Nat) : (uvC k f).length = k := by simp [uvC]
theorem mkU (n : Nat) : List.map (fun i => [AV.v (.int .u64 0)].getD (i % 1) .any) (List.range (n * 1)) = uvC n fun _ => 0 := by
  unfold uvC
  rw [Nat.mul_one]
  apply List.map_congr_left
  intro i _
  simp [Nat.mod_one]
theorem uvC_drop {k s : Nat} (f : Nat → Nat) (h : s < k) : (List.drop s (uvC k f))[0]? = some (.v (.int .u64 (f s : Nat))) := by
  rw [List.getElem?_drop, Nat.add_zero]
  unfold uvC
  rw [List.getElem?_map, List.getElem?_range h]; rfl
theorem uvC_set {k s : Nat} (f : Nat → Nat) (v : Nat) (h : s < k) : List.take s (uvC k f) ++ AV.v (.int .u64 (v : Nat)) :: List.drop (s + 1) (uvC k f) = uvC k fun e => if e = s then v else f e := by
  apply List.ext_getElem?
  intro i
  have hl : (List.take s (uvC k f)).length = s := by rw [List.length_take, uvC_len]; omega
  by_cases h1 : i < s
  · rw [List.getElem?_append_left (by omega), List.getElem?_take_of_lt h1]
    unfold uvC
    rw [List.getElem?_map, List.getElem?_map, List.getElem?_range (by omega)]
    simp [show ¬ i = s by omega]
  · rw [List.getElem?_append_right (by omega), hl]
    by_cases h2 : i = s
    · subst h2
      rw [Nat.sub_self]
      unfold uvC
      rw [List.getElem?_map, List.getElem?_range h]; simp
    · obtain ⟨d, hd⟩ : ∃ d, i - s = d + 1 := ⟨i - s - 1, by omega⟩
      rw [hd, List.getElem?_cons_succ, List.getElem?_drop, show s + 1 + d = i by omega]
      unfold uvC
      rw [List.getElem?_map, List.getElem?_map]
      by_cases h3 : i < k
      · rw [List.getElem?_range h3]; simp [h2]
      · rw [List.getElem?_eq_none (by simp; omega)]; rfl
def enS (k n : Nat) : List AV := [.sl 1 n 0 k]
def headV (x : Re) : List AV := [.v (.int .i64 x.st), .v (.int .i64 x.s0), .v (.int .i64 x.inp), .v (.int .i64 x.out), .lst 4 (x.mv.map mvR) .unk]
/-- the program's system, as it is built: the sets by state and event are `f`, those of silent moves `s` -/
structure SysO (x : Re) (H : AH) (byA : AV) (nms : List Nat) (f : Nat → Nat → Nat) (s : Nat → Nat) : Prop where
  g : GrowN (enS (silc x)) 1 2 H byA nms
  nm : ∀ j, j < nms.length → 2 ≤ nms.getD j 0 ∧ nms.getD j 0 < H.next ∧ H.own (nms.getD j 0) = some (.cells (uvC (silc x) (f j)))
  nd : nms.Nodup
  o0 : H.own 0 = some (.cells (uvC (nst x) s))
  o1 : H.own 1 = some (.cells [.v (.int .i64 x.st), .v (.int .i64 x.s0), .v (.int .i64 x.inp), .v (.int .i64 x.out), .lst 4 (x.mv.map mvR) .unk, byA, .sl 1 0 0 (nst x)])
  n2 : 2 ≤ H.next
theorem SysO.push {x : Re} {H H2 : AH} {byA a2 : AV} {nms : List Nat} {s : Nat → Nat} (h : SysO x H byA nms (fun _ _ => 0) s) (hg : GrowN (enS (silc x)) 1 2 H2 a2 (nms ++ [H.next]))
    (ho : ∀ m, H2.own m = if m = 1 then some (.cells [.v (.int .i64 x.st), .v (.int .i64 x.s0), .v (.int .i64 x.inp), .v (.int .i64 x.out), .lst 4 (x.mv.map mvR) .unk, a2, .sl 1 0 0 (nst x)]) else if m = H.next then some (.cells (uvC (silc x) fun _ => 0)) else H.own m)
    (hn : H.next < H2.next) : SysO x H2 a2 (nms ++ [H.next]) (fun _ _ => 0) s := by
  have h2 := h.n2
  refine ⟨hg, fun j hj => ?_, ?_, ?_, ?_, by omega⟩
  · by_cases h1 : j < nms.length
    · obtain ⟨a, b, c⟩ := h.nm j h1
      rw [getD_append_left _ _ _ h1]
      exact ⟨a, by omega, by rw [ho, if_neg (by omega), if_neg (by omega)]; exact c⟩
    · have : j = nms.length := by simp at hj; omega
      subst this
      rw [getD_append_len]
      exact ⟨h2, hn, by rw [ho, if_neg (by omega), if_pos rfl]⟩
  · rw [List.nodup_append]
    refine ⟨h.nd, by simp, fun a ha b hb => ?_⟩
    simp only [List.mem_singleton] at hb
    subst hb
    obtain ⟨j, hj, rfl⟩ := mem_getD ha
    have := (h.nm j hj).2.1
    show nms.getD j 0 ≠ _
    omega
  · rw [ho, if_neg (by omega), if_neg (by omega)]; exact h.o0
  · rw [ho, if_pos rfl]
theorem nodup_getD {l : List Nat} (h : l.Nodup) {i j : Nat} (hi : i < l.length) (hj : j < l.length) (he : l.getD i 0 = l.getD j 0) : i = j := by
  rw [List.getD_eq_getElem?_getD, List.getD_eq_getElem?_getD, List.getElem?_eq_getElem hi, List.getElem?_eq_getElem hj] at he
  exact (List.getElem_inj (h₀ := hi) (h₁ := hj) h).mp he
theorem GrowN.tips {α : Type} {enc : α → List AV} {k N : Nat} {H H' : AH} {a : AV} {l : List α} (h : GrowN enc k N H a l) (hn : H.next ≤ H'.next) (ht : H'.tip = H.tip) : GrowN enc k N H' a l := by
  rcases h with h | ⟨t, h1, h2, h3, h4⟩
  · exact .inl h
  · exact .inr ⟨t, h1, Nat.lt_of_lt_of_le h2 hn, h3, by rw [ht]; exact h4⟩
theorem SysO.setBy {x : Re} {H H2 : AH} {byA : AV} {nms : List Nat} {f f' : Nat → Nat → Nat} {s : Nat → Nat} (h : SysO x H byA nms f s) {a : Nat} (ha : a < nms.length) 
    (ho : ∀ m, m < H.next → H2.own m = if m = nms.getD a 0 then some (.cells (uvC (silc x) (f' a))) else H.own m) (hf : ∀ j, j ≠ a → f' j = f j)
    (hn : H.next ≤ H2.next) (ht : H2.tip = H.tip) : SysO x H2 byA nms f' s := by
  have h2 := h.n2
  have hna := h.nm a ha
  refine ⟨h.g.tips hn ht, fun j hj => ?_, h.nd, ?_, ?_, by omega⟩
  · obtain ⟨p, q, r⟩ := h.nm j hj
    refine ⟨p, by omega, ?_⟩
    rw [ho _ q]
    by_cases hja : j = a
    · subst hja; rw [if_pos rfl]
    · rw [if_neg fun e => hja (nodup_getD h.nd hj ha e), hf j hja]; exact r
  · rw [ho 0 (by omega), if_neg (by omega)]; exact h.o0
  · rw [ho 1 (by omega), if_neg (by omega)]; exact h.o1
theorem SysO.setSil {x : Re} {H H2 : AH} {byA : AV} {nms : List Nat} {f : Nat → Nat → Nat} {s s' : Nat → Nat} (h : SysO x H byA nms f s) 
    (ho : ∀ m, m < H.next → H2.own m = if m = 0 then some (.cells (uvC (nst x) s')) else H.own m) (hn : H.next ≤ H2.next) (ht : H2.tip = H.tip) : SysO x H2 byA nms f s' := by
  have h2 := h.n2
  refine ⟨h.g.tips hn ht, fun j hj => ?_, h.nd, ?_, ?_, by omega⟩
  · obtain ⟨p, q, r⟩ := h.nm j hj
    exact ⟨p, by omega, by rw [ho _ q, if_neg (by omega)]; exact r⟩
  · rw [ho 0 (by omega), if_pos rfl]
  · rw [ho 1 (by omega), if_neg (by omega)]; exact h.o1
theorem shlN {n : Nat} (h : n < 10) : IntKind.u64.wrap (1 * 2 ^ (min n IntKind.u64.bits)) = ((2 ^ n : Nat) : Int) := by
  have := shlU h
  rwa [Int.toNat_natCast] at this
theorem silP_succ (x : Re) {k : Nat} (h : k < x.mv.length) (a : Nat) : silP (x.mv.take (k + 1)) a = if decide ((x.mv.getD k default).kd = 2) && decide ((x.mv.getD k default).fr = (a : Int)) then silP (x.mv.take k) a ||| 2 ^ (x.mv.getD k default).to.toNat else silP (x.mv.take k) a := by
  unfold silP; rw [foldl_succ _ _ h]
theorem byP_succ (x : Re) {k : Nat} (h : k < x.mv.length) (a e : Nat) : byP x (x.mv.take (k + 1)) a e = if decide ((x.mv.getD k default).kd ≠ 2) && decide ((x.mv.getD k default).fr = (a : Int)) && decide (evM x (x.mv.getD k default) = (e : Int)) then byP x (x.mv.take k) a e ||| 2 ^ (x.mv.getD k default).to.toNat else byP x (x.mv.take k) a e := by
  unfold byP; rw [foldl_succ _ _ h]
theorem viewU {H : AH} {n k : Nat} {f : Nat → Nat} (h : H.own n = some (.cells (uvC k f))) : View H (.sl 1 n 0 k) (rowU k f) := by
  have hg : ∀ i, i < k → ((List.range k).map fun e => [uv (f e)]).getD i [] = [uv (f i)] := fun i hi => getD_range _ _ _ hi
  refine View.sl h (by rw [uvC_len]; omega) (by simp) (fun i hi => by rw [hg i hi]; rfl) fun i j hi hj => ?_
  have hj0 : j = 0 := by omega
  subst hj0
  rw [hg i hi]
  have : (uvC k f).getD (0 + i * 1 + 0) .any = uv (f i) := by
    unfold uvC
    rw [List.getD_eq_getElem?_getD, List.getElem?_map, List.getElem?_range (by omega)]
    simp [uv]
  rw [this]
  exact (FZ.v _).view
theorem viewSys {x : Re} {H : AH} {nms : List Nat} {t : Nat} (h : SysO x H (.lst 1 (nms.map (enS (silc x))) (.live t)) nms (byM x) (silM x)) (hl : nms.length = nst x) : View H (.ptr 1 0) (sysV x) := by
  have hby : View H (.lst 1 (nms.map (enS (silc x))) (.live t)) (byV x) := by
    have hg : ∀ i, i < nst x → ((List.range (nst x)).map fun a => [rowU (silc x) (byM x a)]).getD i [] = [rowU (silc x) (byM x i)] := fun i hi => getD_range _ _ _ hi
    have hg' : ∀ i, i < nst x → (nms.map (enS (silc x))).getD i [] = [.sl 1 (nms.getD i 0) 0 (silc x)] := fun i hi => getD_map (enS (silc x)) nms i (by omega)
    refine View.lst (by simp [hl]) (fun i hi => ?_) fun i j hi hj => ?_
    · rw [hg i (by simpa [hl] using hi), hg' i (by simpa [hl] using hi)]; rfl
    · have hj0 : j = 0 := by omega
      subst hj0
      have hi' : i < nst x := by simpa [hl] using hi
      rw [hg i hi', hg' i hi']
      exact viewU (h.nm i (by omega)).2.2
  refine View.ptr h.o1 (by simp [sysL, reL]) fun j hj => ?_
  have hj7 : j < 7 := by simpa [sysL, reL] using hj
  match j, hj7 with
  | 0, _ => exact (FZ.v _).view
  | 1, _ => exact (FZ.v _).view
  | 2, _ => exact (FZ.v _).view
  | 3, _ => exact (FZ.v _).view
  | 4, _ => exact (FZ.mvsV x.mv).view
  | 5, _ => exact hby
  | 6, _ => exact viewU h.o0
set_option maxHeartbeats 2000000 in
theorem system71 (x : Re) (hx : Ok x) : FCall Tryd.prog 71 [reV x] (· = sysV x) := by
  have hst := hx.st
  have hlen := hx.len
  have hinp := hx.inp
  have hout := hx.out
  have hsc := silc_le hx
  have hn10 := hx.n
  have en : x.st.toNat = nst x := rfl
  simp only [reV, reL, mvsV]
  refine ACall.enter [12] Cd.fn71 (by simp) ?_
  simp only [show (0 ≤ x.st ∧ x.st ≤ 140737488355328 ∧ ((8 : Nat) : Int) * x.st ≤ 2 ^ 47) = True from by simp; omega, en, mkU, Cd.cd71, Tk.t71, base0, base1, base2, base3, Option.isNone_none, Option.isNone_some, Nat.reduceBEq, true_or, or_true, false_or, or_false, Nat.reduceLT, Nat.reduceMod, Nat.reducePow, rmaps, nsucc, List.flatten_cons, List.flatten_nil, Nat.reduceEqDiff, Nat.reduceLeDiff, Nat.reduceAdd, Nat.reduceMul, Nat.reduceSub, ↓reduceIte, reduceCtorEq, decide_true, decide_false]
  refine LWP.loop [] (fun m f H' => ∃ i byA nms, m = nst x - i ∧ (i ≤ nst x) ∧ (nms.length = i) ∧ (SysO x H' byA nms (fun _ _ => 0) (fun _ => 0)) ∧ f.t 1 = .box [.v (.int .i64 x.st), .v (.int .i64 x.s0), .v (.int .i64 x.inp), .v (.int .i64 x.out), .lst 4 (x.mv.map mvR) .unk] ∧ f.t 3 = .ptr 1 0 ∧ f.t 14 = .v (.int .i64 x.st) ∧ f.t 15 = .v (.int .i64 (i : Nat)) ∧ f.ds = [] ∧ True) ?_ ?_ (m := nst x - (0))
  · exact ⟨0, nilS, [], rfl, (by omega), (rfl), (⟨.inl ⟨rfl, .inl rfl⟩, fun j hj => by simp at hj, List.nodup_nil, by simp [AH.none], by simp [AH.none, nilS], by simp [AH.none]⟩), rfl, rfl, rfl, rfl, rfl, trivial⟩
  · rintro m f H' ⟨i, byA, nms, rfl, hi, hl, hS, f1, f3, f14, f15, hds, hH⟩
    have ho1 := hS.o1
    have hn2 := hS.n2
    by_cases hlt : i < nst x
    · have hr : roomA 24 (nms.length + 1) = true := room_of (by omega) (by omega)
      have hmk : (0 ≤ ((silc x : Nat) : Int) ∧ ((silc x : Nat) : Int) ≤ 140737488355328 ∧ ((8 : Nat) : Int) * ((silc x : Nat) : Int) ≤ 2 ^ 47) = True := by simp; omega
      have hx1 : decide (((i : Nat) : Int) < x.st) = true := decide_eq_true (by unfold nst at hlt; omega)
      rcases hS.g with ⟨h0, rfl | rfl⟩ | ⟨t, t1, t2, rfl, t4⟩
      · have h1n : (1 = H'.next) = False := by simp; omega
        simp only [hx1, nilS, ho1, silc_eq hx, hmk, Int.toNat_natCast, mkU, show roomA 24 1 = true from rfl, h1n, f1, f3, f14, f15, hds, Cd.cd71, Tk.t71, base0, base1, base2, base3, Option.isNone_none, Option.isNone_some, Nat.reduceBEq, true_or, or_true, false_or, or_false, Nat.reduceLT, Nat.reduceMod, Nat.reducePow, rmaps, nsucc, List.flatten_cons, List.flatten_nil, Nat.reduceEqDiff, Nat.reduceLeDiff, Nat.reduceAdd, Nat.reduceMul, Nat.reduceSub, ↓reduceIte, reduceCtorEq, decide_true, decide_false]
        refine ⟨_, by omega, i + 1, _, _, rfl, by omega, by simp [hl], hS.push (.inr ⟨H'.next + 1, by omega, by simp, by rw [h0]; rfl, by rw [h0]; simp⟩) (fun m => rfl) (show H'.next < H'.next + 1 + 1 by omega), by rw [wrapS (by omega)]⟩
      · have h1n : (1 = H'.next) = False := by simp; omega
        simp only [hx1, ho1, silc_eq hx, hmk, Int.toNat_natCast, mkU, show roomA 24 1 = true from rfl, h1n, f1, f3, f14, f15, hds, Cd.cd71, Tk.t71, base0, base1, base2, base3, Option.isNone_none, Option.isNone_some, Nat.reduceBEq, true_or, or_true, false_or, or_false, Nat.reduceLT, Nat.reduceMod, Nat.reducePow, rmaps, nsucc, List.flatten_cons, List.flatten_nil, Nat.reduceEqDiff, Nat.reduceLeDiff, Nat.reduceAdd, Nat.reduceMul, Nat.reduceSub, ↓reduceIte, reduceCtorEq, decide_true, decide_false]
        refine ⟨_, by omega, i + 1, _, _, rfl, by omega, by simp [hl], hS.push (.inr ⟨H'.next + 1, by omega, by simp, by rw [h0]; rfl, by rw [h0]; simp⟩) (fun m => rfl) (show H'.next < H'.next + 1 + 1 by omega), by rw [wrapS (by omega)]⟩
      · have h1n : (1 = H'.next) = False := by simp; omega
        simp only [hx1, ho1, silc_eq hx, hmk, Int.toNat_natCast, mkU, t4, hr, List.length_map, h1n, f1, f3, f14, f15, hds, Cd.cd71, Tk.t71, base0, base1, base2, base3, Option.isNone_none, Option.isNone_some, Nat.reduceBEq, true_or, or_true, false_or, or_false, Nat.reduceLT, Nat.reduceMod, Nat.reducePow, rmaps, nsucc, List.flatten_cons, List.flatten_nil, Nat.reduceEqDiff, Nat.reduceLeDiff, Nat.reduceAdd, Nat.reduceMul, Nat.reduceSub, ↓reduceIte, reduceCtorEq, decide_true, decide_false]
        refine ⟨_, by omega, i + 1, _, _, rfl, by omega, by simp [hl], hS.push (.inr ⟨t, t1, by simp; omega, by simp [enS], by simp⟩) (fun m => rfl) (by simp), by rw [wrapS (by omega)]⟩
    · have hi' : i = nst x := by omega
      have hx1 : decide (((i : Nat) : Int) < x.st) = false := decide_eq_false (by unfold nst at hlt; omega)
      have hlS : nms.length = nst x := by omega
      have hS0 : SysO x H' byA nms (fun a e => byP x (x.mv.take 0) a e) (fun a => silP (x.mv.take 0) a) := hS
      simp only [hx1, List.length_map, f1, f3, f14, f15, hds, Cd.cd71, Tk.t71, base0, base1, base2, base3, Option.isNone_none, Option.isNone_some, Nat.reduceBEq, true_or, or_true, false_or, or_false, Nat.reduceLT, Nat.reduceMod, Nat.reducePow, rmaps, nsucc, List.flatten_cons, List.flatten_nil, Nat.reduceEqDiff, Nat.reduceLeDiff, Nat.reduceAdd, Nat.reduceMul, Nat.reduceSub, ↓reduceIte, reduceCtorEq, decide_true, decide_false]
      refine LWP.loop [] (fun m f H' => ∃ k, m = x.mv.length - k ∧ (k ≤ x.mv.length) ∧ (SysO x H' byA nms (fun a e => byP x (x.mv.take k) a e) (fun a => silP (x.mv.take k) a)) ∧ f.t 1 = .box [.v (.int .i64 x.st), .v (.int .i64 x.s0), .v (.int .i64 x.inp), .v (.int .i64 x.out), .lst 4 (x.mv.map mvR) .unk] ∧ f.t 3 = .ptr 1 0 ∧ f.t 34 = .lst 4 (x.mv.map mvR) .unk ∧ f.t 35 = .v (.int .i64 (x.mv.length : Nat)) ∧ f.t 36 = .v (.int .i64 (k : Nat)) ∧ f.ds = [] ∧ True) ?_ ?_ (m := x.mv.length - (0))
      · exact ⟨0, rfl, (by omega), (hS0), f1, f3, (by first | rfl | exact f34), (by first | rfl | exact f35), (by first | rfl | exact f36), rfl, trivial⟩
      · rintro m f H' ⟨k, rfl, hki, hS, f1, f3, f34, f35, f36, hds, hH⟩
        have ho1 := hS.o1
        have ho0 := hS.o0
        have hn2 := hS.n2
        by_cases hklt : k < x.mv.length
        · have hgm := getD_map mvR x.mv k hklt
          have hmm := getD_mem (l := x.mv) hklt
          have hsS := silP_succ x hklt
          have hsB := byP_succ x hklt
          generalize hm : x.mv.getD k default = mk at hgm hmm hsS hsB
          have hmo := hx.mv mk hmm
          obtain ⟨tn, htn⟩ : ∃ tn : Nat, mk.to = (tn : Int) := ⟨_, (Int.toNat_of_nonneg hmo.to.1).symm⟩
          obtain ⟨an, han⟩ : ∃ an : Nat, mk.fr = (an : Int) := ⟨_, (Int.toNat_of_nonneg hmo.fr.1).symm⟩
          have htl : tn < nst x := by have := hmo.to; unfold nst; omega
          have hal : an < nst x := by have := hmo.fr; unfold nst; omega
          have hsub : ∀ m ∈ x.mv.take k, m ∈ x.mv := fun m h => List.mem_of_mem_take h
          have hp2 : 2 ^ tn < 1024 := (Nat.pow_lt_pow_right (by omega : 1 < 2) (show tn < 10 by omega) : 2 ^ tn < 2 ^ 10)
          have hnx1 : (0 = H'.next) = False := by simp; omega
          have hnx2 : (1 = H'.next) = False := by simp; omega
          rcases hS.g with ⟨h0, _⟩ | ⟨t, t1, t2, rfl, t4⟩
          · rw [h0] at hlS; simp at hlS; omega
          have htl10 : tn < 10 := by omega
          have hnl : an < nms.length := by omega
          have hgn : (nms.map (enS (silc x))).getD an [] = [.sl 1 (nms.getD an 0) 0 (silc x)] := getD_map (enS (silc x)) nms an hnl
          obtain ⟨nm1, nm2, nm3⟩ := hS.nm an hnl
          generalize hnm : nms.getD an 0 = nm at hgn nm1 nm2 nm3
          have nmn : (nm = H'.next) = False := by simp; omega
          by_cases k0 : mk.kd = 0
          · have hlb := hmo.lb
            unfold labels at hlb
            rw [if_pos k0] at hlb
            have hev : evM x mk = mk.lb := by unfold evM; rw [if_pos k0]
            obtain ⟨en, hen⟩ : ∃ en : Nat, evM x mk = (en : Int) := ⟨_, (Int.toNat_of_nonneg (by rw [hev]; omega)).symm⟩
            rw [hev] at hen
            have hel : en < silc x := by unfold silc; omega
            have eb : (fun a e => byP x (x.mv.take (k + 1)) a e) = fun a e => if a = an ∧ e = en then byP x (x.mv.take k) an en ||| 2 ^ tn else byP x (x.mv.take k) a e := by
              funext a e
              rw [hsB, k0, htn, han, hev, hen, Int.toNat_natCast]
              by_cases q : a = an ∧ e = en
              · obtain ⟨rfl, rfl⟩ := q
                simp
              · rw [if_neg q, if_neg]
                simp only [Bool.and_eq_true, decide_eq_true_eq, not_and]
                intro h1 h2; exact q ⟨by omega, by omega⟩
            have es : (fun a => silP (x.mv.take (k + 1)) a) = fun a => silP (x.mv.take k) a := by
              funext a
              rw [hsS, k0]; simp
            simp only [List.length_map, ltT hklt, inR hklt, Int.toNat_natCast, hgm, mvR, show (mk.kd == 0) = true from beq_iff_eq.mpr k0, htn, han, hen, show ((tn : Int) < 0) = False from by simp, hnx1, hnx2, ho1, hgn, inR hnl, inR hel, nm3, nmn, Nat.mul_one, Nat.zero_add, uvC_drop _ hel, shlN htl10, orU (hx.pw (byP_lt hx hsub an en)) hp2, uvC_len, show (en + 1 ≤ silc x) = True from by simp only [eq_iff_iff, iff_true]; omega, uvC_set _ _ hel, f1, f3, f34, f35, f36, hds, Cd.cd71, Tk.t71, base0, base1, base2, base3, Option.isNone_none, Option.isNone_some, Nat.reduceBEq, true_or, or_true, false_or, or_false, Nat.reduceLT, Nat.reduceMod, Nat.reducePow, rmaps, nsucc, List.flatten_cons, List.flatten_nil, Nat.reduceEqDiff, Nat.reduceLeDiff, Nat.reduceAdd, Nat.reduceMul, Nat.reduceSub, ↓reduceIte, reduceCtorEq, decide_true, decide_false]
            refine ⟨_, by omega, k + 1, rfl, by omega, ?_, by rw [wrapS (by omega)]⟩
            rw [es, eb]
            refine hS.setBy (a := an) (by omega) (fun m hm => ?_) (fun j hj => by funext e; simp [hj]) (by show H'.next ≤ H'.next + 1; omega) rfl
            simp only [show ¬ m = H'.next by omega, if_false, true_and]
            rw [hnm]
          · by_cases k1 : mk.kd = 1
            · have hlb := hmo.lb
              unfold labels at hlb
              rw [if_neg k0, if_pos k1] at hlb
              have hev : evM x mk = x.inp + mk.lb := by unfold evM; rw [if_neg k0]
              obtain ⟨en, hen⟩ : ∃ en : Nat, evM x mk = (en : Int) := ⟨_, (Int.toNat_of_nonneg (by rw [hev]; omega)).symm⟩
              rw [hev] at hen
              have hel : en < silc x := by unfold silc; omega
              have eb : (fun a e => byP x (x.mv.take (k + 1)) a e) = fun a e => if a = an ∧ e = en then byP x (x.mv.take k) an en ||| 2 ^ tn else byP x (x.mv.take k) a e := by
                funext a e
                rw [hsB, k1, htn, han, hev, hen, Int.toNat_natCast]
                by_cases q : a = an ∧ e = en
                · obtain ⟨rfl, rfl⟩ := q
                  simp
                · rw [if_neg q, if_neg]
                  simp only [Bool.and_eq_true, decide_eq_true_eq, not_and]
                  intro h1 h2; exact q ⟨by omega, by omega⟩
              have es : (fun a => silP (x.mv.take (k + 1)) a) = fun a => silP (x.mv.take k) a := by
                funext a
                rw [hsS, k1]; simp
              simp only [List.length_map, ltT hklt, inR hklt, Int.toNat_natCast, hgm, mvR, show (mk.kd == 0) = false from beq_eq_false_iff_ne.mpr k0, show (mk.kd == 1) = true from beq_iff_eq.mpr k1, show IntKind.i64.wrap ((en : Nat) : Int) = ((en : Nat) : Int) from wrapI (by omega) (by omega), htn, han, hen, show ((tn : Int) < 0) = False from by simp, hnx1, hnx2, ho1, hgn, inR hnl, inR hel, nm3, nmn, Nat.mul_one, Nat.zero_add, uvC_drop _ hel, shlN htl10, orU (hx.pw (byP_lt hx hsub an en)) hp2, uvC_len, show (en + 1 ≤ silc x) = True from by simp only [eq_iff_iff, iff_true]; omega, uvC_set _ _ hel, f1, f3, f34, f35, f36, hds, Cd.cd71, Tk.t71, base0, base1, base2, base3, Option.isNone_none, Option.isNone_some, Nat.reduceBEq, true_or, or_true, false_or, or_false, Nat.reduceLT, Nat.reduceMod, Nat.reducePow, rmaps, nsucc, List.flatten_cons, List.flatten_nil, Nat.reduceEqDiff, Nat.reduceLeDiff, Nat.reduceAdd, Nat.reduceMul, Nat.reduceSub, ↓reduceIte, reduceCtorEq, decide_true, decide_false]
              refine ⟨_, by omega, k + 1, rfl, by omega, ?_, by rw [wrapS (by omega)]⟩
              rw [es, eb]
              refine hS.setBy (a := an) (by omega) (fun m hm => ?_) (fun j hj => by funext e; simp [hj]) (by show H'.next ≤ H'.next + 1; omega) rfl
              simp only [show ¬ m = H'.next by omega, if_false, true_and]
              rw [hnm]
            · have k2 : mk.kd = 2 := by rcases hmo.kd with h | h | h <;> omega
              have es : (fun a => silP (x.mv.take (k + 1)) a) = fun a => if a = an then silP (x.mv.take k) an ||| 2 ^ tn else silP (x.mv.take k) a := by
                funext a
                rw [hsS, k2, htn, han, Int.toNat_natCast]
                by_cases q : a = an
                · subst q; simp
                · rw [if_neg q, if_neg]
                  simp only [Bool.and_eq_true, decide_eq_true_eq, not_and]
                  intro h1 h2; exact q (by omega)
              have eb : (fun a e => byP x (x.mv.take (k + 1)) a e) = fun a e => byP x (x.mv.take k) a e := by
                funext a e
                rw [hsB, k2]; simp
              simp only [List.length_map, ltT hklt, inR hklt, Int.toNat_natCast, hgm, mvR, show (mk.kd == 0) = false from beq_eq_false_iff_ne.mpr k0, show (mk.kd == 1) = false from beq_eq_false_iff_ne.mpr k1, htn, han, show ((tn : Int) < 0) = False from by simp, hnx1, hnx2, ho1, ho0, inR hal, Nat.mul_one, Nat.zero_add, uvC_drop _ hal, shlN htl10, orU (hx.pw (silP_lt hx hsub an)) hp2, uvC_len, show (an + 1 ≤ nst x) = True from by simp only [eq_iff_iff, iff_true]; omega, uvC_set _ _ hal, f1, f3, f34, f35, f36, hds, Cd.cd71, Tk.t71, base0, base1, base2, base3, Option.isNone_none, Option.isNone_some, Nat.reduceBEq, true_or, or_true, false_or, or_false, Nat.reduceLT, Nat.reduceMod, Nat.reducePow, rmaps, nsucc, List.flatten_cons, List.flatten_nil, Nat.reduceEqDiff, Nat.reduceLeDiff, Nat.reduceAdd, Nat.reduceMul, Nat.reduceSub, ↓reduceIte, reduceCtorEq, decide_true, decide_false]
              refine ⟨_, by omega, k + 1, rfl, by omega, ?_, by rw [wrapS (by omega)]⟩
              rw [es, eb]
              refine hS.setSil (fun m hm => ?_) (by show H'.next ≤ H'.next + 1; omega) rfl
              simp only [show ¬ m = H'.next by omega, if_false]
        · have hk' : k = x.mv.length := by omega
          simp only [List.length_map, ltF hklt, f1, f3, f34, f35, f36, hds, Cd.cd71, Tk.t71, base0, base1, base2, base3, Option.isNone_none, Option.isNone_some, Nat.reduceBEq, true_or, or_true, false_or, or_false, Nat.reduceLT, Nat.reduceMod, Nat.reducePow, rmaps, nsucc, List.flatten_cons, List.flatten_nil, Nat.reduceEqDiff, Nat.reduceLeDiff, Nat.reduceAdd, Nat.reduceMul, Nat.reduceSub, ↓reduceIte, reduceCtorEq, decide_true, decide_false]
          rw [hk', List.take_length] at hS
          rcases hS.g with ⟨h0, _⟩ | ⟨t, t1, t2, rfl, t4⟩
          · rw [h0] at hlS; simp at hlS; omega
          exact ⟨_, _, rfl, viewSys hS (by omega), FZ.sysV x, rfl⟩
end Go.Proofs.YtchpcjmgifnmdaaDoor

/- Walks: traces and sets are checked; the states after a trace, what a set can show. -/
namespace Go.Proofs.YtchpcjmgifnmdaaDoor
open Go Go.Proofs.YtchpcjmgifnmdaaDoor.Ab
set_option maxRecDepth 100000
set_option linter.unusedSimpArgs false

theorem nil_view {H : AH} : View H nilS nilS := (FZ.v _).view
theorem FZ.nilS : FZ nilS := FZ.v _
def oddB (x : Re) (e : Int) : Bool := !within e 0 (IntKind.i64.wrap (x.inp + x.out))
theorem odd109 (x : Re) (e : Int) : FCall Tryd.prog 109 [.v (.int .i64 e), .box (reL x)] (· = .v (.bool (oddB x e))) := by
  simp only [reL, mvsV]
  refine ACall.enter [] Cd.fn109 (by simp) ?_
  simp only [Cd.cd109, Tk.t109, base0, base1, base2, base3, Option.isNone_none, Option.isNone_some, Nat.reduceBEq, true_or, or_true, false_or, or_false, Nat.reduceLT, Nat.reduceMod, Nat.reducePow, rmaps, nsucc, List.flatten_cons, List.flatten_nil, Nat.reduceEqDiff, Nat.reduceLeDiff, Nat.reduceAdd, Nat.reduceMul, Nat.reduceSub, ↓reduceIte, reduceCtorEq, decide_true, decide_false]
  first | refine FCall.go (spans66 _ _ _) (FZs.v3 _ _ _) ?_ | refine FCall.go' (spans66 _ _ _) (FZs.v3 _ _ _) ?_ | refine FCall.goQ (spans66 _ _ _) (FZs.v3 _ _ _) ?_
  simp only [Cd.cd109, Tk.t109, base0, base1, base2, base3, Option.isNone_none, Option.isNone_some, Nat.reduceBEq, true_or, or_true, false_or, or_false, Nat.reduceLT, Nat.reduceMod, Nat.reducePow, rmaps, nsucc, List.flatten_cons, List.flatten_nil, Nat.reduceEqDiff, Nat.reduceLeDiff, Nat.reduceAdd, Nat.reduceMul, Nat.reduceSub, ↓reduceIte, reduceCtorEq, decide_true, decide_false]
  exact fin_v rfl
def ixI (l : List Int) (p : Int → Bool) : Option Nat := firstIx l.length fun i => p (l.getD i 0)
theorem index123 (l : List Int) (fn : FuncId) (cs : List AV) (p : Int → Bool) (hb : l.length < 2 ^ 40) (hz : FZs cs) (hf : ∀ x, FCall Tryd.prog fn (.v (.int .i64 x) :: cs) (· = .v (.bool (p x)))) :
    FCall Tryd.prog 123 [ints l, .fn (.func fn) [] cs] (· = .v (.int .i64 (match ixI l p with | some i => (i : Int) | none => -1))) := by
  simp only [ints]
  refine ACall.enter [] Cd.fn123 (by simp) ?_
  simp only [List.length_map, Cd.cd123, Tk.t123, base0, base1, base2, base3, Option.isNone_none, Option.isNone_some, Nat.reduceBEq, true_or, or_true, false_or, or_false, Nat.reduceLT, Nat.reduceMod, Nat.reducePow, rmaps, nsucc, List.flatten_cons, List.flatten_nil, Nat.reduceEqDiff, Nat.reduceLeDiff, Nat.reduceAdd, Nat.reduceMul, Nat.reduceSub, ↓reduceIte, reduceCtorEq, decide_true, decide_false]
  refine LWP.loop [] (fun m f H' => ∃ i, m = l.length - i ∧ (i ≤ l.length) ∧ (∀ j, j < i → p (l.getD j 0) = false) ∧ f.t 0 = .lst 1 (l.map fun x => [.v (.int .i64 x)]) .unk ∧ f.t 1 = .fn (.func fn) [] cs ∧ f.t 7 = .v (.int .i64 (l.length : Nat)) ∧ f.t 8 = .v (.int .i64 (i : Nat)) ∧ f.ds = [] ∧ H' = AH.none) ?_ ?_ (m := l.length - (0))
  · exact ⟨0, rfl, (by omega), (fun j hj => by omega), rfl, rfl, rfl, rfl, rfl, rfl⟩
  · rintro m f H' ⟨i, rfl, hi, hok, f0, f1, f7, f8, hds, rfl⟩
    by_cases hlt : i < l.length
    · simp only [List.length_map, ltT hlt, inR hlt, Int.toNat_natCast, getD_ints l i hlt, f0, f1, f7, f8, hds, Cd.cd123, Tk.t123, base0, base1, base2, base3, Option.isNone_none, Option.isNone_some, Nat.reduceBEq, true_or, or_true, false_or, or_false, Nat.reduceLT, Nat.reduceMod, Nat.reducePow, rmaps, nsucc, List.flatten_cons, List.flatten_nil, Nat.reduceEqDiff, Nat.reduceLeDiff, Nat.reduceAdd, Nat.reduceMul, Nat.reduceSub, ↓reduceIte, reduceCtorEq, decide_true, decide_false]
      refine (hf (l.getD i 0)).go (FZs.cons (FZ.v _) hz) ?_
      cases hp : p (l.getD i 0)
      · simp only [f0, f1, f7, f8, hds, Cd.cd123, Tk.t123, base0, base1, base2, base3, Option.isNone_none, Option.isNone_some, Nat.reduceBEq, true_or, or_true, false_or, or_false, Nat.reduceLT, Nat.reduceMod, Nat.reducePow, rmaps, nsucc, List.flatten_cons, List.flatten_nil, Nat.reduceEqDiff, Nat.reduceLeDiff, Nat.reduceAdd, Nat.reduceMul, Nat.reduceSub, ↓reduceIte, reduceCtorEq, decide_true, decide_false]
        refine ⟨_, by omega, i + 1, rfl, by omega, ?_⟩
        (repeat' apply And.intro) <;> first | rfl | (rw [wrapS (by omega)]) | omega | assumption | (exact allS hok hp)
      · simp only [f0, f1, f7, f8, hds, Cd.cd123, Tk.t123, base0, base1, base2, base3, Option.isNone_none, Option.isNone_some, Nat.reduceBEq, true_or, or_true, false_or, or_false, Nat.reduceLT, Nat.reduceMod, Nat.reducePow, rmaps, nsucc, List.flatten_cons, List.flatten_nil, Nat.reduceEqDiff, Nat.reduceLeDiff, Nat.reduceAdd, Nat.reduceMul, Nat.reduceSub, ↓reduceIte, reduceCtorEq, decide_true, decide_false]
        refine fin_v ?_
        rw [show ixI l p = some i from firstIx_some hlt hp hok]
    · have hk' : i = l.length := by omega
      simp only [List.length_map, ltF hlt, f0, f1, f7, f8, hds, Cd.cd123, Tk.t123, base0, base1, base2, base3, Option.isNone_none, Option.isNone_some, Nat.reduceBEq, true_or, or_true, false_or, or_false, Nat.reduceLT, Nat.reduceMod, Nat.reducePow, rmaps, nsucc, List.flatten_cons, List.flatten_nil, Nat.reduceEqDiff, Nat.reduceLeDiff, Nat.reduceAdd, Nat.reduceMul, Nat.reduceSub, ↓reduceIte, reduceCtorEq, decide_true, decide_false]
      refine fin_v ?_
      rw [show ixI l p = none from firstIx_none (by rw [← hk']; exact hok)]
theorem ixI_any (l : List Int) (p : Int → Bool) : decide ((match ixI l p with | some i => (i : Int) | none => -1) ≥ 0) = l.any p := by
  unfold ixI
  cases h : firstIx l.length (fun i => p (l.getD i 0)) with
  | none =>
    rw [firstIx_none_iff] at h
    rw [List.any_eq_false.mpr]
    · rfl
    · intro x hx
      obtain ⟨i, hi, rfl⟩ := mem_getD hx
      have := h i hi
      show ¬ p (l.getD i 0) = true
      rw [this]; simp
  | some i =>
    have h1 := List.find?_some h
    have h2 := List.mem_of_find?_eq_some h
    have hi := List.mem_range.mp h2
    rw [List.any_eq_true.mpr ⟨_, getD_mem hi, h1⟩]
    simp
theorem contains110 (l : List Int) (fn : FuncId) (cs : List AV) (p : Int → Bool) (hb : l.length < 2 ^ 40) (hz : FZs cs) (hf : ∀ x, FCall Tryd.prog fn (.v (.int .i64 x) :: cs) (· = .v (.bool (p x)))) :
    FCall Tryd.prog 110 [ints l, .fn (.func fn) [] cs] (· = .v (.bool (l.any p))) := by
  refine ACall.enter [] Cd.fn110 (by simp) ?_
  simp only [Cd.cd110, Tk.t110, base0, base1, base2, base3, Option.isNone_none, Option.isNone_some, Nat.reduceBEq, true_or, or_true, false_or, or_false, Nat.reduceLT, Nat.reduceMod, Nat.reducePow, rmaps, nsucc, List.flatten_cons, List.flatten_nil, Nat.reduceEqDiff, Nat.reduceLeDiff, Nat.reduceAdd, Nat.reduceMul, Nat.reduceSub, ↓reduceIte, reduceCtorEq, decide_true, decide_false]
  refine (index123 l fn cs p hb hz hf).go (FZs.two (FZ.ints _) (FZ.fn FZs.nil hz)) ?_
  simp only [Cd.cd110, Tk.t110, base0, base1, base2, base3, Option.isNone_none, Option.isNone_some, Nat.reduceBEq, true_or, or_true, false_or, or_false, Nat.reduceLT, Nat.reduceMod, Nat.reducePow, rmaps, nsucc, List.flatten_cons, List.flatten_nil, Nat.reduceEqDiff, Nat.reduceLeDiff, Nat.reduceAdd, Nat.reduceMul, Nat.reduceSub, ↓reduceIte, reduceCtorEq, decide_true, decide_false]
  exact fin_v (by rw [← ixI_any])
def trErr (x : Re) (tr : List Int) : Int := if 40 < tr.length then 2 else if tr.any (oddB x) then 3 else 0
theorem traceErr77 (x : Re) (tr : List Int) : FCall Tryd.prog 77 [reV x, ints tr] (· = .v (.int .i64 (trErr x tr))) := by
  have hb : FZ (.box (reL x)) := FZ.box (FZs.reL x)
  have hbe : AV.box (reL x) = .box [.v (.int .i64 x.st), .v (.int .i64 x.s0), .v (.int .i64 x.inp), .v (.int .i64 x.out), .lst 4 (x.mv.map mvR) .unk] := rfl
  simp only [reV, reL, mvsV]
  refine ACall.enter [] Cd.fn77 (by simp) ?_
  by_cases hl : 40 < tr.length
  · simp only [ints, List.length_map, show decide (((tr.length : Nat) : Int) > 40) = true from decide_eq_true (by omega), Cd.cd77, Tk.t77, base0, base1, base2, base3, Option.isNone_none, Option.isNone_some, Nat.reduceBEq, true_or, or_true, false_or, or_false, Nat.reduceLT, Nat.reduceMod, Nat.reducePow, rmaps, nsucc, List.flatten_cons, List.flatten_nil, Nat.reduceEqDiff, Nat.reduceLeDiff, Nat.reduceAdd, Nat.reduceMul, Nat.reduceSub, ↓reduceIte, reduceCtorEq, decide_true, decide_false]
    exact fin_v (by rw [trErr, if_pos hl])
  · simp only [ints, List.length_map, show decide (((tr.length : Nat) : Int) > 40) = false from decide_eq_false (by omega), Cd.cd77, Tk.t77, base0, base1, base2, base3, Option.isNone_none, Option.isNone_some, Nat.reduceBEq, true_or, or_true, false_or, or_false, Nat.reduceLT, Nat.reduceMod, Nat.reducePow, rmaps, nsucc, List.flatten_cons, List.flatten_nil, Nat.reduceEqDiff, Nat.reduceLeDiff, Nat.reduceAdd, Nat.reduceMul, Nat.reduceSub, ↓reduceIte, reduceCtorEq, decide_true, decide_false]
    refine (contains110 tr 109 [.box (reL x)] (oddB x) (by omega) (FZs.one hb) (fun e => odd109 x e)).go (FZs.two (FZ.ints _) (FZ.fn FZs.nil (FZs.one hb))) ?_
    simp only [Cd.cd77, Tk.t77, base0, base1, base2, base3, Option.isNone_none, Option.isNone_some, Nat.reduceBEq, true_or, or_true, false_or, or_false, Nat.reduceLT, Nat.reduceMod, Nat.reducePow, rmaps, nsucc, List.flatten_cons, List.flatten_nil, Nat.reduceEqDiff, Nat.reduceLeDiff, Nat.reduceAdd, Nat.reduceMul, Nat.reduceSub, ↓reduceIte, reduceCtorEq, decide_true, decide_false]
    first | refine FCall.go (unless61 _ _) (FZs.v2 _ _) ?_ | refine FCall.go' (unless61 _ _) (FZs.v2 _ _) ?_ | refine FCall.goQ (unless61 _ _) (FZs.v2 _ _) ?_
    simp only [Cd.cd77, Tk.t77, base0, base1, base2, base3, Option.isNone_none, Option.isNone_some, Nat.reduceBEq, true_or, or_true, false_or, or_false, Nat.reduceLT, Nat.reduceMod, Nat.reducePow, rmaps, nsucc, List.flatten_cons, List.flatten_nil, Nat.reduceEqDiff, Nat.reduceLeDiff, Nat.reduceAdd, Nat.reduceMul, Nat.reduceSub, ↓reduceIte, reduceCtorEq, decide_true, decide_false]
    refine fin_v ?_
    rw [trErr, if_neg hl]
    cases tr.any (oddB x) <;> rfl
theorem trErr_ok {x : Re} (hx : Ok x) {tr : List Int} (h : trErr x tr = 0) : tr.length ≤ 40 ∧ ∀ e ∈ tr, 0 ≤ e ∧ e ≤ (silc x : Int) := by
  unfold trErr at h
  by_cases h1 : 40 < tr.length
  · rw [if_pos h1] at h; simp at h
  rw [if_neg h1] at h
  cases h2 : tr.any (oddB x)
  · refine ⟨by omega, fun e he => ?_⟩
    have := List.any_eq_false.mp h2 e he
    simp only [oddB, Bool.not_eq_true', Bool.not_eq_false, silc_eq hx] at this
    exact within_iff.mp this
  · rw [h2] at h; simp at h
def afterR (x : Re) (tr : List Int) : AV := if errR x ≠ 0 then .tup [nilS, .v (.int .i64 (errR x))] else if trErr x tr ≠ 0 then .tup [nilS, .v (.int .i64 (trErr x tr))] else .tup [setV (alongM x tr), .v (.int .i64 0)]
theorem afterTrace29 (x : Re) (tr : List Int) : FCall Tryd.prog 29 [reV x, ints tr] (· = afterR x tr) := by
  simp only [reV, reL, mvsV]
  refine ACall.enter [] Cd.fn29 (by simp) ?_
  simp only [Cd.cd29, Tk.t29, base0, base1, base2, base3, Option.isNone_none, Option.isNone_some, Nat.reduceBEq, true_or, or_true, false_or, or_false, Nat.reduceLT, Nat.reduceMod, Nat.reducePow, rmaps, nsucc, List.flatten_cons, List.flatten_nil, Nat.reduceEqDiff, Nat.reduceLeDiff, Nat.reduceAdd, Nat.reduceMul, Nat.reduceSub, ↓reduceIte, reduceCtorEq, decide_true, decide_false]
  first | refine FCall.go (sysErr70 x) (FZs.one (FZ.reV x)) ?_ | refine FCall.go' (sysErr70 x) (FZs.one (FZ.reV x)) ?_ | refine FCall.goQ (sysErr70 x) (FZs.one (FZ.reV x)) ?_
  by_cases h1 : errR x = 0
  · have hx := ok_of_check h1
    simp only [show (errR x != 0) = false from by rw [h1]; rfl, Cd.cd29, Tk.t29, base0, base1, base2, base3, Option.isNone_none, Option.isNone_some, Nat.reduceBEq, true_or, or_true, false_or, or_false, Nat.reduceLT, Nat.reduceMod, Nat.reducePow, rmaps, nsucc, List.flatten_cons, List.flatten_nil, Nat.reduceEqDiff, Nat.reduceLeDiff, Nat.reduceAdd, Nat.reduceMul, Nat.reduceSub, ↓reduceIte, reduceCtorEq, decide_true, decide_false]
    first | refine FCall.go (traceErr77 x tr) (FZs.two (FZ.reV x) (FZ.ints _)) ?_ | refine FCall.go' (traceErr77 x tr) (FZs.two (FZ.reV x) (FZ.ints _)) ?_ | refine FCall.goQ (traceErr77 x tr) (FZs.two (FZ.reV x) (FZ.ints _)) ?_
    by_cases h2 : trErr x tr = 0
    · obtain ⟨h3, h4⟩ := trErr_ok hx h2
      simp only [show (trErr x tr != 0) = false from by rw [h2]; rfl, Cd.cd29, Tk.t29, base0, base1, base2, base3, Option.isNone_none, Option.isNone_some, Nat.reduceBEq, true_or, or_true, false_or, or_false, Nat.reduceLT, Nat.reduceMod, Nat.reducePow, rmaps, nsucc, List.flatten_cons, List.flatten_nil, Nat.reduceEqDiff, Nat.reduceLeDiff, Nat.reduceAdd, Nat.reduceMul, Nat.reduceSub, ↓reduceIte, reduceCtorEq, decide_true, decide_false]
      first | refine FCall.go (system71 x hx) (FZs.one (FZ.reV x)) ?_ | refine FCall.go' (system71 x hx) (FZs.one (FZ.reV x)) ?_ | refine FCall.goQ (system71 x hx) (FZs.one (FZ.reV x)) ?_
      simp only [Cd.cd29, Tk.t29, base0, base1, base2, base3, Option.isNone_none, Option.isNone_some, Nat.reduceBEq, true_or, or_true, false_or, or_false, Nat.reduceLT, Nat.reduceMod, Nat.reducePow, rmaps, nsucc, List.flatten_cons, List.flatten_nil, Nat.reduceEqDiff, Nat.reduceLeDiff, Nat.reduceAdd, Nat.reduceMul, Nat.reduceSub, ↓reduceIte, reduceCtorEq, decide_true, decide_false]
      first | refine FCall.go (along78 x hx tr (by omega) (fun e he => (h4 e he).1)) (FZs.two (FZ.sysV x) (FZ.ints _)) ?_ | refine FCall.go' (along78 x hx tr (by omega) (fun e he => (h4 e he).1)) (FZs.two (FZ.sysV x) (FZ.ints _)) ?_ | refine FCall.goQ (along78 x hx tr (by omega) (fun e he => (h4 e he).1)) (FZs.two (FZ.sysV x) (FZ.ints _)) ?_
      simp only [Cd.cd29, Tk.t29, base0, base1, base2, base3, Option.isNone_none, Option.isNone_some, Nat.reduceBEq, true_or, or_true, false_or, or_false, Nat.reduceLT, Nat.reduceMod, Nat.reducePow, rmaps, nsucc, List.flatten_cons, List.flatten_nil, Nat.reduceEqDiff, Nat.reduceLeDiff, Nat.reduceAdd, Nat.reduceMul, Nat.reduceSub, ↓reduceIte, reduceCtorEq, decide_true, decide_false]
      first | refine FCall.go (states62 _ (hx.pw (along_lt hx tr))) (FZs.v1 _) ?_ | refine FCall.go' (states62 _ (hx.pw (along_lt hx tr))) (FZs.v1 _) ?_ | refine FCall.goQ (states62 _ (hx.pw (along_lt hx tr))) (FZs.v1 _) ?_
      simp only [Cd.cd29, Tk.t29, base0, base1, base2, base3, Option.isNone_none, Option.isNone_some, Nat.reduceBEq, true_or, or_true, false_or, or_false, Nat.reduceLT, Nat.reduceMod, Nat.reducePow, rmaps, nsucc, List.flatten_cons, List.flatten_nil, Nat.reduceEqDiff, Nat.reduceLeDiff, Nat.reduceAdd, Nat.reduceMul, Nat.reduceSub, ↓reduceIte, reduceCtorEq, decide_true, decide_false]
      refine ⟨_, _, rfl, Views.tup (Views.cons (FZ.setV _).view (Views.cons (FZ.v _).view Views.nil)), FZ.tup (FZs.two (FZ.setV _) (FZ.v _)), ?_⟩
      rw [afterR, if_neg (by simpa using h1), if_neg (by simpa using h2)]
    · simp only [bneT h2, Cd.cd29, Tk.t29, base0, base1, base2, base3, Option.isNone_none, Option.isNone_some, Nat.reduceBEq, true_or, or_true, false_or, or_false, Nat.reduceLT, Nat.reduceMod, Nat.reducePow, rmaps, nsucc, List.flatten_cons, List.flatten_nil, Nat.reduceEqDiff, Nat.reduceLeDiff, Nat.reduceAdd, Nat.reduceMul, Nat.reduceSub, ↓reduceIte, reduceCtorEq, decide_true, decide_false]
      refine ⟨_, _, rfl, Views.tup (Views.cons nil_view (Views.cons (FZ.v _).view Views.nil)), FZ.tup (FZs.two FZ.nilS (FZ.v _)), ?_⟩
      rw [afterR, if_neg (by simpa using h1), if_pos h2]
  · simp only [bneT h1, Cd.cd29, Tk.t29, base0, base1, base2, base3, Option.isNone_none, Option.isNone_some, Nat.reduceBEq, true_or, or_true, false_or, or_false, Nat.reduceLT, Nat.reduceMod, Nat.reducePow, rmaps, nsucc, List.flatten_cons, List.flatten_nil, Nat.reduceEqDiff, Nat.reduceLeDiff, Nat.reduceAdd, Nat.reduceMul, Nat.reduceSub, ↓reduceIte, reduceCtorEq, decide_true, decide_false]
    refine ⟨_, _, rfl, Views.tup (Views.cons nil_view (Views.cons (FZ.v _).view Views.nil)), FZ.tup (FZs.two FZ.nilS (FZ.v _)), ?_⟩
    rw [afterR, if_pos h1]
end Go.Proofs.YtchpcjmgifnmdaaDoor

/- Pairs of sets as keys of a map. -/
namespace Go.Proofs.YtchpcjmgifnmdaaDoor
open Go Go.Proofs.YtchpcjmgifnmdaaDoor.Ab
set_option maxRecDepth 100000
set_option linter.unusedSimpArgs false

theorem kt107' : Tryd.prog.keyType 107 = true := by kernel_rfl
theorem tl107 : Tryd.prog.tiled 5 107 = true := by kernel_rfl
theorem kta107 : Tryd.prog.keyTypeAt 5 107 = true := by kernel_rfl
theorem wd107 : (match Tryd.prog.underlying 107 with | some (.array _ _) | some (.struct _) => true | _ => false) = true := by kernel_rfl
theorem law107 : WideMaps.KeyLaw Tryd.prog 107 := deep_law (m := 5) (by omega) kta107 tl107 wd107
def keyV (a b : Nat) : Value := .agg #[.int .u64 (a : Int), .int .u64 (b : Int)]
theorem cl107 : Tryd.prog.cellsOf 107 = 2 := by kernel_rfl
theorem cl105 : Tryd.prog.cellsOf 105 = 1 := by kernel_rfl
theorem ts : ∃ n, Tryd.prog.types.size = n + 1 := ⟨Tryd.prog.types.size - 1, by kernel_rfl⟩
theorem und107 : ∃ f g : Field, Tryd.prog.underlying 107 = some (.struct #[f, g]) ∧ f.type = 105 ∧ g.type = 105 ∧ f.offset = 0 ∧ g.offset = 1 ∧ (f.name != "_") = true ∧ (g.name != "_") = true := ⟨_, _, Tryd.underlying107, rfl, rfl, rfl, rfl, rfl, rfl⟩
theorem und105 : Tryd.prog.underlying 105 = some (.int .u64) := by rw [Tryd.underlying105]
theorem lits105 (n a : Nat) (ha : a < 1024) : Tryd.prog.keyLits (n + 1) 105 [.int .u64 (a : Int)] = some [.int .u64 (a : Int)] := by
  unfold Program.keyLits
  simp only [und105, true_and]
  rw [if_pos]
  simp only [Lit.wf, Bool.and_eq_true, decide_eq_true_eq]
  have h1 : IntKind.u64.min = 0 := by decide
  have h2 : IntKind.u64.max = 18446744073709551615 := by decide
  rw [h1, h2]; omega
theorem key_some (a b : Nat) (ha : a < 1024) (hb : b < 1024) : (keyOf Tryd.prog 107 (keyV a b)).isSome = true := by
  obtain ⟨f, g, hu, h1, h2, h3, h4, h5, h6⟩ := und107
  obtain ⟨n, hn⟩ := ts
  have hf : (keyV a b).formed Tryd.prog 107 = true := by
    unfold keyV Value.formed
    rw [hu, cl107]; rfl
  have hl : Tryd.prog.keyLits (Tryd.prog.types.size + 1) 107 (keyV a b).cells.toList = some [.int .u64 (a : Int), .int .u64 (b : Int)] := by
    unfold Program.keyLits
    simp only [hu, hn, keyV, Value.cells, List.length_cons, List.length_nil, cl107, cl105, h1, h2, h3, h4, h5, h6, Array.all_eq_true_iff_forall_mem, List.mapM_cons, List.mapM_nil, List.drop_zero, List.drop_succ_cons, List.take_succ_cons, List.take_zero, lits105 n a ha, lits105 n b hb, Option.pure_def, Option.bind_eq_bind, Option.bind_some]
    simp [bne_iff_ne.mp h5, bne_iff_ne.mp h6]
  unfold keyOf
  rw [hu]
  simp only [kt107', hf, Bool.and_self, if_true, hl, Option.map_some, Option.isSome_some]
theorem mt101 : mapT Tryd.prog 101 = some (107, 4) := by unfold mapT; rw [Tryd.underlying101]
theorem zv4 : zvA Tryd.prog 4 = some (.bool false) := by kernel_rfl
end Go.Proofs.YtchpcjmgifnmdaaDoor

/- Walks: two systems compared: the pairs that are met. -/
namespace Go.Proofs.YtchpcjmgifnmdaaDoor
open Go Go.Proofs.YtchpcjmgifnmdaaDoor.Ab
set_option maxRecDepth 100000
set_option linter.unusedSimpArgs false

def enP (p : Nd) : List AV := [.v (.int .u64 (p.x : Nat)), .v (.int .u64 (p.y : Nat))]
theorem FZs.enP (p : Nd) : FZs (enP p) := FZs.v2 _ _
def entM (p : Nd) : Value × AV := (keyV p.x p.y, .v (.bool true))
theorem keyV_inj {a b c d : Nat} (h : keyV a b = keyV c d) : a = c ∧ b = d := by
  unfold keyV at h
  simp only [Value.agg.injEq, Array.mk.injEq, List.cons.injEq, Value.int.injEq, true_and, and_true] at h
  omega
theorem find_ent (a b : Nat) : ∀ l : List Nd, findM (keyV a b) (l.map entM) = if metN l a b then some (.v (.bool true)) else none
  | [] => rfl
  | p :: l => by
    rw [List.map_cons, findM, find_ent a b l]
    unfold metN entM
    rw [List.any_cons]
    by_cases h : p.x = a ∧ p.y = b
    · obtain ⟨rfl, rfl⟩ := h
      rw [if_pos rfl]; simp
    · rw [if_neg fun e => h (keyV_inj e)]
      have : (decide (p.x = a) && decide (p.y = b)) = false := by
        simp only [Bool.and_eq_false_iff, decide_eq_false_iff_not]
        by_cases h1 : p.x = a
        · exact .inr fun h2 => h ⟨h1, h2⟩
        · exact .inl h1
      rw [this, Bool.false_or]
theorem map_ok {x y : Re} (hx : Ok x) (hy : Ok y) {l : List Nd} (h : GoodN x y l) {a b : Nat} (ha : a < 1024) (hb : b < 1024) : MapOk Tryd.prog 107 (keyV a b) (l.map entM) := by
  refine ⟨law107, key_some a b ha hb, fun p hp => ?_, ?_⟩
  · obtain ⟨q, hq, rfl⟩ := List.mem_map.mp hp
    have := h.lt q hq
    exact key_some _ _ (hx.pw this.1) (hy.pw this.2)
  · rw [List.map_map]
    have := h.nd
    rw [List.Nodup, List.pairwise_map] at this ⊢
    refine this.imp fun {p q} hne he => hne ?_
    have := keyV_inj he
    rw [this.1, this.2]
theorem rawKP (a b : Int) : rawK (.agg [.v (.int .u64 a), .v (.int .u64 b)]) = some (.agg #[.int .u64 a, .int .u64 b]) := rfl
/-- the three lists, as they grow -/
def Grow3 (H : AH) (aP aF aB : AV) (l : List Nd) (fr bys : List Int) : Prop :=
  (l = [] ∧ fr = [] ∧ bys = [] ∧ aP = nilS ∧ aF = nilS ∧ aB = nilS) ∨
  ∃ tp tf tb, (tp < H.next ∧ tf < H.next ∧ tb < H.next) ∧ (tp ≠ tf ∧ tp ≠ tb ∧ tf ≠ tb) ∧ aP = .lst 2 (l.map enP) (.live tp) ∧ aF = .lst 1 (fr.map intR) (.live tf) ∧ aB = .lst 1 (bys.map intR) (.live tb) ∧
    H.tip tp = some l.length ∧ H.tip tf = some fr.length ∧ H.tip tb = some bys.length
/-- two systems compared, as the program keeps it: in block r, its map m -/
structure CmpO (x y : Re) (H : AH) (r m : Nat) (aP aF aB : AV) (l : List Nd) (fr bys : List Int) : Prop where
  o : H.own r = some (.cells [sysV x, sysV y, aP, aF, aB, .map m])
  mp : H.own m = some (.map (l.map entM))
  g : Grow3 H aP aF aB l fr bys
  rm : r ≠ m ∧ r < H.next ∧ m < H.next
theorem Grow3.tips {H H' : AH} {aP aF aB : AV} {l : List Nd} {fr bys : List Int} (h : Grow3 H aP aF aB l fr bys) (hn : H.next ≤ H'.next) (ht : ∀ t, t < H.next → H'.tip t = H.tip t) : Grow3 H' aP aF aB l fr bys := by
  rcases h with h | ⟨tp, tf, tb, ⟨h1, h2, h3⟩, h4, h5, h6, h7, h8, h9, h10⟩
  · exact .inl h
  · exact .inr ⟨tp, tf, tb, ⟨by omega, by omega, by omega⟩, h4, h5, h6, h7, by rw [ht _ h1]; exact h8, by rw [ht _ h2]; exact h9, by rw [ht _ h3]; exact h10⟩
set_option maxHeartbeats 4000000 in
theorem add101 (x y : Re) (hx : Ok x) (hy : Ok y) (H : AH) (r m : Nat) (aP aF aB : AV) (l : List Nd) (fr bys : List Int) (hC : CmpO x y H r m aP aF aB l fr bys) (hG : GoodN x y l) (hf : fr.length = l.length) (hb : bys.length = l.length) (a b : Nat) (ha : a < 1024) (hbb : b < 1024) (i e : Int) (tr : List Int) :
    ACall Tryd.prog 101 [.ptr r 0, .agg [.v (.int .u64 (a : Nat)), .v (.int .u64 (b : Nat))], .v (.int .i64 i), .v (.int .i64 e)] H (fun out H' => out = .ret (.tup []) ∧ (∃ aP' aF' aB', if metN l a b then CmpO x y H' r m aP' aF' aB' l fr bys else CmpO x y H' r m aP' aF' aB' (l ++ [⟨a, b, tr⟩]) (fr ++ [i]) (bys ++ [e])) ∧ H.next ≤ H'.next ∧ ∀ n, n < H.next → n ≠ r → n ≠ m → H'.own n = H.own n) := by
  have ho := hC.o
  have hm := hC.mp
  have hlen := hG.len hx hy
  have hok := map_ok hx hy hG ha hbb
  have hfi := find_ent a b l
  obtain ⟨hrm, hrn, hmn⟩ := hC.rm
  have hmr : (r = m) = False := by simp; exact hrm
  have hmr' : (m = r) = False := by simp; exact fun h => hrm h.symm
  unfold keyV at hok hfi
  refine ACall.enter [] Cd.fn101 (by simp) ?_
  cases hmet : metN l a b
  · rw [hmet] at hfi
    have hput : putM (Value.agg #[.int .u64 (a : Int), .int .u64 (b : Int)]) (.v (.bool true)) (l.map entM) = (l ++ [(⟨a, b, tr⟩ : Nd)]).map entM := by unfold putM; rw [hfi, List.map_append]; rfl
    rcases hC.g with ⟨rfl, rfl, rfl, rfl, rfl, rfl⟩ | ⟨tp, tf, tb, ⟨h1, h2, h3⟩, ⟨h4, h5, h6⟩, rfl, rfl, rfl, h8, h9, h10⟩
    · simp only [List.map_nil, List.nil_append] at hok hfi hput
      simp only [List.map_nil] at hm
      have n1 : (H.next + 1 = H.next) = False := by simp
      simp only [nilS, ho, hm, rawKP, mt101, zv4, hok, hfi, Option.getD_none, hput, hmr, hmr', show roomA 16 1 = true from rfl, show roomA 8 1 = true from rfl, implies_true, Cd.cd101, Tk.t101, base0, base1, base2, base3, Option.isNone_none, Option.isNone_some, Nat.reduceBEq, true_or, or_true, false_or, or_false, Nat.reduceLT, Nat.reduceMod, Nat.reducePow, rmaps, nsucc, List.flatten_cons, List.flatten_nil, Nat.reduceEqDiff, Nat.reduceLeDiff, Nat.reduceAdd, Nat.reduceMul, Nat.reduceSub, ↓reduceIte, reduceCtorEq, decide_true, decide_false]
      refine ⟨⟨.lst 2 ([(⟨a, b, tr⟩ : Nd)].map enP) (.live H.next), .lst 1 ([i].map intR) (.live (H.next + 1)), .lst 1 ([e].map intR) (.live (H.next + 1 + 1)), ⟨by simp [enP, intR], by simp [show ¬ m = r by simpa using hmr'], .inr ⟨H.next, H.next + 1, H.next + 1 + 1, ⟨by show H.next < H.next + 1 + 1 + 1; omega, by show H.next + 1 < H.next + 1 + 1 + 1; omega, by show H.next + 1 + 1 < H.next + 1 + 1 + 1; omega⟩, ⟨by omega, by omega, by omega⟩, rfl, rfl, rfl, by simp, by simp, by simp⟩, hrm, by show r < H.next + 1 + 1 + 1; omega, by show m < H.next + 1 + 1 + 1; omega⟩⟩, by show H.next ≤ H.next + 1 + 1 + 1; omega, fun n hn h1 h2 => by simp [h1, h2]⟩
    · have e1 : (tf = tp) = False := by simp; omega
      have e2 : (tb = tp) = False := by simp; omega
      have e3 : (tb = tf) = False := by simp; omega
      have e4 : (tp = tf) = False := by simp; omega
      have e5 : (tp = tb) = False := by simp; omega
      have e6 : (tf = tb) = False := by simp; omega
      simp only [ho, hm, rawKP, mt101, zv4, hok, hfi, Option.getD_none, hput, hmr, hmr', h8, h9, h10, List.length_map, hf, hb, room_of (by_ := 16) (n := l.length + 1) (by omega) (by omega), room_of (by_ := 8) (n := l.length + 1) (by omega) (by omega), e1, e2, e3, e4, e5, e6, implies_true, Cd.cd101, Tk.t101, base0, base1, base2, base3, Option.isNone_none, Option.isNone_some, Nat.reduceBEq, true_or, or_true, false_or, or_false, Nat.reduceLT, Nat.reduceMod, Nat.reducePow, rmaps, nsucc, List.flatten_cons, List.flatten_nil, Nat.reduceEqDiff, Nat.reduceLeDiff, Nat.reduceAdd, Nat.reduceMul, Nat.reduceSub, ↓reduceIte, reduceCtorEq, decide_true, decide_false]
      refine ⟨⟨.lst 2 ((l ++ [(⟨a, b, tr⟩ : Nd)]).map enP) (.live tp), .lst 1 ((fr ++ [i]).map intR) (.live tf), .lst 1 ((bys ++ [e]).map intR) (.live tb), ⟨by simp [enP, intR], by simp [show ¬ m = r by simpa using hmr'], .inr ⟨tp, tf, tb, ⟨h1, h2, h3⟩, ⟨by omega, by omega, by omega⟩, rfl, rfl, rfl, by simp [e4, e5], by simp [hf, e6], by simp [hb]⟩, hrm, hrn, hmn⟩⟩, by simp, fun n hn h1 h2 => by simp [h1, h2]⟩
  · rw [hmet] at hfi
    simp only [ho, hm, rawKP, mt101, zv4, hok, hfi, Option.getD_some, Cd.cd101, Tk.t101, base0, base1, base2, base3, Option.isNone_none, Option.isNone_some, Nat.reduceBEq, true_or, or_true, false_or, or_false, Nat.reduceLT, Nat.reduceMod, Nat.reducePow, rmaps, nsucc, List.flatten_cons, List.flatten_nil, Nat.reduceEqDiff, Nat.reduceLeDiff, Nat.reduceAdd, Nat.reduceMul, Nat.reduceSub, ↓reduceIte, reduceCtorEq, decide_true, decide_false]
    exact ⟨⟨aP, aF, aB, hC⟩, Nat.le_refl _, fun _ _ _ _ => trivial⟩
end Go.Proofs.YtchpcjmgifnmdaaDoor

/- Walks: two systems compared. -/
namespace Go.Proofs.YtchpcjmgifnmdaaDoor
open Go Go.Proofs.YtchpcjmgifnmdaaDoor.Ab
set_option maxRecDepth 100000
set_option linter.unusedSimpArgs false

theorem ACall.thn {P : Program} {m : FuncId} {args : List AV} {H : AH} {Q : AOut → AH → Prop} {mu : List Nat} {Kt : Kont} {dst : Option Nat} {os : List COp} {f : AF} (h : ACall P m args H Q) (h' : ∀ out H', Q out H' → ∃ v, out = .ret v ∧ cops P mu Kt os (f.put dst v) H') : ACall P m args H (callK P mu Kt dst os f) :=
  h.mono fun out H' hq => by
    obtain ⟨v, rfl, h1⟩ := h' out H' hq
    exact h1
theorem ACall.thn' {P : Program} {m : FuncId} {args : List AV} {H : AH} {Q : AOut → AH → Prop} {mu : List Nat} {Kt : Kont} {fm : AF} {dst : Option Nat} {ds : List DOp} {f : AF} {pd : List (Nat × Nat × ABlk)} {rd : List Nat} (h : ACall P m args H Q) (h' : ∀ out H', Q out H' → ∃ v, out = .ret v ∧ dops P mu Kt fm ds (f.put dst v) H' pd rd) : ACall P m args H (dcallK P mu Kt fm dst ds f pd rd) :=
  h.mono fun out H' hq => by
    obtain ⟨v, rfl, h1⟩ := h' out H' hq
    exact h1
theorem failsAt_lt {x y : Re} {a b e : Nat} (h : e < x.inp.toNat) : failsAt x y a b e = false := by
  unfold failsAt shw
  rw [decide_eq_false (by omega)]; rfl
def failsV (o : Option Nat) : AV := match o with
  | some e => .tup [.v (.int .i64 (e : Nat)), .v (.bool true)]
  | none => .tup [.v (.int .i64 0), .v (.bool false)]
theorem fails87 (x y : Re) (hx : Ok x) (hy : Ok y) (H : AH) (r m : Nat) (aP aF aB : AV) (l : List Nd) (fr bys : List Int) (hC : CmpO x y H r m aP aF aB l fr bys) (a b : Nat) (ha : a < 2 ^ nst x) (hb : b < 2 ^ nst y) :
    ACall Tryd.prog 87 [.ptr r 0, .agg [.v (.int .u64 (a : Nat)), .v (.int .u64 (b : Nat))]] H (fun out H' => out = .ret (failsV (failsN x y a b)) ∧ H' = H) := by
  have ho := hC.o
  have hinp := hx.inp
  have hsc := silc_le hx
  refine ACall.enter [] Cd.fn87 (by simp) ?_
  simp only [ho, box_eq, boxV, Cd.cd87, Tk.t87, base0, base1, base2, base3, Option.isNone_none, Option.isNone_some, Nat.reduceBEq, true_or, or_true, false_or, or_false, Nat.reduceLT, Nat.reduceMod, Nat.reducePow, rmaps, nsucc, List.flatten_cons, List.flatten_nil, Nat.reduceEqDiff, Nat.reduceLeDiff, Nat.reduceAdd, Nat.reduceMul, Nat.reduceSub, ↓reduceIte, reduceCtorEq, decide_true, decide_false]
  refine LWP.loop [] (fun m f H' => ∃ e, m = silc x + 1 - e ∧ (x.inp.toNat ≤ e ∧ e ≤ silc x + 1) ∧ (∀ j, j < e → failsAt x y a b j = false) ∧ f.t 0 = .ptr r 0 ∧ f.t 3 = .box [.v (.int .u64 (a : Nat)), .v (.int .u64 (b : Nat))] ∧ f.t 6 = .v (.int .i64 (e : Nat)) ∧ f.ds = [] ∧ H' = H) ?_ ?_ (m := silc x + 1 - (x.inp.toNat))
  · exact ⟨x.inp.toNat, rfl, (by omega), (fun j hj => failsAt_lt hj), rfl, rfl, by simp [upd]; omega, rfl, rfl⟩
  · rintro m f H' ⟨e, rfl, hi, hz, f0, f3, f6, hds, rfl⟩
    simp only [ho, f0, f3, f6, hds, Cd.cd87, Tk.t87, base0, base1, base2, base3, Option.isNone_none, Option.isNone_some, Nat.reduceBEq, true_or, or_true, false_or, or_false, Nat.reduceLT, Nat.reduceMod, Nat.reducePow, rmaps, nsucc, List.flatten_cons, List.flatten_nil, Nat.reduceEqDiff, Nat.reduceLeDiff, Nat.reduceAdd, Nat.reduceMul, Nat.reduceSub, ↓reduceIte, reduceCtorEq, decide_true, decide_false]
    first | refine FCall.go (silence73 x hx) (FZs.one (FZ.sysV x)) ?_ | refine FCall.go' (silence73 x hx) (FZs.one (FZ.sysV x)) ?_ | refine FCall.goQ (silence73 x hx) (FZs.one (FZ.sysV x)) ?_
    by_cases hlt : e ≤ silc x
    · simp only [ho, show decide (((e : Nat) : Int) ≤ ((silc x : Nat) : Int)) = true from decide_eq_true (by omega), f0, f3, f6, hds, Cd.cd87, Tk.t87, base0, base1, base2, base3, Option.isNone_none, Option.isNone_some, Nat.reduceBEq, true_or, or_true, false_or, or_false, Nat.reduceLT, Nat.reduceMod, Nat.reducePow, rmaps, nsucc, List.flatten_cons, List.flatten_nil, Nat.reduceEqDiff, Nat.reduceLeDiff, Nat.reduceAdd, Nat.reduceMul, Nat.reduceSub, ↓reduceIte, reduceCtorEq, decide_true, decide_false]
      first | refine FCall.go (shows80 x hx a e ha) (FZs.three (FZ.sysV x) (FZ.v _) (FZ.v _)) ?_ | refine FCall.go' (shows80 x hx a e ha) (FZs.three (FZ.sysV x) (FZ.v _) (FZ.v _)) ?_ | refine FCall.goQ (shows80 x hx a e ha) (FZs.three (FZ.sysV x) (FZ.v _) (FZ.v _)) ?_
      cases h1 : shw x a e
      · simp only [ho, f0, f3, f6, hds, Cd.cd87, Tk.t87, base0, base1, base2, base3, Option.isNone_none, Option.isNone_some, Nat.reduceBEq, true_or, or_true, false_or, or_false, Nat.reduceLT, Nat.reduceMod, Nat.reducePow, rmaps, nsucc, List.flatten_cons, List.flatten_nil, Nat.reduceEqDiff, Nat.reduceLeDiff, Nat.reduceAdd, Nat.reduceMul, Nat.reduceSub, ↓reduceIte, reduceCtorEq, decide_true, decide_false]
        exact ⟨_, by omega, e + 1, rfl, by omega, allS hz (by unfold failsAt; rw [h1]; rfl), by rw [wrapS (by omega)]⟩
      · simp only [ho, f0, f3, f6, hds, Cd.cd87, Tk.t87, base0, base1, base2, base3, Option.isNone_none, Option.isNone_some, Nat.reduceBEq, true_or, or_true, false_or, or_false, Nat.reduceLT, Nat.reduceMod, Nat.reducePow, rmaps, nsucc, List.flatten_cons, List.flatten_nil, Nat.reduceEqDiff, Nat.reduceLeDiff, Nat.reduceAdd, Nat.reduceMul, Nat.reduceSub, ↓reduceIte, reduceCtorEq, decide_true, decide_false]
        first | refine FCall.go (shows80 y hy b e hb) (FZs.three (FZ.sysV y) (FZ.v _) (FZ.v _)) ?_ | refine FCall.go' (shows80 y hy b e hb) (FZs.three (FZ.sysV y) (FZ.v _) (FZ.v _)) ?_ | refine FCall.goQ (shows80 y hy b e hb) (FZs.three (FZ.sysV y) (FZ.v _) (FZ.v _)) ?_
        cases h2 : shw y b e
        · simp only [ho, f0, f3, f6, hds, Cd.cd87, Tk.t87, base0, base1, base2, base3, Option.isNone_none, Option.isNone_some, Nat.reduceBEq, true_or, or_true, false_or, or_false, Nat.reduceLT, Nat.reduceMod, Nat.reducePow, rmaps, nsucc, List.flatten_cons, List.flatten_nil, Nat.reduceEqDiff, Nat.reduceLeDiff, Nat.reduceAdd, Nat.reduceMul, Nat.reduceSub, ↓reduceIte, reduceCtorEq, decide_true, decide_false]
          rw [show failsN x y a b = some e from firstIx_some (by omega) (by unfold failsAt; rw [h1, h2]; rfl) hz]; rfl
        · simp only [ho, f0, f3, f6, hds, Cd.cd87, Tk.t87, base0, base1, base2, base3, Option.isNone_none, Option.isNone_some, Nat.reduceBEq, true_or, or_true, false_or, or_false, Nat.reduceLT, Nat.reduceMod, Nat.reducePow, rmaps, nsucc, List.flatten_cons, List.flatten_nil, Nat.reduceEqDiff, Nat.reduceLeDiff, Nat.reduceAdd, Nat.reduceMul, Nat.reduceSub, ↓reduceIte, reduceCtorEq, decide_true, decide_false]
          exact ⟨_, by omega, e + 1, rfl, by omega, allS hz (by unfold failsAt; rw [h1, h2]; rfl), by rw [wrapS (by omega)]⟩
    · have he : e = silc x + 1 := by omega
      simp only [show decide (((e : Nat) : Int) ≤ ((silc x : Nat) : Int)) = false from decide_eq_false (by omega), f0, f3, f6, hds, Cd.cd87, Tk.t87, base0, base1, base2, base3, Option.isNone_none, Option.isNone_some, Nat.reduceBEq, true_or, or_true, false_or, or_false, Nat.reduceLT, Nat.reduceMod, Nat.reducePow, rmaps, nsucc, List.flatten_cons, List.flatten_nil, Nat.reduceEqDiff, Nat.reduceLeDiff, Nat.reduceAdd, Nat.reduceMul, Nat.reduceSub, ↓reduceIte, reduceCtorEq, decide_true, decide_false]
      rw [show failsN x y a b = none from firstIx_none (by rw [← he]; exact hz)]; rfl
set_option maxHeartbeats 2000000 in
theorem compare59 (x y : Re) (hx : Ok x) (hy : Ok y) (H : AH) : ACall Tryd.prog 59 [reV x, reV y] H (fun out H' => ∃ r m aP aF aB, out = .ret (.ptr r 0) ∧ CmpO x y H' r m aP aF aB [nd0 x y] [-1] [-1] ∧ H.next ≤ H'.next ∧ H.next ≤ r ∧ H.next ≤ m ∧ ∀ n, n < H.next → H'.own n = H.own n) := by
  simp only [reV, reL, mvsV]
  refine ACall.enter [12] Cd.fn59 (by simp) ?_
  simp only [Cd.cd59, Tk.t59, base0, base1, base2, base3, Option.isNone_none, Option.isNone_some, Nat.reduceBEq, true_or, or_true, false_or, or_false, Nat.reduceLT, Nat.reduceMod, Nat.reducePow, rmaps, nsucc, List.flatten_cons, List.flatten_nil, Nat.reduceEqDiff, Nat.reduceLeDiff, Nat.reduceAdd, Nat.reduceMul, Nat.reduceSub, ↓reduceIte, reduceCtorEq, decide_true, decide_false]
  first | refine FCall.go (system71 x hx) (FZs.one (FZ.reV x)) ?_ | refine FCall.go' (system71 x hx) (FZs.one (FZ.reV x)) ?_ | refine FCall.goQ (system71 x hx) (FZs.one (FZ.reV x)) ?_
  simp only [Cd.cd59, Tk.t59, base0, base1, base2, base3, Option.isNone_none, Option.isNone_some, Nat.reduceBEq, true_or, or_true, false_or, or_false, Nat.reduceLT, Nat.reduceMod, Nat.reducePow, rmaps, nsucc, List.flatten_cons, List.flatten_nil, Nat.reduceEqDiff, Nat.reduceLeDiff, Nat.reduceAdd, Nat.reduceMul, Nat.reduceSub, ↓reduceIte, reduceCtorEq, decide_true, decide_false]
  first | refine FCall.go (system71 y hy) (FZs.one (FZ.reV y)) ?_ | refine FCall.go' (system71 y hy) (FZs.one (FZ.reV y)) ?_ | refine FCall.goQ (system71 y hy) (FZs.one (FZ.reV y)) ?_
  simp only [sysV, Cd.cd59, Tk.t59, base0, base1, base2, base3, Option.isNone_none, Option.isNone_some, Nat.reduceBEq, true_or, or_true, false_or, or_false, Nat.reduceLT, Nat.reduceMod, Nat.reducePow, rmaps, nsucc, List.flatten_cons, List.flatten_nil, Nat.reduceEqDiff, Nat.reduceLeDiff, Nat.reduceAdd, Nat.reduceMul, Nat.reduceSub, ↓reduceIte, reduceCtorEq, decide_true, decide_false]
  first | refine FCall.go (first72 x hx) (FZs.one (FZ.sysV x)) ?_ | refine FCall.go' (first72 x hx) (FZs.one (FZ.sysV x)) ?_ | refine FCall.goQ (first72 x hx) (FZs.one (FZ.sysV x)) ?_
  simp only [sysV, Cd.cd59, Tk.t59, base0, base1, base2, base3, Option.isNone_none, Option.isNone_some, Nat.reduceBEq, true_or, or_true, false_or, or_false, Nat.reduceLT, Nat.reduceMod, Nat.reducePow, rmaps, nsucc, List.flatten_cons, List.flatten_nil, Nat.reduceEqDiff, Nat.reduceLeDiff, Nat.reduceAdd, Nat.reduceMul, Nat.reduceSub, ↓reduceIte, reduceCtorEq, decide_true, decide_false]
  first | refine FCall.go (first72 y hy) (FZs.one (FZ.sysV y)) ?_ | refine FCall.go' (first72 y hy) (FZs.one (FZ.sysV y)) ?_ | refine FCall.goQ (first72 y hy) (FZs.one (FZ.sysV y)) ?_
  simp only [sysV, uv, Cd.cd59, Tk.t59, base0, base1, base2, base3, Option.isNone_none, Option.isNone_some, Nat.reduceBEq, true_or, or_true, false_or, or_false, Nat.reduceLT, Nat.reduceMod, Nat.reducePow, rmaps, nsucc, List.flatten_cons, List.flatten_nil, Nat.reduceEqDiff, Nat.reduceLeDiff, Nat.reduceAdd, Nat.reduceMul, Nat.reduceSub, ↓reduceIte, reduceCtorEq, decide_true, decide_false]
  refine ACall.thn' (add101 x y hx hy _ (H.next + 1) H.next nilS nilS nilS [] [] [] ⟨by simp [sysV, nilS], by simp, .inl ⟨rfl, rfl, rfl, rfl, rfl, rfl⟩, by omega, by show H.next + 1 < H.next + 1 + 1; omega, by show H.next < H.next + 1 + 1; omega⟩ ⟨fun p hp => by simp at hp, by simp⟩ rfl rfl (fstM x) (fstM y) (hx.pw (fst_lt hx)) (hy.pw (fst_lt hy)) (-1) (-1) []) fun out H2 hq => ?_
  obtain ⟨rfl, ⟨aP, aF, aB, h2⟩, h3, h4⟩ := hq
  refine ⟨_, rfl, ?_⟩
  simp only [Cd.cd59, Tk.t59, base0, base1, base2, base3, Option.isNone_none, Option.isNone_some, Nat.reduceBEq, true_or, or_true, false_or, or_false, Nat.reduceLT, Nat.reduceMod, Nat.reducePow, rmaps, nsucc, List.flatten_cons, List.flatten_nil, Nat.reduceEqDiff, Nat.reduceLeDiff, Nat.reduceAdd, Nat.reduceMul, Nat.reduceSub, ↓reduceIte, reduceCtorEq, decide_true, decide_false]
  refine ⟨H.next + 1, H.next, aP, aF, aB, rfl, h2, by have : H.next + 1 + 1 ≤ H2.next := h3; omega, by omega, by omega, fun n hn => ?_⟩
  rw [h4 n (by show n < H.next + 1 + 1; omega) (by omega) (by omega)]
  simp [show ¬ n = H.next by omega, show ¬ n = H.next + 1 by omega]
def ivC (k : Nat) (f : Nat → Int) : List AV := (List.range k).map fun e => .v (.int .i64 (f e))
theorem ivC_len (k : Nat) (f : Nat → Int) : (ivC k f).length = k := by simp [ivC]
theorem ivC_drop {k s : Nat} (f : Nat → Int) (h : s < k) : (List.drop s (ivC k f))[0]? = some (.v (.int .i64 (f s))) := by
  rw [List.getElem?_drop, Nat.add_zero]
  unfold ivC
  rw [List.getElem?_map, List.getElem?_range h]; rfl
theorem ivC_set {k s : Nat} (f : Nat → Int) (v : Int) (h : s < k) : List.take s (ivC k f) ++ AV.v (.int .i64 v) :: List.drop (s + 1) (ivC k f) = ivC k fun e => if e = s then v else f e := by
  apply List.ext_getElem?
  intro i
  have hl : (List.take s (ivC k f)).length = s := by rw [List.length_take, ivC_len]; omega
  by_cases h1 : i < s
  · rw [List.getElem?_append_left (by omega), List.getElem?_take_of_lt h1]
    unfold ivC
    rw [List.getElem?_map, List.getElem?_map, List.getElem?_range (by omega)]
    simp [show ¬ i = s by omega]
  · rw [List.getElem?_append_right (by omega), hl]
    by_cases h2 : i = s
    · subst h2
      rw [Nat.sub_self]
      unfold ivC
      rw [List.getElem?_map, List.getElem?_range h]; simp
    · obtain ⟨d, hd⟩ : ∃ d, i - s = d + 1 := ⟨i - s - 1, by omega⟩
      rw [hd, List.getElem?_cons_succ, List.getElem?_drop, show s + 1 + d = i by omega]
      unfold ivC
      rw [List.getElem?_map, List.getElem?_map]
      by_cases h3 : i < k
      · rw [List.getElem?_range h3]; simp [h2]
      · rw [List.getElem?_eq_none (by simp; omega)]; rfl
theorem ivC_list (l : List Int) : l.map (fun x => AV.v (.int .i64 x)) = ivC l.length fun k => l.getD k 0 := by
  apply List.ext_getElem?
  intro i
  unfold ivC
  rw [List.getElem?_map, List.getElem?_map]
  by_cases h : i < l.length
  · rw [List.getElem?_range h, List.getElem?_eq_getElem h]
    simp [List.getD_eq_getElem?_getD, List.getElem?_eq_getElem h]
  · rw [List.getElem?_eq_none (by omega), List.getElem?_eq_none (by simp; omega)]; rfl
def revF (l : List Int) (i k : Nat) : Int := if k < i ∨ l.length - i ≤ k then l.getD (l.length - 1 - k) 0 else l.getD k 0
theorem revF_step (l : List Int) {i : Nat} (h : 2 * i + 1 < l.length) (k : Nat) (hk : k < l.length) : (if k = l.length - 1 - i then revF l i i else if k = i then revF l i (l.length - 1 - i) else revF l i k) = revF l (i + 1) k := by
  unfold revF
  by_cases h1 : k = l.length - 1 - i
  · subst h1
    rw [if_pos rfl, if_neg (by omega), if_pos (by omega)]
    congr 1; omega
  · rw [if_neg h1]
    by_cases h2 : k = i
    · subst h2
      rw [if_pos rfl, if_neg (by omega), if_pos (by omega)]
    · rw [if_neg h2]
      by_cases h3 : k < i ∨ l.length - i ≤ k
      · rw [if_pos h3, if_pos (by omega)]
      · rw [if_neg h3, if_neg (by omega)]
theorem ivC_congr {k : Nat} {f g : Nat → Int} (h : ∀ i, i < k → f i = g i) : ivC k f = ivC k g := by
  unfold ivC
  apply List.map_congr_left
  intro i hi
  rw [h i (List.mem_range.mp hi)]
theorem revF_end (l : List Int) {i : Nat} (h : l.length ≤ 2 * i + 1) (hi : 2 * i ≤ l.length) : ivC l.length (revF l i) = l.reverse.map fun x => AV.v (.int .i64 x) := by
  rw [ivC_list, List.length_reverse]
  apply ivC_congr
  intro k hk
  unfold revF
  rw [List.getD_eq_getElem?_getD (l := l.reverse), List.getElem?_reverse hk, ← List.getD_eq_getElem?_getD]
  by_cases h1 : k < i ∨ l.length - i ≤ k
  · rw [if_pos h1]
  · rw [if_neg h1]
    congr 1; omega
set_option maxHeartbeats 2000000 in
theorem reverse102 (l : List Int) (H : AH) (n : Nat) (hl : 0 < l.length) (hb : l.length < 2 ^ 40) (ho : H.own n = some (.cells (l.map fun x => .v (.int .i64 x)))) :
    ACall Tryd.prog 102 [.sl 1 n 0 l.length] H (fun out H' => out = .ret (.tup []) ∧ H'.own n = some (.cells (l.reverse.map fun x => .v (.int .i64 x))) ∧ H'.next = H.next ∧ H'.tip = H.tip ∧ ∀ k, k ≠ n → H'.own k = H.own k) := by
  rw [ivC_list] at ho
  have hw : IntKind.i64.wrap ((l.length : Int) - 1) = ((l.length - 1 : Nat) : Int) := by rw [wrapI (by omega) (by omega)]; omega
  refine ACall.enter [] Cd.fn102 (by simp) ?_
  simp only [hw, Cd.cd102, Tk.t102, base0, base1, base2, base3, Option.isNone_none, Option.isNone_some, Nat.reduceBEq, true_or, or_true, false_or, or_false, Nat.reduceLT, Nat.reduceMod, Nat.reducePow, rmaps, nsucc, List.flatten_cons, List.flatten_nil, Nat.reduceEqDiff, Nat.reduceLeDiff, Nat.reduceAdd, Nat.reduceMul, Nat.reduceSub, ↓reduceIte, reduceCtorEq, decide_true, decide_false]
  refine LWP.loop [] (fun m f H' => ∃ i, m = l.length - i ∧ (2 * i ≤ l.length) ∧ f.t 0 = .sl 1 n 0 l.length ∧ f.t 2 = .v (.int .i64 (i : Nat)) ∧ f.t 3 = .v (.int .i64 ((l.length : Int) - 1 - (i : Int))) ∧ f.ds = [] ∧ (H'.own n = some (.cells (ivC l.length (revF l i))) ∧ H'.next = H.next ∧ H'.tip = H.tip ∧ ∀ k, k ≠ n → H'.own k = H.own k)) ?_ ?_ (m := l.length - (0))
  · exact ⟨0, rfl, (by omega), rfl, rfl, by simp [upd]; omega, rfl, ⟨by rw [ho]; congr 2; apply ivC_congr; intro k hk; unfold revF; rw [if_neg (by omega)], rfl, rfl, fun _ _ => rfl⟩⟩
  · rintro m f H' ⟨i, rfl, hi, f0, f2, f3, hds, hH⟩
    obtain ⟨hH, h1, h2, h3⟩ := hH
    by_cases hlt : 2 * i + 1 < l.length
    · have hj : ((l.length : Int) - 1 - (i : Int)) = ((l.length - 1 - i : Nat) : Int) := by omega
      have hil : i < l.length := by omega
      have hjl : l.length - 1 - i < l.length := by omega
      have hst := revF_step l hlt
      simp only [hj, show decide (((i : Nat) : Int) < ((l.length - 1 - i : Nat) : Int)) = true from decide_eq_true (by omega), inR hil, inR hjl, Int.toNat_natCast, Nat.mul_one, Nat.zero_add, hH, ivC_drop _ hil, ivC_drop _ hjl, ivC_len, show (i + 1 ≤ l.length) = True from by simp only [eq_iff_iff, iff_true]; omega, show (l.length - 1 - i + 1 ≤ l.length) = True from by simp only [eq_iff_iff, iff_true]; omega, ivC_set _ _ hil, ivC_set _ _ hjl, f0, f2, f3, hds, Cd.cd102, Tk.t102, base0, base1, base2, base3, Option.isNone_none, Option.isNone_some, Nat.reduceBEq, true_or, or_true, false_or, or_false, Nat.reduceLT, Nat.reduceMod, Nat.reducePow, rmaps, nsucc, List.flatten_cons, List.flatten_nil, Nat.reduceEqDiff, Nat.reduceLeDiff, Nat.reduceAdd, Nat.reduceMul, Nat.reduceSub, ↓reduceIte, reduceCtorEq, decide_true, decide_false]
      refine ⟨_, by omega, i + 1, rfl, by omega, by rw [wrapS (by omega)], ?_, ?_, h1, h2, fun k hk => ?_⟩
      · rw [wrapI (by omega) (by omega), show ((l.length - 1 - i : Nat) : Int) - 1 = (l.length : Int) - 1 - ((i + 1 : Nat) : Int) by omega]
      · congr 2
        apply ivC_congr
        intro k hk
        exact hst k hk
      · simp only [hk, if_false]; exact h3 k hk
    · simp only [show decide (((i : Nat) : Int) < ((l.length : Int) - 1 - (i : Int))) = false from decide_eq_false (by omega), f0, f2, f3, hds, Cd.cd102, Tk.t102, base0, base1, base2, base3, Option.isNone_none, Option.isNone_some, Nat.reduceBEq, true_or, or_true, false_or, or_false, Nat.reduceLT, Nat.reduceMod, Nat.reducePow, rmaps, nsucc, List.flatten_cons, List.flatten_nil, Nat.reduceEqDiff, Nat.reduceLeDiff, Nat.reduceAdd, Nat.reduceMul, Nat.reduceSub, ↓reduceIte, reduceCtorEq, decide_true, decide_false]
      trace_state
      exact ⟨by rw [hH, revF_end l (by omega) (by omega)], h1, h2, h3⟩
end Go.Proofs.YtchpcjmgifnmdaaDoor

/- Walks: all pairs are met. -/
namespace Go.Proofs.YtchpcjmgifnmdaaDoor
open Go Go.Proofs.YtchpcjmgifnmdaaDoor.Ab
set_option maxRecDepth 100000
set_option linter.unusedSimpArgs false
set_option pp.deepTerms true
set_option pp.maxSteps 100000

theorem CmpO.same {x y : Re} {H H' : AH} {r m : Nat} {aP aF aB : AV} {l : List Nd} {fr bys : List Int} (h : CmpO x y H r m aP aF aB l fr bys) (hn : H.next ≤ H'.next) (hr : H'.own r = H.own r) (hm : H'.own m = H.own m) (ht : ∀ t, t < H.next → H'.tip t = H.tip t) : CmpO x y H' r m aP aF aB l fr bys :=
  ⟨hr.trans h.o, hm.trans h.mp, h.g.tips hn ht, h.rm.1, Nat.lt_of_lt_of_le h.rm.2.1 hn, Nat.lt_of_lt_of_le h.rm.2.2 hn⟩
theorem CmpO.live {x y : Re} {H : AH} {r m : Nat} {aP aF aB : AV} {l : List Nd} {fr bys : List Int} (h : CmpO x y H r m aP aF aB l fr bys) (h0 : 0 < l.length) : ∃ tp tf tb, aP = .lst 2 (l.map enP) (.live tp) ∧ aF = .lst 1 (fr.map intR) (.live tf) ∧ aB = .lst 1 (bys.map intR) (.live tb) := by
  rcases h.g with ⟨rfl, _⟩ | ⟨tp, tf, tb, _, _, h5, h6, h7, _⟩
  · simp at h0
  · exact ⟨tp, tf, tb, h5, h6, h7⟩
theorem viewI {H : AH} {n : Nat} {l : List Int} (h : H.own n = some (.cells (l.map fun x => .v (.int .i64 x)))) : View H (.sl 1 n 0 l.length) (ints l) := by
  refine View.sl h (by simp) (by simp) (fun i hi => by rw [getD_ints l i hi]; rfl) fun i j hi hj => ?_
  have hj0 : j = 0 := by omega
  subst hj0
  rw [getD_ints l i hi]
  have : (l.map fun x => AV.v (.int .i64 x)).getD (0 + i * 1 + 0) .any = .v (.int .i64 (l.getD i 0)) := by
    rw [List.getD_eq_getElem?_getD, List.getElem?_map, show 0 + i * 1 + 0 = i by omega, List.getElem?_eq_getElem hi, List.getD_eq_getElem?_getD, List.getElem?_eq_getElem hi]; rfl
  rw [this]
  exact (FZ.v _).view
def ivL (l : List Int) : List AV := l.map fun x => .v (.int .i64 x)
def runV (o : Option (List Int)) : AV := match o with
  | some tr => .tup [ints tr, .v (.bool true)]
  | none => .tup [nilS, .v (.bool false)]
def RunP (x y : Re) (H : AH) (r m : Nat) (l0 : List Nd) (out : AOut) (H' : AH) : Prop :=
  ∃ o l, SrchR x y l0 0 (o, l) ∧ out = .ret (runV o) ∧ (∃ t aF aB, H'.own r = some (.cells [sysV x, sysV y, .lst 2 (l.map enP) (.live t), aF, aB, .map m])) ∧ H.next ≤ H'.next ∧ ∀ n, n < H.next → n ≠ r → n ≠ m → H'.own n = H.own n
set_option maxHeartbeats 8000000 in
theorem run60 (x y : Re) (hx : Ok x) (hy : Ok y) (hio : silc y = silc x) (H : AH) (r mq : Nat) (aP aF aB : AV) (l0 : List Nd) (fr0 by0 : List Int) (hC : CmpO x y H r mq aP aF aB l0 fr0 by0) (hG : GoodN x y l0) (hM : Came l0 fr0 by0) :
    ACall Tryd.prog 60 [.ptr r 0] H (RunP x y H r mq l0) := by
  have hsc := silc_le hx
  refine ACall.freeze H.next ?_
  refine ACall.enter [36, 62] Cd.fn60 (by simp) ?_
  simp only [Cd.cd60, Tk.t60, base0, base1, base2, base3, Option.isNone_none, Option.isNone_some, Nat.reduceBEq, true_or, or_true, false_or, or_false, Nat.reduceLT, Nat.reduceMod, Nat.reducePow, rmaps, nsucc, List.flatten_cons, List.flatten_nil, Nat.reduceEqDiff, Nat.reduceLeDiff, Nat.reduceAdd, Nat.reduceMul, Nat.reduceSub, ↓reduceIte, reduceCtorEq, decide_true, decide_false]
  refine LWP.loop [36, 62] (fun m f H' => ∃ i l fr bys aP aF aB, m = 1048577 - i ∧ (i ≤ l.length) ∧ (CmpO x y H' r mq aP aF aB l fr bys) ∧ (GoodN x y l) ∧ (Came l fr bys) ∧ (∀ res, SrchR x y l i res → SrchR x y l0 0 res) ∧ f.t 0 = .ptr r 0 ∧ f.t 4 = .v (.int .i64 (i : Nat)) ∧ f.ds = [] ∧ (H.next ≤ H'.next ∧ r < H.next ∧ mq < H.next ∧ ∀ n, n < H.next → n ≠ r → n ≠ mq → H'.own n = H.own n)) ?_ ?_ (m := 1048577 - (0))
  · exact ⟨0, l0, fr0, by0, aP, aF, aB, rfl, (by omega), (hC), (hG), (hM), (fun _ h => h), rfl, rfl, rfl, ⟨Nat.le_refl _, hC.rm.2.1, hC.rm.2.2, fun _ _ _ _ => rfl⟩⟩
  · rintro m f H' ⟨i, l, fr, bys, aP, aF, aB, rfl, hi, hC, hG, hM, hS, f0, f4, hds, hk⟩
    obtain ⟨hk1, hkr, hkm, hk2⟩ := hk
    have ho := hC.o
    have hlen := hG.len hx hy
    obtain ⟨tp, tf, tb, rfl, rfl, rfl⟩ := hC.live hM.h0
    by_cases hlt : i < l.length
    · have hp := hG.lt _ (getD_mem hlt)
      have hgp := getD_map enP l i hlt
      have hrn : (r = H'.next) = False := by simp; omega
      have hmn : (mq = H'.next) = False := by simp; omega
      generalize hpe : l.getD i default = p at hp hgp
      simp only [ho, List.length_map, ltT hlt, inR hlt, Int.toNat_natCast, hgp, enP, hrn, f0, f4, hds, Cd.cd60, Tk.t60, base0, base1, base2, base3, Option.isNone_none, Option.isNone_some, Nat.reduceBEq, true_or, or_true, false_or, or_false, Nat.reduceLT, Nat.reduceMod, Nat.reducePow, rmaps, nsucc, List.flatten_cons, List.flatten_nil, Nat.reduceEqDiff, Nat.reduceLeDiff, Nat.reduceAdd, Nat.reduceMul, Nat.reduceSub, ↓reduceIte, reduceCtorEq, decide_true, decide_false]
      have hC1 : CmpO x y { next := H'.next + 1, own := fun m => if m = H'.next then some (.cells [AV.v (.int .u64 (p.x : Nat)), AV.v (.int .u64 (p.y : Nat))]) else if m = H'.next then some (.cells [AV.v (.int .u64 0), AV.v (.int .u64 0)]) else H'.own m, tip := H'.tip } r mq (.lst 2 (l.map enP) (.live tp)) (.lst 1 (fr.map intR) (.live tf)) (.lst 1 (bys.map intR) (.live tb)) l fr bys :=
        hC.same (by show H'.next ≤ H'.next + 1; omega) (by simp only [hrn, if_false]) (by simp only [hmn, if_false]) fun _ _ => rfl
      refine ACall.thn (fails87 x y hx hy _ r mq _ _ _ l fr bys hC1 p.x p.y hp.1 hp.2) fun out H2 hq => ?_
      obtain ⟨rfl, rfl⟩ := hq
      refine ⟨_, rfl, ?_⟩
      cases hf : failsN x y p.x p.y with
      | some e =>
        simp only [failsV, f0, f4, hds, Cd.cd60, Tk.t60, base0, base1, base2, base3, Option.isNone_none, Option.isNone_some, Nat.reduceBEq, true_or, or_true, false_or, or_false, Nat.reduceLT, Nat.reduceMod, Nat.reducePow, rmaps, nsucc, List.flatten_cons, List.flatten_nil, Nat.reduceEqDiff, Nat.reduceLeDiff, Nat.reduceAdd, Nat.reduceMul, Nat.reduceSub, ↓reduceIte, reduceCtorEq, decide_true, decide_false]
        have hHn : H.next ≤ H'.next + 1 := by omega
        refine LWP.loop [36, 62] (fun m f H' => ∃ k ol nm, m = 2 * k ∧ (k < l.length) ∧ (k ≤ i) ∧ (p.tr ++ [(e : Int)] = (l.getD k default).tr ++ List.reverse (ol : List Int)) ∧ (0 < List.length (ol : List Int) ∧ List.length (ol : List Int) + k ≤ i + 1) ∧ (H.next ≤ nm) ∧ f.t 0 = .ptr r 0 ∧ f.t 8 = .sl 1 nm 0 (List.length (ol : List Int)) ∧ f.t 9 = .v (.int .i64 (k : Nat)) ∧ f.ds = [] ∧ (nm < H'.next ∧ H.next ≤ H'.next ∧ H'.own nm = some (.cells (ivL ol)) ∧ H'.own r = some (.cells [sysV x, sysV y, .lst 2 (l.map enP) (.live tp), .lst 1 (fr.map intR) (.live tf), .lst 1 (bys.map intR) (.live tb), .map mq]) ∧ ∀ n, n < H.next → n ≠ r → n ≠ mq → H'.own n = H.own n)) ?_ ?_ (m := 2 * (i))
        · exact ⟨i, [(e : Int)], H'.next + 1, rfl, (hlt), (Nat.le_refl _), (by rw [hpe]; rfl), (⟨by simp, by simp; omega⟩), (hHn), (by first | rfl | exact f0), (by first | rfl | exact f8), (by first | rfl | exact f9), rfl, ⟨by simp, by simp; omega, by simp [ivL], by simp [show ¬ r = H'.next by omega, show ¬ r = H'.next + 1 by omega]; exact ho, fun n h1 h2 h3 => by simp [show ¬ n = H'.next by omega, show ¬ n = H'.next + 1 by omega]; exact hk2 n h1 h2 h3⟩⟩
        · rintro m f H' ⟨k, ol, nm, rfl, hkl, hki, htr, hol, hnm, f0, f8, f9, hds, hk3⟩
          obtain ⟨hk3, hk4, hk5, hk6, hk7⟩ := hk3
          have hkf : k < fr.length := by rw [hM.f]; exact hkl
          have hkb : k < bys.length := by rw [hM.b]; exact hkl
          have hgf := getD_map intR fr k hkf
          have hgb := getD_map intR bys k hkb
          have hrnm : (r = nm) = False := by simp; omega
          have hrn1 : (r = H'.next) = False := by simp; omega
          by_cases hk0 : k = 0
          · subst hk0
            have hz := hM.z
            have hz1 : fr.getD 0 default = -1 := hz.1
            rw [hz.2, List.nil_append] at htr
            have hrev := reverse102 ol H' nm hol.1 (by omega) hk5
            simp only [hk6, List.length_map, inR hkf, Int.toNat_natCast, hgf, intR, hz1, f0, f8, f9, hds, Cd.cd60, Tk.t60, base0, base1, base2, base3, Option.isNone_none, Option.isNone_some, Nat.reduceBEq, true_or, or_true, false_or, or_false, Nat.reduceLT, Nat.reduceMod, Nat.reducePow, rmaps, nsucc, List.flatten_cons, List.flatten_nil, Nat.reduceEqDiff, Nat.reduceLeDiff, Nat.reduceAdd, Nat.reduceMul, Nat.reduceSub, ↓reduceIte, reduceCtorEq, decide_true, decide_false]
            refine ACall.thn hrev fun out H2 hq => ?_
            obtain ⟨rfl, h1, h2, h3, h4⟩ := hq
            refine ⟨_, rfl, ?_⟩
            simp only [f0, f8, f9, hds, Cd.cd60, Tk.t60, base0, base1, base2, base3, Option.isNone_none, Option.isNone_some, Nat.reduceBEq, true_or, or_true, false_or, or_false, Nat.reduceLT, Nat.reduceMod, Nat.reducePow, rmaps, nsucc, List.flatten_cons, List.flatten_nil, Nat.reduceEqDiff, Nat.reduceLeDiff, Nat.reduceAdd, Nat.reduceMul, Nat.reduceSub, ↓reduceIte, reduceCtorEq, decide_true, decide_false]
            have hv : View (H2.above H.next) (.sl 1 nm 0 ol.length) (ints ol.reverse) := by
              have := viewI (H := H2.above H.next) (n := nm) (l := ol.reverse) ((above_own hnm).trans h1)
              rwa [List.length_reverse] at this
            refine Frz.ret (v' := .tup [ints ol.reverse, .v (.bool true)]) (Views.tup (Views.cons hv (Views.cons (FZ.v _).view Views.nil))) (FZ.tup (FZs.two (FZ.ints _) (FZ.v _))) ?_
            have hfl := SrchR.fail (x := x) (y := y) hlt (e := e) (by rw [hpe]; exact hf)
            rw [hpe, htr] at hfl
            exact ⟨some ol.reverse, l, hS _ hfl, rfl, ⟨tp, _, _, (below_own hkr).trans ((h4 r (by simpa using hrnm)).trans hk6)⟩, by show H.next ≤ H2.next; omega, fun n h5 h6 h7 => (below_own h5).trans ((h4 n (by omega)).trans (hk7 n h5 h6 h7))⟩
          · obtain ⟨j, hj1, hj2, hj3⟩ := hM.s k (by omega) hkl
            have hj1' : fr.getD k default = (j : Int) := hj1
            have hr8 : roomA 8 (ol.length + 1) = true := room_of (by omega) (by omega)
            simp only [hk6, List.length_map, inR hkf, inR hkb, Int.toNat_natCast, hgf, hgb, intR, hj1', show (((j : Nat) : Int) != -1) = true from by simp, hk5, hr8, hrnm, hrn1, Nat.mul_one, show (ol.length ≤ (ivL ol).length) = True from by simp [ivL], show List.take ol.length (ivL ol) = ivL ol from by rw [show ol.length = (ivL ol).length from by simp [ivL], List.take_length], f0, f8, f9, hds, Cd.cd60, Tk.t60, base0, base1, base2, base3, Option.isNone_none, Option.isNone_some, Nat.reduceBEq, true_or, or_true, false_or, or_false, Nat.reduceLT, Nat.reduceMod, Nat.reducePow, rmaps, nsucc, List.flatten_cons, List.flatten_nil, Nat.reduceEqDiff, Nat.reduceLeDiff, Nat.reduceAdd, Nat.reduceMul, Nat.reduceSub, ↓reduceIte, reduceCtorEq, decide_true, decide_false]
            have hnn : (H'.next = nm) = False := by simp; omega
            refine ⟨_, by omega, j, ol ++ [bys.getD k 0], H'.next, rfl, by omega, by omega, ?_, ⟨by simp, by simp; omega⟩, hk4, by simp, rfl, by omega, by omega, ?_, fun n h1 h2 h3 => ?_⟩
            · rw [htr, hj3, List.reverse_append, List.append_assoc]; rfl
            · simp only [hnn, if_false, if_true, ivL, List.map_append]; rfl
            · simp only [show ¬ n = nm by omega, show ¬ n = H'.next by omega, if_false]
              exact hk7 n h1 h2 h3
      | none =>
        simp only [failsV, ho, hrn, f0, f4, hds, Cd.cd60, Tk.t60, base0, base1, base2, base3, Option.isNone_none, Option.isNone_some, Nat.reduceBEq, true_or, or_true, false_or, or_false, Nat.reduceLT, Nat.reduceMod, Nat.reducePow, rmaps, nsucc, List.flatten_cons, List.flatten_nil, Nat.reduceEqDiff, Nat.reduceLeDiff, Nat.reduceAdd, Nat.reduceMul, Nat.reduceSub, ↓reduceIte, reduceCtorEq, decide_true, decide_false]
        first | refine FCall.go (silence73 x hx) (FZs.one (FZ.sysV x)) ?_ | refine FCall.go' (silence73 x hx) (FZs.one (FZ.sysV x)) ?_ | refine FCall.goQ (silence73 x hx) (FZs.one (FZ.sysV x)) ?_
        have hw9 : IntKind.i64.wrap (((silc x : Nat) : Int) + 1) = ((silc x + 1 : Nat) : Int) := wrapS (by omega)
        simp only [hw9, f0, f4, hds, Cd.cd60, Tk.t60, base0, base1, base2, base3, Option.isNone_none, Option.isNone_some, Nat.reduceBEq, true_or, or_true, false_or, or_false, Nat.reduceLT, Nat.reduceMod, Nat.reducePow, rmaps, nsucc, List.flatten_cons, List.flatten_nil, Nat.reduceEqDiff, Nat.reduceLeDiff, Nat.reduceAdd, Nat.reduceMul, Nat.reduceSub, ↓reduceIte, reduceCtorEq, decide_true, decide_false]
        generalize hnx : H'.next = n5 at *
        refine LWP.loop [36, 62] (fun m f H' => ∃ e l2 fr2 by2 aP aF aB, m = silc x + 1 - e ∧ (e ≤ silc x + 1) ∧ (l2 = extN x y p l e) ∧ (CmpO x y H' r mq aP aF aB l2 fr2 by2) ∧ (GoodN x y l2) ∧ (Came l2 fr2 by2) ∧ f.t 0 = .ptr r 0 ∧ f.t 4 = .v (.int .i64 (i : Nat)) ∧ f.t 5 = .ptr n5 0 ∧ f.t 71 = .v (.int .i64 ((silc x + 1 : Nat) : Int)) ∧ f.t 72 = .v (.int .i64 (e : Nat)) ∧ f.ds = [] ∧ (n5 < H'.next ∧ H'.own n5 = some (.cells [AV.v (.int .u64 (p.x : Nat)), AV.v (.int .u64 (p.y : Nat))]) ∧ ∀ n, n < H.next → n ≠ r → n ≠ mq → H'.own n = H.own n)) ?_ ?_ (m := silc x + 1 - (0))
        · exact ⟨0, l, fr, bys, _, _, _, rfl, (by omega), (rfl), (hC1), (hG), (hM), (by first | rfl | exact f0), (by first | rfl | exact f4), (by first | rfl | exact f5), (by first | rfl | exact f71), (by first | rfl | exact f72), rfl, ⟨by simp, by simp, fun n h1 h2 h3 => by simp only [show ¬ n = n5 by omega, if_false]; exact hk2 n h1 h2 h3⟩⟩
        · rintro m f H' ⟨e, l2, fr2, by2, aP, aF, aB, rfl, he, hl2, hC2, hG2, hM2, f0, f4, f5, f71, f72, hds, hk3⟩
          obtain ⟨hk3, hk4, hk5⟩ := hk3
          have ho2 := hC2.o
          have hn5r : n5 ≠ r := by omega
          have hn5m : n5 ≠ mq := by omega
          by_cases hle : e < silc x + 1
          · simp only [ltT hle, ho2, hk4, f0, f4, f5, f71, f72, hds, Cd.cd60, Tk.t60, base0, base1, base2, base3, Option.isNone_none, Option.isNone_some, Nat.reduceBEq, true_or, or_true, false_or, or_false, Nat.reduceLT, Nat.reduceMod, Nat.reducePow, rmaps, nsucc, List.flatten_cons, List.flatten_nil, Nat.reduceEqDiff, Nat.reduceLeDiff, Nat.reduceAdd, Nat.reduceMul, Nat.reduceSub, ↓reduceIte, reduceCtorEq, decide_true, decide_false]
            first | refine FCall.go (after74 y hy p.y e hp.2) (FZs.three (FZ.sysV y) (FZ.v _) (FZ.v _)) ?_ | refine FCall.go' (after74 y hy p.y e hp.2) (FZs.three (FZ.sysV y) (FZ.v _) (FZ.v _)) ?_ | refine FCall.goQ (after74 y hy p.y e hp.2) (FZs.three (FZ.sysV y) (FZ.v _) (FZ.v _)) ?_
            have hex : extN x y p l (e + 1) = extE x y p l2 e := by rw [extN_succ, hl2]
            by_cases hz : aft y p.y e = 0
            · simp only [uv, neU0, show decide (aft y p.y e ≠ 0) = false from decide_eq_false (by simpa using hz), f0, f4, f5, f71, f72, hds, Cd.cd60, Tk.t60, base0, base1, base2, base3, Option.isNone_none, Option.isNone_some, Nat.reduceBEq, true_or, or_true, false_or, or_false, Nat.reduceLT, Nat.reduceMod, Nat.reducePow, rmaps, nsucc, List.flatten_cons, List.flatten_nil, Nat.reduceEqDiff, Nat.reduceLeDiff, Nat.reduceAdd, Nat.reduceMul, Nat.reduceSub, ↓reduceIte, reduceCtorEq, decide_true, decide_false]
              exact ⟨_, by omega, e + 1, l2, fr2, by2, aP, aF, aB, rfl, by omega, by rw [hex, extE, if_pos hz], hC2, hG2, hM2, by rw [wrapS (by omega)], hk3, hk4, hk5⟩
            · simp only [uv, neU0, decide_eq_true hz, ho2, hk4, f0, f4, f5, f71, f72, hds, Cd.cd60, Tk.t60, base0, base1, base2, base3, Option.isNone_none, Option.isNone_some, Nat.reduceBEq, true_or, or_true, false_or, or_false, Nat.reduceLT, Nat.reduceMod, Nat.reducePow, rmaps, nsucc, List.flatten_cons, List.flatten_nil, Nat.reduceEqDiff, Nat.reduceLeDiff, Nat.reduceAdd, Nat.reduceMul, Nat.reduceSub, ↓reduceIte, reduceCtorEq, decide_true, decide_false]
              first | refine FCall.go (after74 x hx p.x e hp.1) (FZs.three (FZ.sysV x) (FZ.v _) (FZ.v _)) ?_ | refine FCall.go' (after74 x hx p.x e hp.1) (FZs.three (FZ.sysV x) (FZ.v _) (FZ.v _)) ?_ | refine FCall.goQ (after74 x hx p.x e hp.1) (FZs.three (FZ.sysV x) (FZ.v _) (FZ.v _)) ?_
              simp only [uv, f0, f4, f5, f71, f72, hds, Cd.cd60, Tk.t60, base0, base1, base2, base3, Option.isNone_none, Option.isNone_some, Nat.reduceBEq, true_or, or_true, false_or, or_false, Nat.reduceLT, Nat.reduceMod, Nat.reducePow, rmaps, nsucc, List.flatten_cons, List.flatten_nil, Nat.reduceEqDiff, Nat.reduceLeDiff, Nat.reduceAdd, Nat.reduceMul, Nat.reduceSub, ↓reduceIte, reduceCtorEq, decide_true, decide_false]
              refine ACall.thn' (add101 x y hx hy H' r mq aP aF aB l2 fr2 by2 hC2 hG2 hM2.f hM2.b (aft x p.x e) (aft y p.y e) (hx.pw (aft_lt hx hp.1 e)) (hy.pw (aft_lt hy hp.2 e)) (i : Int) (e : Int) (p.tr ++ [(e : Int)])) fun out H2 hq => ?_
              obtain ⟨rfl, ⟨aP2, aF2, aB2, hif⟩, h3, h4⟩ := hq
              refine ⟨_, rfl, ?_⟩
              have hG3 := hG2.extE hx hy hp.1 hp.2 e
              have hkk : n5 < H2.next ∧ H2.own n5 = some (.cells [AV.v (.int .u64 (p.x : Nat)), AV.v (.int .u64 (p.y : Nat))]) ∧ ∀ n, n < H.next → n ≠ r → n ≠ mq → H2.own n = H.own n := ⟨by omega, by rw [h4 n5 hk3 hn5r hn5m]; exact hk4, fun n h5 h6 h7 => by rw [h4 n (by omega) h6 h7]; exact hk5 n h5 h6 h7⟩
              obtain ⟨q, hq⟩ := extN_pre x y p l e
              have hil : i < l2.length := by rw [hl2, hq, List.length_append]; omega
              have hpi : l2.getD i default = p := by rw [hl2, hq, getD_append_left _ _ _ hlt, hpe]
              cases hmet : metN l2 (aft x p.x e) (aft y p.y e)
              · rw [hmet] at hif
                have hE : extE x y p l2 e = l2 ++ [⟨aft x p.x e, aft y p.y e, p.tr ++ [(e : Int)]⟩] := by
                  rw [extE, if_neg hz, addN, hmet]; rfl
                simp only [f0, f4, f5, f71, f72, hds, Cd.cd60, Tk.t60, base0, base1, base2, base3, Option.isNone_none, Option.isNone_some, Nat.reduceBEq, true_or, or_true, false_or, or_false, Nat.reduceLT, Nat.reduceMod, Nat.reducePow, rmaps, nsucc, List.flatten_cons, List.flatten_nil, Nat.reduceEqDiff, Nat.reduceLeDiff, Nat.reduceAdd, Nat.reduceMul, Nat.reduceSub, ↓reduceIte, reduceCtorEq, decide_true, decide_false]
                refine ⟨_, by omega, e + 1, extE x y p l2 e, _, _, aP2, aF2, aB2, rfl, by omega, hex.symm, by rw [hE]; exact hif, hG3, ?_, by rw [wrapS (by omega)], hkk⟩
                have := hM2.push hil (aft x p.x e) (aft y p.y e) (e : Int)
                rw [hpi] at this
                rw [hE]; exact this
              · rw [hmet] at hif
                have hE : extE x y p l2 e = l2 := by rw [extE, if_neg hz, addN, hmet]; rfl
                simp only [f0, f4, f5, f71, f72, hds, Cd.cd60, Tk.t60, base0, base1, base2, base3, Option.isNone_none, Option.isNone_some, Nat.reduceBEq, true_or, or_true, false_or, or_false, Nat.reduceLT, Nat.reduceMod, Nat.reducePow, rmaps, nsucc, List.flatten_cons, List.flatten_nil, Nat.reduceEqDiff, Nat.reduceLeDiff, Nat.reduceAdd, Nat.reduceMul, Nat.reduceSub, ↓reduceIte, reduceCtorEq, decide_true, decide_false]
                exact ⟨_, by omega, e + 1, l2, fr2, by2, aP2, aF2, aB2, rfl, by omega, by rw [hex, hE], hif, hG2, hM2, by rw [wrapS (by omega)], hkk⟩
          · have he' : e = silc x + 1 := by omega
            subst he'
            have hsn : ∀ res, SrchR x y l2 (i + 1) res → SrchR x y l0 0 res := fun res h => hS res (SrchR.next hlt (by rw [hpe]; exact hf) (by rw [hpe, ← hl2]; exact h))
            obtain ⟨q, hq⟩ := extN_pre x y p l (silc x + 1)
            have hil : i + 1 ≤ l2.length := by rw [hl2, hq, List.length_append]; omega
            have hlen2 := hG2.len hx hy
            simp only [ltF hle, f0, f4, f5, f71, f72, hds, Cd.cd60, Tk.t60, base0, base1, base2, base3, Option.isNone_none, Option.isNone_some, Nat.reduceBEq, true_or, or_true, false_or, or_false, Nat.reduceLT, Nat.reduceMod, Nat.reducePow, rmaps, nsucc, List.flatten_cons, List.flatten_nil, Nat.reduceEqDiff, Nat.reduceLeDiff, Nat.reduceAdd, Nat.reduceMul, Nat.reduceSub, ↓reduceIte, reduceCtorEq, decide_true, decide_false]
            exact ⟨_, by omega, i + 1, l2, fr2, by2, aP, aF, aB, rfl, hil, hC2, hG2, hM2, hsn, by rw [wrapS (by omega)], by omega, hkr, hkm, hk5⟩
    · simp only [ho, List.length_map, ltF hlt, f0, f4, hds, Cd.cd60, Tk.t60, base0, base1, base2, base3, Option.isNone_none, Option.isNone_some, Nat.reduceBEq, true_or, or_true, false_or, or_false, Nat.reduceLT, Nat.reduceMod, Nat.reducePow, rmaps, nsucc, List.flatten_cons, List.flatten_nil, Nat.reduceEqDiff, Nat.reduceLeDiff, Nat.reduceAdd, Nat.reduceMul, Nat.reduceSub, ↓reduceIte, reduceCtorEq, decide_true, decide_false]
      refine Frz.ret (v' := .tup [nilS, .v (.bool false)]) (Views.tup (Views.cons nil_view (Views.cons (FZ.v _).view Views.nil))) (FZ.tup (FZs.two FZ.nilS (FZ.v _))) ?_
      exact ⟨none, l, hS _ (SrchR.done hlt), rfl, ⟨tp, _, _, (below_own hkr).trans ho⟩, hk1, fun n h1 h2 h3 => (below_own h1).trans (hk2 n h1 h2 h3)⟩
end Go.Proofs.YtchpcjmgifnmdaaDoor

/- Walks: Conforms; the laws' examples. -/
namespace Go.Proofs.YtchpcjmgifnmdaaDoor
open Go Go.Proofs.YtchpcjmgifnmdaaDoor.Ab
set_option maxRecDepth 100000
set_option linter.unusedSimpArgs false

open Classical in
/-- the answer of a search -/
noncomputable def resN (x y : Re) : Option (List Int) × List Nd := if h : ∃ r, SrchR x y [nd0 x y] 0 r then Classical.choose h else (none, [])
theorem resN_eq {x y : Re} {r : Option (List Int) × List Nd} (h : SrchR x y [nd0 x y] 0 r) : resN x y = r := by
  unfold resN
  rw [dif_pos ⟨r, h⟩]
  exact (Classical.choose_spec (⟨r, h⟩ : ∃ r, SrchR x y [nd0 x y] 0 r)).det h
theorem resN_ok {x y : Re} (hx : Ok x) (hy : Ok y) : SrchR x y [nd0 x y] 0 (resN x y) := by
  obtain ⟨r, hr⟩ := srch_ex hx hy 1048576 _ 0 (good0 hx hy) (by omega) (by simp)
  rw [resN_eq hr]; exact hr
theorem bothR_ok {x y : Re} (h : bothR x y = 0) : Ok x ∧ Ok y ∧ x.inp = y.inp ∧ x.out = y.out ∧ silc y = silc x := by
  unfold bothR orI at h
  by_cases h1 : errR x = 0
  · by_cases h2 : errR y = 0
    · simp only [h1, h2, ne_eq, not_true, if_false] at h
      by_cases h3 : x.inp = y.inp
      · by_cases h4 : x.out = y.out
        · exact ⟨ok_of_check h1, ok_of_check h2, h3, h4, by unfold silc; rw [h3, h4]⟩
        · simp [h4] at h
      · simp [h3] at h
    · simp only [h1, ne_eq, not_true, if_false] at h
      rw [if_pos h2] at h; exact absurd h h2
  · rw [if_pos h1] at h; exact absurd h h1
theorem came0 (p : Nd) (h : p.tr = []) : Came [p] [-1] [-1] := ⟨rfl, rfl, by simp, ⟨rfl, h⟩, fun k h1 h2 => by simp at h2; omega⟩
def ansV (o : Option (List Int)) : AV := match o with
  | some tr => .tup [ints tr, .v (.int .i64 29)]
  | none => .tup [nilS, .v (.int .i64 0)]
noncomputable def confV (x y : Re) : AV := if bothR x y ≠ 0 then .tup [nilS, .v (.int .i64 (bothR x y))] else ansV (resN x y).1
theorem conforms17 (x y : Re) : FCall Tryd.prog 17 [reV x, reV y] (· = confV x y) := by
  simp only [reV, reL, mvsV]
  refine ACall.enter [] Cd.fn17 (by simp) ?_
  simp only [Cd.cd17, Tk.t17, base0, base1, base2, base3, Option.isNone_none, Option.isNone_some, Nat.reduceBEq, true_or, or_true, false_or, or_false, Nat.reduceLT, Nat.reduceMod, Nat.reducePow, rmaps, nsucc, List.flatten_cons, List.flatten_nil, Nat.reduceEqDiff, Nat.reduceLeDiff, Nat.reduceAdd, Nat.reduceMul, Nat.reduceSub, ↓reduceIte, reduceCtorEq, decide_true, decide_false]
  first | refine FCall.go (both58 x y) (FZs.two (FZ.reV x) (FZ.reV y)) ?_ | refine FCall.go' (both58 x y) (FZs.two (FZ.reV x) (FZ.reV y)) ?_ | refine FCall.goQ (both58 x y) (FZs.two (FZ.reV x) (FZ.reV y)) ?_
  by_cases h0 : bothR x y = 0
  · obtain ⟨hx, hy, h1, h2, h3⟩ := bothR_ok h0
    simp only [show (bothR x y != 0) = false from by rw [h0]; rfl, Cd.cd17, Tk.t17, base0, base1, base2, base3, Option.isNone_none, Option.isNone_some, Nat.reduceBEq, true_or, or_true, false_or, or_false, Nat.reduceLT, Nat.reduceMod, Nat.reducePow, rmaps, nsucc, List.flatten_cons, List.flatten_nil, Nat.reduceEqDiff, Nat.reduceLeDiff, Nat.reduceAdd, Nat.reduceMul, Nat.reduceSub, ↓reduceIte, reduceCtorEq, decide_true, decide_false]
    refine ACall.thn (compare59 x y hx hy _) fun out H2 hq => ?_
    obtain ⟨r, m, aP, aF, aB, rfl, hC, _, _, _, _⟩ := hq
    refine ⟨_, rfl, ?_⟩
    simp only [Cd.cd17, Tk.t17, base0, base1, base2, base3, Option.isNone_none, Option.isNone_some, Nat.reduceBEq, true_or, or_true, false_or, or_false, Nat.reduceLT, Nat.reduceMod, Nat.reducePow, rmaps, nsucc, List.flatten_cons, List.flatten_nil, Nat.reduceEqDiff, Nat.reduceLeDiff, Nat.reduceAdd, Nat.reduceMul, Nat.reduceSub, ↓reduceIte, reduceCtorEq, decide_true, decide_false]
    refine ACall.thn (run60 x y hx hy h3 H2 r m aP aF aB [nd0 x y] [-1] [-1] hC (good0 hx hy) (came0 _ rfl)) fun out H3 hq => ?_
    obtain ⟨o, l, hS, rfl, _⟩ := hq
    refine ⟨_, rfl, ?_⟩
    have hres := resN_eq hS
    have hcv : confV x y = ansV o := by unfold confV; rw [if_neg (by simpa using h0), hres]
    cases o with
    | none =>
      simp only [runV, Cd.cd17, Tk.t17, base0, base1, base2, base3, Option.isNone_none, Option.isNone_some, Nat.reduceBEq, true_or, or_true, false_or, or_false, Nat.reduceLT, Nat.reduceMod, Nat.reducePow, rmaps, nsucc, List.flatten_cons, List.flatten_nil, Nat.reduceEqDiff, Nat.reduceLeDiff, Nat.reduceAdd, Nat.reduceMul, Nat.reduceSub, ↓reduceIte, reduceCtorEq, decide_true, decide_false]
      first | refine FCall.go (unless61 _ _) (FZs.v2 _ _) ?_ | refine FCall.go' (unless61 _ _) (FZs.v2 _ _) ?_ | refine FCall.goQ (unless61 _ _) (FZs.v2 _ _) ?_
      simp only [Cd.cd17, Tk.t17, base0, base1, base2, base3, Option.isNone_none, Option.isNone_some, Nat.reduceBEq, true_or, or_true, false_or, or_false, Nat.reduceLT, Nat.reduceMod, Nat.reducePow, rmaps, nsucc, List.flatten_cons, List.flatten_nil, Nat.reduceEqDiff, Nat.reduceLeDiff, Nat.reduceAdd, Nat.reduceMul, Nat.reduceSub, ↓reduceIte, reduceCtorEq, decide_true, decide_false]
      refine ⟨_, _, rfl, Views.tup (Views.cons nil_view (Views.cons (FZ.v _).view Views.nil)), FZ.tup (FZs.two FZ.nilS (FZ.v _)), ?_⟩
      rw [hcv]; rfl
    | some tr =>
      simp only [runV, Cd.cd17, Tk.t17, base0, base1, base2, base3, Option.isNone_none, Option.isNone_some, Nat.reduceBEq, true_or, or_true, false_or, or_false, Nat.reduceLT, Nat.reduceMod, Nat.reducePow, rmaps, nsucc, List.flatten_cons, List.flatten_nil, Nat.reduceEqDiff, Nat.reduceLeDiff, Nat.reduceAdd, Nat.reduceMul, Nat.reduceSub, ↓reduceIte, reduceCtorEq, decide_true, decide_false]
      first | refine FCall.go (unless61 _ _) (FZs.v2 _ _) ?_ | refine FCall.go' (unless61 _ _) (FZs.v2 _ _) ?_ | refine FCall.goQ (unless61 _ _) (FZs.v2 _ _) ?_
      simp only [Cd.cd17, Tk.t17, base0, base1, base2, base3, Option.isNone_none, Option.isNone_some, Nat.reduceBEq, true_or, or_true, false_or, or_false, Nat.reduceLT, Nat.reduceMod, Nat.reducePow, rmaps, nsucc, List.flatten_cons, List.flatten_nil, Nat.reduceEqDiff, Nat.reduceLeDiff, Nat.reduceAdd, Nat.reduceMul, Nat.reduceSub, ↓reduceIte, reduceCtorEq, decide_true, decide_false]
      refine ⟨_, _, rfl, Views.tup (Views.cons (FZ.ints tr).view (Views.cons (FZ.v _).view Views.nil)), FZ.tup (FZs.two (FZ.ints tr) (FZ.v _)), ?_⟩
      rw [hcv]; rfl
  · simp only [bneT h0, Cd.cd17, Tk.t17, base0, base1, base2, base3, Option.isNone_none, Option.isNone_some, Nat.reduceBEq, true_or, or_true, false_or, or_false, Nat.reduceLT, Nat.reduceMod, Nat.reducePow, rmaps, nsucc, List.flatten_cons, List.flatten_nil, Nat.reduceEqDiff, Nat.reduceLeDiff, Nat.reduceAdd, Nat.reduceMul, Nat.reduceSub, ↓reduceIte, reduceCtorEq, decide_true, decide_false]
    refine ⟨_, _, rfl, Views.tup (Views.cons nil_view (Views.cons (FZ.v _).view Views.nil)), FZ.tup (FZs.two FZ.nilS (FZ.v _)), ?_⟩
    unfold confV; rw [if_pos h0]
def exR : Re := ⟨3, 0, 1, 2, [⟨0, 0, 0, 1⟩, ⟨1, 1, 0, 2⟩, ⟨2, 0, 0, 2⟩]⟩
def otR : Re := ⟨3, 0, 1, 2, [⟨0, 0, 0, 1⟩, ⟨1, 1, 1, 2⟩, ⟨2, 0, 0, 2⟩]⟩
def exC (b : Int) : List AV := [.v (.int .i64 0), .v (.int .i64 0), .v (.int .i64 0), .v (.int .i64 1), .v (.int .i64 1), .v (.int .i64 1), .v (.int .i64 b), .v (.int .i64 2), .v (.int .i64 2), .v (.int .i64 0), .v (.int .i64 0), .v (.int .i64 2)]
theorem exA57 (H : AH) : ACall Tryd.prog 57 [] H (fun out H' => ∃ n, out = .ret (.agg [.v (.int .i64 3), .v (.int .i64 0), .v (.int .i64 1), .v (.int .i64 2), .sl 4 n 0 3]) ∧ H'.own n = some (.cells (exC 0)) ∧ n < H'.next ∧ H.next ≤ n ∧ ∀ k, k < H.next → H'.own k = H.own k) := by
  refine ACall.enter [4] Cd.fn57 (by simp) ?_
  simp only [Cd.cd57, Tk.t57, base0, base1, base2, base3, Option.isNone_none, Option.isNone_some, Nat.reduceBEq, true_or, or_true, false_or, or_false, Nat.reduceLT, Nat.reduceMod, Nat.reducePow, rmaps, nsucc, List.flatten_cons, List.flatten_nil, Nat.reduceEqDiff, Nat.reduceLeDiff, Nat.reduceAdd, Nat.reduceMul, Nat.reduceSub, ↓reduceIte, reduceCtorEq, decide_true, decide_false]
  exact ⟨H.next + 1, rfl, by simp [exC], by omega, by omega, fun k hk => by simp [show ¬ k = H.next by omega, show ¬ k = H.next + 1 by omega]⟩
theorem exV {H : AH} {n : Nat} {b : Int} (h : H.own n = some (.cells (exC b))) : View H (.agg [.v (.int .i64 3), .v (.int .i64 0), .v (.int .i64 1), .v (.int .i64 2), .sl 4 n 0 3]) (reV ⟨3, 0, 1, 2, [⟨0, 0, 0, 1⟩, ⟨1, 1, b, 2⟩, ⟨2, 0, 0, 2⟩]⟩) := by
  refine Views.agg (Views.cons (FZ.v _).view (Views.cons (FZ.v _).view (Views.cons (FZ.v _).view (Views.cons (FZ.v _).view (Views.cons ?_ Views.nil)))))
  refine View.sl h (by simp [exC]) rfl (fun i hi => ?_) fun i j hi hj => ?_
  · match i, hi with
    | 0, _ => rfl
    | 1, _ => rfl
    | 2, _ => rfl
  · match i, j, hi, hj with
    | 0, 0, _, _ => exact (FZ.v _).view
    | 0, 1, _, _ => exact (FZ.v _).view
    | 0, 2, _, _ => exact (FZ.v _).view
    | 0, 3, _, _ => exact (FZ.v _).view
    | 1, 0, _, _ => exact (FZ.v _).view
    | 1, 1, _, _ => exact (FZ.v _).view
    | 1, 2, _, _ => exact (FZ.v _).view
    | 1, 3, _, _ => exact (FZ.v _).view
    | 2, 0, _, _ => exact (FZ.v _).view
    | 2, 1, _, _ => exact (FZ.v _).view
    | 2, 2, _, _ => exact (FZ.v _).view
    | 2, 3, _, _ => exact (FZ.v _).view
theorem example57 : FCall Tryd.prog 57 [] (· = reV exR) := by
  refine (exA57 AH.none).mono fun out H' hq => ?_
  obtain ⟨n, rfl, h1, _, _, _⟩ := hq
  exact ⟨_, _, rfl, exV h1, FZ.reV exR, rfl⟩
theorem other56 : FCall Tryd.prog 56 [] (· = reV otR) := by
  refine ACall.enter [] Cd.fn56 (by simp) ?_
  simp only [Cd.cd56, Tk.t56, base0, base1, base2, base3, Option.isNone_none, Option.isNone_some, Nat.reduceBEq, true_or, or_true, false_or, or_false, Nat.reduceLT, Nat.reduceMod, Nat.reducePow, rmaps, nsucc, List.flatten_cons, List.flatten_nil, Nat.reduceEqDiff, Nat.reduceLeDiff, Nat.reduceAdd, Nat.reduceMul, Nat.reduceSub, ↓reduceIte, reduceCtorEq, decide_true, decide_false]
  refine ACall.thn (exA57 _) fun out H2 hq => ?_
  obtain ⟨n, rfl, h1, h2, h3, h4⟩ := hq
  refine ⟨_, rfl, ?_⟩
  have h30 : 1 ≤ n := h3
  have h40 := h4 0 (by show 0 < 0 + 1; omega)
  simp only [AH.none, if_true] at h40
  have hn : (n = H2.next) = False := by simp; omega
  have hn1 : (H2.next = n) = False := by simp; omega
  have hn2 : (0 = H2.next) = False := by simp; omega
  have hn3 : (0 = n) = False := by simp; omega
  have hn4 : (n = 0) = False := by simp; omega
  have hn5 : (H2.next = 0) = False := by simp; omega
  unfold exC at h1
  simp only [hn, hn1, hn2, hn3, hn4, hn5, h1, h40, AH.none, show ((0 : Int) ≤ 1 ∧ (1 : Int) < ((3 : Nat) : Int)) = True from by simp, show Int.toNat 1 = 1 from rfl, Cd.cd56, Tk.t56, base0, base1, base2, base3, Option.isNone_none, Option.isNone_some, Nat.reduceBEq, true_or, or_true, false_or, or_false, Nat.reduceLT, Nat.reduceMod, Nat.reducePow, rmaps, nsucc, List.flatten_cons, List.flatten_nil, Nat.reduceEqDiff, Nat.reduceLeDiff, Nat.reduceAdd, Nat.reduceMul, Nat.reduceSub, ↓reduceIte, reduceCtorEq, decide_true, decide_false]
  exact ⟨_, _, rfl, exV (b := 1) (by simp [exC, hn4]), FZ.reV otR, rfl⟩
theorem conf_ex : confV otR exR = .tup [ints [0, 2], .v (.int .i64 29)] := by
  have h0 : bothR otR exR = 0 := by decide +kernel
  have h1 : (srch otR exR 10 [nd0 otR exR] 0).map (·.1) = some (some [0, 2]) := by decide +kernel
  rw [Option.map_eq_some_iff] at h1
  obtain ⟨⟨o, l⟩, h2, rfl⟩ := h1
  have h3 := resN_eq (⟨10, h2⟩ : SrchR otR exR [nd0 otR exR] 0 _)
  unfold confV
  rw [if_neg (by simp [h0]), h3]; rfl
theorem after_ex : afterR exR [0, 1] = .tup [ints [2], .v (.int .i64 0)] := by
  have h1 : errR exR = 0 := by decide +kernel
  have h2 : trErr exR [0, 1] = 0 := by decide +kernel
  have h3 : bitsI (alongM exR [0, 1]) = [2] := by decide +kernel
  unfold afterR
  rw [if_neg (by simp [h1]), if_neg (by simp [h2]), setV, h3]
theorem awake15 : FCall Tryd.prog 15 [] (· = .v (.bool true)) := by
  have hc := conforms17 otR exR
  rw [conf_ex] at hc
  have ha := afterTrace29 exR [0, 1]
  rw [after_ex] at ha
  have ha2 : FCall Tryd.prog 29 [reV exR, .lst 1 [[.v (.int .i64 0)], [.v (.int .i64 1)]] .full] (· = .tup [ints [2], .v (.int .i64 0)]) := ACall.args ha vrs_unk2
  have hs1 : FCall Tryd.prog 22 [ints [0, 2], .lst 1 [[.v (.int .i64 0)], [.v (.int .i64 2)]] .full] (· = .v (.bool true)) := ACall.args (same22 [0, 2] [0, 2] (by simp)) vrs_unk2
  have hs2 : FCall Tryd.prog 22 [ints [2], .lst 1 [[.v (.int .i64 2)]] .full] (· = .v (.bool true)) := ACall.args (same22 [2] [2] (by simp)) vrs_unk2
  have hz1 : FZ (.lst 1 [[.v (.int .i64 0)], [.v (.int .i64 1)]] .full) := FZ.intL (l := [0, 1]) (tip := .full) rfl
  have hz2 : FZ (.lst 1 [[.v (.int .i64 0)], [.v (.int .i64 2)]] .full) := FZ.intL (l := [0, 2]) (tip := .full) rfl
  have hz3 : FZ (.lst 1 [[.v (.int .i64 2)]] .full) := FZ.intL (l := [2]) (tip := .full) rfl
  refine ACall.enter [] Cd.fn15 (by simp) ?_
  simp only [Cd.cd15, Tk.t15, base0, base1, base2, base3, Option.isNone_none, Option.isNone_some, Nat.reduceBEq, true_or, or_true, false_or, or_false, Nat.reduceLT, Nat.reduceMod, Nat.reducePow, rmaps, nsucc, List.flatten_cons, List.flatten_nil, Nat.reduceEqDiff, Nat.reduceLeDiff, Nat.reduceAdd, Nat.reduceMul, Nat.reduceSub, ↓reduceIte, reduceCtorEq, decide_true, decide_false]
  first | refine FCall.go other56 (FZs.nil) ?_ | refine FCall.go' other56 (FZs.nil) ?_ | refine FCall.goQ other56 (FZs.nil) ?_
  simp only [Cd.cd15, Tk.t15, base0, base1, base2, base3, Option.isNone_none, Option.isNone_some, Nat.reduceBEq, true_or, or_true, false_or, or_false, Nat.reduceLT, Nat.reduceMod, Nat.reducePow, rmaps, nsucc, List.flatten_cons, List.flatten_nil, Nat.reduceEqDiff, Nat.reduceLeDiff, Nat.reduceAdd, Nat.reduceMul, Nat.reduceSub, ↓reduceIte, reduceCtorEq, decide_true, decide_false]
  first | refine FCall.go example57 (FZs.nil) ?_ | refine FCall.go' example57 (FZs.nil) ?_ | refine FCall.goQ example57 (FZs.nil) ?_
  simp only [Cd.cd15, Tk.t15, base0, base1, base2, base3, Option.isNone_none, Option.isNone_some, Nat.reduceBEq, true_or, or_true, false_or, or_false, Nat.reduceLT, Nat.reduceMod, Nat.reducePow, rmaps, nsucc, List.flatten_cons, List.flatten_nil, Nat.reduceEqDiff, Nat.reduceLeDiff, Nat.reduceAdd, Nat.reduceMul, Nat.reduceSub, ↓reduceIte, reduceCtorEq, decide_true, decide_false]
  first | refine FCall.go hc (FZs.two (FZ.reV _) (FZ.reV _)) ?_ | refine FCall.go' hc (FZs.two (FZ.reV _) (FZ.reV _)) ?_ | refine FCall.goQ hc (FZs.two (FZ.reV _) (FZ.reV _)) ?_
  simp only [Cd.cd15, Tk.t15, base0, base1, base2, base3, Option.isNone_none, Option.isNone_some, Nat.reduceBEq, true_or, or_true, false_or, or_false, Nat.reduceLT, Nat.reduceMod, Nat.reducePow, rmaps, nsucc, List.flatten_cons, List.flatten_nil, Nat.reduceEqDiff, Nat.reduceLeDiff, Nat.reduceAdd, Nat.reduceMul, Nat.reduceSub, ↓reduceIte, reduceCtorEq, decide_true, decide_false]
  first | refine FCall.go example57 (FZs.nil) ?_ | refine FCall.go' example57 (FZs.nil) ?_ | refine FCall.goQ example57 (FZs.nil) ?_
  simp only [Cd.cd15, Tk.t15, base0, base1, base2, base3, Option.isNone_none, Option.isNone_some, Nat.reduceBEq, true_or, or_true, false_or, or_false, Nat.reduceLT, Nat.reduceMod, Nat.reducePow, rmaps, nsucc, List.flatten_cons, List.flatten_nil, Nat.reduceEqDiff, Nat.reduceLeDiff, Nat.reduceAdd, Nat.reduceMul, Nat.reduceSub, ↓reduceIte, reduceCtorEq, decide_true, decide_false]
  first | refine FCall.go ha2 (FZs.two (FZ.reV _) hz1) ?_ | refine FCall.go' ha2 (FZs.two (FZ.reV _) hz1) ?_ | refine FCall.goQ ha2 (FZs.two (FZ.reV _) hz1) ?_
  simp only [show ((29 : Int) == 29) = true from rfl, Cd.cd15, Tk.t15, base0, base1, base2, base3, Option.isNone_none, Option.isNone_some, Nat.reduceBEq, true_or, or_true, false_or, or_false, Nat.reduceLT, Nat.reduceMod, Nat.reducePow, rmaps, nsucc, List.flatten_cons, List.flatten_nil, Nat.reduceEqDiff, Nat.reduceLeDiff, Nat.reduceAdd, Nat.reduceMul, Nat.reduceSub, ↓reduceIte, reduceCtorEq, decide_true, decide_false]
  first | refine FCall.go hs1 (FZs.two (FZ.ints _) hz2) ?_ | refine FCall.go' hs1 (FZs.two (FZ.ints _) hz2) ?_ | refine FCall.goQ hs1 (FZs.two (FZ.ints _) hz2) ?_
  simp only [show ((0 : Int) == 0) = true from rfl, Cd.cd15, Tk.t15, base0, base1, base2, base3, Option.isNone_none, Option.isNone_some, Nat.reduceBEq, true_or, or_true, false_or, or_false, Nat.reduceLT, Nat.reduceMod, Nat.reducePow, rmaps, nsucc, List.flatten_cons, List.flatten_nil, Nat.reduceEqDiff, Nat.reduceLeDiff, Nat.reduceAdd, Nat.reduceMul, Nat.reduceSub, ↓reduceIte, reduceCtorEq, decide_true, decide_false]
  first | refine FCall.go hs2 (FZs.two (FZ.ints _) hz3) ?_ | refine FCall.go' hs2 (FZs.two (FZ.ints _) hz3) ?_ | refine FCall.goQ hs2 (FZs.two (FZ.ints _) hz3) ?_
  simp only [Cd.cd15, Tk.t15, base0, base1, base2, base3, Option.isNone_none, Option.isNone_some, Nat.reduceBEq, true_or, or_true, false_or, or_false, Nat.reduceLT, Nat.reduceMod, Nat.reducePow, rmaps, nsucc, List.flatten_cons, List.flatten_nil, Nat.reduceEqDiff, Nat.reduceLeDiff, Nat.reduceAdd, Nat.reduceMul, Nat.reduceSub, ↓reduceIte, reduceCtorEq, decide_true, decide_false]
  exact fin_v rfl
end Go.Proofs.YtchpcjmgifnmdaaDoor

/- Walks: sets of states are checked; what they can show. -/
namespace Go.Proofs.YtchpcjmgifnmdaaDoor
open Go Go.Proofs.YtchpcjmgifnmdaaDoor.Ab
set_option maxRecDepth 100000
set_option linter.unusedSimpArgs false

def seE (x : Re) (set : List Int) (i : Nat) : Int :=
  if !within (set.getD i 0) 0 (IntKind.i64.wrap (x.st - 1)) then 3 else if decide (0 < i) && decide (set.getD i 0 ≤ set.getD (i - 1) 0) then 14 else 0
def setE (x : Re) (set : List Int) : Int := match firstIx set.length (fun i => seE x set i != 0) with
  | some i => seE x set i
  | none => 0
end Go.Proofs.YtchpcjmgifnmdaaDoor

/- Walks: ShownBy; the law of what is after a trace, and what is shown. -/
namespace Go.Proofs.YtchpcjmgifnmdaaDoor
open Go Go.Proofs.YtchpcjmgifnmdaaDoor.Ab
set_option maxRecDepth 100000
set_option linter.unusedSimpArgs false

def shownR (x : Re) (set : List Int) : AV := if errR x ≠ 0 then .tup [nilS, .v (.int .i64 (errR x))] else if setE x set ≠ 0 then .tup [nilS, .v (.int .i64 (setE x set))] else .tup [ints (shownL x (cl x (maskL set))), .v (.int .i64 0)]
end Go.Proofs.YtchpcjmgifnmdaaDoor

/- Walks: what is small; the least relation. -/
namespace Go.Proofs.YtchpcjmgifnmdaaDoor
open Go Go.Proofs.YtchpcjmgifnmdaaDoor.Ab
set_option maxRecDepth 100000
set_option linter.unusedSimpArgs false

def fewB (x : Re) : Bool := decide (errR x ≠ 0) || (decide (x.st ≤ 6) && decide (x.inp ≤ 2) && decide (x.out ≤ 2) && decide (x.mv.length ≤ 20))
theorem few16 (x : Re) : FCall Tryd.prog 16 [reV x] (· = .v (.bool (fewB x))) := by
  simp only [reV, reL, mvsV]
  refine ACall.enter [] Cd.fn16 (by simp) ?_
  simp only [Cd.cd16, Tk.t16, base0, base1, base2, base3, Option.isNone_none, Option.isNone_some, Nat.reduceBEq, true_or, or_true, false_or, or_false, Nat.reduceLT, Nat.reduceMod, Nat.reducePow, rmaps, nsucc, List.flatten_cons, List.flatten_nil, Nat.reduceEqDiff, Nat.reduceLeDiff, Nat.reduceAdd, Nat.reduceMul, Nat.reduceSub, ↓reduceIte, reduceCtorEq, decide_true, decide_false]
  first | refine FCall.go (err27 x) (FZs.one (FZ.reV x)) ?_ | refine FCall.go' (err27 x) (FZs.one (FZ.reV x)) ?_ | refine FCall.goQ (err27 x) (FZs.one (FZ.reV x)) ?_
  by_cases h1 : errR x = 0
  · have hb : fewB x = (decide (x.st ≤ 6) && decide (x.inp ≤ 2) && decide (x.out ≤ 2) && decide (x.mv.length ≤ 20)) := by unfold fewB; rw [decide_eq_false (by simpa using h1), Bool.false_or]
    rw [hb]
    by_cases h2 : x.st ≤ 6
    · by_cases h3 : x.inp ≤ 2
      · by_cases h4 : x.out ≤ 2
        · by_cases h5 : x.mv.length ≤ 20
          · simp only [List.length_map, show (errR x != 0) = false from by rw [h1]; rfl, decide_eq_true h2, decide_eq_true h3, decide_eq_true h4, show decide (((x.mv.length : Nat) : Int) ≤ 20) = true from decide_eq_true (by omega), Cd.cd16, Tk.t16, base0, base1, base2, base3, Option.isNone_none, Option.isNone_some, Nat.reduceBEq, true_or, or_true, false_or, or_false, Nat.reduceLT, Nat.reduceMod, Nat.reducePow, rmaps, nsucc, List.flatten_cons, List.flatten_nil, Nat.reduceEqDiff, Nat.reduceLeDiff, Nat.reduceAdd, Nat.reduceMul, Nat.reduceSub, ↓reduceIte, reduceCtorEq, decide_true, decide_false]
            exact fin_v (by simp [h5])
          · simp only [List.length_map, show (errR x != 0) = false from by rw [h1]; rfl, decide_eq_true h2, decide_eq_true h3, decide_eq_true h4, show decide (((x.mv.length : Nat) : Int) ≤ 20) = false from decide_eq_false (by omega), Cd.cd16, Tk.t16, base0, base1, base2, base3, Option.isNone_none, Option.isNone_some, Nat.reduceBEq, true_or, or_true, false_or, or_false, Nat.reduceLT, Nat.reduceMod, Nat.reducePow, rmaps, nsucc, List.flatten_cons, List.flatten_nil, Nat.reduceEqDiff, Nat.reduceLeDiff, Nat.reduceAdd, Nat.reduceMul, Nat.reduceSub, ↓reduceIte, reduceCtorEq, decide_true, decide_false]
            exact fin_v (by simp [h5])
        · simp only [List.length_map, show (errR x != 0) = false from by rw [h1]; rfl, decide_eq_true h2, decide_eq_true h3, decide_eq_false h4, Cd.cd16, Tk.t16, base0, base1, base2, base3, Option.isNone_none, Option.isNone_some, Nat.reduceBEq, true_or, or_true, false_or, or_false, Nat.reduceLT, Nat.reduceMod, Nat.reducePow, rmaps, nsucc, List.flatten_cons, List.flatten_nil, Nat.reduceEqDiff, Nat.reduceLeDiff, Nat.reduceAdd, Nat.reduceMul, Nat.reduceSub, ↓reduceIte, reduceCtorEq, decide_true, decide_false]
          exact fin_v (by simp)
      · simp only [List.length_map, show (errR x != 0) = false from by rw [h1]; rfl, decide_eq_true h2, decide_eq_false h3, Cd.cd16, Tk.t16, base0, base1, base2, base3, Option.isNone_none, Option.isNone_some, Nat.reduceBEq, true_or, or_true, false_or, or_false, Nat.reduceLT, Nat.reduceMod, Nat.reducePow, rmaps, nsucc, List.flatten_cons, List.flatten_nil, Nat.reduceEqDiff, Nat.reduceLeDiff, Nat.reduceAdd, Nat.reduceMul, Nat.reduceSub, ↓reduceIte, reduceCtorEq, decide_true, decide_false]
        exact fin_v (by simp)
    · simp only [List.length_map, show (errR x != 0) = false from by rw [h1]; rfl, decide_eq_false h2, Cd.cd16, Tk.t16, base0, base1, base2, base3, Option.isNone_none, Option.isNone_some, Nat.reduceBEq, true_or, or_true, false_or, or_false, Nat.reduceLT, Nat.reduceMod, Nat.reducePow, rmaps, nsucc, List.flatten_cons, List.flatten_nil, Nat.reduceEqDiff, Nat.reduceLeDiff, Nat.reduceAdd, Nat.reduceMul, Nat.reduceSub, ↓reduceIte, reduceCtorEq, decide_true, decide_false]
      exact fin_v (by simp)
  · simp only [bneT h1, Cd.cd16, Tk.t16, base0, base1, base2, base3, Option.isNone_none, Option.isNone_some, Nat.reduceBEq, true_or, or_true, false_or, or_false, Nat.reduceLT, Nat.reduceMod, Nat.reducePow, rmaps, nsucc, List.flatten_cons, List.flatten_nil, Nat.reduceEqDiff, Nat.reduceLeDiff, Nat.reduceAdd, Nat.reduceMul, Nat.reduceSub, ↓reduceIte, reduceCtorEq, decide_true, decide_false]
    exact fin_v (by unfold fewB; rw [decide_eq_true h1]; rfl)
def enR (p : Nd) : List AV := [setV p.x, setV p.y]
theorem FZs.enR (p : Nd) : FZs (enR p) := FZs.two (FZ.setV _) (FZ.setV _)
def relL (l : List Nd) : AV := .lst 2 (l.map enR) .unk
theorem FZ.relL (l : List Nd) : FZ (relL l) := FZ.lst rfl fun r hr => by
  obtain ⟨x, _, rfl⟩ := List.mem_map.mp hr
  exact FZs.enR x
def relO (o : Option (List Int)) (l : List Nd) : AV := match o with
  | some _ => .tup [nilS, .v (.int .i64 29)]
  | none => if 300 < l.length then .tup [nilS, .v (.int .i64 32)] else .tup [relL l, .v (.int .i64 0)]
noncomputable def relV (x y : Re) : AV := if bothR x y ≠ 0 then .tup [nilS, .v (.int .i64 (bothR x y))] else relO (resN x y).1 (resN x y).2
theorem srch_good {x y : Re} (hx : Ok x) (hy : Ok y) : ∀ (k : Nat) (l : List Nd) (i : Nat) (r : Option (List Int) × List Nd), srch x y k l i = some r → GoodN x y l → GoodN x y r.2
  | 0, _, _, _, h, _ => by cases h
  | k + 1, l, i, r, h, hG => by
    unfold srch at h
    split at h
    · rename_i hi
      have hp := hG.lt _ (getD_mem hi)
      split at h
      · simp only [Option.some.injEq] at h; subst h; exact hG
      · exact srch_good hx hy k _ _ _ h (hG.extN hx hy hp.1 hp.2 _)
    · simp only [Option.some.injEq] at h; subst h; exact hG
theorem SrchR.good {x y : Re} (hx : Ok x) (hy : Ok y) {l : List Nd} {i : Nat} {r : Option (List Int) × List Nd} (h : SrchR x y l i r) (hG : GoodN x y l) : GoodN x y r.2 := by
  obtain ⟨k, hk⟩ := h
  exact srch_good hx hy k l i r hk hG
theorem take_map_succ {α : Type} [Inhabited α] (f : α → List AV) (l : List α) {i : Nat} (h : i < l.length) : (l.take (i + 1)).map f = (l.take i).map f ++ [f (l.getD i default)] := by
  rw [List.take_add_one, List.getElem?_eq_getElem h, List.getD_eq_getElem?_getD, List.getElem?_eq_getElem h, List.map_append]; rfl
set_option maxHeartbeats 4000000 in
theorem relation19 (x y : Re) : FCall Tryd.prog 19 [reV x, reV y] (· = relV x y) := by
  simp only [reV, reL, mvsV]
  refine ACall.enter [] Cd.fn19 (by simp) ?_
  simp only [Cd.cd19, Tk.t19, base0, base1, base2, base3, Option.isNone_none, Option.isNone_some, Nat.reduceBEq, true_or, or_true, false_or, or_false, Nat.reduceLT, Nat.reduceMod, Nat.reducePow, rmaps, nsucc, List.flatten_cons, List.flatten_nil, Nat.reduceEqDiff, Nat.reduceLeDiff, Nat.reduceAdd, Nat.reduceMul, Nat.reduceSub, ↓reduceIte, reduceCtorEq, decide_true, decide_false]
  first | refine FCall.go (both58 x y) (FZs.two (FZ.reV x) (FZ.reV y)) ?_ | refine FCall.go' (both58 x y) (FZs.two (FZ.reV x) (FZ.reV y)) ?_ | refine FCall.goQ (both58 x y) (FZs.two (FZ.reV x) (FZ.reV y)) ?_
  by_cases h0 : bothR x y = 0
  · obtain ⟨hx, hy, h1, h2, h3⟩ := bothR_ok h0
    simp only [show (bothR x y != 0) = false from by rw [h0]; rfl, Cd.cd19, Tk.t19, base0, base1, base2, base3, Option.isNone_none, Option.isNone_some, Nat.reduceBEq, true_or, or_true, false_or, or_false, Nat.reduceLT, Nat.reduceMod, Nat.reducePow, rmaps, nsucc, List.flatten_cons, List.flatten_nil, Nat.reduceEqDiff, Nat.reduceLeDiff, Nat.reduceAdd, Nat.reduceMul, Nat.reduceSub, ↓reduceIte, reduceCtorEq, decide_true, decide_false]
    refine ACall.thn (compare59 x y hx hy _) fun out H2 hq => ?_
    obtain ⟨r, mq, aP, aF, aB, rfl, hC, _, _, _, _⟩ := hq
    refine ⟨_, rfl, ?_⟩
    simp only [Cd.cd19, Tk.t19, base0, base1, base2, base3, Option.isNone_none, Option.isNone_some, Nat.reduceBEq, true_or, or_true, false_or, or_false, Nat.reduceLT, Nat.reduceMod, Nat.reducePow, rmaps, nsucc, List.flatten_cons, List.flatten_nil, Nat.reduceEqDiff, Nat.reduceLeDiff, Nat.reduceAdd, Nat.reduceMul, Nat.reduceSub, ↓reduceIte, reduceCtorEq, decide_true, decide_false]
    refine ACall.thn (run60 x y hx hy h3 H2 r mq aP aF aB [nd0 x y] [-1] [-1] hC (good0 hx hy) (came0 _ rfl)) fun out H3 hq => ?_
    obtain ⟨o, l, hS, rfl, ⟨tp, aF2, aB2, ho⟩, _, _⟩ := hq
    refine ⟨_, rfl, ?_⟩
    have hres := resN_eq hS
    have hrv : relV x y = relO o l := by unfold relV; rw [if_neg (by simpa using h0), hres]
    have hGl : GoodN x y l := hS.good hx hy (good0 hx hy)
    cases o with
    | some tr =>
      simp only [runV, Cd.cd19, Tk.t19, base0, base1, base2, base3, Option.isNone_none, Option.isNone_some, Nat.reduceBEq, true_or, or_true, false_or, or_false, Nat.reduceLT, Nat.reduceMod, Nat.reducePow, rmaps, nsucc, List.flatten_cons, List.flatten_nil, Nat.reduceEqDiff, Nat.reduceLeDiff, Nat.reduceAdd, Nat.reduceMul, Nat.reduceSub, ↓reduceIte, reduceCtorEq, decide_true, decide_false]
      exact ⟨_, _, rfl, Views.tup (Views.cons nil_view (Views.cons (FZ.v _).view Views.nil)), FZ.tup (FZs.two FZ.nilS (FZ.v _)), hrv.symm⟩
    | none =>
      by_cases hl : 300 < l.length
      · simp only [runV, ho, List.length_map, show decide (((l.length : Nat) : Int) > 300) = true from decide_eq_true (by omega), Cd.cd19, Tk.t19, base0, base1, base2, base3, Option.isNone_none, Option.isNone_some, Nat.reduceBEq, true_or, or_true, false_or, or_false, Nat.reduceLT, Nat.reduceMod, Nat.reducePow, rmaps, nsucc, List.flatten_cons, List.flatten_nil, Nat.reduceEqDiff, Nat.reduceLeDiff, Nat.reduceAdd, Nat.reduceMul, Nat.reduceSub, ↓reduceIte, reduceCtorEq, decide_true, decide_false]
        refine ⟨_, _, rfl, Views.tup (Views.cons nil_view (Views.cons (FZ.v _).view Views.nil)), FZ.tup (FZs.two FZ.nilS (FZ.v _)), ?_⟩
        rw [hrv, relO, if_pos hl]
      · have hgl : ∀ p ∈ l, p.x < 1024 ∧ p.y < 1024 := by
          intro p hp
          have := hGl.lt p hp
          exact ⟨hx.pw this.1, hy.pw this.2⟩
        simp only [runV, ho, List.length_map, show decide (((l.length : Nat) : Int) > 300) = false from decide_eq_false (by omega), Cd.cd19, Tk.t19, base0, base1, base2, base3, Option.isNone_none, Option.isNone_some, Nat.reduceBEq, true_or, or_true, false_or, or_false, Nat.reduceLT, Nat.reduceMod, Nat.reducePow, rmaps, nsucc, List.flatten_cons, List.flatten_nil, Nat.reduceEqDiff, Nat.reduceLeDiff, Nat.reduceAdd, Nat.reduceMul, Nat.reduceSub, ↓reduceIte, reduceCtorEq, decide_true, decide_false]
        refine LWP.loop [] (fun m f H' => ∃ i a, m = l.length - i ∧ (i ≤ l.length) ∧ (GrowN enR 2 0 H' a (l.take i)) ∧ f.t 10 = a ∧ f.t 37 = .lst 2 (l.map enP) (.live tp) ∧ f.t 38 = .v (.int .i64 (l.length : Nat)) ∧ f.t 39 = .v (.int .i64 (i : Nat)) ∧ f.ds = [] ∧ True) ?_ ?_ (m := l.length - (0))
        · exact ⟨0, nilS, rfl, (by omega), (.inl ⟨rfl, .inl rfl⟩), rfl, rfl, rfl, rfl, rfl, trivial⟩
        · rintro m f H' ⟨i, a, rfl, hi, hg, f10, f37, f38, f39, hds, hH⟩
          by_cases hlt : i < l.length
          · have hgp := getD_map enP l i hlt
            have hpl := hgl _ (getD_mem hlt)
            have htk := take_map_succ enR l hlt
            have hln : (l.take (i + 1)).length = (l.take i).length + 1 := by simp only [List.length_take]; omega
            generalize hpe : l.getD i default = p at hgp hpl htk
            have hr : roomA 48 ((l.take i).length + 1) = true := room_of (by simp only [List.length_take]; omega) (by simp only [List.length_take]; omega)
            simp only [List.length_map, ltT hlt, inR hlt, Int.toNat_natCast, hgp, enP, f10, f37, f38, f39, hds, Cd.cd19, Tk.t19, base0, base1, base2, base3, Option.isNone_none, Option.isNone_some, Nat.reduceBEq, true_or, or_true, false_or, or_false, Nat.reduceLT, Nat.reduceMod, Nat.reducePow, rmaps, nsucc, List.flatten_cons, List.flatten_nil, Nat.reduceEqDiff, Nat.reduceLeDiff, Nat.reduceAdd, Nat.reduceMul, Nat.reduceSub, ↓reduceIte, reduceCtorEq, decide_true, decide_false]
            first | refine FCall.go (states62 p.x hpl.1) (FZs.v1 _) ?_ | refine FCall.go' (states62 p.x hpl.1) (FZs.v1 _) ?_ | refine FCall.goQ (states62 p.x hpl.1) (FZs.v1 _) ?_
            simp only [f10, f37, f38, f39, hds, Cd.cd19, Tk.t19, base0, base1, base2, base3, Option.isNone_none, Option.isNone_some, Nat.reduceBEq, true_or, or_true, false_or, or_false, Nat.reduceLT, Nat.reduceMod, Nat.reducePow, rmaps, nsucc, List.flatten_cons, List.flatten_nil, Nat.reduceEqDiff, Nat.reduceLeDiff, Nat.reduceAdd, Nat.reduceMul, Nat.reduceSub, ↓reduceIte, reduceCtorEq, decide_true, decide_false]
            first | refine FCall.go (states62 p.y hpl.2) (FZs.v1 _) ?_ | refine FCall.go' (states62 p.y hpl.2) (FZs.v1 _) ?_ | refine FCall.goQ (states62 p.y hpl.2) (FZs.v1 _) ?_
            rcases hg with ⟨h0, rfl | rfl⟩ | ⟨t, t1, t2, rfl, t4⟩
            · simp only [nilS, setV, ints, show roomA 48 1 = true from rfl, f10, f37, f38, f39, hds, Cd.cd19, Tk.t19, base0, base1, base2, base3, Option.isNone_none, Option.isNone_some, Nat.reduceBEq, true_or, or_true, false_or, or_false, Nat.reduceLT, Nat.reduceMod, Nat.reducePow, rmaps, nsucc, List.flatten_cons, List.flatten_nil, Nat.reduceEqDiff, Nat.reduceLeDiff, Nat.reduceAdd, Nat.reduceMul, Nat.reduceSub, ↓reduceIte, reduceCtorEq, decide_true, decide_false]
              exact ⟨_, by omega, i + 1, _, rfl, by omega, .inr ⟨_, Nat.zero_le _, Nat.lt_succ_self _, by rw [htk, h0]; rfl, by rw [hln, h0]; simp⟩, rfl, by rw [wrapS (by omega)]⟩
            · simp only [setV, ints, show roomA 48 1 = true from rfl, f10, f37, f38, f39, hds, Cd.cd19, Tk.t19, base0, base1, base2, base3, Option.isNone_none, Option.isNone_some, Nat.reduceBEq, true_or, or_true, false_or, or_false, Nat.reduceLT, Nat.reduceMod, Nat.reducePow, rmaps, nsucc, List.flatten_cons, List.flatten_nil, Nat.reduceEqDiff, Nat.reduceLeDiff, Nat.reduceAdd, Nat.reduceMul, Nat.reduceSub, ↓reduceIte, reduceCtorEq, decide_true, decide_false]
              exact ⟨_, by omega, i + 1, _, rfl, by omega, .inr ⟨_, Nat.zero_le _, Nat.lt_succ_self _, by rw [htk, h0]; rfl, by rw [hln, h0]; simp⟩, rfl, by rw [wrapS (by omega)]⟩
            · simp only [setV, ints, t4, hr, List.length_map, f10, f37, f38, f39, hds, Cd.cd19, Tk.t19, base0, base1, base2, base3, Option.isNone_none, Option.isNone_some, Nat.reduceBEq, true_or, or_true, false_or, or_false, Nat.reduceLT, Nat.reduceMod, Nat.reducePow, rmaps, nsucc, List.flatten_cons, List.flatten_nil, Nat.reduceEqDiff, Nat.reduceLeDiff, Nat.reduceAdd, Nat.reduceMul, Nat.reduceSub, ↓reduceIte, reduceCtorEq, decide_true, decide_false]
              exact ⟨_, by omega, i + 1, _, rfl, by omega, .inr ⟨t, t1, Nat.lt_succ_of_lt t2, by rw [htk]; rfl, by rw [hln]; simp⟩, rfl, by rw [wrapS (by omega)]⟩
          · have hi' : i = l.length := by omega
            rw [hi', List.take_length] at hg
            simp only [List.length_map, ltF hlt, f10, f37, f38, f39, hds, Cd.cd19, Tk.t19, base0, base1, base2, base3, Option.isNone_none, Option.isNone_some, Nat.reduceBEq, true_or, or_true, false_or, or_false, Nat.reduceLT, Nat.reduceMod, Nat.reducePow, rmaps, nsucc, List.flatten_cons, List.flatten_nil, Nat.reduceEqDiff, Nat.reduceLeDiff, Nat.reduceAdd, Nat.reduceMul, Nat.reduceSub, ↓reduceIte, reduceCtorEq, decide_true, decide_false]
            refine ⟨_, _, rfl, Views.tup (Views.cons (hg.view FZs.enR) (Views.cons (FZ.v _).view Views.nil)), FZ.tup (FZs.two (FZ.relL l) (FZ.v _)), ?_⟩
            rw [hrv, relO, if_neg hl]; rfl
  · simp only [bneT h0, Cd.cd19, Tk.t19, base0, base1, base2, base3, Option.isNone_none, Option.isNone_some, Nat.reduceBEq, true_or, or_true, false_or, or_false, Nat.reduceLT, Nat.reduceMod, Nat.reducePow, rmaps, nsucc, List.flatten_cons, List.flatten_nil, Nat.reduceEqDiff, Nat.reduceLeDiff, Nat.reduceAdd, Nat.reduceMul, Nat.reduceSub, ↓reduceIte, reduceCtorEq, decide_true, decide_false]
    refine ⟨_, _, rfl, Views.tup (Views.cons nil_view (Views.cons (FZ.v _).view Views.nil)), FZ.tup (FZs.two FZ.nilS (FZ.v _)), ?_⟩
    unfold relV; rw [if_pos h0]
end Go.Proofs.YtchpcjmgifnmdaaDoor

/- Walks: the reference's search. -/
namespace Go.Proofs.YtchpcjmgifnmdaaDoor
open Go Go.Proofs.YtchpcjmgifnmdaaDoor.Ab
set_option maxRecDepth 100000
set_option linter.unusedSimpArgs false

def enN (p : Nd) : List AV := [setV p.x, setV p.y, ints p.tr]
theorem FZs.enN (p : Nd) : FZs (enN p) := FZs.three (FZ.setV _) (FZ.setV _) (FZ.ints _)
def pairsV (l : List Nd) : AV := .lst 3 (l.map enN) .unk
theorem FZ.pairsV (l : List Nd) : FZ (pairsV l) := FZ.lst rfl fun r hr => by
  obtain ⟨x, _, rfl⟩ := List.mem_map.mp hr
  exact FZs.enN x
theorem bitsI_inj {a b : Nat} (ha : a < 1024) (hb : b < 1024) : bitsI a = bitsI b ↔ a = b := by
  constructor
  · intro h
    rw [← maskL_bits ha, ← maskL_bits hb, h]
  · intro h; rw [h]
theorem met65 (l : List Nd) (p : Nd) (hl : l.length < 2 ^ 40) (h : ∀ q ∈ l, q.x < 1024 ∧ q.y < 1024) (hx : p.x < 1024) (hy : p.y < 1024) : FCall Tryd.prog 65 [pairsV l, .agg (enN p)] (· = .v (.bool (metN l p.x p.y))) := by
  simp only [pairsV, enN]
  refine ACall.enter [] Cd.fn65 (by simp) ?_
  simp only [Cd.cd65, Tk.t65, base0, base1, base2, base3, Option.isNone_none, Option.isNone_some, Nat.reduceBEq, true_or, or_true, false_or, or_false, Nat.reduceLT, Nat.reduceMod, Nat.reducePow, rmaps, nsucc, List.flatten_cons, List.flatten_nil, Nat.reduceEqDiff, Nat.reduceLeDiff, Nat.reduceAdd, Nat.reduceMul, Nat.reduceSub, ↓reduceIte, reduceCtorEq, decide_true, decide_false]
  refine LWP.loop [] (fun m f H' => ∃ i, m = l.length - i ∧ (i ≤ l.length) ∧ (∀ j, j < i → ¬ ((l.getD j default).x = p.x ∧ (l.getD j default).y = p.y)) ∧ f.t 0 = pairsV l ∧ f.t 3 = .box [setV p.x, setV p.y, ints p.tr] ∧ f.t 5 = .v (.int .i64 (i : Nat)) ∧ f.ds = [] ∧ H' = AH.none) ?_ ?_ (m := l.length - (0))
  · exact ⟨0, rfl, (by omega), (fun j hj => by omega), rfl, rfl, rfl, rfl, rfl⟩
  · rintro m f H' ⟨i, rfl, hi, hz, f0, f3, f5, hds, rfl⟩
    by_cases hlt : i < l.length
    · have hg := getD_map enN l i hlt
      have hq := h _ (getD_mem hlt)
      have hmt := getD_mem (l := l) hlt
      generalize hqe : l.getD i default = q at hg hq hmt
      simp only [pairsV, List.length_map, ltT hlt, inR hlt, Int.toNat_natCast, hg, enN, f0, f3, f5, hds, Cd.cd65, Tk.t65, base0, base1, base2, base3, Option.isNone_none, Option.isNone_some, Nat.reduceBEq, true_or, or_true, false_or, or_false, Nat.reduceLT, Nat.reduceMod, Nat.reducePow, rmaps, nsucc, List.flatten_cons, List.flatten_nil, Nat.reduceEqDiff, Nat.reduceLeDiff, Nat.reduceAdd, Nat.reduceMul, Nat.reduceSub, ↓reduceIte, reduceCtorEq, decide_true, decide_false]
      first | refine FCall.go (same22 (bitsI q.x) (bitsI p.x) (by have := setL_len q.x; omega)) (FZs.two (FZ.setV _) (FZ.setV _)) ?_ | refine FCall.go' (same22 (bitsI q.x) (bitsI p.x) (by have := setL_len q.x; omega)) (FZs.two (FZ.setV _) (FZ.setV _)) ?_ | refine FCall.goQ (same22 (bitsI q.x) (bitsI p.x) (by have := setL_len q.x; omega)) (FZs.two (FZ.setV _) (FZ.setV _)) ?_
      by_cases h1 : q.x = p.x
      · simp only [pairsV, decide_eq_true ((bitsI_inj hq.1 hx).mpr h1), List.length_map, inR hlt, Int.toNat_natCast, hg, enN, f0, f3, f5, hds, Cd.cd65, Tk.t65, base0, base1, base2, base3, Option.isNone_none, Option.isNone_some, Nat.reduceBEq, true_or, or_true, false_or, or_false, Nat.reduceLT, Nat.reduceMod, Nat.reducePow, rmaps, nsucc, List.flatten_cons, List.flatten_nil, Nat.reduceEqDiff, Nat.reduceLeDiff, Nat.reduceAdd, Nat.reduceMul, Nat.reduceSub, ↓reduceIte, reduceCtorEq, decide_true, decide_false]
        first | refine FCall.go (same22 (bitsI q.y) (bitsI p.y) (by have := setL_len q.y; omega)) (FZs.two (FZ.setV _) (FZ.setV _)) ?_ | refine FCall.go' (same22 (bitsI q.y) (bitsI p.y) (by have := setL_len q.y; omega)) (FZs.two (FZ.setV _) (FZ.setV _)) ?_ | refine FCall.goQ (same22 (bitsI q.y) (bitsI p.y) (by have := setL_len q.y; omega)) (FZs.two (FZ.setV _) (FZ.setV _)) ?_
        by_cases h2 : q.y = p.y
        · simp only [decide_eq_true ((bitsI_inj hq.2 hy).mpr h2), f0, f3, f5, hds, Cd.cd65, Tk.t65, base0, base1, base2, base3, Option.isNone_none, Option.isNone_some, Nat.reduceBEq, true_or, or_true, false_or, or_false, Nat.reduceLT, Nat.reduceMod, Nat.reducePow, rmaps, nsucc, List.flatten_cons, List.flatten_nil, Nat.reduceEqDiff, Nat.reduceLeDiff, Nat.reduceAdd, Nat.reduceMul, Nat.reduceSub, ↓reduceIte, reduceCtorEq, decide_true, decide_false]
          exact fin_v (by rw [metN_iff.mpr ⟨q, hmt, h1, h2⟩])
        · simp only [decide_eq_false (fun e => h2 ((bitsI_inj hq.2 hy).mp e)), f0, f3, f5, hds, Cd.cd65, Tk.t65, base0, base1, base2, base3, Option.isNone_none, Option.isNone_some, Nat.reduceBEq, true_or, or_true, false_or, or_false, Nat.reduceLT, Nat.reduceMod, Nat.reducePow, rmaps, nsucc, List.flatten_cons, List.flatten_nil, Nat.reduceEqDiff, Nat.reduceLeDiff, Nat.reduceAdd, Nat.reduceMul, Nat.reduceSub, ↓reduceIte, reduceCtorEq, decide_true, decide_false]
          refine ⟨_, by omega, i + 1, rfl, by omega, ?_⟩
          (repeat' apply And.intro) <;> first | rfl | (rw [wrapS (by omega)]) | omega | assumption | (exact allS hz (by rw [hqe]; exact fun e => h2 e.2))
      · simp only [decide_eq_false (fun e => h1 ((bitsI_inj hq.1 hx).mp e)), f0, f3, f5, hds, Cd.cd65, Tk.t65, base0, base1, base2, base3, Option.isNone_none, Option.isNone_some, Nat.reduceBEq, true_or, or_true, false_or, or_false, Nat.reduceLT, Nat.reduceMod, Nat.reducePow, rmaps, nsucc, List.flatten_cons, List.flatten_nil, Nat.reduceEqDiff, Nat.reduceLeDiff, Nat.reduceAdd, Nat.reduceMul, Nat.reduceSub, ↓reduceIte, reduceCtorEq, decide_true, decide_false]
        refine ⟨_, by omega, i + 1, rfl, by omega, ?_⟩
        (repeat' apply And.intro) <;> first | rfl | (rw [wrapS (by omega)]) | omega | assumption | (exact allS hz (by rw [hqe]; exact fun e => h1 e.1))
    · simp only [pairsV, List.length_map, ltF hlt, f0, f3, f5, hds, Cd.cd65, Tk.t65, base0, base1, base2, base3, Option.isNone_none, Option.isNone_some, Nat.reduceBEq, true_or, or_true, false_or, or_false, Nat.reduceLT, Nat.reduceMod, Nat.reducePow, rmaps, nsucc, List.flatten_cons, List.flatten_nil, Nat.reduceEqDiff, Nat.reduceLeDiff, Nat.reduceAdd, Nat.reduceMul, Nat.reduceSub, ↓reduceIte, reduceCtorEq, decide_true, decide_false]
      refine fin_v ?_
      have : metN l p.x p.y = false := by
        rw [Bool.eq_false_iff]
        intro hm
        obtain ⟨q, hq, h1, h2⟩ := metN_iff.mp hm
        obtain ⟨j, hj, rfl⟩ := mem_getD hq
        exact hz j (by omega) ⟨h1, h2⟩
      rw [this]
end Go.Proofs.YtchpcjmgifnmdaaDoor

/- Walks: the reference's search, all of it. -/
namespace Go.Proofs.YtchpcjmgifnmdaaDoor
open Go Go.Proofs.YtchpcjmgifnmdaaDoor.Ab
set_option maxRecDepth 100000
set_option linter.unusedSimpArgs false

def enA (q : Nd × AV) : List AV := [setV q.1.x, setV q.1.y, q.2]
def TrOk (a : AV) (tr : List Int) : Prop := (a = nilS ∧ tr = []) ∨ ∃ tip, a = .lst 1 (tr.map intR) tip
theorem TrOk.view {H : AH} {a : AV} {tr : List Int} (h : TrOk a tr) : View H a (ints tr) := by
  rcases h with ⟨rfl, rfl⟩ | ⟨tip, rfl⟩
  · exact View.nil 1
  · exact View.tip fun rr hr => by
      obtain ⟨y, _, rfl⟩ := List.mem_map.mp hr
      exact FZs.v1 _
theorem TrOk.vrs {a : AV} {tr : List Int} (h : TrOk a tr) : ∀ g xs, VRs g [a] xs → VRs g [ints tr] xs := fun g xs hx => ⟨hx.1, fun j hj => by
  have hj0 : j = 0 := by simpa using hj
  subst hj0
  have h0 := hx.2 0 (by simp)
  simp only [List.getD_cons_zero] at h0 ⊢
  rcases h with ⟨rfl, rfl⟩ | ⟨tip, rfl⟩
  · have := h0.of_v
    rw [this]
    exact .lst (a := ⟨0, 0, .none⟩) (xs := fun _ _ => undef) rfl (Nat.le_refl _) (fun _ => rfl) (by simp) (by simp) (by intro i j hi; simp at hi) (by intro i j hi; simp at hi) trivial
  · exact vr_unk h0⟩
/-- a list that is full, or grows -/
def GrowG {α : Type} (enc : α → List AV) (k : Nat) (H : AH) (a : AV) (l : List α) : Prop := a = .lst k (l.map enc) .full ∨ ∃ t, t < H.next ∧ a = .lst k (l.map enc) (.live t) ∧ H.tip t = some l.length
theorem GrowG.lst {α : Type} {enc : α → List AV} {k : Nat} {H : AH} {a : AV} {l : List α} (h : GrowG enc k H a l) : ∃ tip, a = .lst k (l.map enc) tip := by
  rcases h with h | ⟨t, _, h, _⟩
  · exact ⟨_, h⟩
  · exact ⟨_, h⟩
theorem GrowG.mono {α : Type} {enc : α → List AV} {k : Nat} {H H' : AH} {a : AV} {l : List α} (h : GrowG enc k H a l) (hn : H.next ≤ H'.next) (ht : ∀ t, t < H.next → H'.tip t = H.tip t) : GrowG enc k H' a l := by
  rcases h with h | ⟨t, h1, h2, h3⟩
  · exact .inl h
  · exact .inr ⟨t, Nat.lt_of_lt_of_le h1 hn, h2, (ht t h1).trans h3⟩
theorem viewA {H : AH} {L : List (Nd × AV)} {tip : Tip} (hT : ∀ q ∈ L, TrOk q.2 q.1.tr) : View H (.lst 3 (L.map enA) tip) (pairsV (L.map Prod.fst)) := by
  have hg : ∀ i, i < L.length → (L.map enA).getD i [] = enA (L.getD i default) := fun i hi => getDmap enA L i hi
  have hg' : ∀ i, i < L.length → ((L.map Prod.fst).map enN).getD i [] = enN (L.getD i default).1 := fun i hi => by
    rw [getDmap enN _ i (by simpa using hi)]
    congr 1
    rw [List.getD_eq_getElem?_getD, List.getElem?_map, List.getElem?_eq_getElem hi, List.getD_eq_getElem?_getD, List.getElem?_eq_getElem hi]; rfl
  refine View.lst (by simp) (fun i hi => ?_) fun i j hi hj => ?_
  · have hi' : i < L.length := by simpa using hi
    rw [hg i hi', hg' i hi']; rfl
  · have hi' : i < L.length := by simpa using hi
    rw [hg i hi', hg' i hi']
    match j, hj with
    | 0, _ => exact (FZ.setV _).view
    | 1, _ => exact (FZ.setV _).view
    | 2, _ => exact (hT _ (getD_mem hi')).view
theorem fst_getD (L : List (Nd × AV)) {i : Nat} (hi : i < L.length) : (L.map Prod.fst).getD i default = (L.getD i default).1 := by
  rw [List.getD_eq_getElem?_getD, List.getElem?_map, List.getElem?_eq_getElem hi, List.getD_eq_getElem?_getD, List.getElem?_eq_getElem hi]; rfl
theorem viewT' {H : AH} {l : List Int} {tip : Tip} : View H (.lst 1 (l.map intR) tip) (ints l) := View.tip fun rr hr => by
  obtain ⟨y, _, rfl⟩ := List.mem_map.mp hr
  exact FZs.v1 _
theorem setV_z0 {x : Re} (hx : Ok x) {l : Nat} (hl : l < 2 ^ nst x) : (((bitsN l).length : Int) == 0) = decide (l = 0) := by
  have h := bitsN_nil (hx.pw hl)
  by_cases h0 : l = 0
  · rw [h.mpr h0]; simp [h0]
  · have : 0 < (bitsN l).length := List.length_pos_iff.mpr fun e => h0 (h.mp e)
    simp [h0]; exact fun e => h0 (h.mp e)
theorem viewNd {H : AH} {a b : Nat} {tr : List Int} {rows : List (List AV)} {tip : Tip} (h : AV.lst 1 (tr.map intR) tip = .lst 1 rows tip) : View H (.agg [setV a, setV b, .lst 1 rows tip]) (.agg (enN ⟨a, b, tr⟩)) :=
  Views.agg (Views.cons (FZ.setV a).view (Views.cons (FZ.setV b).view (Views.cons (by rw [← h]; exact viewT') Views.nil)))
/-- what the search knows of its list -/
structure SeI (x y : Re) (L : List (Nd × AV)) : Prop where
  G : GoodN x y (L.map Prod.fst)
  T : ∀ q ∈ L, TrOk q.2 q.1.tr
  B : ∀ j, j < L.length → (L.getD j default).1.tr.length ≤ j
theorem SeI.start {x y : Re} (hx : Ok x) (hy : Ok y) : SeI x y [(nd0 x y, nilS)] := ⟨good0 hx hy, fun q hq => by simp at hq; subst hq; exact .inl ⟨rfl, rfl⟩, fun j hj => by simp at hj; subst hj; exact Nat.le_refl _⟩
theorem SeI.len {x y : Re} (hx : Ok x) (hy : Ok y) {L : List (Nd × AV)} (h : SeI x y L) : L.length ≤ 1048576 := by
  have := h.G.len hx hy; simpa using this
theorem SeI.add {x y : Re} (hx : Ok x) (hy : Ok y) {L : List (Nd × AV)} (h : SeI x y L) {p : Nd} {a : AV} (h1 : p.x < 2 ^ nst x) (h2 : p.y < 2 ^ nst y) (hm : metN (L.map Prod.fst) p.x p.y = false) (ht : TrOk a p.tr) (hl : p.tr.length ≤ L.length) : SeI x y (L ++ [(p, a)]) := by
  refine ⟨?_, fun q hq => ?_, fun j hj => ?_⟩
  · have := h.G.add hx hy h1 h2
    unfold addN at this
    rw [hm] at this
    rw [List.map_append]; exact this
  · rcases List.mem_append.mp hq with hq | hq
    · exact h.T q hq
    · simp only [List.mem_singleton] at hq; subst hq; exact ht
  · by_cases hj' : j < L.length
    · rw [getD_append_left _ _ _ hj']; exact h.B j hj'
    · have : j = L.length := by simp at hj; omega
      subst this
      rw [getD_append_len]; exact hl
def SeR (x y : Re) (v : AV) : Prop := match (resN x y).1 with
  | some tr => ∃ L, v = .tup [ints tr, .v (.bool true), pairsV L]
  | none => v = .tup [nilS, .v (.bool false), pairsV (resN x y).2]
theorem search21 (x y : Re) (hx : Ok x) (hy : Ok y) (hi0 : x.inp = y.inp) (hio : silc y = silc x) : FCall Tryd.prog 21 [reV x, reV y] (SeR x y) := by
  have hsc := silc_le hx
  have hinp := hx.inp
  simp only [reV, reL, mvsV]
  refine ACall.enter [] Cd.fn21 (by simp) ?_
  simp only [Cd.cd21, Tk.t21, base0, base1, base2, base3, Option.isNone_none, Option.isNone_some, Nat.reduceBEq, true_or, or_true, false_or, or_false, Nat.reduceLT, Nat.reduceMod, Nat.reducePow, rmaps, nsucc, List.flatten_cons, List.flatten_nil, Nat.reduceEqDiff, Nat.reduceLeDiff, Nat.reduceAdd, Nat.reduceMul, Nat.reduceSub, ↓reduceIte, reduceCtorEq, decide_true, decide_false]
  first | refine FCall.go (init63 x hx) (FZs.one (FZ.reV x)) ?_ | refine FCall.go' (init63 x hx) (FZs.one (FZ.reV x)) ?_ | refine FCall.goQ (init63 x hx) (FZs.one (FZ.reV x)) ?_
  simp only [Cd.cd21, Tk.t21, base0, base1, base2, base3, Option.isNone_none, Option.isNone_some, Nat.reduceBEq, true_or, or_true, false_or, or_false, Nat.reduceLT, Nat.reduceMod, Nat.reducePow, rmaps, nsucc, List.flatten_cons, List.flatten_nil, Nat.reduceEqDiff, Nat.reduceLeDiff, Nat.reduceAdd, Nat.reduceMul, Nat.reduceSub, ↓reduceIte, reduceCtorEq, decide_true, decide_false]
  first | refine FCall.go (init63 y hy) (FZs.one (FZ.reV y)) ?_ | refine FCall.go' (init63 y hy) (FZs.one (FZ.reV y)) ?_ | refine FCall.goQ (init63 y hy) (FZs.one (FZ.reV y)) ?_
  simp only [Cd.cd21, Tk.t21, base0, base1, base2, base3, Option.isNone_none, Option.isNone_some, Nat.reduceBEq, true_or, or_true, false_or, or_false, Nat.reduceLT, Nat.reduceMod, Nat.reducePow, rmaps, nsucc, List.flatten_cons, List.flatten_nil, Nat.reduceEqDiff, Nat.reduceLeDiff, Nat.reduceAdd, Nat.reduceMul, Nat.reduceSub, ↓reduceIte, reduceCtorEq, decide_true, decide_false]
  refine LWP.loop [] (fun m f H' => ∃ i a L, m = 1048577 - i ∧ (i ≤ List.length (L : List (Nd × AV))) ∧ (SeI x y L) ∧ (∀ res, SrchR x y (L.map Prod.fst) i res → SrchR x y [nd0 x y] 0 res) ∧ (GrowG enA 3 H' a L) ∧ f.t 2 = .box [.v (.int .i64 x.st), .v (.int .i64 x.s0), .v (.int .i64 x.inp), .v (.int .i64 x.out), .lst 4 (x.mv.map mvR) .unk] ∧ f.t 3 = .box [.v (.int .i64 y.st), .v (.int .i64 y.s0), .v (.int .i64 y.inp), .v (.int .i64 y.out), .lst 4 (y.mv.map mvR) .unk] ∧ f.t 7 = a ∧ f.t 8 = .v (.int .i64 (i : Nat)) ∧ f.ds = [] ∧ True) ?_ ?_ (m := 1048577 - (0))
  · exact ⟨0, .lst 3 ([(nd0 x y, nilS)].map enA) .full, [(nd0 x y, nilS)], rfl, (by omega), (SeI.start hx hy), (fun _ h => h), (.inl rfl), rfl, rfl, rfl, rfl, rfl, trivial⟩
  · rintro m f H' ⟨i, a, L, rfl, hi, hI, hS, hg, f2, f3, f7, f8, hds, hH⟩
    have hlen := hI.len hx hy
    by_cases hlt : i < L.length
    · obtain ⟨tip, rfl⟩ := hg.lst
      have hmem := getD_mem (l := L) hlt
      have hTr := hI.T _ hmem
      have hBr := hI.B i hlt
      have hpl := hI.G.lt (L.getD i default).1 (List.mem_map.mpr ⟨_, hmem, rfl⟩)
      have hfst := fst_getD L hlt
      obtain ⟨⟨p, ap⟩, hpe⟩ : ∃ q, L.getD i default = q := ⟨_, rfl⟩
      rw [hpe] at hmem hTr hBr hpl hfst
      simp only at hTr hBr hpl hfst
      simp only [List.length_map, ltT hlt, f2, f3, f7, f8, hds, Cd.cd21, Tk.t21, base0, base1, base2, base3, Option.isNone_none, Option.isNone_some, Nat.reduceBEq, true_or, or_true, false_or, or_false, Nat.reduceLT, Nat.reduceMod, Nat.reducePow, rmaps, nsucc, List.flatten_cons, List.flatten_nil, Nat.reduceEqDiff, Nat.reduceLeDiff, Nat.reduceAdd, Nat.reduceMul, Nat.reduceSub, ↓reduceIte, reduceCtorEq, decide_true, decide_false]
      refine LWP.loop [] (fun m f H' => ∃ e a2 L2, m = silc x + 1 - e ∧ (e ≤ silc x + 1) ∧ (List.map Prod.fst (L2 : List (Nd × AV)) = extN x y p (L.map Prod.fst) e) ∧ (∃ q, L2 = L ++ q) ∧ (SeI x y L2) ∧ (∀ j, j < e → failsAt x y p.x p.y j = false) ∧ (GrowG enA 3 H' a2 L2) ∧ f.t 2 = .box [.v (.int .i64 x.st), .v (.int .i64 x.s0), .v (.int .i64 x.inp), .v (.int .i64 x.out), .lst 4 (x.mv.map mvR) .unk] ∧ f.t 3 = .box [.v (.int .i64 y.st), .v (.int .i64 y.s0), .v (.int .i64 y.inp), .v (.int .i64 y.out), .lst 4 (y.mv.map mvR) .unk] ∧ f.t 7 = a2 ∧ f.t 8 = .v (.int .i64 (i : Nat)) ∧ f.t 9 = .v (.int .i64 (e : Nat)) ∧ f.ds = [] ∧ True) ?_ ?_ (m := silc x + 1 - (0))
      · exact ⟨0, .lst 3 (L.map enA) tip, L, rfl, (by omega), (rfl), (⟨[], by simp⟩), (hI), (fun j hj => by omega), (hg), (by first | rfl | exact f2), (by first | rfl | exact f3), (by first | rfl | exact f7), (by first | rfl | exact f8), (by first | rfl | exact f9), rfl, trivial⟩
      · rintro m f H' ⟨e, a2, L2, rfl, he, hl2, hpre, hI2, hF, hg2, f2, f3, f7, f8, f9, hds, hH⟩
        obtain ⟨q, hq⟩ := hpre
        have hlen2 := hI2.len hx hy
        have hil2 : i < L2.length := by rw [hq, List.length_append]; omega
        have hp2 : L2.getD i default = (p, ap) := by rw [hq, getD_append_left _ _ _ hlt, hpe]
        obtain ⟨tip2, rfl⟩ := hg2.lst
        have hgm := getDmap enA L2 i hil2
        rw [hp2] at hgm
        by_cases hle : e ≤ silc x
        · simp only [f2, f3, f7, f8, f9, hds, Cd.cd21, Tk.t21, base0, base1, base2, base3, Option.isNone_none, Option.isNone_some, Nat.reduceBEq, true_or, or_true, false_or, or_false, Nat.reduceLT, Nat.reduceMod, Nat.reducePow, rmaps, nsucc, List.flatten_cons, List.flatten_nil, Nat.reduceEqDiff, Nat.reduceLeDiff, Nat.reduceAdd, Nat.reduceMul, Nat.reduceSub, ↓reduceIte, reduceCtorEq, decide_true, decide_false]
          first | refine FCall.go (silence41 x) (FZs.one (FZ.reV x)) ?_ | refine FCall.go' (silence41 x) (FZs.one (FZ.reV x)) ?_ | refine FCall.goQ (silence41 x) (FZs.one (FZ.reV x)) ?_
          simp only [silc_eq hx, show decide (((e : Nat) : Int) ≤ ((silc x : Nat) : Int)) = true from decide_eq_true (by omega), List.length_map, inR hil2, Int.toNat_natCast, hgm, enA, f2, f3, f7, f8, f9, hds, Cd.cd21, Tk.t21, base0, base1, base2, base3, Option.isNone_none, Option.isNone_some, Nat.reduceBEq, true_or, or_true, false_or, or_false, Nat.reduceLT, Nat.reduceMod, Nat.reducePow, rmaps, nsucc, List.flatten_cons, List.flatten_nil, Nat.reduceEqDiff, Nat.reduceLeDiff, Nat.reduceAdd, Nat.reduceMul, Nat.reduceSub, ↓reduceIte, reduceCtorEq, decide_true, decide_false]
          first | refine FCall.go (after64 x hx p.x e hpl.1 hle) (FZs.three (FZ.reV x) (FZ.setV _) (FZ.v _)) ?_ | refine FCall.go' (after64 x hx p.x e hpl.1 hle) (FZs.three (FZ.reV x) (FZ.setV _) (FZ.v _)) ?_ | refine FCall.goQ (after64 x hx p.x e hpl.1 hle) (FZs.three (FZ.reV x) (FZ.setV _) (FZ.v _)) ?_
          simp only [List.length_map, inR hil2, Int.toNat_natCast, hgm, enA, f2, f3, f7, f8, f9, hds, Cd.cd21, Tk.t21, base0, base1, base2, base3, Option.isNone_none, Option.isNone_some, Nat.reduceBEq, true_or, or_true, false_or, or_false, Nat.reduceLT, Nat.reduceMod, Nat.reducePow, rmaps, nsucc, List.flatten_cons, List.flatten_nil, Nat.reduceEqDiff, Nat.reduceLeDiff, Nat.reduceAdd, Nat.reduceMul, Nat.reduceSub, ↓reduceIte, reduceCtorEq, decide_true, decide_false]
          first | refine FCall.go (after64 y hy p.y e hpl.2 (by omega)) (FZs.three (FZ.reV y) (FZ.setV _) (FZ.v _)) ?_ | refine FCall.go' (after64 y hy p.y e hpl.2 (by omega)) (FZs.three (FZ.reV y) (FZ.setV _) (FZ.v _)) ?_ | refine FCall.goQ (after64 y hy p.y e hpl.2 (by omega)) (FZs.three (FZ.reV y) (FZ.setV _) (FZ.v _)) ?_
          simp only [List.length_map, inR hil2, Int.toNat_natCast, hgm, enA, f2, f3, f7, f8, f9, hds, Cd.cd21, Tk.t21, base0, base1, base2, base3, Option.isNone_none, Option.isNone_some, Nat.reduceBEq, true_or, or_true, false_or, or_false, Nat.reduceLT, Nat.reduceMod, Nat.reducePow, rmaps, nsucc, List.flatten_cons, List.flatten_nil, Nat.reduceEqDiff, Nat.reduceLeDiff, Nat.reduceAdd, Nat.reduceMul, Nat.reduceSub, ↓reduceIte, reduceCtorEq, decide_true, decide_false]
          refine GrowN.go (ACall.args (ownInts30 p.tr _ (by omega)) hTr.vrs) fun v H1 hgv hk => ?_
          have hex : extN x y p (L.map Prod.fst) (e + 1) = extE x y p (L2.map Prod.fst) e := by rw [extN_succ, hl2]
          have hknx := hk.nx
          have hr8 : roomA 8 (p.tr.length + 1) = true := room_of (by omega) (by omega)
          have hr72 : roomA 72 (L2.length + 1) = true := room_of (by omega) (by omega)
          rcases hgv with ⟨z0, rfl | rfl⟩ | ⟨t', u1, u2, rfl, u4⟩
          · have hz0 := z0
            have hnew : AV.lst 1 ((p.tr ++ [(e : Int)]).map intR) (.live H1.next) = .lst 1 ([[AV.v (.int .i64 (e : Nat))]]) (.live H1.next) := by first | rfl | (simp [intR]; done) | (rw [z0]; rfl)
            have hg3 : ∀ H3 : AH, H'.next ≤ H3.next → (∀ t, t < H'.next → H3.tip t = H'.tip t) → GrowG enA 3 H3 (.lst 3 (L2.map enA) tip2) L2 := fun H3 h1 h2 => hg2.mono h1 h2
            by_cases hz : aft y p.y e = 0
            · have hext : extN x y p (L.map Prod.fst) (e + 1) = L2.map Prod.fst := by rw [hex]; unfold extE; rw [if_pos hz]
              by_cases hin : x.inp.toNat ≤ e
              · by_cases ha : aft x p.x e = 0
                · simp only [nilS, show roomA 8 1 = true from rfl, setV, ints, List.length_map, bitsI_len, setV_z0 hy (aft_lt hy hpl.2 e), setV_pos hx (aft_lt hx hpl.1 e), decide_eq_true hz, show decide (((e : Nat) : Int) ≥ x.inp) = true from decide_eq_true (by omega), show decide (aft x p.x e ≠ 0) = false from decide_eq_false (by simpa using ha), f2, f3, f7, f8, f9, hds, Cd.cd21, Tk.t21, base0, base1, base2, base3, Option.isNone_none, Option.isNone_some, Nat.reduceBEq, true_or, or_true, false_or, or_false, Nat.reduceLT, Nat.reduceMod, Nat.reducePow, rmaps, nsucc, List.flatten_cons, List.flatten_nil, Nat.reduceEqDiff, Nat.reduceLeDiff, Nat.reduceAdd, Nat.reduceMul, Nat.reduceSub, ↓reduceIte, reduceCtorEq, decide_true, decide_false]
                  refine ⟨_, by omega, e + 1, _, L2, rfl, by omega, hext.symm, ⟨q, hq⟩, hI2, allS hF (by unfold failsAt shw; rw [ha]; simp), hg3 _ (by first | (show H'.next ≤ H1.next + 1; omega) | (show H'.next ≤ H1.next; omega)) (fun tt htt => ?_), rfl, by rw [wrapS (by omega)]⟩
                  simp only [show ¬ tt = H1.next by omega, if_false]; exact hk.tp tt htt
                · simp only [nilS, show roomA 8 1 = true from rfl, setV, ints, List.length_map, bitsI_len, setV_z0 hy (aft_lt hy hpl.2 e), setV_pos hx (aft_lt hx hpl.1 e), decide_eq_true hz, show decide (((e : Nat) : Int) ≥ x.inp) = true from decide_eq_true (by omega), decide_eq_true ha, f2, f3, f7, f8, f9, hds, Cd.cd21, Tk.t21, base0, base1, base2, base3, Option.isNone_none, Option.isNone_some, Nat.reduceBEq, true_or, or_true, false_or, or_false, Nat.reduceLT, Nat.reduceMod, Nat.reducePow, rmaps, nsucc, List.flatten_cons, List.flatten_nil, Nat.reduceEqDiff, Nat.reduceLeDiff, Nat.reduceAdd, Nat.reduceMul, Nat.reduceSub, ↓reduceIte, reduceCtorEq, decide_true, decide_false]
                  have hfa : failsN x y p.x p.y = some e := firstIx_some (by omega) (by unfold failsAt shw; rw [hz, decide_eq_true hin]; simpa using ha) hF
                  have hres := resN_eq (hS _ (SrchR.fail (by simpa using hlt) (by rw [hfst]; exact hfa)))
                  rw [hfst] at hres
                  refine ⟨_, .tup [ints (p.tr ++ [(e : Int)]), .v (.bool true), pairsV (L2.map Prod.fst)], rfl, Views.tup (Views.cons ?_ (Views.cons (FZ.v _).view (Views.cons (viewA hI2.T) Views.nil))), FZ.tup (FZs.three (FZ.ints _) (FZ.v _) (FZ.pairsV _)), ?_⟩
                  · rw [← hnew]; exact viewT'
                  · unfold SeR; rw [hres]; exact ⟨_, rfl⟩
              · simp only [nilS, show roomA 8 1 = true from rfl, setV, ints, List.length_map, bitsI_len, setV_z0 hy (aft_lt hy hpl.2 e), setV_pos hx (aft_lt hx hpl.1 e), decide_eq_true hz, show decide (((e : Nat) : Int) ≥ x.inp) = false from decide_eq_false (by omega), f2, f3, f7, f8, f9, hds, Cd.cd21, Tk.t21, base0, base1, base2, base3, Option.isNone_none, Option.isNone_some, Nat.reduceBEq, true_or, or_true, false_or, or_false, Nat.reduceLT, Nat.reduceMod, Nat.reducePow, rmaps, nsucc, List.flatten_cons, List.flatten_nil, Nat.reduceEqDiff, Nat.reduceLeDiff, Nat.reduceAdd, Nat.reduceMul, Nat.reduceSub, ↓reduceIte, reduceCtorEq, decide_true, decide_false]
                refine ⟨_, by omega, e + 1, _, L2, rfl, by omega, hext.symm, ⟨q, hq⟩, hI2, allS hF (failsAt_lt (by omega)), hg3 _ (by first | (show H'.next ≤ H1.next + 1; omega) | (show H'.next ≤ H1.next; omega)) (fun tt htt => ?_), rfl, by rw [wrapS (by omega)]⟩
                simp only [show ¬ tt = H1.next by omega, if_false]; exact hk.tp tt htt
            · have hfz : failsAt x y p.x p.y e = false := by
                unfold failsAt shw
                rw [← hi0]
                by_cases hin : x.inp.toNat ≤ e
                · simp [hin, hz]
                · simp [hin]
              simp only [nilS, show roomA 8 1 = true from rfl, setV, ints, List.length_map, bitsI_len, setV_z0 hy (aft_lt hy hpl.2 e), setV_pos hx (aft_lt hx hpl.1 e), decide_eq_false hz, f2, f3, f7, f8, f9, hds, Cd.cd21, Tk.t21, base0, base1, base2, base3, Option.isNone_none, Option.isNone_some, Nat.reduceBEq, true_or, or_true, false_or, or_false, Nat.reduceLT, Nat.reduceMod, Nat.reducePow, rmaps, nsucc, List.flatten_cons, List.flatten_nil, Nat.reduceEqDiff, Nat.reduceLeDiff, Nat.reduceAdd, Nat.reduceMul, Nat.reduceSub, ↓reduceIte, reduceCtorEq, decide_true, decide_false]
              have hmt := met65 (L2.map Prod.fst) ⟨aft x p.x e, aft y p.y e, p.tr ++ [(e : Int)]⟩ (by simp; omega) (fun qq hqq => by have := hI2.G.lt qq hqq; exact ⟨hx.pw this.1, hy.pw this.2⟩) (hx.pw (aft_lt hx hpl.1 e)) (hy.pw (aft_lt hy hpl.2 e))
              refine hmt.bgo (Views.cons (viewA hI2.T) (Views.cons (viewNd hnew) Views.nil)) (Ground.v _) ?_
              cases hm : metN (L2.map Prod.fst) (aft x p.x e) (aft y p.y e)
              · have hext : extN x y p (L.map Prod.fst) (e + 1) = (L2 ++ [((⟨aft x p.x e, aft y p.y e, p.tr ++ [(e : Int)]⟩ : Nd), AV.lst 1 ((p.tr ++ [(e : Int)]).map intR) (.live H1.next))]).map Prod.fst := by rw [hex]; unfold extE; rw [if_neg hz, addN]; simp only [hm]; rw [List.map_append]; rfl
                have hI3 := hI2.add hx hy (p := ⟨aft x p.x e, aft y p.y e, p.tr ++ [(e : Int)]⟩) (a := AV.lst 1 ((p.tr ++ [(e : Int)]).map intR) (.live H1.next)) (aft_lt hx hpl.1 e) (aft_lt hy hpl.2 e) hm (.inr ⟨_, rfl⟩) (by rw [List.length_append, List.length_singleton]; omega)
                have hrow : ∀ tp : Tip, AV.lst 3 (L2.map enA ++ [[setV (aft x p.x e), setV (aft y p.y e), .lst 1 ([[AV.v (.int .i64 (e : Nat))]]) (.live H1.next)]]) tp = .lst 3 ((L2 ++ [((⟨aft x p.x e, aft y p.y e, p.tr ++ [(e : Int)]⟩ : Nd), AV.lst 1 ((p.tr ++ [(e : Int)]).map intR) (.live H1.next))]).map enA) tp := fun tp => by
                  rw [List.map_append, ← hnew]; rfl
                rcases hg2 with hge | ⟨t, s2, hge, s4⟩
                · simp only [AV.lst.injEq, true_and] at hge
                  subst hge
                  simp only [List.length_map, hr72, f2, f3, f7, f8, f9, hds, Cd.cd21, Tk.t21, base0, base1, base2, base3, Option.isNone_none, Option.isNone_some, Nat.reduceBEq, true_or, or_true, false_or, or_false, Nat.reduceLT, Nat.reduceMod, Nat.reducePow, rmaps, nsucc, List.flatten_cons, List.flatten_nil, Nat.reduceEqDiff, Nat.reduceLeDiff, Nat.reduceAdd, Nat.reduceMul, Nat.reduceSub, ↓reduceIte, reduceCtorEq, decide_true, decide_false]
                  exact ⟨_, by omega, e + 1, _, _, rfl, by omega, hext.symm, ⟨q ++ [_], by rw [hq, List.append_assoc]⟩, hI3, allS hF hfz, .inr ⟨H1.next + 1 + 1, by show _ < _ + 1; omega, hrow _, by simp⟩, rfl, by rw [wrapS (by omega)]⟩
                · simp only [AV.lst.injEq, true_and] at hge
                  subst hge
                  have hne : (t = H1.next) = False := by simp; omega
                  have hs4 : H1.tip t = some L2.length := (hk.tp t s2).trans s4
                  simp only [List.length_map, hne, hs4, hr72, f2, f3, f7, f8, f9, hds, Cd.cd21, Tk.t21, base0, base1, base2, base3, Option.isNone_none, Option.isNone_some, Nat.reduceBEq, true_or, or_true, false_or, or_false, Nat.reduceLT, Nat.reduceMod, Nat.reducePow, rmaps, nsucc, List.flatten_cons, List.flatten_nil, Nat.reduceEqDiff, Nat.reduceLeDiff, Nat.reduceAdd, Nat.reduceMul, Nat.reduceSub, ↓reduceIte, reduceCtorEq, decide_true, decide_false]
                  exact ⟨_, by omega, e + 1, _, _, rfl, by omega, hext.symm, ⟨q ++ [_], by rw [hq, List.append_assoc]⟩, hI3, allS hF hfz, .inr ⟨t, Nat.lt_of_lt_of_le (Nat.lt_of_lt_of_le s2 hknx) (by first | exact Nat.le_trans (Nat.le_succ _) (Nat.le_succ _) | exact Nat.le_succ _), hrow _, by simp⟩, rfl, by rw [wrapS (by omega)]⟩
              · have hext : extN x y p (L.map Prod.fst) (e + 1) = L2.map Prod.fst := by rw [hex]; unfold extE; rw [if_neg hz, addN]; simp only [hm]; rfl
                simp only [f2, f3, f7, f8, f9, hds, Cd.cd21, Tk.t21, base0, base1, base2, base3, Option.isNone_none, Option.isNone_some, Nat.reduceBEq, true_or, or_true, false_or, or_false, Nat.reduceLT, Nat.reduceMod, Nat.reducePow, rmaps, nsucc, List.flatten_cons, List.flatten_nil, Nat.reduceEqDiff, Nat.reduceLeDiff, Nat.reduceAdd, Nat.reduceMul, Nat.reduceSub, ↓reduceIte, reduceCtorEq, decide_true, decide_false]
                refine ⟨_, by omega, e + 1, _, L2, rfl, by omega, hext.symm, ⟨q, hq⟩, hI2, allS hF hfz, hg3 _ (by show H'.next ≤ H1.next + 1 + 1; omega) (fun tt htt => ?_), rfl, by rw [wrapS (by omega)]⟩
                simp only [show ¬ tt = H1.next by omega, if_false]; exact hk.tp tt htt
          · have hz0 := z0
            have hnew : AV.lst 1 ((p.tr ++ [(e : Int)]).map intR) (.live H1.next) = .lst 1 ([[AV.v (.int .i64 (e : Nat))]]) (.live H1.next) := by first | rfl | (simp [intR]; done) | (rw [z0]; rfl)
            have hg3 : ∀ H3 : AH, H'.next ≤ H3.next → (∀ t, t < H'.next → H3.tip t = H'.tip t) → GrowG enA 3 H3 (.lst 3 (L2.map enA) tip2) L2 := fun H3 h1 h2 => hg2.mono h1 h2
            by_cases hz : aft y p.y e = 0
            · have hext : extN x y p (L.map Prod.fst) (e + 1) = L2.map Prod.fst := by rw [hex]; unfold extE; rw [if_pos hz]
              by_cases hin : x.inp.toNat ≤ e
              · by_cases ha : aft x p.x e = 0
                · simp only [show roomA 8 1 = true from rfl, setV, ints, List.length_map, bitsI_len, setV_z0 hy (aft_lt hy hpl.2 e), setV_pos hx (aft_lt hx hpl.1 e), decide_eq_true hz, show decide (((e : Nat) : Int) ≥ x.inp) = true from decide_eq_true (by omega), show decide (aft x p.x e ≠ 0) = false from decide_eq_false (by simpa using ha), f2, f3, f7, f8, f9, hds, Cd.cd21, Tk.t21, base0, base1, base2, base3, Option.isNone_none, Option.isNone_some, Nat.reduceBEq, true_or, or_true, false_or, or_false, Nat.reduceLT, Nat.reduceMod, Nat.reducePow, rmaps, nsucc, List.flatten_cons, List.flatten_nil, Nat.reduceEqDiff, Nat.reduceLeDiff, Nat.reduceAdd, Nat.reduceMul, Nat.reduceSub, ↓reduceIte, reduceCtorEq, decide_true, decide_false]
                  refine ⟨_, by omega, e + 1, _, L2, rfl, by omega, hext.symm, ⟨q, hq⟩, hI2, allS hF (by unfold failsAt shw; rw [ha]; simp), hg3 _ (by first | (show H'.next ≤ H1.next + 1; omega) | (show H'.next ≤ H1.next; omega)) (fun tt htt => ?_), rfl, by rw [wrapS (by omega)]⟩
                  simp only [show ¬ tt = H1.next by omega, if_false]; exact hk.tp tt htt
                · simp only [show roomA 8 1 = true from rfl, setV, ints, List.length_map, bitsI_len, setV_z0 hy (aft_lt hy hpl.2 e), setV_pos hx (aft_lt hx hpl.1 e), decide_eq_true hz, show decide (((e : Nat) : Int) ≥ x.inp) = true from decide_eq_true (by omega), decide_eq_true ha, f2, f3, f7, f8, f9, hds, Cd.cd21, Tk.t21, base0, base1, base2, base3, Option.isNone_none, Option.isNone_some, Nat.reduceBEq, true_or, or_true, false_or, or_false, Nat.reduceLT, Nat.reduceMod, Nat.reducePow, rmaps, nsucc, List.flatten_cons, List.flatten_nil, Nat.reduceEqDiff, Nat.reduceLeDiff, Nat.reduceAdd, Nat.reduceMul, Nat.reduceSub, ↓reduceIte, reduceCtorEq, decide_true, decide_false]
                  have hfa : failsN x y p.x p.y = some e := firstIx_some (by omega) (by unfold failsAt shw; rw [hz, decide_eq_true hin]; simpa using ha) hF
                  have hres := resN_eq (hS _ (SrchR.fail (by simpa using hlt) (by rw [hfst]; exact hfa)))
                  rw [hfst] at hres
                  refine ⟨_, .tup [ints (p.tr ++ [(e : Int)]), .v (.bool true), pairsV (L2.map Prod.fst)], rfl, Views.tup (Views.cons ?_ (Views.cons (FZ.v _).view (Views.cons (viewA hI2.T) Views.nil))), FZ.tup (FZs.three (FZ.ints _) (FZ.v _) (FZ.pairsV _)), ?_⟩
                  · rw [← hnew]; exact viewT'
                  · unfold SeR; rw [hres]; exact ⟨_, rfl⟩
              · simp only [show roomA 8 1 = true from rfl, setV, ints, List.length_map, bitsI_len, setV_z0 hy (aft_lt hy hpl.2 e), setV_pos hx (aft_lt hx hpl.1 e), decide_eq_true hz, show decide (((e : Nat) : Int) ≥ x.inp) = false from decide_eq_false (by omega), f2, f3, f7, f8, f9, hds, Cd.cd21, Tk.t21, base0, base1, base2, base3, Option.isNone_none, Option.isNone_some, Nat.reduceBEq, true_or, or_true, false_or, or_false, Nat.reduceLT, Nat.reduceMod, Nat.reducePow, rmaps, nsucc, List.flatten_cons, List.flatten_nil, Nat.reduceEqDiff, Nat.reduceLeDiff, Nat.reduceAdd, Nat.reduceMul, Nat.reduceSub, ↓reduceIte, reduceCtorEq, decide_true, decide_false]
                refine ⟨_, by omega, e + 1, _, L2, rfl, by omega, hext.symm, ⟨q, hq⟩, hI2, allS hF (failsAt_lt (by omega)), hg3 _ (by first | (show H'.next ≤ H1.next + 1; omega) | (show H'.next ≤ H1.next; omega)) (fun tt htt => ?_), rfl, by rw [wrapS (by omega)]⟩
                simp only [show ¬ tt = H1.next by omega, if_false]; exact hk.tp tt htt
            · have hfz : failsAt x y p.x p.y e = false := by
                unfold failsAt shw
                rw [← hi0]
                by_cases hin : x.inp.toNat ≤ e
                · simp [hin, hz]
                · simp [hin]
              simp only [show roomA 8 1 = true from rfl, setV, ints, List.length_map, bitsI_len, setV_z0 hy (aft_lt hy hpl.2 e), setV_pos hx (aft_lt hx hpl.1 e), decide_eq_false hz, f2, f3, f7, f8, f9, hds, Cd.cd21, Tk.t21, base0, base1, base2, base3, Option.isNone_none, Option.isNone_some, Nat.reduceBEq, true_or, or_true, false_or, or_false, Nat.reduceLT, Nat.reduceMod, Nat.reducePow, rmaps, nsucc, List.flatten_cons, List.flatten_nil, Nat.reduceEqDiff, Nat.reduceLeDiff, Nat.reduceAdd, Nat.reduceMul, Nat.reduceSub, ↓reduceIte, reduceCtorEq, decide_true, decide_false]
              have hmt := met65 (L2.map Prod.fst) ⟨aft x p.x e, aft y p.y e, p.tr ++ [(e : Int)]⟩ (by simp; omega) (fun qq hqq => by have := hI2.G.lt qq hqq; exact ⟨hx.pw this.1, hy.pw this.2⟩) (hx.pw (aft_lt hx hpl.1 e)) (hy.pw (aft_lt hy hpl.2 e))
              refine hmt.bgo (Views.cons (viewA hI2.T) (Views.cons (viewNd hnew) Views.nil)) (Ground.v _) ?_
              cases hm : metN (L2.map Prod.fst) (aft x p.x e) (aft y p.y e)
              · have hext : extN x y p (L.map Prod.fst) (e + 1) = (L2 ++ [((⟨aft x p.x e, aft y p.y e, p.tr ++ [(e : Int)]⟩ : Nd), AV.lst 1 ((p.tr ++ [(e : Int)]).map intR) (.live H1.next))]).map Prod.fst := by rw [hex]; unfold extE; rw [if_neg hz, addN]; simp only [hm]; rw [List.map_append]; rfl
                have hI3 := hI2.add hx hy (p := ⟨aft x p.x e, aft y p.y e, p.tr ++ [(e : Int)]⟩) (a := AV.lst 1 ((p.tr ++ [(e : Int)]).map intR) (.live H1.next)) (aft_lt hx hpl.1 e) (aft_lt hy hpl.2 e) hm (.inr ⟨_, rfl⟩) (by rw [List.length_append, List.length_singleton]; omega)
                have hrow : ∀ tp : Tip, AV.lst 3 (L2.map enA ++ [[setV (aft x p.x e), setV (aft y p.y e), .lst 1 ([[AV.v (.int .i64 (e : Nat))]]) (.live H1.next)]]) tp = .lst 3 ((L2 ++ [((⟨aft x p.x e, aft y p.y e, p.tr ++ [(e : Int)]⟩ : Nd), AV.lst 1 ((p.tr ++ [(e : Int)]).map intR) (.live H1.next))]).map enA) tp := fun tp => by
                  rw [List.map_append, ← hnew]; rfl
                rcases hg2 with hge | ⟨t, s2, hge, s4⟩
                · simp only [AV.lst.injEq, true_and] at hge
                  subst hge
                  simp only [List.length_map, hr72, f2, f3, f7, f8, f9, hds, Cd.cd21, Tk.t21, base0, base1, base2, base3, Option.isNone_none, Option.isNone_some, Nat.reduceBEq, true_or, or_true, false_or, or_false, Nat.reduceLT, Nat.reduceMod, Nat.reducePow, rmaps, nsucc, List.flatten_cons, List.flatten_nil, Nat.reduceEqDiff, Nat.reduceLeDiff, Nat.reduceAdd, Nat.reduceMul, Nat.reduceSub, ↓reduceIte, reduceCtorEq, decide_true, decide_false]
                  exact ⟨_, by omega, e + 1, _, _, rfl, by omega, hext.symm, ⟨q ++ [_], by rw [hq, List.append_assoc]⟩, hI3, allS hF hfz, .inr ⟨H1.next + 1 + 1, by show _ < _ + 1; omega, hrow _, by simp⟩, rfl, by rw [wrapS (by omega)]⟩
                · simp only [AV.lst.injEq, true_and] at hge
                  subst hge
                  have hne : (t = H1.next) = False := by simp; omega
                  have hs4 : H1.tip t = some L2.length := (hk.tp t s2).trans s4
                  simp only [List.length_map, hne, hs4, hr72, f2, f3, f7, f8, f9, hds, Cd.cd21, Tk.t21, base0, base1, base2, base3, Option.isNone_none, Option.isNone_some, Nat.reduceBEq, true_or, or_true, false_or, or_false, Nat.reduceLT, Nat.reduceMod, Nat.reducePow, rmaps, nsucc, List.flatten_cons, List.flatten_nil, Nat.reduceEqDiff, Nat.reduceLeDiff, Nat.reduceAdd, Nat.reduceMul, Nat.reduceSub, ↓reduceIte, reduceCtorEq, decide_true, decide_false]
                  exact ⟨_, by omega, e + 1, _, _, rfl, by omega, hext.symm, ⟨q ++ [_], by rw [hq, List.append_assoc]⟩, hI3, allS hF hfz, .inr ⟨t, Nat.lt_of_lt_of_le (Nat.lt_of_lt_of_le s2 hknx) (by first | exact Nat.le_trans (Nat.le_succ _) (Nat.le_succ _) | exact Nat.le_succ _), hrow _, by simp⟩, rfl, by rw [wrapS (by omega)]⟩
              · have hext : extN x y p (L.map Prod.fst) (e + 1) = L2.map Prod.fst := by rw [hex]; unfold extE; rw [if_neg hz, addN]; simp only [hm]; rfl
                simp only [f2, f3, f7, f8, f9, hds, Cd.cd21, Tk.t21, base0, base1, base2, base3, Option.isNone_none, Option.isNone_some, Nat.reduceBEq, true_or, or_true, false_or, or_false, Nat.reduceLT, Nat.reduceMod, Nat.reducePow, rmaps, nsucc, List.flatten_cons, List.flatten_nil, Nat.reduceEqDiff, Nat.reduceLeDiff, Nat.reduceAdd, Nat.reduceMul, Nat.reduceSub, ↓reduceIte, reduceCtorEq, decide_true, decide_false]
                refine ⟨_, by omega, e + 1, _, L2, rfl, by omega, hext.symm, ⟨q, hq⟩, hI2, allS hF hfz, hg3 _ (by show H'.next ≤ H1.next + 1 + 1; omega) (fun tt htt => ?_), rfl, by rw [wrapS (by omega)]⟩
                simp only [show ¬ tt = H1.next by omega, if_false]; exact hk.tp tt htt
          · have hz0 := u4
            have hnew : AV.lst 1 ((p.tr ++ [(e : Int)]).map intR) (.live t') = .lst 1 (p.tr.map intR ++ [[AV.v (.int .i64 (e : Nat))]]) (.live t') := by first | rfl | (simp [intR]; done) | (rw [z0]; rfl)
            have hg3 : ∀ H3 : AH, H'.next ≤ H3.next → (∀ t, t < H'.next → H3.tip t = H'.tip t) → GrowG enA 3 H3 (.lst 3 (L2.map enA) tip2) L2 := fun H3 h1 h2 => hg2.mono h1 h2
            by_cases hz : aft y p.y e = 0
            · have hext : extN x y p (L.map Prod.fst) (e + 1) = L2.map Prod.fst := by rw [hex]; unfold extE; rw [if_pos hz]
              by_cases hin : x.inp.toNat ≤ e
              · by_cases ha : aft x p.x e = 0
                · simp only [u4, hr8, setV, ints, List.length_map, bitsI_len, setV_z0 hy (aft_lt hy hpl.2 e), setV_pos hx (aft_lt hx hpl.1 e), decide_eq_true hz, show decide (((e : Nat) : Int) ≥ x.inp) = true from decide_eq_true (by omega), show decide (aft x p.x e ≠ 0) = false from decide_eq_false (by simpa using ha), f2, f3, f7, f8, f9, hds, Cd.cd21, Tk.t21, base0, base1, base2, base3, Option.isNone_none, Option.isNone_some, Nat.reduceBEq, true_or, or_true, false_or, or_false, Nat.reduceLT, Nat.reduceMod, Nat.reducePow, rmaps, nsucc, List.flatten_cons, List.flatten_nil, Nat.reduceEqDiff, Nat.reduceLeDiff, Nat.reduceAdd, Nat.reduceMul, Nat.reduceSub, ↓reduceIte, reduceCtorEq, decide_true, decide_false]
                  refine ⟨_, by omega, e + 1, _, L2, rfl, by omega, hext.symm, ⟨q, hq⟩, hI2, allS hF (by unfold failsAt shw; rw [ha]; simp), hg3 _ (by first | (show H'.next ≤ H1.next + 1; omega) | (show H'.next ≤ H1.next; omega)) (fun tt htt => ?_), rfl, by rw [wrapS (by omega)]⟩
                  simp only [show ¬ tt = t' by omega, if_false]; exact hk.tp tt htt
                · simp only [u4, hr8, setV, ints, List.length_map, bitsI_len, setV_z0 hy (aft_lt hy hpl.2 e), setV_pos hx (aft_lt hx hpl.1 e), decide_eq_true hz, show decide (((e : Nat) : Int) ≥ x.inp) = true from decide_eq_true (by omega), decide_eq_true ha, f2, f3, f7, f8, f9, hds, Cd.cd21, Tk.t21, base0, base1, base2, base3, Option.isNone_none, Option.isNone_some, Nat.reduceBEq, true_or, or_true, false_or, or_false, Nat.reduceLT, Nat.reduceMod, Nat.reducePow, rmaps, nsucc, List.flatten_cons, List.flatten_nil, Nat.reduceEqDiff, Nat.reduceLeDiff, Nat.reduceAdd, Nat.reduceMul, Nat.reduceSub, ↓reduceIte, reduceCtorEq, decide_true, decide_false]
                  have hfa : failsN x y p.x p.y = some e := firstIx_some (by omega) (by unfold failsAt shw; rw [hz, decide_eq_true hin]; simpa using ha) hF
                  have hres := resN_eq (hS _ (SrchR.fail (by simpa using hlt) (by rw [hfst]; exact hfa)))
                  rw [hfst] at hres
                  refine ⟨_, .tup [ints (p.tr ++ [(e : Int)]), .v (.bool true), pairsV (L2.map Prod.fst)], rfl, Views.tup (Views.cons ?_ (Views.cons (FZ.v _).view (Views.cons (viewA hI2.T) Views.nil))), FZ.tup (FZs.three (FZ.ints _) (FZ.v _) (FZ.pairsV _)), ?_⟩
                  · rw [← hnew]; exact viewT'
                  · unfold SeR; rw [hres]; exact ⟨_, rfl⟩
              · simp only [u4, hr8, setV, ints, List.length_map, bitsI_len, setV_z0 hy (aft_lt hy hpl.2 e), setV_pos hx (aft_lt hx hpl.1 e), decide_eq_true hz, show decide (((e : Nat) : Int) ≥ x.inp) = false from decide_eq_false (by omega), f2, f3, f7, f8, f9, hds, Cd.cd21, Tk.t21, base0, base1, base2, base3, Option.isNone_none, Option.isNone_some, Nat.reduceBEq, true_or, or_true, false_or, or_false, Nat.reduceLT, Nat.reduceMod, Nat.reducePow, rmaps, nsucc, List.flatten_cons, List.flatten_nil, Nat.reduceEqDiff, Nat.reduceLeDiff, Nat.reduceAdd, Nat.reduceMul, Nat.reduceSub, ↓reduceIte, reduceCtorEq, decide_true, decide_false]
                refine ⟨_, by omega, e + 1, _, L2, rfl, by omega, hext.symm, ⟨q, hq⟩, hI2, allS hF (failsAt_lt (by omega)), hg3 _ (by first | (show H'.next ≤ H1.next + 1; omega) | (show H'.next ≤ H1.next; omega)) (fun tt htt => ?_), rfl, by rw [wrapS (by omega)]⟩
                simp only [show ¬ tt = t' by omega, if_false]; exact hk.tp tt htt
            · have hfz : failsAt x y p.x p.y e = false := by
                unfold failsAt shw
                rw [← hi0]
                by_cases hin : x.inp.toNat ≤ e
                · simp [hin, hz]
                · simp [hin]
              simp only [u4, hr8, setV, ints, List.length_map, bitsI_len, setV_z0 hy (aft_lt hy hpl.2 e), setV_pos hx (aft_lt hx hpl.1 e), decide_eq_false hz, f2, f3, f7, f8, f9, hds, Cd.cd21, Tk.t21, base0, base1, base2, base3, Option.isNone_none, Option.isNone_some, Nat.reduceBEq, true_or, or_true, false_or, or_false, Nat.reduceLT, Nat.reduceMod, Nat.reducePow, rmaps, nsucc, List.flatten_cons, List.flatten_nil, Nat.reduceEqDiff, Nat.reduceLeDiff, Nat.reduceAdd, Nat.reduceMul, Nat.reduceSub, ↓reduceIte, reduceCtorEq, decide_true, decide_false]
              have hmt := met65 (L2.map Prod.fst) ⟨aft x p.x e, aft y p.y e, p.tr ++ [(e : Int)]⟩ (by simp; omega) (fun qq hqq => by have := hI2.G.lt qq hqq; exact ⟨hx.pw this.1, hy.pw this.2⟩) (hx.pw (aft_lt hx hpl.1 e)) (hy.pw (aft_lt hy hpl.2 e))
              refine hmt.bgo (Views.cons (viewA hI2.T) (Views.cons (viewNd hnew) Views.nil)) (Ground.v _) ?_
              cases hm : metN (L2.map Prod.fst) (aft x p.x e) (aft y p.y e)
              · have hext : extN x y p (L.map Prod.fst) (e + 1) = (L2 ++ [((⟨aft x p.x e, aft y p.y e, p.tr ++ [(e : Int)]⟩ : Nd), AV.lst 1 ((p.tr ++ [(e : Int)]).map intR) (.live t'))]).map Prod.fst := by rw [hex]; unfold extE; rw [if_neg hz, addN]; simp only [hm]; rw [List.map_append]; rfl
                have hI3 := hI2.add hx hy (p := ⟨aft x p.x e, aft y p.y e, p.tr ++ [(e : Int)]⟩) (a := AV.lst 1 ((p.tr ++ [(e : Int)]).map intR) (.live t')) (aft_lt hx hpl.1 e) (aft_lt hy hpl.2 e) hm (.inr ⟨_, rfl⟩) (by rw [List.length_append, List.length_singleton]; omega)
                have hrow : ∀ tp : Tip, AV.lst 3 (L2.map enA ++ [[setV (aft x p.x e), setV (aft y p.y e), .lst 1 (p.tr.map intR ++ [[AV.v (.int .i64 (e : Nat))]]) (.live t')]]) tp = .lst 3 ((L2 ++ [((⟨aft x p.x e, aft y p.y e, p.tr ++ [(e : Int)]⟩ : Nd), AV.lst 1 ((p.tr ++ [(e : Int)]).map intR) (.live t'))]).map enA) tp := fun tp => by
                  rw [List.map_append, ← hnew]; rfl
                rcases hg2 with hge | ⟨t, s2, hge, s4⟩
                · simp only [AV.lst.injEq, true_and] at hge
                  subst hge
                  simp only [List.length_map, hr72, f2, f3, f7, f8, f9, hds, Cd.cd21, Tk.t21, base0, base1, base2, base3, Option.isNone_none, Option.isNone_some, Nat.reduceBEq, true_or, or_true, false_or, or_false, Nat.reduceLT, Nat.reduceMod, Nat.reducePow, rmaps, nsucc, List.flatten_cons, List.flatten_nil, Nat.reduceEqDiff, Nat.reduceLeDiff, Nat.reduceAdd, Nat.reduceMul, Nat.reduceSub, ↓reduceIte, reduceCtorEq, decide_true, decide_false]
                  exact ⟨_, by omega, e + 1, _, _, rfl, by omega, hext.symm, ⟨q ++ [_], by rw [hq, List.append_assoc]⟩, hI3, allS hF hfz, .inr ⟨H1.next + 1, by show _ < _ + 1; omega, hrow _, by simp⟩, rfl, by rw [wrapS (by omega)]⟩
                · simp only [AV.lst.injEq, true_and] at hge
                  subst hge
                  have hne : (t = t') = False := by simp; omega
                  have hs4 : H1.tip t = some L2.length := (hk.tp t s2).trans s4
                  simp only [List.length_map, hne, hs4, hr72, f2, f3, f7, f8, f9, hds, Cd.cd21, Tk.t21, base0, base1, base2, base3, Option.isNone_none, Option.isNone_some, Nat.reduceBEq, true_or, or_true, false_or, or_false, Nat.reduceLT, Nat.reduceMod, Nat.reducePow, rmaps, nsucc, List.flatten_cons, List.flatten_nil, Nat.reduceEqDiff, Nat.reduceLeDiff, Nat.reduceAdd, Nat.reduceMul, Nat.reduceSub, ↓reduceIte, reduceCtorEq, decide_true, decide_false]
                  exact ⟨_, by omega, e + 1, _, _, rfl, by omega, hext.symm, ⟨q ++ [_], by rw [hq, List.append_assoc]⟩, hI3, allS hF hfz, .inr ⟨t, Nat.lt_of_lt_of_le (Nat.lt_of_lt_of_le s2 hknx) (by first | exact Nat.le_trans (Nat.le_succ _) (Nat.le_succ _) | exact Nat.le_succ _), hrow _, by simp⟩, rfl, by rw [wrapS (by omega)]⟩
              · have hext : extN x y p (L.map Prod.fst) (e + 1) = L2.map Prod.fst := by rw [hex]; unfold extE; rw [if_neg hz, addN]; simp only [hm]; rfl
                simp only [f2, f3, f7, f8, f9, hds, Cd.cd21, Tk.t21, base0, base1, base2, base3, Option.isNone_none, Option.isNone_some, Nat.reduceBEq, true_or, or_true, false_or, or_false, Nat.reduceLT, Nat.reduceMod, Nat.reducePow, rmaps, nsucc, List.flatten_cons, List.flatten_nil, Nat.reduceEqDiff, Nat.reduceLeDiff, Nat.reduceAdd, Nat.reduceMul, Nat.reduceSub, ↓reduceIte, reduceCtorEq, decide_true, decide_false]
                refine ⟨_, by omega, e + 1, _, L2, rfl, by omega, hext.symm, ⟨q, hq⟩, hI2, allS hF hfz, hg3 _ (by show H'.next ≤ H1.next + 1; omega) (fun tt htt => ?_), rfl, by rw [wrapS (by omega)]⟩
                simp only [show ¬ tt = t' by omega, if_false]; exact hk.tp tt htt
        · have he' : e = silc x + 1 := by omega
          subst he'
          simp only [f2, f3, f7, f8, f9, hds, Cd.cd21, Tk.t21, base0, base1, base2, base3, Option.isNone_none, Option.isNone_some, Nat.reduceBEq, true_or, or_true, false_or, or_false, Nat.reduceLT, Nat.reduceMod, Nat.reducePow, rmaps, nsucc, List.flatten_cons, List.flatten_nil, Nat.reduceEqDiff, Nat.reduceLeDiff, Nat.reduceAdd, Nat.reduceMul, Nat.reduceSub, ↓reduceIte, reduceCtorEq, decide_true, decide_false]
          first | refine FCall.go (silence41 x) (FZs.one (FZ.reV x)) ?_ | refine FCall.go' (silence41 x) (FZs.one (FZ.reV x)) ?_ | refine FCall.goQ (silence41 x) (FZs.one (FZ.reV x)) ?_
          simp only [silc_eq hx, show decide (((silc x + 1 : Nat) : Int) ≤ ((silc x : Nat) : Int)) = false from decide_eq_false (by omega), f2, f3, f7, f8, f9, hds, Cd.cd21, Tk.t21, base0, base1, base2, base3, Option.isNone_none, Option.isNone_some, Nat.reduceBEq, true_or, or_true, false_or, or_false, Nat.reduceLT, Nat.reduceMod, Nat.reducePow, rmaps, nsucc, List.flatten_cons, List.flatten_nil, Nat.reduceEqDiff, Nat.reduceLeDiff, Nat.reduceAdd, Nat.reduceMul, Nat.reduceSub, ↓reduceIte, reduceCtorEq, decide_true, decide_false]
          have hfn : failsN x y p.x p.y = none := firstIx_none hF
          have hsn : ∀ res, SrchR x y (L2.map Prod.fst) (i + 1) res → SrchR x y [nd0 x y] 0 res := fun res h => hS res (SrchR.next (by simpa using hlt) (by rw [hfst]; exact hfn) (by rw [hfst, ← hl2]; exact h))
          exact ⟨_, by omega, i + 1, _, L2, rfl, by omega, hI2, hsn, hg2, rfl, by rw [wrapS (by omega)]⟩
    · obtain ⟨tip, rfl⟩ := hg.lst
      simp only [List.length_map, ltF hlt, f2, f3, f7, f8, hds, Cd.cd21, Tk.t21, base0, base1, base2, base3, Option.isNone_none, Option.isNone_some, Nat.reduceBEq, true_or, or_true, false_or, or_false, Nat.reduceLT, Nat.reduceMod, Nat.reducePow, rmaps, nsucc, List.flatten_cons, List.flatten_nil, Nat.reduceEqDiff, Nat.reduceLeDiff, Nat.reduceAdd, Nat.reduceMul, Nat.reduceSub, ↓reduceIte, reduceCtorEq, decide_true, decide_false]
      have hres := resN_eq (hS _ (SrchR.done (by simpa using hlt)))
      refine ⟨_, .tup [nilS, .v (.bool false), pairsV (L.map Prod.fst)], rfl, Views.tup (Views.cons nil_view (Views.cons (FZ.v _).view (Views.cons (viewA hI.T) Views.nil))), FZ.tup (FZs.three FZ.nilS (FZ.v _) (FZ.pairsV _)), ?_⟩
      unfold SeR; rw [hres]
end Go.Proofs.YtchpcjmgifnmdaaDoor

/- Walks: the law that the least failing trace is found, or the least relation. -/
namespace Go.Proofs.YtchpcjmgifnmdaaDoor
open Go Go.Proofs.YtchpcjmgifnmdaaDoor.Ab
set_option maxRecDepth 100000
set_option linter.unusedSimpArgs false

def LenB (l : List Nd) : Prop := ∀ j, j < l.length → (l.getD j default).tr.length ≤ j
theorem LenB.add {l : List Nd} (h : LenB l) {p : Nd} (hp : p.tr.length ≤ l.length) : LenB (addN l p) := by
  unfold addN
  split
  · exact h
  · intro j hj
    by_cases hj' : j < l.length
    · rw [getD_append_left _ _ _ hj']; exact h j hj'
    · have : j = l.length := by simp at hj; omega
      subst this
      rw [getD_append_len]; exact hp
theorem LenB.ext {x y : Re} {l : List Nd} (h : LenB l) {p : Nd} (hp : p.tr.length + 1 ≤ l.length) : ∀ k, LenB (extN x y p l k)
  | 0 => h
  | k + 1 => by
    rw [extN_succ]
    have h1 := LenB.ext (x := x) (y := y) h hp k
    obtain ⟨q, hq⟩ := extN_pre x y p l k
    unfold extE
    split
    · exact h1
    · refine h1.add ?_
      rw [hq]; simp; omega
theorem srch_len {x y : Re} (hx : Ok x) (hy : Ok y) : ∀ (k : Nat) (l : List Nd) (i : Nat) (tr : List Int) (m : List Nd), srch x y k l i = some (some tr, m) → GoodN x y l → LenB l → tr.length ≤ 1048577
  | 0, _, _, _, _, h, _, _ => by cases h
  | k + 1, l, i, tr, m, h, hG, hB => by
    unfold srch at h
    split at h
    · rename_i hi
      have hp := hG.lt _ (getD_mem hi)
      have hb := hB i hi
      have hl := hG.len hx hy
      split at h
      · simp only [Option.some.injEq, Prod.mk.injEq] at h
        rw [← h.1, List.length_append, List.length_singleton]; omega
      · exact srch_len hx hy k _ _ _ _ h (hG.extN hx hy hp.1 hp.2 _) (hB.ext (by omega) _)
    · simp at h
theorem resN_len {x y : Re} (hx : Ok x) (hy : Ok y) {tr : List Int} (h : (resN x y).1 = some tr) : tr.length ≤ 1048577 := by
  obtain ⟨k, hk⟩ := resN_ok hx hy
  have : resN x y = (some tr, (resN x y).2) := by rw [← h]
  rw [this] at hk
  exact srch_len hx hy k _ _ _ _ hk (good0 hx hy) fun j hj => by simp at hj; subst hj; exact Nat.le_refl _
set_option maxHeartbeats 4000000 in
theorem law3 (x y : Re) (hx0 : x.mv.length * 32 ≤ 140737488355328) (hy0 : y.mv.length * 32 ≤ 140737488355328) : FCall Tryd.prog 3 [reV x, reV y] (· = .v (.bool true)) := by
  have hOx := own18 x hx0
  have hOy := own18 y hy0
  simp only [reV, reL, mvsV]
  refine ACall.enter [] Cd.fn3 (by simp) ?_
  simp only [Cd.cd3, Tk.t3, base0, base1, base2, base3, Option.isNone_none, Option.isNone_some, Nat.reduceBEq, true_or, or_true, false_or, or_false, Nat.reduceLT, Nat.reduceMod, Nat.reducePow, rmaps, nsucc, List.flatten_cons, List.flatten_nil, Nat.reduceEqDiff, Nat.reduceLeDiff, Nat.reduceAdd, Nat.reduceMul, Nat.reduceSub, ↓reduceIte, reduceCtorEq, decide_true, decide_false]
  first | refine FCall.go awake15 (FZs.nil) ?_ | refine FCall.go' awake15 (FZs.nil) ?_ | refine FCall.goQ awake15 (FZs.nil) ?_
  simp only [Cd.cd3, Tk.t3, base0, base1, base2, base3, Option.isNone_none, Option.isNone_some, Nat.reduceBEq, true_or, or_true, false_or, or_false, Nat.reduceLT, Nat.reduceMod, Nat.reducePow, rmaps, nsucc, List.flatten_cons, List.flatten_nil, Nat.reduceEqDiff, Nat.reduceLeDiff, Nat.reduceAdd, Nat.reduceMul, Nat.reduceSub, ↓reduceIte, reduceCtorEq, decide_true, decide_false]
  first | refine FCall.go (few16 x) (FZs.one (FZ.reV x)) ?_ | refine FCall.go' (few16 x) (FZs.one (FZ.reV x)) ?_ | refine FCall.goQ (few16 x) (FZs.one (FZ.reV x)) ?_
  cases hfx : fewB x
  · simp only [Cd.cd3, Tk.t3, base0, base1, base2, base3, Option.isNone_none, Option.isNone_some, Nat.reduceBEq, true_or, or_true, false_or, or_false, Nat.reduceLT, Nat.reduceMod, Nat.reducePow, rmaps, nsucc, List.flatten_cons, List.flatten_nil, Nat.reduceEqDiff, Nat.reduceLeDiff, Nat.reduceAdd, Nat.reduceMul, Nat.reduceSub, ↓reduceIte, reduceCtorEq, decide_true, decide_false]
    exact fin_v rfl
  simp only [Cd.cd3, Tk.t3, base0, base1, base2, base3, Option.isNone_none, Option.isNone_some, Nat.reduceBEq, true_or, or_true, false_or, or_false, Nat.reduceLT, Nat.reduceMod, Nat.reducePow, rmaps, nsucc, List.flatten_cons, List.flatten_nil, Nat.reduceEqDiff, Nat.reduceLeDiff, Nat.reduceAdd, Nat.reduceMul, Nat.reduceSub, ↓reduceIte, reduceCtorEq, decide_true, decide_false]
  first | refine FCall.go (few16 y) (FZs.one (FZ.reV y)) ?_ | refine FCall.go' (few16 y) (FZs.one (FZ.reV y)) ?_ | refine FCall.goQ (few16 y) (FZs.one (FZ.reV y)) ?_
  cases hfy : fewB y
  · simp only [Cd.cd3, Tk.t3, base0, base1, base2, base3, Option.isNone_none, Option.isNone_some, Nat.reduceBEq, true_or, or_true, false_or, or_false, Nat.reduceLT, Nat.reduceMod, Nat.reducePow, rmaps, nsucc, List.flatten_cons, List.flatten_nil, Nat.reduceEqDiff, Nat.reduceLeDiff, Nat.reduceAdd, Nat.reduceMul, Nat.reduceSub, ↓reduceIte, reduceCtorEq, decide_true, decide_false]
    exact fin_v rfl
  simp only [Cd.cd3, Tk.t3, base0, base1, base2, base3, Option.isNone_none, Option.isNone_some, Nat.reduceBEq, true_or, or_true, false_or, or_false, Nat.reduceLT, Nat.reduceMod, Nat.reducePow, rmaps, nsucc, List.flatten_cons, List.flatten_nil, Nat.reduceEqDiff, Nat.reduceLeDiff, Nat.reduceAdd, Nat.reduceMul, Nat.reduceSub, ↓reduceIte, reduceCtorEq, decide_true, decide_false]
  first | refine FCall.go hOx (FZs.one (FZ.reV x)) ?_ | refine FCall.go' hOx (FZs.one (FZ.reV x)) ?_ | refine FCall.goQ hOx (FZs.one (FZ.reV x)) ?_
  simp only [Cd.cd3, Tk.t3, base0, base1, base2, base3, Option.isNone_none, Option.isNone_some, Nat.reduceBEq, true_or, or_true, false_or, or_false, Nat.reduceLT, Nat.reduceMod, Nat.reducePow, rmaps, nsucc, List.flatten_cons, List.flatten_nil, Nat.reduceEqDiff, Nat.reduceLeDiff, Nat.reduceAdd, Nat.reduceMul, Nat.reduceSub, ↓reduceIte, reduceCtorEq, decide_true, decide_false]
  first | refine FCall.go hOy (FZs.one (FZ.reV y)) ?_ | refine FCall.go' hOy (FZs.one (FZ.reV y)) ?_ | refine FCall.goQ hOy (FZs.one (FZ.reV y)) ?_
  simp only [Cd.cd3, Tk.t3, base0, base1, base2, base3, Option.isNone_none, Option.isNone_some, Nat.reduceBEq, true_or, or_true, false_or, or_false, Nat.reduceLT, Nat.reduceMod, Nat.reducePow, rmaps, nsucc, List.flatten_cons, List.flatten_nil, Nat.reduceEqDiff, Nat.reduceLeDiff, Nat.reduceAdd, Nat.reduceMul, Nat.reduceSub, ↓reduceIte, reduceCtorEq, decide_true, decide_false]
  first | refine FCall.go (conforms17 x y) (FZs.two (FZ.reV x) (FZ.reV y)) ?_ | refine FCall.go' (conforms17 x y) (FZs.two (FZ.reV x) (FZ.reV y)) ?_ | refine FCall.goQ (conforms17 x y) (FZs.two (FZ.reV x) (FZ.reV y)) ?_
  by_cases h0 : bothR x y = 0
  · obtain ⟨hx, hy, h1, h2, h3⟩ := bothR_ok h0
    have hcv : confV x y = ansV (resN x y).1 := by unfold confV; rw [if_neg (by simpa using h0)]
    have hrv : relV x y = relO (resN x y).1 (resN x y).2 := by unfold relV; rw [if_neg (by simpa using h0)]
    have hse := search21 x y hx hy h1 h3
    unfold SeR at hse
    have hGl := SrchR.good hx hy (resN_ok hx hy) (good0 hx hy)
    rw [hcv]
    cases hr : (resN x y).1 with
    | some tr =>
      have htl := resN_len hx hy hr
      rw [hr] at hrv hse
      simp only [relO] at hrv
      have hrel := relation19 x y
      rw [hrv] at hrel
      simp only [ansV, Cd.cd3, Tk.t3, base0, base1, base2, base3, Option.isNone_none, Option.isNone_some, Nat.reduceBEq, true_or, or_true, false_or, or_false, Nat.reduceLT, Nat.reduceMod, Nat.reducePow, rmaps, nsucc, List.flatten_cons, List.flatten_nil, Nat.reduceEqDiff, Nat.reduceLeDiff, Nat.reduceAdd, Nat.reduceMul, Nat.reduceSub, ↓reduceIte, reduceCtorEq, decide_true, decide_false]
      first | refine FCall.go hOx (FZs.one (FZ.reV x)) ?_ | refine FCall.go' hOx (FZs.one (FZ.reV x)) ?_ | refine FCall.goQ hOx (FZs.one (FZ.reV x)) ?_
      simp only [Cd.cd3, Tk.t3, base0, base1, base2, base3, Option.isNone_none, Option.isNone_some, Nat.reduceBEq, true_or, or_true, false_or, or_false, Nat.reduceLT, Nat.reduceMod, Nat.reducePow, rmaps, nsucc, List.flatten_cons, List.flatten_nil, Nat.reduceEqDiff, Nat.reduceLeDiff, Nat.reduceAdd, Nat.reduceMul, Nat.reduceSub, ↓reduceIte, reduceCtorEq, decide_true, decide_false]
      first | refine FCall.go hOy (FZs.one (FZ.reV y)) ?_ | refine FCall.go' hOy (FZs.one (FZ.reV y)) ?_ | refine FCall.goQ hOy (FZs.one (FZ.reV y)) ?_
      simp only [Cd.cd3, Tk.t3, base0, base1, base2, base3, Option.isNone_none, Option.isNone_some, Nat.reduceBEq, true_or, or_true, false_or, or_false, Nat.reduceLT, Nat.reduceMod, Nat.reducePow, rmaps, nsucc, List.flatten_cons, List.flatten_nil, Nat.reduceEqDiff, Nat.reduceLeDiff, Nat.reduceAdd, Nat.reduceMul, Nat.reduceSub, ↓reduceIte, reduceCtorEq, decide_true, decide_false]
      first | refine FCall.go hrel (FZs.two (FZ.reV x) (FZ.reV y)) ?_ | refine FCall.go' hrel (FZs.two (FZ.reV x) (FZ.reV y)) ?_ | refine FCall.goQ hrel (FZs.two (FZ.reV x) (FZ.reV y)) ?_
      simp only [Cd.cd3, Tk.t3, base0, base1, base2, base3, Option.isNone_none, Option.isNone_some, Nat.reduceBEq, true_or, or_true, false_or, or_false, Nat.reduceLT, Nat.reduceMod, Nat.reducePow, rmaps, nsucc, List.flatten_cons, List.flatten_nil, Nat.reduceEqDiff, Nat.reduceLeDiff, Nat.reduceAdd, Nat.reduceMul, Nat.reduceSub, ↓reduceIte, reduceCtorEq, decide_true, decide_false]
      first | refine FCall.go (two20 x y) (FZs.two (FZ.reV x) (FZ.reV y)) ?_ | refine FCall.go' (two20 x y) (FZs.two (FZ.reV x) (FZ.reV y)) ?_ | refine FCall.goQ (two20 x y) (FZs.two (FZ.reV x) (FZ.reV y)) ?_
      simp only [show (bothR x y != 0) = false from by rw [h0]; rfl, Cd.cd3, Tk.t3, base0, base1, base2, base3, Option.isNone_none, Option.isNone_some, Nat.reduceBEq, true_or, or_true, false_or, or_false, Nat.reduceLT, Nat.reduceMod, Nat.reducePow, rmaps, nsucc, List.flatten_cons, List.flatten_nil, Nat.reduceEqDiff, Nat.reduceLeDiff, Nat.reduceAdd, Nat.reduceMul, Nat.reduceSub, ↓reduceIte, reduceCtorEq, decide_true, decide_false]
      refine hse.some (FZs.two (FZ.reV x) (FZ.reV y)) fun v hv ⟨L, he⟩ => ?_
      subst he
      simp only [show ((29 : Int) == 29) = true from rfl, Cd.cd3, Tk.t3, base0, base1, base2, base3, Option.isNone_none, Option.isNone_some, Nat.reduceBEq, true_or, or_true, false_or, or_false, Nat.reduceLT, Nat.reduceMod, Nat.reducePow, rmaps, nsucc, List.flatten_cons, List.flatten_nil, Nat.reduceEqDiff, Nat.reduceLeDiff, Nat.reduceAdd, Nat.reduceMul, Nat.reduceSub, ↓reduceIte, reduceCtorEq, decide_true, decide_false]
      first | refine FCall.go (same22 tr tr (by omega)) (FZs.two (FZ.ints _) (FZ.ints _)) ?_ | refine FCall.go' (same22 tr tr (by omega)) (FZs.two (FZ.ints _) (FZ.ints _)) ?_ | refine FCall.goQ (same22 tr tr (by omega)) (FZs.two (FZ.ints _) (FZ.ints _)) ?_
      simp only [decide_true, nilS, show ((0 : Int) == 0) = true from rfl, show ((29 : Int) == 29) = true from rfl, Cd.cd3, Tk.t3, base0, base1, base2, base3, Option.isNone_none, Option.isNone_some, Nat.reduceBEq, true_or, or_true, false_or, or_false, Nat.reduceLT, Nat.reduceMod, Nat.reducePow, rmaps, nsucc, List.flatten_cons, List.flatten_nil, Nat.reduceEqDiff, Nat.reduceLeDiff, Nat.reduceAdd, Nat.reduceMul, Nat.reduceSub, ↓reduceIte, reduceCtorEq, decide_true, decide_false]
      exact fin_v rfl
    | none =>
      rw [hr] at hrv hse
      have hrel := relation19 x y
      rw [hrv] at hrel
      generalize hl : (resN x y).2 = l at hrel hse hGl
      have hll := hGl.len hx hy
      by_cases h300 : 300 < l.length
      · rw [relO, if_pos h300] at hrel
        simp only [ansV, Cd.cd3, Tk.t3, base0, base1, base2, base3, Option.isNone_none, Option.isNone_some, Nat.reduceBEq, true_or, or_true, false_or, or_false, Nat.reduceLT, Nat.reduceMod, Nat.reducePow, rmaps, nsucc, List.flatten_cons, List.flatten_nil, Nat.reduceEqDiff, Nat.reduceLeDiff, Nat.reduceAdd, Nat.reduceMul, Nat.reduceSub, ↓reduceIte, reduceCtorEq, decide_true, decide_false]
        first | refine FCall.go hOx (FZs.one (FZ.reV x)) ?_ | refine FCall.go' hOx (FZs.one (FZ.reV x)) ?_ | refine FCall.goQ hOx (FZs.one (FZ.reV x)) ?_
        simp only [Cd.cd3, Tk.t3, base0, base1, base2, base3, Option.isNone_none, Option.isNone_some, Nat.reduceBEq, true_or, or_true, false_or, or_false, Nat.reduceLT, Nat.reduceMod, Nat.reducePow, rmaps, nsucc, List.flatten_cons, List.flatten_nil, Nat.reduceEqDiff, Nat.reduceLeDiff, Nat.reduceAdd, Nat.reduceMul, Nat.reduceSub, ↓reduceIte, reduceCtorEq, decide_true, decide_false]
        first | refine FCall.go hOy (FZs.one (FZ.reV y)) ?_ | refine FCall.go' hOy (FZs.one (FZ.reV y)) ?_ | refine FCall.goQ hOy (FZs.one (FZ.reV y)) ?_
        simp only [Cd.cd3, Tk.t3, base0, base1, base2, base3, Option.isNone_none, Option.isNone_some, Nat.reduceBEq, true_or, or_true, false_or, or_false, Nat.reduceLT, Nat.reduceMod, Nat.reducePow, rmaps, nsucc, List.flatten_cons, List.flatten_nil, Nat.reduceEqDiff, Nat.reduceLeDiff, Nat.reduceAdd, Nat.reduceMul, Nat.reduceSub, ↓reduceIte, reduceCtorEq, decide_true, decide_false]
        first | refine FCall.go hrel (FZs.two (FZ.reV x) (FZ.reV y)) ?_ | refine FCall.go' hrel (FZs.two (FZ.reV x) (FZ.reV y)) ?_ | refine FCall.goQ hrel (FZs.two (FZ.reV x) (FZ.reV y)) ?_
        simp only [Cd.cd3, Tk.t3, base0, base1, base2, base3, Option.isNone_none, Option.isNone_some, Nat.reduceBEq, true_or, or_true, false_or, or_false, Nat.reduceLT, Nat.reduceMod, Nat.reducePow, rmaps, nsucc, List.flatten_cons, List.flatten_nil, Nat.reduceEqDiff, Nat.reduceLeDiff, Nat.reduceAdd, Nat.reduceMul, Nat.reduceSub, ↓reduceIte, reduceCtorEq, decide_true, decide_false]
        first | refine FCall.go (two20 x y) (FZs.two (FZ.reV x) (FZ.reV y)) ?_ | refine FCall.go' (two20 x y) (FZs.two (FZ.reV x) (FZ.reV y)) ?_ | refine FCall.goQ (two20 x y) (FZs.two (FZ.reV x) (FZ.reV y)) ?_
        simp only [show (bothR x y != 0) = false from by rw [h0]; rfl, Cd.cd3, Tk.t3, base0, base1, base2, base3, Option.isNone_none, Option.isNone_some, Nat.reduceBEq, true_or, or_true, false_or, or_false, Nat.reduceLT, Nat.reduceMod, Nat.reducePow, rmaps, nsucc, List.flatten_cons, List.flatten_nil, Nat.reduceEqDiff, Nat.reduceLeDiff, Nat.reduceAdd, Nat.reduceMul, Nat.reduceSub, ↓reduceIte, reduceCtorEq, decide_true, decide_false]
        first | refine FCall.go hse (FZs.two (FZ.reV x) (FZ.reV y)) ?_ | refine FCall.go' hse (FZs.two (FZ.reV x) (FZ.reV y)) ?_ | refine FCall.goQ hse (FZs.two (FZ.reV x) (FZ.reV y)) ?_
        simp only [nilS, show ((0 : Int) != 0) = false from rfl, pairsV, List.length_map, show decide (((l.length : Nat) : Int) > 300) = true from decide_eq_true (by omega), show ((32 : Int) == 32) = true from rfl, show ((0 : Int) == 0) = true from rfl, Cd.cd3, Tk.t3, base0, base1, base2, base3, Option.isNone_none, Option.isNone_some, Nat.reduceBEq, true_or, or_true, false_or, or_false, Nat.reduceLT, Nat.reduceMod, Nat.reducePow, rmaps, nsucc, List.flatten_cons, List.flatten_nil, Nat.reduceEqDiff, Nat.reduceLeDiff, Nat.reduceAdd, Nat.reduceMul, Nat.reduceSub, ↓reduceIte, reduceCtorEq, decide_true, decide_false]
        exact fin_v rfl
      · rw [relO, if_neg h300] at hrel
        simp only [ansV, Cd.cd3, Tk.t3, base0, base1, base2, base3, Option.isNone_none, Option.isNone_some, Nat.reduceBEq, true_or, or_true, false_or, or_false, Nat.reduceLT, Nat.reduceMod, Nat.reducePow, rmaps, nsucc, List.flatten_cons, List.flatten_nil, Nat.reduceEqDiff, Nat.reduceLeDiff, Nat.reduceAdd, Nat.reduceMul, Nat.reduceSub, ↓reduceIte, reduceCtorEq, decide_true, decide_false]
        first | refine FCall.go hOx (FZs.one (FZ.reV x)) ?_ | refine FCall.go' hOx (FZs.one (FZ.reV x)) ?_ | refine FCall.goQ hOx (FZs.one (FZ.reV x)) ?_
        simp only [Cd.cd3, Tk.t3, base0, base1, base2, base3, Option.isNone_none, Option.isNone_some, Nat.reduceBEq, true_or, or_true, false_or, or_false, Nat.reduceLT, Nat.reduceMod, Nat.reducePow, rmaps, nsucc, List.flatten_cons, List.flatten_nil, Nat.reduceEqDiff, Nat.reduceLeDiff, Nat.reduceAdd, Nat.reduceMul, Nat.reduceSub, ↓reduceIte, reduceCtorEq, decide_true, decide_false]
        first | refine FCall.go hOy (FZs.one (FZ.reV y)) ?_ | refine FCall.go' hOy (FZs.one (FZ.reV y)) ?_ | refine FCall.goQ hOy (FZs.one (FZ.reV y)) ?_
        simp only [Cd.cd3, Tk.t3, base0, base1, base2, base3, Option.isNone_none, Option.isNone_some, Nat.reduceBEq, true_or, or_true, false_or, or_false, Nat.reduceLT, Nat.reduceMod, Nat.reducePow, rmaps, nsucc, List.flatten_cons, List.flatten_nil, Nat.reduceEqDiff, Nat.reduceLeDiff, Nat.reduceAdd, Nat.reduceMul, Nat.reduceSub, ↓reduceIte, reduceCtorEq, decide_true, decide_false]
        first | refine FCall.go hrel (FZs.two (FZ.reV x) (FZ.reV y)) ?_ | refine FCall.go' hrel (FZs.two (FZ.reV x) (FZ.reV y)) ?_ | refine FCall.goQ hrel (FZs.two (FZ.reV x) (FZ.reV y)) ?_
        simp only [Cd.cd3, Tk.t3, base0, base1, base2, base3, Option.isNone_none, Option.isNone_some, Nat.reduceBEq, true_or, or_true, false_or, or_false, Nat.reduceLT, Nat.reduceMod, Nat.reducePow, rmaps, nsucc, List.flatten_cons, List.flatten_nil, Nat.reduceEqDiff, Nat.reduceLeDiff, Nat.reduceAdd, Nat.reduceMul, Nat.reduceSub, ↓reduceIte, reduceCtorEq, decide_true, decide_false]
        first | refine FCall.go (two20 x y) (FZs.two (FZ.reV x) (FZ.reV y)) ?_ | refine FCall.go' (two20 x y) (FZs.two (FZ.reV x) (FZ.reV y)) ?_ | refine FCall.goQ (two20 x y) (FZs.two (FZ.reV x) (FZ.reV y)) ?_
        simp only [show (bothR x y != 0) = false from by rw [h0]; rfl, Cd.cd3, Tk.t3, base0, base1, base2, base3, Option.isNone_none, Option.isNone_some, Nat.reduceBEq, true_or, or_true, false_or, or_false, Nat.reduceLT, Nat.reduceMod, Nat.reducePow, rmaps, nsucc, List.flatten_cons, List.flatten_nil, Nat.reduceEqDiff, Nat.reduceLeDiff, Nat.reduceAdd, Nat.reduceMul, Nat.reduceSub, ↓reduceIte, reduceCtorEq, decide_true, decide_false]
        first | refine FCall.go hse (FZs.two (FZ.reV x) (FZ.reV y)) ?_ | refine FCall.go' hse (FZs.two (FZ.reV x) (FZ.reV y)) ?_ | refine FCall.goQ hse (FZs.two (FZ.reV x) (FZ.reV y)) ?_
        simp only [nilS, show ((0 : Int) != 0) = false from rfl, pairsV, relL, List.length_map, show decide (((l.length : Nat) : Int) > 300) = false from decide_eq_false (by omega), show (((l.length : Nat) : Int) != ((l.length : Nat) : Int)) = false from by simp, Cd.cd3, Tk.t3, base0, base1, base2, base3, Option.isNone_none, Option.isNone_some, Nat.reduceBEq, true_or, or_true, false_or, or_false, Nat.reduceLT, Nat.reduceMod, Nat.reducePow, rmaps, nsucc, List.flatten_cons, List.flatten_nil, Nat.reduceEqDiff, Nat.reduceLeDiff, Nat.reduceAdd, Nat.reduceMul, Nat.reduceSub, ↓reduceIte, reduceCtorEq, decide_true, decide_false]
        refine LWP.loop [] (fun m f H' => ∃ i, m = l.length - i ∧ (i ≤ l.length) ∧ f.t 7 = .lst 2 (l.map enR) .unk ∧ f.t 12 = .lst 3 (l.map enN) .unk ∧ f.t 13 = .v (.int .i64 (i : Nat)) ∧ f.ds = [] ∧ H' = AH.none) ?_ ?_ (m := l.length - (0))
        · exact ⟨0, rfl, (by omega), rfl, rfl, rfl, rfl, rfl⟩
        · rintro m f H' ⟨i, rfl, hi, f7, f12, f13, hds, rfl⟩
          by_cases hlt : i < l.length
          · have hg1 := getD_map enR l i hlt
            have hg2 := getD_map enN l i hlt
            generalize l.getD i default = p at hg1 hg2
            have hlx := setL_len p.x
            have hly := setL_len p.y
            simp only [List.length_map, ltT hlt, inR hlt, Int.toNat_natCast, hg1, hg2, enR, enN, f7, f12, f13, hds, Cd.cd3, Tk.t3, base0, base1, base2, base3, Option.isNone_none, Option.isNone_some, Nat.reduceBEq, true_or, or_true, false_or, or_false, Nat.reduceLT, Nat.reduceMod, Nat.reducePow, rmaps, nsucc, List.flatten_cons, List.flatten_nil, Nat.reduceEqDiff, Nat.reduceLeDiff, Nat.reduceAdd, Nat.reduceMul, Nat.reduceSub, ↓reduceIte, reduceCtorEq, decide_true, decide_false]
            first | refine FCall.go (same22 (bitsI p.x) (bitsI p.x) (by omega)) (FZs.two (FZ.setV _) (FZ.setV _)) ?_ | refine FCall.go' (same22 (bitsI p.x) (bitsI p.x) (by omega)) (FZs.two (FZ.setV _) (FZ.setV _)) ?_ | refine FCall.goQ (same22 (bitsI p.x) (bitsI p.x) (by omega)) (FZs.two (FZ.setV _) (FZ.setV _)) ?_
            simp only [decide_true, List.length_map, inR hlt, Int.toNat_natCast, hg1, hg2, enR, enN, f7, f12, f13, hds, Cd.cd3, Tk.t3, base0, base1, base2, base3, Option.isNone_none, Option.isNone_some, Nat.reduceBEq, true_or, or_true, false_or, or_false, Nat.reduceLT, Nat.reduceMod, Nat.reducePow, rmaps, nsucc, List.flatten_cons, List.flatten_nil, Nat.reduceEqDiff, Nat.reduceLeDiff, Nat.reduceAdd, Nat.reduceMul, Nat.reduceSub, ↓reduceIte, reduceCtorEq, decide_true, decide_false]
            first | refine FCall.go (same22 (bitsI p.y) (bitsI p.y) (by omega)) (FZs.two (FZ.setV _) (FZ.setV _)) ?_ | refine FCall.go' (same22 (bitsI p.y) (bitsI p.y) (by omega)) (FZs.two (FZ.setV _) (FZ.setV _)) ?_ | refine FCall.goQ (same22 (bitsI p.y) (bitsI p.y) (by omega)) (FZs.two (FZ.setV _) (FZ.setV _)) ?_
            simp only [decide_true, f7, f12, f13, hds, Cd.cd3, Tk.t3, base0, base1, base2, base3, Option.isNone_none, Option.isNone_some, Nat.reduceBEq, true_or, or_true, false_or, or_false, Nat.reduceLT, Nat.reduceMod, Nat.reducePow, rmaps, nsucc, List.flatten_cons, List.flatten_nil, Nat.reduceEqDiff, Nat.reduceLeDiff, Nat.reduceAdd, Nat.reduceMul, Nat.reduceSub, ↓reduceIte, reduceCtorEq, decide_true, decide_false]
            refine ⟨_, by omega, i + 1, rfl, ?_⟩
            (repeat' apply And.intro) <;> first | rfl | (rw [wrapS (by omega)]) | omega | assumption
          · simp only [List.length_map, ltF hlt, f7, f12, f13, hds, Cd.cd3, Tk.t3, base0, base1, base2, base3, Option.isNone_none, Option.isNone_some, Nat.reduceBEq, true_or, or_true, false_or, or_false, Nat.reduceLT, Nat.reduceMod, Nat.reducePow, rmaps, nsucc, List.flatten_cons, List.flatten_nil, Nat.reduceEqDiff, Nat.reduceLeDiff, Nat.reduceAdd, Nat.reduceMul, Nat.reduceSub, ↓reduceIte, reduceCtorEq, decide_true, decide_false]
            exact fin_v rfl
  · have hcv : confV x y = .tup [nilS, .v (.int .i64 (bothR x y))] := by unfold confV; rw [if_pos h0]
    have hrv : relV x y = .tup [nilS, .v (.int .i64 (bothR x y))] := by unfold relV; rw [if_pos h0]
    have hrel := relation19 x y
    rw [hrv] at hrel
    rw [hcv]
    simp only [nilS, Cd.cd3, Tk.t3, base0, base1, base2, base3, Option.isNone_none, Option.isNone_some, Nat.reduceBEq, true_or, or_true, false_or, or_false, Nat.reduceLT, Nat.reduceMod, Nat.reducePow, rmaps, nsucc, List.flatten_cons, List.flatten_nil, Nat.reduceEqDiff, Nat.reduceLeDiff, Nat.reduceAdd, Nat.reduceMul, Nat.reduceSub, ↓reduceIte, reduceCtorEq, decide_true, decide_false]
    first | refine FCall.go hOx (FZs.one (FZ.reV x)) ?_ | refine FCall.go' hOx (FZs.one (FZ.reV x)) ?_ | refine FCall.goQ hOx (FZs.one (FZ.reV x)) ?_
    simp only [Cd.cd3, Tk.t3, base0, base1, base2, base3, Option.isNone_none, Option.isNone_some, Nat.reduceBEq, true_or, or_true, false_or, or_false, Nat.reduceLT, Nat.reduceMod, Nat.reducePow, rmaps, nsucc, List.flatten_cons, List.flatten_nil, Nat.reduceEqDiff, Nat.reduceLeDiff, Nat.reduceAdd, Nat.reduceMul, Nat.reduceSub, ↓reduceIte, reduceCtorEq, decide_true, decide_false]
    first | refine FCall.go hOy (FZs.one (FZ.reV y)) ?_ | refine FCall.go' hOy (FZs.one (FZ.reV y)) ?_ | refine FCall.goQ hOy (FZs.one (FZ.reV y)) ?_
    simp only [Cd.cd3, Tk.t3, base0, base1, base2, base3, Option.isNone_none, Option.isNone_some, Nat.reduceBEq, true_or, or_true, false_or, or_false, Nat.reduceLT, Nat.reduceMod, Nat.reducePow, rmaps, nsucc, List.flatten_cons, List.flatten_nil, Nat.reduceEqDiff, Nat.reduceLeDiff, Nat.reduceAdd, Nat.reduceMul, Nat.reduceSub, ↓reduceIte, reduceCtorEq, decide_true, decide_false]
    first | refine FCall.go hrel (FZs.two (FZ.reV x) (FZ.reV y)) ?_ | refine FCall.go' hrel (FZs.two (FZ.reV x) (FZ.reV y)) ?_ | refine FCall.goQ hrel (FZs.two (FZ.reV x) (FZ.reV y)) ?_
    simp only [nilS, Cd.cd3, Tk.t3, base0, base1, base2, base3, Option.isNone_none, Option.isNone_some, Nat.reduceBEq, true_or, or_true, false_or, or_false, Nat.reduceLT, Nat.reduceMod, Nat.reducePow, rmaps, nsucc, List.flatten_cons, List.flatten_nil, Nat.reduceEqDiff, Nat.reduceLeDiff, Nat.reduceAdd, Nat.reduceMul, Nat.reduceSub, ↓reduceIte, reduceCtorEq, decide_true, decide_false]
    first | refine FCall.go (two20 x y) (FZs.two (FZ.reV x) (FZ.reV y)) ?_ | refine FCall.go' (two20 x y) (FZs.two (FZ.reV x) (FZ.reV y)) ?_ | refine FCall.goQ (two20 x y) (FZs.two (FZ.reV x) (FZ.reV y)) ?_
    have hw0 : IntKind.i64.wrap (((0 : Nat) : Int) + ((0 : Nat) : Int)) = 0 := by decide
    simp only [bneT h0, show (bothR x y == bothR x y) = true from by simp, hw0, show IntKind.i64.wrap (0 + 0) = 0 from by decide, show ((0 : Int) == 0) = true from rfl, Cd.cd3, Tk.t3, base0, base1, base2, base3, Option.isNone_none, Option.isNone_some, Nat.reduceBEq, true_or, or_true, false_or, or_false, Nat.reduceLT, Nat.reduceMod, Nat.reducePow, rmaps, nsucc, List.flatten_cons, List.flatten_nil, Nat.reduceEqDiff, Nat.reduceLeDiff, Nat.reduceAdd, Nat.reduceMul, Nat.reduceSub, ↓reduceIte, reduceCtorEq, decide_true, decide_false]
    exact fin_v rfl
end Go.Proofs.YtchpcjmgifnmdaaDoor

/- Readers of the arguments; what the rows' list of variables gives; room. -/
namespace Go.Proofs.YtchpcjmgifnmdaaDoor
open Go Go.Proofs.YtchpcjmgifnmdaaDoor.Ab Go.ChangeShapes Go.WideShapes Go.ChangeAt Go.RowKit Go.Deep
set_option maxRecDepth 100000

theorem rdI : Rd Tryd.prog 3 (fun n : Int => [.v (.int .i64 n)]) (fun n => IntKind.i64.min ≤ n ∧ n ≤ IntKind.i64.max) := Rd.int Tryd.underlying3
theorem rdMv : Rd Tryd.prog 113 mvR (fun _ => True) :=
  (Rd.struct Tryd.underlying113 rfl (by kernel_rfl) (RdF.cons (s := 1) rfl (by kernel_rfl) rdI (RdF.cons (s := 1) rfl (by kernel_rfl) rdI (RdF.cons (s := 1) rfl (by kernel_rfl) rdI (RdF.cons (s := 1) rfl (by kernel_rfl) rdI RdF.nil))))).map
    (fun p => (⟨p.1, p.2.1, p.2.2.1, p.2.2.2.1⟩ : Mv)) (fun _ => rfl) (fun _ _ => trivial)
theorem rdMvs : Rd Tryd.prog 22 (fun l : List Mv => [mvsV l]) (fun _ => True) :=
  (Rd.slice Tryd.underlying22 (by kernel_rfl) (by decide) rdMv (fun _ => rfl)).map (fun l : List Mv => l) (fun _ => rfl) (fun _ _ => trivial)
theorem rdRe : Rd Tryd.prog 24 reL (fun _ => True) :=
  (Rd.struct Tryd.underlying24 rfl (by kernel_rfl) (RdF.cons (s := 1) rfl (by kernel_rfl) rdI (RdF.cons (s := 1) rfl (by kernel_rfl) rdI (RdF.cons (s := 1) rfl (by kernel_rfl) rdI (RdF.cons (s := 1) rfl (by kernel_rfl) rdI (RdF.cons (s := 1) rfl (by kernel_rfl) rdMvs RdF.nil)))))).map
    (fun p => (⟨p.1, p.2.1, p.2.2.1, p.2.2.2.1, p.2.2.2.2.1⟩ : Re)) (fun _ => rfl) (fun _ _ => trivial)
theorem own : ownKnob Tryd.prog.godebug = none := by kernel_rfl
theorem laidOut : laidOutB Tryd.prog = true := by kernel_rfl
theorem by22 : Tryd.prog.bytesOf 113 = 32 := by kernel_rfl
theorem by27 : Tryd.prog.bytesOf 3 = 8 := by kernel_rfl

/-! room -/
theorem slice_room {H : Type} {enc : TypeId × Value → H} {W : World} {base : Nat} {sp : Nat → Bool} {hd : Bool} {t e : TypeId} {fuel : Nat} {v : Value} {x : DataW H × List MemPlace} {g : G} {k : Nat} {rows : List (List AV)} {tip : Tip} {B R : Nat}
    (ht : Tryd.prog.underlying t = some (.slice e)) (h : DataW.trod enc Tryd.prog W base sp hd fuel t [v] = some x) (hv : VR g (.lst k rows tip) v) (hw : ∀ elems spare, x.1 = .slice elems spare → (elems.length + spare.length) * B ≤ R) : rows.length * B ≤ R := by
  rcases open_slice ht h with ⟨h1, _⟩ | ⟨a, len, cap, m, n, D, Pl, h1, _, _, _, _, hx, _⟩
  · simp only [List.cons.injEq, and_true] at h1
    subst h1
    cases hv with
    | lst q1 q2 => rw [← q1]; simp
  · simp only [List.cons.injEq, and_true] at h1
    subst h1
    cases hv with
    | lst q1 q2 =>
      rw [← q1]
      have := hw _ _ (by rw [hx])
      simp only [List.length_map, List.length_range] at this
      exact Nat.le_trans (Nat.mul_le_mul_right B (Nat.le_add_right _ _)) this
theorem re_room {H : Type} {enc : TypeId × Value → H} {W : World} {base : Nat} {sp : Nat → Bool} {hd : Bool} {v : Value} {d : DataW H} {ps : List MemPlace} {g : G} {y : Re}
    (h : DataW.Trod enc Tryd.prog W base sp hd 24 v d ps) (hv : VR g (reV y) v) (hw : ∀ n ∈ DataW.weights Tryd.prog 24 d, n ≤ reachBytes) : y.mv.length * 32 ≤ 140737488355328 := by
  obtain ⟨fuel, hf⟩ := h
  obtain ⟨xs, n, _, hx, hl, hlen, hfs⟩ := DataW.trod_struct Tryd.underlying24 hf
  have h4 : DataW.trod enc Tryd.prog W base sp hd n 22 ((v.cells.toList.drop 4).take (Tryd.prog.cellsOf 22)) = xs[4]? := hfs 4 _ rfl
  unfold reV at hv
  cases hv with
  | @agg _ arr ha hva =>
    have hsz : arr.size = 5 := ha
    have hv4 := hva 4 (by simp [reL])
    have e4 : ((Value.agg arr).cells.toList.drop 4).take 1 = [arr.getD 4 undef] := by
      show (arr.toList.drop 4).take 1 = _
      apply List.ext_getElem?
      intro i
      cases i with
      | zero =>
        rw [List.getElem?_take_of_lt (by omega), List.getElem?_drop, Array.getElem?_toList, Array.getElem?_eq_getElem (by omega)]
        simp [Array.getD_eq_getD_getElem?, Array.getElem?_eq_getElem (show 4 < arr.size by omega)]
      | succ i => rw [List.getElem?_eq_none (by rw [List.length_take]; omega), List.getElem?_eq_none (by simp)]
    have hc22 : Tryd.prog.cellsOf 22 = 1 := by kernel_rfl
    simp only [hc22] at h4
    rw [e4] at h4
    have hxl : xs.length = 5 := hlen
    rw [List.getElem?_eq_getElem (show 4 < xs.length by omega)] at h4
    have hd1 : d = .agg (xs.map (·.1)) := congrArg Prod.fst hx
    have := slice_room (B := 32) (R := reachBytes) Tryd.underlying22 h4 hv4 fun elems spare he => by
      refine hw _ ?_
      rw [hd1]
      simp only [DataW.weights, Tryd.underlying24]
      refine DataW.weights_mem_each (j := 4) (t := 22) rfl (d := .slice elems spare) ?_ _ ?_
      · rw [List.getElem?_map, List.getElem?_eq_getElem (show 4 < xs.length by omega)]
        exact congrArg some he
      · simp [DataW.weights, Tryd.underlying22, by22]
    rw [List.length_map] at this
    have h2 : reachBytes = 140737488351232 := rfl
    omega

/-! what the rows' list of variables gives -/
theorem gTab : Tryd.prog.globalNamed "math/bits.deBruijn64tab" = some 1 := by kernel_rfl
theorem gTabType : (Tryd.prog.globals[1]?).map (·.type) = some 180 := by kernel_rfl
theorem cells180 : Tryd.prog.cellsOf 180 = 64 := by kernel_rfl
theorem cells5 : Tryd.prog.cellsOf 5 = 1 := by kernel_rfl
theorem laid_cells {W : World} (h : laidMetH Tryd.prog [("math/bits.deBruijn32tab", Rows.laid_math_bits_deBruijn32tab), ("math/bits.deBruijn64tab", Rows.laid_math_bits_deBruijn64tab)] W) : ∀ b o x, gCell b o = Option.some x → W.cell? ⟨b, o, .none⟩ = Option.some x := by
  have h1 := h.filter fun x => x.1 == "math/bits.deBruijn64tab"
  have h2 : laidMet Tryd.prog [("math/bits.deBruijn64tab", Lib.tabData .u8 (tab64.map fun n : Nat => (n : Int)))] W := h1
  have hT := Lib.tabIs_of_head (rest := []) gTab gTabType Tryd.underlying180 Tryd.underlying5 cells5 cells180 h2
  intro b o x e
  unfold gCell at e
  split at e
  · rename_i hc
    obtain ⟨rfl, ho⟩ := hc
    simp only [Option.some.injEq] at e
    subst e
    have := hT.cell gTab o (by simpa [tab64] using ho)
    rw [this]
    congr 2
    rw [List.getD_eq_getElem?_getD, List.getElem?_map, List.getD_eq_getElem?_getD]
    rw [List.getElem?_eq_getElem (show o < tab64.length by simpa [tab64] using ho)]; rfl
  · cases e
end Go.Proofs.YtchpcjmgifnmdaaDoor

/- A world for the rows' witnesses: the tables hold what their initialisers lay. -/
namespace Go.Proofs.YtchpcjmgifnmdaaDoor
open Go Go.Proofs.YtchpcjmgifnmdaaDoor.Ab Go.ChangeShapes Go.WideShapes Go.ChangeAt Go.RowKit
set_option maxRecDepth 100000

def lay32 : Obj → Obj
  | .cells _ t frozen => .cells #[.int .u8 0, .int .u8 1, .int .u8 28, .int .u8 2, .int .u8 29, .int .u8 14, .int .u8 24, .int .u8 3, .int .u8 30, .int .u8 22, .int .u8 20, .int .u8 15, .int .u8 25, .int .u8 17, .int .u8 4, .int .u8 8, .int .u8 31, .int .u8 27, .int .u8 13, .int .u8 23, .int .u8 21, .int .u8 19, .int .u8 16, .int .u8 7, .int .u8 26, .int .u8 12, .int .u8 18, .int .u8 6, .int .u8 11, .int .u8 5, .int .u8 10, .int .u8 9] t frozen
  | o => o
def lay64 : Obj → Obj
  | .cells _ t frozen => .cells ((tab64.map fun n : Nat => Value.int .u8 (n : Int)).toArray) t frozen
  | o => o
/-- a world for the witness: the tables hold what their initialisers lay -/
noncomputable def laidWorld (os : Os) : World :=
  { World.holding Tryd.prog os ⟨#[], #[], []⟩ with heap := ((World.holding Tryd.prog os ⟨#[], #[], []⟩).heap.modify 0 lay32).modify 1 lay64 }
theorem row_le {H : Type} {P : Program} {ts : List TypeId} {ds : List (DataW H)} (h : (DataW.weightsEach P ts ds).all (· ≤ reachBytes) = true) {j : Nat} {t : TypeId} {d : DataW H} (ht : ts[j]? = some t) (hd : ds[j]? = some d) : ∀ n ∈ DataW.weights P t d, n ≤ reachBytes := fun n hn =>
  of_decide_eq_true (List.all_eq_true.1 h n (DataW.weights_mem_each ht hd n hn))
end Go.Proofs.YtchpcjmgifnmdaaDoor

/- The law holds: for every input it returns true, and each argument reads behind the call as it read before; the card ties the table of math/bits to the program's text. No condition. -/
namespace Go.Proofs.YtchpcjmgifnmdaaDoor
open Go Go.Proofs.YtchpcjmgifnmdaaDoor.Ab Go.ChangeShapes Go.WideShapes Go.ChangeAt Go.RowKit
set_option maxRecDepth 100000

def wArgs3 : Array Value := #[.agg #[.int .i64 0, .int .i64 0, .int .i64 0, .int .i64 0, .slice none 0 0], .agg #[.int .i64 0, .int .i64 0, .int .i64 0, .int .i64 0, .slice none 0 0]]
theorem laid_met3 (os : Os) : laidMet Tryd.prog Rows.conformDecidesRow.laid ((laidWorld os).forCall (fun _ _ => 0) ⟨#[], wArgs3, []⟩).memory :=
  laidMet_of_run' 66 (by kernel_rfl) (by kernel_rfl)
theorem reads3 (os : Os) {H : Type} (enc : TypeId × Value → H) : ∃ places, DataW.whole enc Tryd.prog ((laidWorld os).forCall (fun _ _ => 0) ⟨#[], wArgs3, []⟩).memory Tryd.f3.params.toList Rows.conformDecidesSpec.vars false wArgs3.toList 8 = some ([.agg [.lit (.int .i64 0), .lit (.int .i64 0), .lit (.int .i64 0), .lit (.int .i64 0), .nil], .agg [.lit (.int .i64 0), .lit (.int .i64 0), .lit (.int .i64 0), .lit (.int .i64 0), .nil]], [], places) :=
  ⟨[], by kernel_rfl⟩
set_option maxHeartbeats 800000 in
theorem lift3 (os : Os) (started : os.Started) (H : Type) (enc : TypeId × Value → H) (F : Stop.Interp) :
    ReturnsInHanded {} Tryd.checked os 3 .any ((OpenSpec.ofChange Rows.conformDecidesSpec).preRow enc Tryd.prog Tryd.f3 Rows.conformDecidesRow.domain false Rows.conformDecidesRow.laid) (((OpenSpec.ofChange Rows.conformDecidesSpec).at F).post enc Tryd.prog Tryd.f3 false true false false) := by
  obtain ⟨places, hx⟩ := reads3 os enc
  refine returnsInHanded_of_row (C := Tryd.checked) (s := OpenSpec.ofChange Rows.conformDecidesSpec) own started (by kernel_rfl) Tryd.func3
    (witness_row_at (enc := enc) (C := Tryd.checked) false (laidWorld os) wArgs3 rfl (by kernel_rfl) (by kernel_rfl) (by kernel_rfl)
      (OpenSpec.preRow_of_cond 8 hx (by kernel_rfl) (fun k hk => by cases hk) (by kernel_rfl) (laid_met3 os))) ?_
  intro W base args ds gs before hval0 hW _ _ hsz hL _ _
  have hval : ∀ (j : Nat) t v, Tryd.f3.params[j]? = some t → args[j]? = some v → Value.okWide Tryd.prog W .any base t v := hval0
  have hW' := hW
  obtain ⟨p, q, hA0, hV, rfl, _, _⟩ := hW
  have hA : DataW.TrodAll enc Tryd.prog W 0 (fun _ => true) true Tryd.f3.params.toList args.toList ds p := hA0
  rw [Tryd.params3] at hA hval hsz
  obtain ⟨v0, v1, d0, d1, p0, p1, rfl, rfl, rfl, h0, h1⟩ := trodAll_two hA
  obtain ⟨rfl, rfl⟩ := trodVars_none hV
  obtain ⟨c0, -, hc0⟩ := arg_struct rdRe Tryd.underlying24 (hval 0 24 v0 rfl rfl) h0
  have r0 := re_room h0 hc0 (row_le hsz (j := 0) rfl rfl)
  obtain ⟨c1, -, hc1⟩ := arg_struct rdRe Tryd.underlying24 (hval 1 24 v1 rfl rfl) h1
  have r1 := re_room h1 hc1 (row_le hsz (j := 1) rfl rfl)
  clear hA0 hval0
  simp only [List.append_nil] at hW'
  have hlt : ∀ x ∈ p0 ++ p1, x.block < W.heap.size := fun x hx => by simpa using hW'.lt x (by first | exact hx | simpa using hx)
  refine ((law3 c0 c1 r0 r1).true (xs := #[v0, v1]) (W := W) ⟨rfl, fun j hj => ?_⟩ (laid_cells hL)).mono fun e W' ⟨he, hb⟩ => ?_
  · match j, hj with
    | 0, _ => exact hc0
    | 1, _ => exact hc1
  subst he
  have harg0 : DataW.Trod enc Tryd.prog W' 0 (fun b => decide (b < W.heap.size)) true 24 v0 d0 p0 :=
    Below.trod laidOut (by kernel_rfl) (of_decide_eq_true (by kernel_rfl)) h0 hb (fun x hx => hlt x (List.mem_append.2 (.inl hx)))
  have harg1 : DataW.Trod enc Tryd.prog W' 0 (fun b => decide (b < W.heap.size)) true 24 v1 d1 p1 :=
    Below.trod laidOut (by kernel_rfl) (of_decide_eq_true (by kernel_rfl)) h1 hb (fun x hx => hlt x (List.mem_append.2 (.inr hx)))
  refine ⟨_, rfl, _, _, _, [], _, [], hW', ?_, trodAll_mk2 harg0 harg1, rfl, hb.frame _, fun h => by cases h⟩
  exact trodAll_mk1 (shut_bool Tryd.underlying4 _)
theorem conformDecidesSaid : Rows.ConformDecidesSaid :=
  OpenClaim.holds_of_cond 3 Tryd.f3 rfl rfl rfl rfl rfl rfl rfl ⟨rfl, rfl, rfl, rfl, rfl⟩ rfl rfl rfl rfl rfl (by kernel_rfl) Tryd.func3 (by kernel_rfl)
    (of_decide_eq_true (by kernel_rfl)) (by unfold Func.isWrapper; first | (rw [if_pos (by decide +kernel)]; kernel_rfl) | (rw [if_neg (by decide +kernel)]; exact ⟨rfl, rfl⟩))
    (fun os started H enc _ F => by rw [OpenClaim.pre_eq_preRow]; exact lift3 os started H enc F)
theorem plain3 (f : FuncId) (fn : Func) (hf : Tryd.pinned.checked.prog.funcNamed "examiner/examinerlaw42.ConformDecides" = some f) (hfn : Tryd.pinned.checked.prog.funcs[f]? = some fn) :
    false = Tryd.pinned.checked.prog.looks [] ∧ ∀ (j : Nat) t, fn.params[j]? = some t → Tryd.pinned.checked.prog.wantsStandIn t = false := by
  obtain rfl : f = 3 := Option.some.inj ((show Tryd.prog.funcNamed "examiner/examinerlaw42.ConformDecides" = some 3 by kernel_rfl).symm.trans hf) |>.symm
  obtain rfl : fn = Tryd.f3 := (Option.some.inj (Tryd.func3.symm.trans hfn)).symm
  refine ⟨by kernel_rfl, fun j t ht => ?_⟩
  rw [Tryd.params3] at ht
  have hm := Array.mem_of_getElem? ht
  simp only [List.mem_toArray, List.mem_cons, List.not_mem_nil, or_false] at hm
  rcases hm with rfl | rfl
  · exact (show Tryd.prog.wantsStandIn 24 = false by kernel_rfl)
  · exact (show Tryd.prog.wantsStandIn 24 = false by kernel_rfl)
theorem conformDecides : Rows.ConformDecidesCardSaid :=
  Claim7.holds_tied_plain_at .later [] _ _ _ _ conformDecidesSaid (fun _ h => by cases h) (by kernel_rfl) (fun _ h => by cases h) conformDecides_row_tie rfl ⟨rfl, rfl⟩ (by kernel_rfl) rfl plain3 (by kernel_rfl)
end Go.Proofs.YtchpcjmgifnmdaaDoor

/- Part 4 of a proof: hostsCases holds for every input; no condition. -/
import Derived.Test.YtgmncggiblaciaaProg
import Derived.KernelRfl
import Derived.Test.YtgmncggiblaciaaRows
import Derived.ProofKit
import Derived.Test.YtgmncggiblaciaaAb0
import Derived.Test.YtgmncggiblaciaaAb1
import Derived.Test.YtgmncggiblaciaaAb2
import Derived.Test.YtgmncggiblaciaaAb3
import Derived.Test.YtgmncggiblaciaaAb4
import Derived.Test.YtgmncggiblaciaaAb5
import Derived.Test.YtgmncggiblaciaaAb6
import Derived.Test.YtgmncggiblaciaaAb7
import Derived.Test.YtgmncggiblaciaaAb8
import Derived.Test.YtgmncggiblaciaaAb8a
import Derived.Test.YtgmncggiblaciaaAb8b
import Derived.Test.YtgmncggiblaciaaAb8c
import Derived.Test.YtgmncggiblaciaaAb8d
import Derived.Test.YtgmncggiblaciaaAb9
import Derived.Test.YtgmncggiblaciaaAb10
import Derived.Test.YtgmncggiblaciaaAb11
import Derived.Test.YtgmncggiblaciaaAb12
import Derived.Test.YtgmncggiblaciaaAb13
import Derived.Test.YtgmncggiblaciaaAb14
import Derived.Test.YtgmncggiblaciaaAb15
import Derived.Test.YtgmncggiblaciaaAb16
import Derived.Test.YtgmncggiblaciaaAb17
import Derived.Test.YtgmncggiblaciaaAb18
import Derived.Test.YtgmncggiblaciaaAb19
import Derived.Test.YtgmncggiblaciaaAb20
import Derived.Test.YtgmncggiblaciaaAb21
import Derived.Test.YtgmncggiblaciaaQf3
set_option linter.unusedSimpArgs false
set_option linter.unusedVariables false
/- Walks: a schedule to a verdict. -/
namespace Go.Proofs.Ytgmncggiblaciaa
open Go Go.Proofs.Ytgmncggiblaciaa.Ab
set_option maxRecDepth 100000

/-- what a schedule to a verdict is -/
def SchedR (c : Case) (v : Int) (out : AV) : Prop :=
  if (checkCase c).2 ≠ 0 then out = .tup [acsV [], .v (.int .i64 (checkCase c).2)] else
  if isVerdict v = false then out = .tup [acsV [], .v (.int .i64 3)] else
  if (v == 4 || v == worstI c.verd) = false then out = .tup [acsV [], .v (.int .i64 23)] else
  ∃ l s, out = .tup [acsV l, .v (.int .i64 0)] ∧ l.length ≤ 60 ∧ Reach c l s ∧ overS s = true ∧ s.v = v
theorem fin_r {H : AH} {a : AV} {l : List Ac} {y : Value} {R : AV → Prop} (hG : GrowE acR 2 H a l) (hr : R (.tup [acsV l, .v y])) : ∃ v v', AOut.ret (.tup [a, .v y]) = .ret v ∧ View H v v' ∧ FZ v' ∧ R v' :=
  ⟨_, _, rfl, Views.tup (Views.cons (hG.view FZs.acR) (Views.cons (FZ.v _).view Views.nil)), FZ.tup (FZs.two (FZ.acsV l) (FZ.v _)), hr⟩

theorem Sched.net {B : Nat} {H : AH} {a b r : Nat} {c : Case} {l : List Ac} {s : Stt} (x : Sched B H a b r c l s) (hn : 0 < s.net.length) :
    ∃ n p h o, H.own r = some (.cells [.v (.int .i64 c.hosts), ints c.place, ints c.verd, .sl 4 p 0 s.placed.length, .v (.int .i64 s.v), .sl 2 h 0 (List.length (α := OH) o), .sl 4 n 0 s.net.length]) := by
  obtain ⟨p, h, aq, o, y⟩ := x.st
  obtain ⟨n, rest, rfl, e⟩ := y.st.q.own hn
  have hrb : r ≠ b := fun e => by have := y.rb; subst e; simp [AH.less] at this
  have := y.rb
  simp only [AH.less, beq_iff_eq, hrb, if_false] at this
  exact ⟨n, p, h, o, by rw [this]; rfl⟩

set_option maxHeartbeats 2000000 in
theorem schedule28 (c : Case) (v : Int) : FCall Try.prog 28 [caseV c, .v (.int .i64 v)] (SchedR c v) := by
  simp only [caseV]
  refine ACall.enter [53] Cd.fn28 (by simp) ?_
  simp only [Cd.cd28, Tk.t28, base0, base1, base2, base3, Option.isNone_none, Option.isNone_some, Nat.reduceBEq, true_or, or_true, false_or, or_false, Nat.reduceLT, Nat.reduceMod, Nat.reducePow, rmaps, nsucc, List.flatten_cons, List.flatten_nil, Nat.reduceEqDiff, Nat.reduceLeDiff, Nat.reduceAdd, Nat.reduceMul, Nat.reduceSub, ↓reduceIte, reduceCtorEq, decide_true, decide_false]
  refine (caseErr41 c).go (FZs.one (FZ.caseV c)) ?_
  by_cases hc : (checkCase c).2 = 0
  rotate_left
  · have hc' : ((checkCase c).2 != 0) = true := by simp [hc]
    simp only [hc', Cd.cd28, Tk.t28, base0, base1, base2, base3, Option.isNone_none, Option.isNone_some, Nat.reduceBEq, true_or, or_true, false_or, or_false, Nat.reduceLT, Nat.reduceMod, Nat.reducePow, rmaps, nsucc, List.flatten_cons, List.flatten_nil, Nat.reduceEqDiff, Nat.reduceLeDiff, Nat.reduceAdd, Nat.reduceMul, Nat.reduceSub, ↓reduceIte, reduceCtorEq, decide_true, decide_false]
    exact fin_r (l := []) GrowE.nil (by unfold SchedR; rw [if_pos hc])
  have hc' : ((checkCase c).2 != 0) = false := by simp [hc]
  have hk := checkCase_ok.mp hc
  have hp1 := hk.p1; have hp6 := hk.p6; have hvl := hk.vl
  simp only [hc', Cd.cd28, Tk.t28, base0, base1, base2, base3, Option.isNone_none, Option.isNone_some, Nat.reduceBEq, true_or, or_true, false_or, or_false, Nat.reduceLT, Nat.reduceMod, Nat.reducePow, rmaps, nsucc, List.flatten_cons, List.flatten_nil, Nat.reduceEqDiff, Nat.reduceLeDiff, Nat.reduceAdd, Nat.reduceMul, Nat.reduceSub, ↓reduceIte, reduceCtorEq, decide_true, decide_false]
  refine (isVerdict51 v).go (FZs.v1 _) ?_
  cases hv : isVerdict v
  · simp only [hv, Cd.cd28, Tk.t28, base0, base1, base2, base3, Option.isNone_none, Option.isNone_some, Nat.reduceBEq, true_or, or_true, false_or, or_false, Nat.reduceLT, Nat.reduceMod, Nat.reducePow, rmaps, nsucc, List.flatten_cons, List.flatten_nil, Nat.reduceEqDiff, Nat.reduceLeDiff, Nat.reduceAdd, Nat.reduceMul, Nat.reduceSub, ↓reduceIte, reduceCtorEq, decide_true, decide_false]
    exact fin_r (l := []) GrowE.nil (by unfold SchedR; rw [if_neg (by simp [hc]), if_pos hv])
  simp only [hv, Cd.cd28, Tk.t28, base0, base1, base2, base3, Option.isNone_none, Option.isNone_some, Nat.reduceBEq, true_or, or_true, false_or, or_false, Nat.reduceLT, Nat.reduceMod, Nat.reducePow, rmaps, nsucc, List.flatten_cons, List.flatten_nil, Nat.reduceEqDiff, Nat.reduceLeDiff, Nat.reduceAdd, Nat.reduceMul, Nat.reduceSub, ↓reduceIte, reduceCtorEq, decide_true, decide_false]
  refine (max52 c.verd (by omega) (by omega) fun x hx => ?_).go (FZs.one (FZ.ints _)) ?_
  · obtain ⟨i, hi, rfl⟩ := List.getElem_of_mem hx
    have := (hk.pl i (by omega)).2.2.1
    rw [List.getD_eq_getElem?_getD, List.getElem?_eq_getElem hi] at this; exact this
  by_cases h4 : v = 4 ∧ worstI c.verd ≠ v
  · have g1 : (v == 4) = true := by simp [h4.1]
    have g2 : (worstI c.verd != v) = true := by simpa using h4.2
    simp only [g1, g2, ints, List.length_map, Cd.cd28, Tk.t28, base0, base1, base2, base3, Option.isNone_none, Option.isNone_some, Nat.reduceBEq, true_or, or_true, false_or, or_false, Nat.reduceLT, Nat.reduceMod, Nat.reducePow, rmaps, nsucc, List.flatten_cons, List.flatten_nil, Nat.reduceEqDiff, Nat.reduceLeDiff, Nat.reduceAdd, Nat.reduceMul, Nat.reduceSub, ↓reduceIte, reduceCtorEq, decide_true, decide_false]
    refine LWP.loop [] (fun m f H' => ∃ i, m = c.place.length - i ∧ (i ≤ c.place.length) ∧ f.t 36 = .v (.int .i64 (i : Nat)) ∧ f.t 35 = .v (.int .i64 (c.place.length : Nat)) ∧ f.t 7 = .ptr AH.none.next 0 ∧ f.ds = [] ∧ ∃ va s, H'.own AH.none.next = some (.cells [va]) ∧ GrowE acR 2 H' va ((List.range i).map fun j : Nat => (⟨7, j⟩ : Ac)) ∧ Reach c ((List.range i).map fun j : Nat => (⟨7, j⟩ : Ac)) s ∧ GivenTo c s i ∧ s.v ≤ 4 ∧ (0 < i → s.v = 4)) ?_ ?_ (m := c.place.length - (0))
    · exact ⟨0, rfl, (by omega), rfl, rfl, rfl, rfl, ⟨_, startS c, rfl, GrowE.nil, Reach.nil, givenTo_start, by simp [startS], fun h => by omega⟩⟩
    · rintro m f H' ⟨i, rfl, hi, f36, f35, f7, hds, ⟨va,s,hva,hG,hr,hg,hvv,hv0⟩⟩
      by_cases hlt : i < c.place.length
      · have hV := hr.valid hk
        obtain ⟨q1, q2⟩ := giveUp_step hV hlt hg
        have hr' := hr.snoc q1
        have hmap : ((List.range (i + 1)).map fun j : Nat => (⟨7, j⟩ : Ac)) = ((List.range i).map fun j : Nat => (⟨7, j⟩ : Ac)) ++ [⟨7, (i : Int)⟩] := by rw [List.range_succ, List.map_append]; rfl
        have hvn : (actS c s ⟨7, i⟩).v ≤ 4 ∧ (actS c s ⟨7, i⟩).v = 4 := by
          rw [act7 rfl]; simp only [takeS]; split <;> omega
        generalize hL : ((List.range i).map fun j : Nat => (⟨7, j⟩ : Ac)) = L at hG hr hr' hmap
        have hLl : L.length = i := by rw [← hL]; simp
        rcases hG with ⟨rfl, rfl⟩ | ⟨t, rfl, ht⟩
        · simp only [ltT hlt, hva, show roomA 16 1 = true from rfl, f36, f35, f7, hds, Cd.cd28, Tk.t28, base0, base1, base2, base3, Option.isNone_none, Option.isNone_some, Nat.reduceBEq, true_or, or_true, false_or, or_false, Nat.reduceLT, Nat.reduceMod, Nat.reducePow, rmaps, nsucc, List.flatten_cons, List.flatten_nil, Nat.reduceEqDiff, Nat.reduceLeDiff, Nat.reduceAdd, Nat.reduceMul, Nat.reduceSub, ↓reduceIte, reduceCtorEq, decide_true, decide_false]
          refine ⟨_, by omega, i + 1, rfl, by omega, ?_⟩
          (repeat' apply And.intro) <;> first | rfl | (rw [wrapS (by omega)]) | omega | assumption | (exact ⟨.lst 2 [[.v (.int .i64 7), .v (.int .i64 (i : Nat))]] (.live H'.next), _, by simp, by rw [hmap]; exact GrowE.live (by simp [acR]) (by simp), by rw [hmap]; exact hr', q2, hvn.1, fun _ => hvn.2⟩)
        · simp only [ltT hlt, hva, ht, List.length_map, room1 (b := 16) (n := L.length) (by omega) (by omega), f36, f35, f7, hds, Cd.cd28, Tk.t28, base0, base1, base2, base3, Option.isNone_none, Option.isNone_some, Nat.reduceBEq, true_or, or_true, false_or, or_false, Nat.reduceLT, Nat.reduceMod, Nat.reducePow, rmaps, nsucc, List.flatten_cons, List.flatten_nil, Nat.reduceEqDiff, Nat.reduceLeDiff, Nat.reduceAdd, Nat.reduceMul, Nat.reduceSub, ↓reduceIte, reduceCtorEq, decide_true, decide_false]
          refine ⟨_, by omega, i + 1, rfl, by omega, ?_⟩
          (repeat' apply And.intro) <;> first | rfl | (rw [wrapS (by omega)]) | omega | assumption | (exact ⟨.lst 2 (L.map acR ++ [[.v (.int .i64 7), .v (.int .i64 (i : Nat))]]) (.live t), _, by simp, by rw [hmap]; exact GrowE.live (by simp [acR]) (by simp), by rw [hmap]; exact hr', q2, hvn.1, fun _ => hvn.2⟩)
      · have hi' : i = c.place.length := by omega
        subst hi'
        simp only [ltF hlt, hva, f36, f35, f7, hds, Cd.cd28, Tk.t28, base0, base1, base2, base3, Option.isNone_none, Option.isNone_some, Nat.reduceBEq, true_or, or_true, false_or, or_false, Nat.reduceLT, Nat.reduceMod, Nat.reducePow, rmaps, nsucc, List.flatten_cons, List.flatten_nil, Nat.reduceEqDiff, Nat.reduceLeDiff, Nat.reduceAdd, Nat.reduceMul, Nat.reduceSub, ↓reduceIte, reduceCtorEq, decide_true, decide_false]
        refine fin_r hG ?_
        unfold SchedR
        rw [if_neg (by simp [hc]), if_neg (by simp [hv]), if_neg (by simp [h4.1])]
        exact ⟨_, s, rfl, by simp; omega, hr, given_over (hr.valid hk) hg, by rw [hv0 (by omega), h4.1]⟩
  · have g0 : (v == 4) = false ∨ ((v == 4) = true ∧ (worstI c.verd != v) = false) := by
      by_cases e : v = 4
      · exact .inr ⟨by simp [e], by
          have : worstI c.verd = v := Classical.byContradiction fun h => h4 ⟨e, h⟩
          simp [this]⟩
      · exact .inl (by simp [e])
    by_cases h5 : v = worstI c.verd
    rotate_left
    · have e : v ≠ 4 := fun e => h4 ⟨e, fun h => h5 h.symm⟩
      have g1 : (v == 4) = false := by simp [e]
      have g2 : (v != worstI c.verd) = true := by simpa using h5
      simp only [g1, g2, Cd.cd28, Tk.t28, base0, base1, base2, base3, Option.isNone_none, Option.isNone_some, Nat.reduceBEq, true_or, or_true, false_or, or_false, Nat.reduceLT, Nat.reduceMod, Nat.reducePow, rmaps, nsucc, List.flatten_cons, List.flatten_nil, Nat.reduceEqDiff, Nat.reduceLeDiff, Nat.reduceAdd, Nat.reduceMul, Nat.reduceSub, ↓reduceIte, reduceCtorEq, decide_true, decide_false]
      exact fin_r (l := []) GrowE.nil (by unfold SchedR; rw [if_neg (by simp [hc]), if_neg (by simp [hv]), if_pos (by simp [e, h5])])
    · have g2 : (v != worstI c.verd) = false := by simpa using h5
      rcases g0 with g0 | ⟨g0, g1⟩
      · simp only [g0, g2, Cd.cd28, Tk.t28, base0, base1, base2, base3, Option.isNone_none, Option.isNone_some, Nat.reduceBEq, true_or, or_true, false_or, or_false, Nat.reduceLT, Nat.reduceMod, Nat.reducePow, rmaps, nsucc, List.flatten_cons, List.flatten_nil, Nat.reduceEqDiff, Nat.reduceLeDiff, Nat.reduceAdd, Nat.reduceMul, Nat.reduceSub, ↓reduceIte, reduceCtorEq, decide_true, decide_false]
        refine DoneV.go' (start42 c hk _) fun cs H1 hF hO => ?_
        obtain ⟨p, h, aq, o, rfl, x0, hnm⟩ := hO
        obtain ⟨t1, n1, k1⟩ := hF
        simp only at t1 n1 k1 hnm
        have hone := one_aq x0.q
        have hcel := cells_aq x0.q
        have k0 := k1 AH.none.next (by omega)
        simp at k0
        simp only [stO]
        obtain ⟨r, hr⟩ : ∃ r, r = H1.next := ⟨_, rfl⟩
        simp only [hone, hcel, ints, List.length_map, Cd.cd28, Tk.t28, base0, base1, base2, base3, Option.isNone_none, Option.isNone_some, Nat.reduceBEq, true_or, or_true, false_or, or_false, Nat.reduceLT, Nat.reduceMod, Nat.reducePow, rmaps, nsucc, List.flatten_cons, List.flatten_nil, Nat.reduceEqDiff, Nat.reduceLeDiff, Nat.reduceAdd, Nat.reduceMul, Nat.reduceSub, ↓reduceIte, reduceCtorEq, decide_true, decide_false]
        refine LWP.loop [53] (fun m f H' => ∃ i, m = c.place.length - i ∧ (i ≤ c.place.length) ∧ f.t 58 = .v (.int .i64 (i : Nat)) ∧ f.t 57 = .v (.int .i64 (c.place.length : Nat)) ∧ f.t 11 = .fn (.func 53) [] [.ptr AH.none.next 0, .ptr (AH.none.next + 1) 0] ∧ f.t 10 = .ptr (AH.none.next + 1) 0 ∧ f.t 7 = .ptr AH.none.next 0 ∧ f.ds = [] ∧ ∃ l s, Sched (AH.none.next + 2) H' AH.none.next (AH.none.next + 1) r c l s ∧ Reach c l s ∧ Seq1 c s i ∧ l.length = 4 * i) ?_ ?_ (m := c.place.length - (0))
        · exact ⟨0, rfl, (by omega), rfl, rfl, rfl, rfl, rfl, rfl, by refine ⟨[], startS c, ⟨⟨_, ?_, GrowE.nil⟩, ?_, ⟨p, h, aq, o, ?_, x0.frame fun m hm => ?_, fun m hm => ?_, ?_, ?_⟩, ?_, ?_, ?_⟩, Reach.nil, seq1_start, rfl⟩ <;> first   | (simp [show AH.none.next ≠ H1.next by omega, k0]; done)   | (simp [hr]; done)   | (simp [AH.less, hr, runL, caseL, stO, ints, show H1.next ≠ AH.none.next + 1 by omega]; done)   | (have := hnm m hm; simp [AH.less, show m ≠ H1.next by omega, show m ≠ AH.none.next + 1 by omega]; done)   | (have := hnm m hm; simp [AH.less]; omega)   | omega   | (simp [AH.less]; omega)   | trace_state⟩
        · rintro m f H' ⟨i, rfl, hi, f58, f57, f11, f10, f7, hds, ⟨l,s,hS,hrc,hq,hll⟩⟩
          by_cases hlt : i < c.place.length
          · have hV := hrc.valid hk
            have hnl := hq.nl
            obtain ⟨a1, b1⟩ := step_ask hV hlt hq
            obtain ⟨a2, b2⟩ := step_create hV hlt hq
            obtain ⟨a3, b3⟩ := step_end hV hlt hq
            obtain ⟨a4, b4⟩ := step_taken hV hlt hq
            have r1 := hrc.snoc a1
            rw [b1] at r1
            have r2 := r1.snoc a2
            rw [b2] at r2
            have r3 := r2.snoc a3
            rw [b3] at r3
            have r4 := r3.snoc a4
            rw [b4] at r4
            simp only [ltT hlt, f58, f57, f11, f10, f7, hds, Cd.cd28, Tk.t28, base0, base1, base2, base3, Option.isNone_none, Option.isNone_some, Nat.reduceBEq, true_or, or_true, false_or, or_false, Nat.reduceLT, Nat.reduceMod, Nat.reducePow, rmaps, nsucc, List.flatten_cons, List.flatten_nil, Nat.reduceEqDiff, Nat.reduceLeDiff, Nat.reduceAdd, Nat.reduceMul, Nat.reduceSub, ↓reduceIte, reduceCtorEq, decide_true, decide_false]
            refine RetR.go (step53 hS hV (by omega) 0 i a1) fun H2 hS1 => ?_
            obtain ⟨_, _, hS1⟩ := hS1
            rw [b1] at hS1
            obtain ⟨n, p, h, o, e1⟩ := hS1.net (by simp [s1])
            have w1 : IntKind.i64.wrap (((s1 c s i).net.length : Nat) - 1) = (s.net.length : Nat) := by rw [wrapI (by simp [s1] <;> omega) (by simp [s1] <;> omega)]; simp [s1]
            simp only [hS1.vb, e1, w1, f58, f57, f11, f10, f7, hds, Cd.cd28, Tk.t28, base0, base1, base2, base3, Option.isNone_none, Option.isNone_some, Nat.reduceBEq, true_or, or_true, false_or, or_false, Nat.reduceLT, Nat.reduceMod, Nat.reducePow, rmaps, nsucc, List.flatten_cons, List.flatten_nil, Nat.reduceEqDiff, Nat.reduceLeDiff, Nat.reduceAdd, Nat.reduceMul, Nat.reduceSub, ↓reduceIte, reduceCtorEq, decide_true, decide_false]
            refine RetR.go (step53 hS1 (r1.valid hk) (by simp; omega) 1 (s.net.length : Nat) a2) fun H3 hS2 => ?_
            obtain ⟨_, _, hS2⟩ := hS2
            rw [b2] at hS2
            simp only [f58, f57, f11, f10, f7, hds, Cd.cd28, Tk.t28, base0, base1, base2, base3, Option.isNone_none, Option.isNone_some, Nat.reduceBEq, true_or, or_true, false_or, or_false, Nat.reduceLT, Nat.reduceMod, Nat.reducePow, rmaps, nsucc, List.flatten_cons, List.flatten_nil, Nat.reduceEqDiff, Nat.reduceLeDiff, Nat.reduceAdd, Nat.reduceMul, Nat.reduceSub, ↓reduceIte, reduceCtorEq, decide_true, decide_false]
            refine RetR.go (step53 hS2 (r2.valid hk) (by simp; omega) 4 i a3) fun H4 hS3 => ?_
            obtain ⟨_, _, hS3⟩ := hS3
            rw [b3] at hS3
            obtain ⟨n', p', h', o', e3⟩ := hS3.net (by simp [s3])
            have w3 : IntKind.i64.wrap (((s3 c s i).net.length : Nat) - 1) = (s.net.length : Nat) + 1 := by rw [wrapI (by simp [s3] <;> omega) (by simp [s3] <;> omega)]; simp [s3] <;> omega
            simp only [hS3.vb, e3, w3, f58, f57, f11, f10, f7, hds, Cd.cd28, Tk.t28, base0, base1, base2, base3, Option.isNone_none, Option.isNone_some, Nat.reduceBEq, true_or, or_true, false_or, or_false, Nat.reduceLT, Nat.reduceMod, Nat.reducePow, rmaps, nsucc, List.flatten_cons, List.flatten_nil, Nat.reduceEqDiff, Nat.reduceLeDiff, Nat.reduceAdd, Nat.reduceMul, Nat.reduceSub, ↓reduceIte, reduceCtorEq, decide_true, decide_false]
            refine RetR.go (step53 hS3 (r3.valid hk) (by simp; omega) 1 ((s.net.length : Nat) + 1) a4) fun H5 hS4 => ?_
            obtain ⟨_, _, hS4⟩ := hS4
            rw [b4] at hS4
            simp only [f58, f57, f11, f10, f7, hds, Cd.cd28, Tk.t28, base0, base1, base2, base3, Option.isNone_none, Option.isNone_some, Nat.reduceBEq, true_or, or_true, false_or, or_false, Nat.reduceLT, Nat.reduceMod, Nat.reducePow, rmaps, nsucc, List.flatten_cons, List.flatten_nil, Nat.reduceEqDiff, Nat.reduceLeDiff, Nat.reduceAdd, Nat.reduceMul, Nat.reduceSub, ↓reduceIte, reduceCtorEq, decide_true, decide_false]
            refine ⟨_, by omega, i + 1, rfl, by omega, ?_⟩
            (repeat' apply And.intro) <;> first | rfl | (rw [wrapS (by omega)]) | omega | assumption | (exact ⟨_, _, hS4, r4, seq1_step hV hlt hq, by simp; omega⟩)
          · have hi' : i = c.place.length := by omega
            subst hi'
            obtain ⟨va, e1, e2⟩ := hS.va
            simp only [ltF hlt, e1, f58, f57, f11, f10, f7, hds, Cd.cd28, Tk.t28, base0, base1, base2, base3, Option.isNone_none, Option.isNone_some, Nat.reduceBEq, true_or, or_true, false_or, or_false, Nat.reduceLT, Nat.reduceMod, Nat.reducePow, rmaps, nsucc, List.flatten_cons, List.flatten_nil, Nat.reduceEqDiff, Nat.reduceLeDiff, Nat.reduceAdd, Nat.reduceMul, Nat.reduceSub, ↓reduceIte, reduceCtorEq, decide_true, decide_false]
            refine fin_r e2 ?_
            unfold SchedR
            obtain ⟨o1, o2⟩ := seq1_over (hrc.valid hk) hq
            rw [if_neg (by simp [hc]), if_neg (by simp [hv]), if_neg (by simp [h5])]
            exact ⟨l, s, rfl, by omega, hrc, o1, by rw [o2, h5]⟩
      · simp only [g0, g1, g2, Cd.cd28, Tk.t28, base0, base1, base2, base3, Option.isNone_none, Option.isNone_some, Nat.reduceBEq, true_or, or_true, false_or, or_false, Nat.reduceLT, Nat.reduceMod, Nat.reducePow, rmaps, nsucc, List.flatten_cons, List.flatten_nil, Nat.reduceEqDiff, Nat.reduceLeDiff, Nat.reduceAdd, Nat.reduceMul, Nat.reduceSub, ↓reduceIte, reduceCtorEq, decide_true, decide_false]
        refine DoneV.go' (start42 c hk _) fun cs H1 hF hO => ?_
        obtain ⟨p, h, aq, o, rfl, x0, hnm⟩ := hO
        obtain ⟨t1, n1, k1⟩ := hF
        simp only at t1 n1 k1 hnm
        have hone := one_aq x0.q
        have hcel := cells_aq x0.q
        have k0 := k1 AH.none.next (by omega)
        simp at k0
        simp only [stO]
        obtain ⟨r, hr⟩ : ∃ r, r = H1.next := ⟨_, rfl⟩
        simp only [hone, hcel, ints, List.length_map, Cd.cd28, Tk.t28, base0, base1, base2, base3, Option.isNone_none, Option.isNone_some, Nat.reduceBEq, true_or, or_true, false_or, or_false, Nat.reduceLT, Nat.reduceMod, Nat.reducePow, rmaps, nsucc, List.flatten_cons, List.flatten_nil, Nat.reduceEqDiff, Nat.reduceLeDiff, Nat.reduceAdd, Nat.reduceMul, Nat.reduceSub, ↓reduceIte, reduceCtorEq, decide_true, decide_false]
        refine LWP.loop [53] (fun m f H' => ∃ i, m = c.place.length - i ∧ (i ≤ c.place.length) ∧ f.t 58 = .v (.int .i64 (i : Nat)) ∧ f.t 57 = .v (.int .i64 (c.place.length : Nat)) ∧ f.t 11 = .fn (.func 53) [] [.ptr AH.none.next 0, .ptr (AH.none.next + 1) 0] ∧ f.t 10 = .ptr (AH.none.next + 1) 0 ∧ f.t 7 = .ptr AH.none.next 0 ∧ f.ds = [] ∧ ∃ l s, Sched (AH.none.next + 2) H' AH.none.next (AH.none.next + 1) r c l s ∧ Reach c l s ∧ Seq1 c s i ∧ l.length = 4 * i) ?_ ?_ (m := c.place.length - (0))
        · exact ⟨0, rfl, (by omega), rfl, rfl, rfl, rfl, rfl, rfl, by refine ⟨[], startS c, ⟨⟨_, ?_, GrowE.nil⟩, ?_, ⟨p, h, aq, o, ?_, x0.frame fun m hm => ?_, fun m hm => ?_, ?_, ?_⟩, ?_, ?_, ?_⟩, Reach.nil, seq1_start, rfl⟩ <;> first   | (simp [show AH.none.next ≠ H1.next by omega, k0]; done)   | (simp [hr]; done)   | (simp [AH.less, hr, runL, caseL, stO, ints, show H1.next ≠ AH.none.next + 1 by omega]; done)   | (have := hnm m hm; simp [AH.less, show m ≠ H1.next by omega, show m ≠ AH.none.next + 1 by omega]; done)   | (have := hnm m hm; simp [AH.less]; omega)   | omega   | (simp [AH.less]; omega)   | trace_state⟩
        · rintro m f H' ⟨i, rfl, hi, f58, f57, f11, f10, f7, hds, ⟨l,s,hS,hrc,hq,hll⟩⟩
          by_cases hlt : i < c.place.length
          · have hV := hrc.valid hk
            have hnl := hq.nl
            obtain ⟨a1, b1⟩ := step_ask hV hlt hq
            obtain ⟨a2, b2⟩ := step_create hV hlt hq
            obtain ⟨a3, b3⟩ := step_end hV hlt hq
            obtain ⟨a4, b4⟩ := step_taken hV hlt hq
            have r1 := hrc.snoc a1
            rw [b1] at r1
            have r2 := r1.snoc a2
            rw [b2] at r2
            have r3 := r2.snoc a3
            rw [b3] at r3
            have r4 := r3.snoc a4
            rw [b4] at r4
            simp only [ltT hlt, f58, f57, f11, f10, f7, hds, Cd.cd28, Tk.t28, base0, base1, base2, base3, Option.isNone_none, Option.isNone_some, Nat.reduceBEq, true_or, or_true, false_or, or_false, Nat.reduceLT, Nat.reduceMod, Nat.reducePow, rmaps, nsucc, List.flatten_cons, List.flatten_nil, Nat.reduceEqDiff, Nat.reduceLeDiff, Nat.reduceAdd, Nat.reduceMul, Nat.reduceSub, ↓reduceIte, reduceCtorEq, decide_true, decide_false]
            refine RetR.go (step53 hS hV (by omega) 0 i a1) fun H2 hS1 => ?_
            obtain ⟨_, _, hS1⟩ := hS1
            rw [b1] at hS1
            obtain ⟨n, p, h, o, e1⟩ := hS1.net (by simp [s1])
            have w1 : IntKind.i64.wrap (((s1 c s i).net.length : Nat) - 1) = (s.net.length : Nat) := by rw [wrapI (by simp [s1] <;> omega) (by simp [s1] <;> omega)]; simp [s1]
            simp only [hS1.vb, e1, w1, f58, f57, f11, f10, f7, hds, Cd.cd28, Tk.t28, base0, base1, base2, base3, Option.isNone_none, Option.isNone_some, Nat.reduceBEq, true_or, or_true, false_or, or_false, Nat.reduceLT, Nat.reduceMod, Nat.reducePow, rmaps, nsucc, List.flatten_cons, List.flatten_nil, Nat.reduceEqDiff, Nat.reduceLeDiff, Nat.reduceAdd, Nat.reduceMul, Nat.reduceSub, ↓reduceIte, reduceCtorEq, decide_true, decide_false]
            refine RetR.go (step53 hS1 (r1.valid hk) (by simp; omega) 1 (s.net.length : Nat) a2) fun H3 hS2 => ?_
            obtain ⟨_, _, hS2⟩ := hS2
            rw [b2] at hS2
            simp only [f58, f57, f11, f10, f7, hds, Cd.cd28, Tk.t28, base0, base1, base2, base3, Option.isNone_none, Option.isNone_some, Nat.reduceBEq, true_or, or_true, false_or, or_false, Nat.reduceLT, Nat.reduceMod, Nat.reducePow, rmaps, nsucc, List.flatten_cons, List.flatten_nil, Nat.reduceEqDiff, Nat.reduceLeDiff, Nat.reduceAdd, Nat.reduceMul, Nat.reduceSub, ↓reduceIte, reduceCtorEq, decide_true, decide_false]
            refine RetR.go (step53 hS2 (r2.valid hk) (by simp; omega) 4 i a3) fun H4 hS3 => ?_
            obtain ⟨_, _, hS3⟩ := hS3
            rw [b3] at hS3
            obtain ⟨n', p', h', o', e3⟩ := hS3.net (by simp [s3])
            have w3 : IntKind.i64.wrap (((s3 c s i).net.length : Nat) - 1) = (s.net.length : Nat) + 1 := by rw [wrapI (by simp [s3] <;> omega) (by simp [s3] <;> omega)]; simp [s3] <;> omega
            simp only [hS3.vb, e3, w3, f58, f57, f11, f10, f7, hds, Cd.cd28, Tk.t28, base0, base1, base2, base3, Option.isNone_none, Option.isNone_some, Nat.reduceBEq, true_or, or_true, false_or, or_false, Nat.reduceLT, Nat.reduceMod, Nat.reducePow, rmaps, nsucc, List.flatten_cons, List.flatten_nil, Nat.reduceEqDiff, Nat.reduceLeDiff, Nat.reduceAdd, Nat.reduceMul, Nat.reduceSub, ↓reduceIte, reduceCtorEq, decide_true, decide_false]
            refine RetR.go (step53 hS3 (r3.valid hk) (by simp; omega) 1 ((s.net.length : Nat) + 1) a4) fun H5 hS4 => ?_
            obtain ⟨_, _, hS4⟩ := hS4
            rw [b4] at hS4
            simp only [f58, f57, f11, f10, f7, hds, Cd.cd28, Tk.t28, base0, base1, base2, base3, Option.isNone_none, Option.isNone_some, Nat.reduceBEq, true_or, or_true, false_or, or_false, Nat.reduceLT, Nat.reduceMod, Nat.reducePow, rmaps, nsucc, List.flatten_cons, List.flatten_nil, Nat.reduceEqDiff, Nat.reduceLeDiff, Nat.reduceAdd, Nat.reduceMul, Nat.reduceSub, ↓reduceIte, reduceCtorEq, decide_true, decide_false]
            refine ⟨_, by omega, i + 1, rfl, by omega, ?_⟩
            (repeat' apply And.intro) <;> first | rfl | (rw [wrapS (by omega)]) | omega | assumption | (exact ⟨_, _, hS4, r4, seq1_step hV hlt hq, by simp; omega⟩)
          · have hi' : i = c.place.length := by omega
            subst hi'
            obtain ⟨va, e1, e2⟩ := hS.va
            simp only [ltF hlt, e1, f58, f57, f11, f10, f7, hds, Cd.cd28, Tk.t28, base0, base1, base2, base3, Option.isNone_none, Option.isNone_some, Nat.reduceBEq, true_or, or_true, false_or, or_false, Nat.reduceLT, Nat.reduceMod, Nat.reducePow, rmaps, nsucc, List.flatten_cons, List.flatten_nil, Nat.reduceEqDiff, Nat.reduceLeDiff, Nat.reduceAdd, Nat.reduceMul, Nat.reduceSub, ↓reduceIte, reduceCtorEq, decide_true, decide_false]
            refine fin_r e2 ?_
            unfold SchedR
            obtain ⟨o1, o2⟩ := seq1_over (hrc.valid hk) hq
            rw [if_neg (by simp [hc]), if_neg (by simp [hv]), if_neg (by simp [h5])]
            exact ⟨l, s, rfl, by omega, hrc, o1, by rw [o2, h5]⟩
end Go.Proofs.Ytgmncggiblaciaa

/- Walks: the tests that hold the laws awake. -/
namespace Go.Proofs.Ytgmncggiblaciaa
open Go Go.Proofs.Ytgmncggiblaciaa.Ab
set_option maxRecDepth 100000

theorem VR.untip {g : G} {k : Nat} {rows : List (List AV)} {tip : Tip} {x : Value} (h : VR g (.lst k rows tip) x) : VR g (.lst k rows .unk) x := by
  cases h with
  | lst q1 q2 q3 q4 q5 q6 q7 q8 => exact .lst q1 q2 q3 q4 q5 q6 q7 trivial
theorem FCall.untip {P : Program} {m : FuncId} {a : AV} {k : Nat} {rows : List (List AV)} {tip : Tip} {R : AV → Prop} (h : FCall P m [a, .lst k rows .unk] R) : FCall P m [a, .lst k rows tip] R :=
  ⟨h.1, fun g xs w hw hx => h.2 g xs w hw ⟨hx.1, fun j hj => by
    have := hx.2 j hj
    match j, hj with
    | 0, _ => exact this
    | 1, _ => exact VR.untip this⟩⟩

def one : Case := ⟨1, [0], [1]⟩
def oneL : List Ac := [⟨0, 0⟩, ⟨1, 0⟩, ⟨4, 0⟩, ⟨1, 1⟩]
def oneS : Stt := (runOf one oneL).1
theorem one_run : runOf one oneL = (oneS, 4, 0) := by decide +kernel
theorem one_s : oneS.v = 1 ∧ oneS.net.length = 2 ∧ (checkState one oneS).2 = 0 ∧ overS oneS = true := by decide +kernel
theorem one_small : SmallS oneS := ((checkState_ok (c := one)).mp one_s.2.2.1).small
theorem one_ok : (checkCase one).2 = 0 := by decide +kernel
theorem one_v : isVerdict 3 = true ∧ isVerdict 1 = true ∧ worstI one.verd = 1 := by decide +kernel
theorem acRow_fz {l : List Ac} {r : List AV} (h : r ∈ l.map acR) : FZs r := by
  obtain ⟨x, _, rfl⟩ := List.mem_map.mp h; exact FZs.acR x
set_option maxHeartbeats 1000000 in
theorem awake23 : FCall Try.prog 23 [] (· = .v (.bool true)) := by
  refine ACall.enter [] Cd.fn23 (by simp) ?_
  simp only [Cd.cd23, Tk.t23, base0, base1, base2, base3, Option.isNone_none, Option.isNone_some, Nat.reduceBEq, true_or, or_true, false_or, or_false, Nat.reduceLT, Nat.reduceMod, Nat.reducePow, rmaps, nsucc, List.flatten_cons, List.flatten_nil, Nat.reduceEqDiff, Nat.reduceLeDiff, Nat.reduceAdd, Nat.reduceMul, Nat.reduceSub, ↓reduceIte, reduceCtorEq, decide_true, decide_false]
  refine (single39).go FZs.nil ?_
  simp only [Cd.cd23, Tk.t23, base0, base1, base2, base3, Option.isNone_none, Option.isNone_some, Nat.reduceBEq, true_or, or_true, false_or, or_false, Nat.reduceLT, Nat.reduceMod, Nat.reducePow, rmaps, nsucc, List.flatten_cons, List.flatten_nil, Nat.reduceEqDiff, Nat.reduceLeDiff, Nat.reduceAdd, Nat.reduceMul, Nat.reduceSub, ↓reduceIte, reduceCtorEq, decide_true, decide_false]
  refine (FCall.untip (runOf25 one oneL (by decide))).go (FZs.two (FZ.caseV _) (FZ.lst rfl fun r hr => acRow_fz (l := oneL) (by simpa [oneL, acR] using hr))) ?_
  rw [one_run]
  simp only [runV, stV, stL, plsV, hssV, pksV]
  simp only [Cd.cd23, Tk.t23, base0, base1, base2, base3, Option.isNone_none, Option.isNone_some, Nat.reduceBEq, true_or, or_true, false_or, or_false, Nat.reduceLT, Nat.reduceMod, Nat.reducePow, rmaps, nsucc, List.flatten_cons, List.flatten_nil, Nat.reduceEqDiff, Nat.reduceLeDiff, Nat.reduceAdd, Nat.reduceMul, Nat.reduceSub, ↓reduceIte, reduceCtorEq, decide_true, decide_false]
  refine single39.goQ FZs.nil ?_
  simp only [Cd.cd23, Tk.t23, base0, base1, base2, base3, Option.isNone_none, Option.isNone_some, Nat.reduceBEq, true_or, or_true, false_or, or_false, Nat.reduceLT, Nat.reduceMod, Nat.reducePow, rmaps, nsucc, List.flatten_cons, List.flatten_nil, Nat.reduceEqDiff, Nat.reduceLeDiff, Nat.reduceAdd, Nat.reduceMul, Nat.reduceSub, ↓reduceIte, reduceCtorEq, decide_true, decide_false]
  refine (isOver18 one oneS ⟨by decide, by decide⟩ one_small).go' (FZs.two (FZ.caseV _) (FZ.stV _)) ?_
  obtain ⟨e1, e2, e3, e4⟩ := one_s
  rw [e3, e4]
  simp only [Cd.cd23, Tk.t23, base0, base1, base2, base3, Option.isNone_none, Option.isNone_some, Nat.reduceBEq, true_or, or_true, false_or, or_false, Nat.reduceLT, Nat.reduceMod, Nat.reducePow, rmaps, nsucc, List.flatten_cons, List.flatten_nil, Nat.reduceEqDiff, Nat.reduceLeDiff, Nat.reduceAdd, Nat.reduceMul, Nat.reduceSub, ↓reduceIte, reduceCtorEq, decide_true, decide_false]
  refine single39.go FZs.nil ?_
  simp only [Cd.cd23, Tk.t23, base0, base1, base2, base3, Option.isNone_none, Option.isNone_some, Nat.reduceBEq, true_or, or_true, false_or, or_false, Nat.reduceLT, Nat.reduceMod, Nat.reducePow, rmaps, nsucc, List.flatten_cons, List.flatten_nil, Nat.reduceEqDiff, Nat.reduceLeDiff, Nat.reduceAdd, Nat.reduceMul, Nat.reduceSub, ↓reduceIte, reduceCtorEq, decide_true, decide_false]
  refine (schedule28 one 3).some (FZs.two (FZ.caseV _) (FZ.v _)) fun v hz hr => ?_
  unfold SchedR at hr
  obtain ⟨f1, f2, f3⟩ := one_v
  rw [if_neg (by simp [one_ok]), if_neg (by simp [f1]), if_pos (by rw [f3]; rfl)] at hr
  subst hr
  generalize oneS = s0 at e1 e2 ⊢
  simp (maxSteps := 2000000) only [acsV, e1, e2, List.length_map, Cd.cd23, Tk.t23, base0, base1, base2, base3, Option.isNone_none, Option.isNone_some, Nat.reduceBEq, true_or, or_true, false_or, or_false, Nat.reduceLT, Nat.reduceMod, Nat.reducePow, rmaps, nsucc, List.flatten_cons, List.flatten_nil, Nat.reduceEqDiff, Nat.reduceLeDiff, Nat.reduceAdd, Nat.reduceMul, Nat.reduceSub, ↓reduceIte, reduceCtorEq, decide_true, decide_false]
  exact fin_v rfl

end Go.Proofs.Ytgmncggiblaciaa

/- Walks: the laws on runs and schedules. -/
namespace Go.Proofs.Ytgmncggiblaciaa
open Go Go.Proofs.Ytgmncggiblaciaa.Ab
set_option maxRecDepth 100000

theorem nil_small : SmallS nilSt := ⟨by decide, by decide, by decide, fun x hx => by simp [nilSt] at hx⟩
end Go.Proofs.Ytgmncggiblaciaa

/- Walks: a useful act, a component that is tried. -/
namespace Go.Proofs.Ytgmncggiblaciaa
open Go Go.Proofs.Ytgmncggiblaciaa.Ab
set_option maxRecDepth 100000

def usefulK : List Int := [1, 4, 5, 0]
def UsefulR (l : List Ac) (out : AV) : Prop := (∃ a ∈ l, a.kind ∈ usefulK ∧ out = .tup [acV a, .v (.bool true)]) ∨ ((∀ a ∈ l, a.kind ∉ usefulK) ∧ out = .tup [acV ⟨0, 0⟩, .v (.bool false)])
end Go.Proofs.Ytgmncggiblaciaa

/- Walks: the law that hosts come to the same verdict. -/
namespace Go.Proofs.Ytgmncggiblaciaa
open Go Go.Proofs.Ytgmncggiblaciaa.Ab
set_option maxRecDepth 100000


theorem NewS.fc {m : FuncId} {args : List AV} {s : Stt} (h : ACall Try.prog m args AH.none (fun out H' => ∃ cs, out = .ret (.agg cs) ∧ NewS AH.none s cs H')) : FCall Try.prog m args (· = stV s) :=
  h.mono fun out H' hx => by
    obtain ⟨cs, rfl, hn⟩ := hx
    obtain ⟨p, h, aq, o, rfl, x, _⟩ := hn.ex
    exact ⟨_, _, rfl, stV_view x, FZ.stV _, rfl⟩
theorem CaseOk.small {c : Case} (h : CaseOk c) : SmallC c := ⟨by have := h.p6; omega, by have := h.p6; have := h.vl; omega⟩

end Go.Proofs.Ytgmncggiblaciaa

/- Walks: any state copied by the reference. -/
namespace Go.Proofs.Ytgmncggiblaciaa
open Go Go.Proofs.Ytgmncggiblaciaa.Ab
set_option maxRecDepth 100000

/-- a state whose hosts are being laid, one after the other; it may have no placed components and no hosts -/
structure OwnK (B : Nat) (H : AH) (s : Stt) (i : Nat) (ap ah aq : AV) (o : List OH) : Prop where
  hp : Arr plR 4 H ap s.placed
  ha : (o = [] ∧ ah = nilS) ∨ ∃ h, ah = .sl 2 h 0 o.length ∧ H.own h = some (.cells (flatE hsO o))
  eq : o.map OH.hs = s.hosts.take i
  q : Arr pkR 4 H aq s.net
  m : ∀ y ∈ o, Arr ptR 5 H y.a y.parts
  dp : ∀ n, nmA ap = some n → nmA ah ≠ some n
  dq : ∀ n, nmA aq = some n → nmA ah ≠ some n
  dm : ∀ y ∈ o, ∀ n, nmA y.a = some n → nmA ah ≠ some n
  lp : ∀ n, nmA ap = some n → B ≤ n ∧ n < H.next
  lh : ∀ n, nmA ah = some n → B ≤ n ∧ n < H.next
  lq : ∀ n, nmA aq = some n → B ≤ n ∧ n < H.next
  lm : ∀ y ∈ o, ∀ n, nmA y.a = some n → B ≤ n ∧ n < H.next

theorem OwnK.step {B : Nat} {H H2 : AH} {s : Stt} {i h' : Nat} {ap ah aq : AV} {o : List OH} {y : OH} (x : OwnK B H s i ap ah aq o) (hi : i < s.hosts.length) (hy : y.hs = s.hosts.getD i default) (hv : Arr ptR 5 H2 y.a y.parts)
    (hnv : ∀ n, nmA y.a = some n → H.next ≤ n ∧ n < H2.next ∧ n ≠ h') (hh : H2.own h' = some (.cells (flatE hsO (o ++ [y])))) (hn : H.next ≤ h' ∧ h' < H2.next)
    (hk : ∀ n, B ≤ n → n < H.next → nmA ah ≠ some n → H2.own n = H.own n) (hB : B ≤ H.next) : OwnK B H2 s (i + 1) ap (.sl 2 h' 0 (o.length + 1)) aq (o ++ [y]) := by
  refine ⟨x.hp.mono fun n hn' => hk n (x.lp n hn').1 (x.lp n hn').2 (x.dp n hn'), .inr ⟨h', by simp, hh⟩, ?_, x.q.mono fun n hn' => hk n (x.lq n hn').1 (x.lq n hn').2 (x.dq n hn'), fun z hz => ?_, fun n hn' => ?_, fun n hn' => ?_, fun z hz n hn' => ?_, fun n hn' => ?_, fun n hn' => ?_, fun n hn' => ?_, fun z hz n hn' => ?_⟩
  · rw [List.map_append, x.eq, take_succ_getD hi]; simp [hy]
  · rcases List.mem_append.mp hz with hz | hz
    · exact (x.m z hz).mono fun n hn' => hk n (x.lm z hz n hn').1 (x.lm z hz n hn').2 (x.dm z hz n hn')
    · simp only [List.mem_singleton] at hz; subst hz; exact hv
  · have h1 := x.lp n hn'
    exact fun e => by simp only [nmA, Option.some.injEq] at e; omega
  · have h1 := x.lq n hn'
    exact fun e => by simp only [nmA, Option.some.injEq] at e; omega
  · rcases List.mem_append.mp hz with hz | hz
    · have h1 := x.lm z hz n hn'
      exact fun e => by simp only [nmA, Option.some.injEq] at e; omega
    · simp only [List.mem_singleton] at hz; subst hz
      have h1 := hnv n hn'
      exact fun e => by simp only [nmA, Option.some.injEq] at e; omega
  · have := x.lp n hn'; omega
  · simp only [nmA, Option.some.injEq] at hn'; omega
  · have := x.lq n hn'; omega
  · rcases List.mem_append.mp hz with hz | hz
    · have := x.lm z hz n hn'; omega
    · simp only [List.mem_singleton] at hz; subst hz; have := hnv n hn'; omega

theorem OwnK.view {B : Nat} {H H2 : AH} {s : Stt} {ap ah aq : AV} {o : List OH} (x : OwnK B H s s.hosts.length ap ah aq o) (hk : ∀ n, B ≤ n → H2.own n = H.own n) : View H2 (.agg [ap, .v (.int .i64 s.v), ah, aq]) (stV s) := by
  have hp := x.hp.mono fun n hn => hk n (x.lp n hn).1
  have hq := x.q.mono fun n hn => hk n (x.lq n hn).1
  have hm : ∀ y ∈ o, Arr ptR 5 H2 y.a y.parts := fun y hy => (x.m y hy).mono fun n hn => hk n (x.lm y hy n hn).1
  have heq := x.eq
  rw [List.take_length] at heq
  refine Views.agg (Views.cons (hp.view plR_len FZs.plR) (Views.cons (FZ.v _).view (Views.cons ?_ (Views.cons (hq.view pkR_len FZs.pkR) Views.nil))))
  rcases x.ha with ⟨rfl, rfl⟩ | ⟨h, rfl, hh⟩
  · rw [← heq]; exact View.nil _
  · have hl : s.hosts.length = o.length := by rw [← heq, List.length_map]
    have hh2 : H2.own h = some (.cells (flatE hsO o)) := by rw [hk h (x.lh h rfl).1]; exact hh
    refine View.sl hh2 (by rw [flatE_len hsO_len]; omega) (by simp [hl]) (fun i hi => ?_) fun i j hi hj => ?_
    · exact (congrArg List.length (getDmap hsR s.hosts i (by omega))).trans rfl
    · have e1 : (flatE hsO o).getD (0 + i * 2 + j) .any = (hsO (o.getD i default)).getD j .any := by
        have := flatE_get hsO_len o i j [] hi hj
        rw [List.append_nil] at this; rw [Nat.zero_add]; exact this
      have e2 : s.hosts.getD i default = (o.getD i default).hs := by
        rw [← heq, List.getD_eq_getElem?_getD, List.getElem?_map, List.getElem?_eq_getElem hi, List.getD_eq_getElem?_getD, List.getElem?_eq_getElem hi]; rfl
      rw [e1, getDmap hsR s.hosts i (by omega), e2]
      have : j = 0 ∨ j = 1 := by omega
      rcases this with rfl | rfl
      · exact (FZ.v _).view
      · exact (hm _ (getD_mem hi)).view ptR_len FZs.ptR

set_option maxHeartbeats 2000000 in
theorem own17k (s : Stt) (H : AH) (hs : SmallS s) (R : AV) (hR : R = stV s) : ACall Try.prog 17 [stV s] H (fun out H' => ∃ v, out = .ret v ∧ View H' v R) := by
  have hsh := hs.h; have hsp := hs.p; have hsn := hs.n
  simp only [stV, stL]
  obtain ⟨n2, hn2⟩ : ∃ n2, n2 = H.next := ⟨_, rfl⟩
  have hcase : s.net = [] ∨ ((s.net.length = 0) = False ∧ s.net ≠ []) := by
    by_cases h : s.net = []
    · exact .inl h
    · exact .inr ⟨eq_false (by simpa using h), h⟩
  have hcasp : s.placed = [] ∨ ((s.placed.length = 0) = False ∧ s.placed ≠ []) := by
    by_cases h : s.placed = []
    · exact .inl h
    · exact .inr ⟨eq_false (by simpa using h), h⟩
  rcases hcasp with hp0 | ⟨hp0, hp0'⟩ <;> rcases hcase with hn0 | ⟨hn0, hn0'⟩
  all_goals
    refine ACall.enter [8, 14, 38, 41] Cd.fn17 (by simp) ?_
    simp only [plsV, pksV, hn0, hp0, List.length_map, show roomA 24 s.placed.length = true from room_of (by omega) (by omega), show roomA 32 s.net.length = true from room_of (by omega) (by omega), Cd.cd17, Tk.t17, base0, base1, base2, base3, Option.isNone_none, Option.isNone_some, Nat.reduceBEq, true_or, or_true, false_or, or_false, Nat.reduceLT, Nat.reduceMod, Nat.reducePow, rmaps, nsucc, List.flatten_cons, List.flatten_nil, Nat.reduceEqDiff, Nat.reduceLeDiff, Nat.reduceAdd, Nat.reduceMul, Nat.reduceSub, ↓reduceIte, reduceCtorEq, decide_true, decide_false]
    obtain ⟨aq, haq⟩ : ∃ aq, aq = if s.net = [] then AV.lst 4 [] .full else AV.sl 4 (if s.placed = [] then n2 + 2 else n2 + 3) 0 s.net.length := ⟨_, rfl⟩
    obtain ⟨ap, hap⟩ : ∃ ap, ap = if s.placed = [] then AV.lst 4 [] .full else AV.sl 4 (n2 + 2) 0 s.placed.length := ⟨_, rfl⟩
    refine LWP.loop [8, 14, 38, 41] (fun m f H' => ∃ i, m = s.hosts.length - i ∧ (i ≤ s.hosts.length) ∧ f.t 4 = .v (.int .i64 (i : Nat)) ∧ f.t 3 = .ptr (n2 + 1) 0 ∧ f.t 2 = .ptr n2 0 ∧ f.t 1 = .box (stL s) ∧ f.ds = [] ∧ ∃ o ah, OwnK (n2 + 2) H' s i ap ah aq o ∧ H'.own (n2 + 1) = some (.cells [ap, .v (.int .i64 s.v), ah, aq]) ∧ H'.own n2 = some (.cells [.v (.slice none 0 0), .v (.int .i64 0), .v (.slice none 0 0), .v (.slice none 0 0)]) ∧ H'.tip = H.tip ∧ n2 + 2 ≤ H'.next ∧ (∀ n, n < H.next → H'.own n = H.own n)) ?_ ?_ (m := s.hosts.length - (0))
    · exact ⟨0, rfl, (by omega), rfl, by rw [hn2]; rfl, by rw [hn2]; rfl, by simp [stL, plsV, pksV, upd, hn0, hp0], rfl, by refine ⟨[], nilS, ⟨?_, .inl ⟨rfl, rfl⟩, by simp, ?_, fun y hy => by simp at hy, fun n _ e => by simp [nilS, nmA] at e, fun n _ e => by simp [nilS, nmA] at e, fun y hy => by simp at hy, fun n hn => ?_, fun n hn => by simp [nilS, nmA] at hn, fun n hn => ?_, fun y hy => by simp at hy⟩, ?_, ?_, ?_, ?_, fun n hn => ?_⟩ <;> first   | (simp [hn2, flatE]; done)   | (simp [haq, hap, hn0, hp0, hn2, nilS]; done)   | (simp only [hp0, if_true] at hap; subst hap; exact .inl ⟨hp0, .inr rfl⟩)   | (rw [if_neg hp0'] at hap; subst hap; exact .inr ⟨_, [], rfl, by simp [hn2, flatE]⟩)   | (simp only [hn0, if_true] at haq; subst haq; exact .inl ⟨hn0, .inr rfl⟩)   | (rw [if_neg hn0', if_pos hp0] at haq; subst haq; exact .inr ⟨_, [], rfl, by simp [hn2, flatE]⟩)   | (rw [if_neg hn0', if_neg hp0'] at haq; subst haq; exact .inr ⟨_, [], rfl, by simp [hn2, flatE]⟩)   | (simp only [hp0, if_true] at hap; subst hap; cases hn; done)   | (simp only [hn0, if_true] at haq; subst haq; cases hn; done)   | (rw [if_neg hp0'] at hap; subst hap; cases hn; simp [hn2]; done)   | (rw [if_neg hp0'] at hap; subst hap; cases hn; simp [hn2]; omega)   | (rw [if_neg hn0', if_pos hp0] at haq; subst haq; cases hn; simp [hn2]; done)   | (rw [if_neg hn0', if_pos hp0] at haq; subst haq; cases hn; simp [hn2]; omega)   | (rw [if_neg hn0', if_neg hp0'] at haq; subst haq; cases hn; simp [hn2]; done)   | (rw [if_neg hn0', if_neg hp0'] at haq; subst haq; cases hn; simp [hn2]; omega)   | (simp only [hap, haq, if_pos hp0, if_pos hn0, hn2, nsucc, if_false, if_true, nilS]; done)   | (rw [if_pos hp0] at hap; rw [if_neg hn0', if_pos hp0] at haq; subst hap haq; simp [hn2, nilS]; done)   | (rw [if_neg hp0'] at hap; rw [if_pos hn0] at haq; subst hap haq; simp [hn2, nilS]; done)   | (rw [if_neg hp0'] at hap; rw [if_neg hn0', if_neg hp0'] at haq; subst hap haq; simp [hn2, nilS]; done)   | (simp [hn2, show n ≠ H.next by omega, show n ≠ H.next + 1 by omega, show n ≠ H.next + 2 by omega, show n ≠ H.next + 3 by omega]; done)   | (trace_state; sorry)⟩
    · rintro m f H' ⟨i, rfl, hi, f4, f3, f2, f1, hds, ⟨o,ah,hJ,hb3,hb2,ht,hx,hkk⟩⟩
      have hoi : o.length = i := by have := congrArg List.length hJ.eq; simp at this; omega
      by_cases hlt : i < s.hosts.length
      · have hpb := hs.q' i
        have hlt' := ltT hlt
        have hpc : (s.hosts.getD i default).parts = [] ∨ (((s.hosts.getD i default).parts.length = 0) = False ∧ (s.hosts.getD i default).parts ≠ []) := by
          by_cases h : (s.hosts.getD i default).parts = []
          · exact .inl h
          · exact .inr ⟨eq_false (by simpa using h), h⟩
        simp only [stL, hssV] at f1
        rcases hpc with hpe | ⟨hpl, hpl'⟩
        · rcases hJ.ha with ⟨rfl, rfl⟩ | ⟨h, rfl, hh⟩
          ·
            have g1 : (n2 + 1 = H'.next) = False := eq_false (by omega)
            have g2 : (n2 + 1 = H'.next + 1) = False := eq_false (by omega)
            have g3 : (n2 + 1 = n2) = False := eq_false (by omega)
            simp only [hb3, hlt', inR hlt, Int.toNat_natCast, getD_map hsR _ _ hlt, hsR, ptsV, List.length_map, g1, g2, g3, nilS, hpe, show roomA 32 1 = true from rfl, f4, f3, f2, f1, hds, Cd.cd17, Tk.t17, base0, base1, base2, base3, Option.isNone_none, Option.isNone_some, Nat.reduceBEq, true_or, or_true, false_or, or_false, Nat.reduceLT, Nat.reduceMod, Nat.reducePow, rmaps, nsucc, List.flatten_cons, List.flatten_nil, Nat.reduceEqDiff, Nat.reduceLeDiff, Nat.reduceAdd, Nat.reduceMul, Nat.reduceSub, ↓reduceIte, reduceCtorEq, decide_true, decide_false]
            refine ⟨fun n hn => by first | trivial | (simp at hn; subst hn; simp [show n2 + 1 ≠ H'.next by omega]), _, by omega, i + 1, rfl, by omega, by rw [wrapS (by omega)], rfl, [⟨(s.hosts.getD i default).lost, AV.lst 5 [] .full, (s.hosts.getD i default).parts⟩], .sl 2 H'.next 0 (1), ?_⟩
            refine ⟨hJ.step (hB := hx) (y := ⟨(s.hosts.getD i default).lost, AV.lst 5 [] .full, (s.hosts.getD i default).parts⟩) hlt rfl (.inl ⟨hpe, .inr rfl⟩) (fun n hn => by cases hn) (by simp [show H'.next ≠ n2 by omega, show H'.next ≠ n2 + 1 by omega, show H'.next + 1 ≠ n2 + 1 by omega, show n2 ≠ H'.next by omega, show n2 ≠ H'.next + 1 by omega, hsO, flatE]) ⟨by omega, by simp <;> omega⟩ (fun n e0 e1 e2 => by simp [show n ≠ n2 + 1 by omega, show n ≠ H'.next by omega]), ?_, ?_, ht, ?_, fun n hn => ?_⟩
            · simp
            · simp [show H'.next ≠ n2 by omega, show H'.next ≠ n2 + 1 by omega, show H'.next + 1 ≠ n2 + 1 by omega, show n2 ≠ H'.next by omega, show n2 ≠ H'.next + 1 by omega, hb2]
            · first | omega | (simp; omega)
            · simp [show n ≠ n2 + 1 by omega, show n ≠ H'.next by omega]; exact hkk n hn
          ·
            have g1 : (n2 + 1 = H'.next) = False := eq_false (by omega)
            have g2 : (n2 + 1 = H'.next + 1) = False := eq_false (by omega)
            have g3 : (n2 + 1 = n2) = False := eq_false (by omega)
            have hlh := hJ.lh h rfl
            have g4 : (n2 + 1 = h) = False := eq_false (by omega)
            have g5 : (h = H'.next) = False := eq_false (by omega)
            have g6 : (h = n2 + 1) = False := eq_false (by omega)
            have g7 : (h = H'.next + 1) = False := eq_false (by omega)
            have elen : o.length * 2 ≤ (flatE hsO o).length := by rw [flatE_len hsO_len]; omega
            have etk : List.take (o.length * 2) (flatE hsO o) = flatE hsO o := by rw [← flatE_len hsO_len, List.take_length]
            simp only [hb3, hlt', inR hlt, Int.toNat_natCast, getD_map hsR _ _ hlt, hsR, ptsV, List.length_map, g1, g2, g3, nilS, hpe, hh, elen, etk, room1 (b := 32) (n := o.length) (by omega) (by omega), g4, g5, g6, g7, f4, f3, f2, f1, hds, Cd.cd17, Tk.t17, base0, base1, base2, base3, Option.isNone_none, Option.isNone_some, Nat.reduceBEq, true_or, or_true, false_or, or_false, Nat.reduceLT, Nat.reduceMod, Nat.reducePow, rmaps, nsucc, List.flatten_cons, List.flatten_nil, Nat.reduceEqDiff, Nat.reduceLeDiff, Nat.reduceAdd, Nat.reduceMul, Nat.reduceSub, ↓reduceIte, reduceCtorEq, decide_true, decide_false]
            refine ⟨fun n hn => by first | trivial | (simp at hn; subst hn; simp [show n2 + 1 ≠ H'.next by omega]), _, by omega, i + 1, rfl, by omega, by rw [wrapS (by omega)], rfl, o ++ [⟨(s.hosts.getD i default).lost, AV.lst 5 [] .full, (s.hosts.getD i default).parts⟩], .sl 2 H'.next 0 (o.length + 1), ?_⟩
            refine ⟨hJ.step (hB := hx) (y := ⟨(s.hosts.getD i default).lost, AV.lst 5 [] .full, (s.hosts.getD i default).parts⟩) hlt rfl (.inl ⟨hpe, .inr rfl⟩) (fun n hn => by cases hn) (by simp [show H'.next ≠ n2 by omega, show H'.next ≠ n2 + 1 by omega, show H'.next + 1 ≠ n2 + 1 by omega, show n2 ≠ H'.next by omega, show n2 ≠ H'.next + 1 by omega, show H'.next ≠ h by omega, show H'.next + 1 ≠ h by omega, show n2 ≠ h by omega, hsO, flatE]) ⟨by omega, by simp <;> omega⟩ (fun n e0 e1 e2 => by simp [show n ≠ n2 + 1 by omega, show n ≠ H'.next by omega, show n ≠ h from fun e => e2 (by rw [e]; rfl)]), ?_, ?_, ht, ?_, fun n hn => ?_⟩
            · simp
            · simp [show H'.next ≠ n2 by omega, show H'.next ≠ n2 + 1 by omega, show H'.next + 1 ≠ n2 + 1 by omega, show n2 ≠ H'.next by omega, show n2 ≠ H'.next + 1 by omega, show H'.next ≠ h by omega, show H'.next + 1 ≠ h by omega, show n2 ≠ h by omega, hb2]
            · first | omega | (simp; omega)
            · simp [show n ≠ n2 + 1 by omega, show n ≠ H'.next by omega, show n ≠ h by omega]; exact hkk n hn
        · rcases hJ.ha with ⟨rfl, rfl⟩ | ⟨h, rfl, hh⟩
          ·
            have g1 : (n2 + 1 = H'.next) = False := eq_false (by omega)
            have g2 : (n2 + 1 = H'.next + 1) = False := eq_false (by omega)
            have g3 : (n2 + 1 = n2) = False := eq_false (by omega)
            simp only [hb3, hlt', inR hlt, Int.toNat_natCast, getD_map hsR _ _ hlt, hsR, ptsV, List.length_map, g1, g2, g3, nilS, hpl, show roomA 32 (s.hosts.getD i default).parts.length = true from room_of (by omega) (by omega), show roomA 32 1 = true from rfl, f4, f3, f2, f1, hds, Cd.cd17, Tk.t17, base0, base1, base2, base3, Option.isNone_none, Option.isNone_some, Nat.reduceBEq, true_or, or_true, false_or, or_false, Nat.reduceLT, Nat.reduceMod, Nat.reducePow, rmaps, nsucc, List.flatten_cons, List.flatten_nil, Nat.reduceEqDiff, Nat.reduceLeDiff, Nat.reduceAdd, Nat.reduceMul, Nat.reduceSub, ↓reduceIte, reduceCtorEq, decide_true, decide_false]
            refine ⟨fun n hn => by first | trivial | (simp at hn; subst hn; simp [show n2 + 1 ≠ H'.next by omega]), _, by omega, i + 1, rfl, by omega, by rw [wrapS (by omega)], rfl, [⟨(s.hosts.getD i default).lost, AV.sl 5 H'.next 0 (s.hosts.getD i default).parts.length, (s.hosts.getD i default).parts⟩], .sl 2 (H'.next + 1) 0 (1), ?_⟩
            refine ⟨hJ.step (hB := hx) (y := ⟨(s.hosts.getD i default).lost, AV.sl 5 H'.next 0 (s.hosts.getD i default).parts.length, (s.hosts.getD i default).parts⟩) hlt rfl (.inr ⟨H'.next, [], rfl, by simp [show H'.next ≠ n2 by omega, show H'.next ≠ n2 + 1 by omega, show H'.next + 1 ≠ n2 + 1 by omega, show n2 ≠ H'.next by omega, show n2 ≠ H'.next + 1 by omega, flatE]⟩) (fun n hn => by cases hn; exact ⟨Nat.le_refl _, by simp <;> omega, by omega⟩) (by simp [show H'.next ≠ n2 by omega, show H'.next ≠ n2 + 1 by omega, show H'.next + 1 ≠ n2 + 1 by omega, show n2 ≠ H'.next by omega, show n2 ≠ H'.next + 1 by omega, hsO, flatE]) ⟨by omega, by simp <;> omega⟩ (fun n e0 e1 e2 => by simp [show n ≠ n2 + 1 by omega, show n ≠ H'.next by omega, show n ≠ H'.next + 1 by omega]), ?_, ?_, ht, ?_, fun n hn => ?_⟩
            · simp
            · simp [show H'.next ≠ n2 by omega, show H'.next ≠ n2 + 1 by omega, show H'.next + 1 ≠ n2 + 1 by omega, show n2 ≠ H'.next by omega, show n2 ≠ H'.next + 1 by omega, hb2]
            · first | omega | (simp; omega)
            · simp [show n ≠ n2 + 1 by omega, show n ≠ H'.next by omega, show n ≠ H'.next + 1 by omega]; exact hkk n hn
          ·
            have g1 : (n2 + 1 = H'.next) = False := eq_false (by omega)
            have g2 : (n2 + 1 = H'.next + 1) = False := eq_false (by omega)
            have g3 : (n2 + 1 = n2) = False := eq_false (by omega)
            have hlh := hJ.lh h rfl
            have g4 : (n2 + 1 = h) = False := eq_false (by omega)
            have g5 : (h = H'.next) = False := eq_false (by omega)
            have g6 : (h = n2 + 1) = False := eq_false (by omega)
            have g7 : (h = H'.next + 1) = False := eq_false (by omega)
            have elen : o.length * 2 ≤ (flatE hsO o).length := by rw [flatE_len hsO_len]; omega
            have etk : List.take (o.length * 2) (flatE hsO o) = flatE hsO o := by rw [← flatE_len hsO_len, List.take_length]
            simp only [hb3, hlt', inR hlt, Int.toNat_natCast, getD_map hsR _ _ hlt, hsR, ptsV, List.length_map, g1, g2, g3, nilS, hpl, show roomA 32 (s.hosts.getD i default).parts.length = true from room_of (by omega) (by omega), hh, elen, etk, room1 (b := 32) (n := o.length) (by omega) (by omega), g4, g5, g6, g7, f4, f3, f2, f1, hds, Cd.cd17, Tk.t17, base0, base1, base2, base3, Option.isNone_none, Option.isNone_some, Nat.reduceBEq, true_or, or_true, false_or, or_false, Nat.reduceLT, Nat.reduceMod, Nat.reducePow, rmaps, nsucc, List.flatten_cons, List.flatten_nil, Nat.reduceEqDiff, Nat.reduceLeDiff, Nat.reduceAdd, Nat.reduceMul, Nat.reduceSub, ↓reduceIte, reduceCtorEq, decide_true, decide_false]
            refine ⟨fun n hn => by first | trivial | (simp at hn; subst hn; simp [show n2 + 1 ≠ H'.next by omega]), _, by omega, i + 1, rfl, by omega, by rw [wrapS (by omega)], rfl, o ++ [⟨(s.hosts.getD i default).lost, AV.sl 5 H'.next 0 (s.hosts.getD i default).parts.length, (s.hosts.getD i default).parts⟩], .sl 2 (H'.next + 1) 0 (o.length + 1), ?_⟩
            refine ⟨hJ.step (hB := hx) (y := ⟨(s.hosts.getD i default).lost, AV.sl 5 H'.next 0 (s.hosts.getD i default).parts.length, (s.hosts.getD i default).parts⟩) hlt rfl (.inr ⟨H'.next, [], rfl, by simp [show H'.next ≠ n2 by omega, show H'.next ≠ n2 + 1 by omega, show H'.next + 1 ≠ n2 + 1 by omega, show n2 ≠ H'.next by omega, show n2 ≠ H'.next + 1 by omega, show H'.next ≠ h by omega, show H'.next + 1 ≠ h by omega, show n2 ≠ h by omega, flatE]⟩) (fun n hn => by cases hn; exact ⟨Nat.le_refl _, by simp <;> omega, by omega⟩) (by simp [show H'.next ≠ n2 by omega, show H'.next ≠ n2 + 1 by omega, show H'.next + 1 ≠ n2 + 1 by omega, show n2 ≠ H'.next by omega, show n2 ≠ H'.next + 1 by omega, show H'.next ≠ h by omega, show H'.next + 1 ≠ h by omega, show n2 ≠ h by omega, hsO, flatE]) ⟨by omega, by simp <;> omega⟩ (fun n e0 e1 e2 => by simp [show n ≠ n2 + 1 by omega, show n ≠ H'.next by omega, show n ≠ H'.next + 1 by omega, show n ≠ h from fun e => e2 (by rw [e]; rfl)]), ?_, ?_, ht, ?_, fun n hn => ?_⟩
            · simp
            · simp [show H'.next ≠ n2 by omega, show H'.next ≠ n2 + 1 by omega, show H'.next + 1 ≠ n2 + 1 by omega, show n2 ≠ H'.next by omega, show n2 ≠ H'.next + 1 by omega, show H'.next ≠ h by omega, show H'.next + 1 ≠ h by omega, show n2 ≠ h by omega, hb2]
            · first | omega | (simp; omega)
            · simp [show n ≠ n2 + 1 by omega, show n ≠ H'.next by omega, show n ≠ H'.next + 1 by omega, show n ≠ h by omega]; exact hkk n hn
      · have hi' : i = s.hosts.length := by omega
        subst hi'
        have one1 : (AV.one ap) = true := by rw [hap]; split <;> rfl
        have oneh : (AV.one ah) = true := by rcases hJ.ha with ⟨_, rfl⟩ | ⟨h, rfl, _⟩ <;> rfl
        simp only [stL, hssV] at f1
        have one3 : (AV.one aq) = true := by rw [haq]; split <;> rfl
        have g3 : (n2 + 1 = n2) = False := eq_false (by omega)
        rcases hJ.ha with ⟨rfl, rfl⟩ | ⟨h, rfl, hh⟩
        all_goals
          by_cases hn : s.net = [] <;> by_cases hp : s.placed = []
          all_goals
            simp only [hn, hp, if_true, if_false] at haq hap
            subst haq hap
            simp only [List.length_map, ltF hlt, hb3, hb2, g3, nilS, f4, f3, f2, f1, hds, Cd.cd17, Tk.t17, base0, base1, base2, base3, Option.isNone_none, Option.isNone_some, Nat.reduceBEq, true_or, or_true, false_or, or_false, Nat.reduceLT, Nat.reduceMod, Nat.reducePow, rmaps, nsucc, List.flatten_cons, List.flatten_nil, Nat.reduceEqDiff, Nat.reduceLeDiff, Nat.reduceAdd, Nat.reduceMul, Nat.reduceSub, ↓reduceIte, reduceCtorEq, decide_true, decide_false]
            refine ⟨_, rfl, ?_⟩
            rw [hR]
            refine hJ.view (fun n hn => ?_)
            simp [show n ≠ n2 by omega]
theorem own17g {s : Stt} (hs : SmallS s) : FCall Try.prog 17 [stV s] (· = stV s) :=
  (own17k s AH.none hs _ rfl).mono fun out H' hx => by
    obtain ⟨v, rfl, hv⟩ := hx
    exact ⟨_, _, rfl, hv, FZ.stV _, rfl⟩
end Go.Proofs.Ytgmncggiblaciaa

/- Walks: the laws on cases and on acts. -/
namespace Go.Proofs.Ytgmncggiblaciaa
open Go Go.Proofs.Ytgmncggiblaciaa.Ab
set_option maxRecDepth 100000

set_option maxHeartbeats 4000000 in
theorem law6 (c : Case) (s : Stt) : FCall Try.prog 6 [caseV c, stV s] (· = .v (.bool true)) := by
  simp only [caseV, stV, stL, plsV, hssV, pksV]
  refine ACall.enter [] Cd.fn6 (by simp) ?_
  simp only [Cd.cd6, Tk.t6, base0, base1, base2, base3, Option.isNone_none, Option.isNone_some, Nat.reduceBEq, true_or, or_true, false_or, or_false, Nat.reduceLT, Nat.reduceMod, Nat.reducePow, rmaps, nsucc, List.flatten_cons, List.flatten_nil, Nat.reduceEqDiff, Nat.reduceLeDiff, Nat.reduceAdd, Nat.reduceMul, Nat.reduceSub, ↓reduceIte, reduceCtorEq, decide_true, decide_false]
  refine awake23.go FZs.nil ?_
  simp only [Cd.cd6, Tk.t6, base0, base1, base2, base3, Option.isNone_none, Option.isNone_some, Nat.reduceBEq, true_or, or_true, false_or, or_false, Nat.reduceLT, Nat.reduceMod, Nat.reducePow, rmaps, nsucc, List.flatten_cons, List.flatten_nil, Nat.reduceEqDiff, Nat.reduceLeDiff, Nat.reduceAdd, Nat.reduceMul, Nat.reduceSub, ↓reduceIte, reduceCtorEq, decide_true, decide_false]
  refine (small24 c s).go (FZs.two (FZ.caseV c) (FZ.stV s)) ?_
  cases hsm : smallB c s
  · simp only [Cd.cd6, Tk.t6, base0, base1, base2, base3, Option.isNone_none, Option.isNone_some, Nat.reduceBEq, true_or, or_true, false_or, or_false, Nat.reduceLT, Nat.reduceMod, Nat.reducePow, rmaps, nsucc, List.flatten_cons, List.flatten_nil, Nat.reduceEqDiff, Nat.reduceLeDiff, Nat.reduceAdd, Nat.reduceMul, Nat.reduceSub, ↓reduceIte, reduceCtorEq, decide_true, decide_false]
    exact fin_v rfl
  obtain ⟨hc, hs⟩ := smallB_ok hsm
  have z0 : ((0 : Int) != 0) = false := rfl
  have z1 : ((0 : Int) == 0) = true := rfl
  simp only [Cd.cd6, Tk.t6, base0, base1, base2, base3, Option.isNone_none, Option.isNone_some, Nat.reduceBEq, true_or, or_true, false_or, or_false, Nat.reduceLT, Nat.reduceMod, Nat.reducePow, rmaps, nsucc, List.flatten_cons, List.flatten_nil, Nat.reduceEqDiff, Nat.reduceLeDiff, Nat.reduceAdd, Nat.reduceMul, Nat.reduceSub, ↓reduceIte, reduceCtorEq, decide_true, decide_false]
  first | refine FCall.go (ownCase13 c hc.p hc.v) (FZs.one (FZ.caseV c)) ?_ | refine FCall.go' (ownCase13 c hc.p hc.v) (FZs.one (FZ.caseV c)) ?_ | refine FCall.goQ (ownCase13 c hc.p hc.v) (FZs.one (FZ.caseV c)) ?_
  simp only [caseV]
  simp only [Cd.cd6, Tk.t6, base0, base1, base2, base3, Option.isNone_none, Option.isNone_some, Nat.reduceBEq, true_or, or_true, false_or, or_false, Nat.reduceLT, Nat.reduceMod, Nat.reducePow, rmaps, nsucc, List.flatten_cons, List.flatten_nil, Nat.reduceEqDiff, Nat.reduceLeDiff, Nat.reduceAdd, Nat.reduceMul, Nat.reduceSub, ↓reduceIte, reduceCtorEq, decide_true, decide_false]
  first | refine FCall.go (checkCase32 c) (FZs.one (FZ.caseV c)) ?_ | refine FCall.go' (checkCase32 c) (FZs.one (FZ.caseV c)) ?_ | refine FCall.goQ (checkCase32 c) (FZs.one (FZ.caseV c)) ?_
  simp only [Cd.cd6, Tk.t6, base0, base1, base2, base3, Option.isNone_none, Option.isNone_some, Nat.reduceBEq, true_or, or_true, false_or, or_false, Nat.reduceLT, Nat.reduceMod, Nat.reducePow, rmaps, nsucc, List.flatten_cons, List.flatten_nil, Nat.reduceEqDiff, Nat.reduceLeDiff, Nat.reduceAdd, Nat.reduceMul, Nat.reduceSub, ↓reduceIte, reduceCtorEq, decide_true, decide_false]
  first | refine FCall.go (checkCase11 c) (FZs.one (FZ.caseV c)) ?_ | refine FCall.go' (checkCase11 c) (FZs.one (FZ.caseV c)) ?_ | refine FCall.goQ (checkCase11 c) (FZs.one (FZ.caseV c)) ?_
  simp only [bne_self_eq_false, Cd.cd6, Tk.t6, base0, base1, base2, base3, Option.isNone_none, Option.isNone_some, Nat.reduceBEq, true_or, or_true, false_or, or_false, Nat.reduceLT, Nat.reduceMod, Nat.reducePow, rmaps, nsucc, List.flatten_cons, List.flatten_nil, Nat.reduceEqDiff, Nat.reduceLeDiff, Nat.reduceAdd, Nat.reduceMul, Nat.reduceSub, ↓reduceIte, reduceCtorEq, decide_true, decide_false]
  first | refine FCall.go (ownCase13 c hc.p hc.v) (FZs.one (FZ.caseV c)) ?_ | refine FCall.go' (ownCase13 c hc.p hc.v) (FZs.one (FZ.caseV c)) ?_ | refine FCall.goQ (ownCase13 c hc.p hc.v) (FZs.one (FZ.caseV c)) ?_
  simp only [caseV]
  simp only [Cd.cd6, Tk.t6, base0, base1, base2, base3, Option.isNone_none, Option.isNone_some, Nat.reduceBEq, true_or, or_true, false_or, or_false, Nat.reduceLT, Nat.reduceMod, Nat.reducePow, rmaps, nsucc, List.flatten_cons, List.flatten_nil, Nat.reduceEqDiff, Nat.reduceLeDiff, Nat.reduceAdd, Nat.reduceMul, Nat.reduceSub, ↓reduceIte, reduceCtorEq, decide_true, decide_false]
  first | refine FCall.go (startOf12 c) (FZs.one (FZ.caseV c)) ?_ | refine FCall.go' (startOf12 c) (FZs.one (FZ.caseV c)) ?_ | refine FCall.goQ (startOf12 c) (FZs.one (FZ.caseV c)) ?_
  by_cases h1 : (checkCase c).2 = 0
  · have hk := checkCase_ok.mp h1
    rw [if_pos h1, h1]
    simp only [stV, stL, plsV, hssV, pksV]
    simp only [z0, z1, Cd.cd6, Tk.t6, base0, base1, base2, base3, Option.isNone_none, Option.isNone_some, Nat.reduceBEq, true_or, or_true, false_or, or_false, Nat.reduceLT, Nat.reduceMod, Nat.reducePow, rmaps, nsucc, List.flatten_cons, List.flatten_nil, Nat.reduceEqDiff, Nat.reduceLeDiff, Nat.reduceAdd, Nat.reduceMul, Nat.reduceSub, ↓reduceIte, reduceCtorEq, decide_true, decide_false]
    first | refine FCall.go (start33f c hk) (FZs.one (FZ.caseV c)) ?_ | refine FCall.go' (start33f c hk) (FZs.one (FZ.caseV c)) ?_ | refine FCall.goQ (start33f c hk) (FZs.one (FZ.caseV c)) ?_
    simp only [stV, stL, plsV, hssV, pksV]
    simp only [z0, z1, Cd.cd6, Tk.t6, base0, base1, base2, base3, Option.isNone_none, Option.isNone_some, Nat.reduceBEq, true_or, or_true, false_or, or_false, Nat.reduceLT, Nat.reduceMod, Nat.reducePow, rmaps, nsucc, List.flatten_cons, List.flatten_nil, Nat.reduceEqDiff, Nat.reduceLeDiff, Nat.reduceAdd, Nat.reduceMul, Nat.reduceSub, ↓reduceIte, reduceCtorEq, decide_true, decide_false]
    first | refine FCall.go (same27 (startS c) (valid_start hk).small) (FZs.two (FZ.stV _) (FZ.stV _)) ?_ | refine FCall.go' (same27 (startS c) (valid_start hk).small) (FZs.two (FZ.stV _) (FZ.stV _)) ?_ | refine FCall.goQ (same27 (startS c) (valid_start hk).small) (FZs.two (FZ.stV _) (FZ.stV _)) ?_
    simp only [z0, z1, Cd.cd6, Tk.t6, base0, base1, base2, base3, Option.isNone_none, Option.isNone_some, Nat.reduceBEq, true_or, or_true, false_or, or_false, Nat.reduceLT, Nat.reduceMod, Nat.reducePow, rmaps, nsucc, List.flatten_cons, List.flatten_nil, Nat.reduceEqDiff, Nat.reduceLeDiff, Nat.reduceAdd, Nat.reduceMul, Nat.reduceSub, ↓reduceIte, reduceCtorEq, decide_true, decide_false]
    first | refine FCall.go (ownCase13 c hc.p hc.v) (FZs.one (FZ.caseV c)) ?_ | refine FCall.go' (ownCase13 c hc.p hc.v) (FZs.one (FZ.caseV c)) ?_ | refine FCall.goQ (ownCase13 c hc.p hc.v) (FZs.one (FZ.caseV c)) ?_
    simp only [caseV]
    simp only [Cd.cd6, Tk.t6, base0, base1, base2, base3, Option.isNone_none, Option.isNone_some, Nat.reduceBEq, true_or, or_true, false_or, or_false, Nat.reduceLT, Nat.reduceMod, Nat.reducePow, rmaps, nsucc, List.flatten_cons, List.flatten_nil, Nat.reduceEqDiff, Nat.reduceLeDiff, Nat.reduceAdd, Nat.reduceMul, Nat.reduceSub, ↓reduceIte, reduceCtorEq, decide_true, decide_false]
    first | refine FCall.go (own17g hs) (FZs.one (FZ.stV s)) ?_ | refine FCall.go' (own17g hs) (FZs.one (FZ.stV s)) ?_ | refine FCall.goQ (own17g hs) (FZs.one (FZ.stV s)) ?_
    simp only [stV, stL, plsV, hssV, pksV]
    simp only [Cd.cd6, Tk.t6, base0, base1, base2, base3, Option.isNone_none, Option.isNone_some, Nat.reduceBEq, true_or, or_true, false_or, or_false, Nat.reduceLT, Nat.reduceMod, Nat.reducePow, rmaps, nsucc, List.flatten_cons, List.flatten_nil, Nat.reduceEqDiff, Nat.reduceLeDiff, Nat.reduceAdd, Nat.reduceMul, Nat.reduceSub, ↓reduceIte, reduceCtorEq, decide_true, decide_false]
    first | refine FCall.go (checkState34 c s hc hs) (FZs.two (FZ.caseV c) (FZ.stV s)) ?_ | refine FCall.go' (checkState34 c s hc hs) (FZs.two (FZ.caseV c) (FZ.stV s)) ?_ | refine FCall.goQ (checkState34 c s hc hs) (FZs.two (FZ.caseV c) (FZ.stV s)) ?_
    simp only [Cd.cd6, Tk.t6, base0, base1, base2, base3, Option.isNone_none, Option.isNone_some, Nat.reduceBEq, true_or, or_true, false_or, or_false, Nat.reduceLT, Nat.reduceMod, Nat.reducePow, rmaps, nsucc, List.flatten_cons, List.flatten_nil, Nat.reduceEqDiff, Nat.reduceLeDiff, Nat.reduceAdd, Nat.reduceMul, Nat.reduceSub, ↓reduceIte, reduceCtorEq, decide_true, decide_false]
    first | refine FCall.go (ownCase13 c hc.p hc.v) (FZs.one (FZ.caseV c)) ?_ | refine FCall.go' (ownCase13 c hc.p hc.v) (FZs.one (FZ.caseV c)) ?_ | refine FCall.goQ (ownCase13 c hc.p hc.v) (FZs.one (FZ.caseV c)) ?_
    simp only [caseV]
    simp only [Cd.cd6, Tk.t6, base0, base1, base2, base3, Option.isNone_none, Option.isNone_some, Nat.reduceBEq, true_or, or_true, false_or, or_false, Nat.reduceLT, Nat.reduceMod, Nat.reducePow, rmaps, nsucc, List.flatten_cons, List.flatten_nil, Nat.reduceEqDiff, Nat.reduceLeDiff, Nat.reduceAdd, Nat.reduceMul, Nat.reduceSub, ↓reduceIte, reduceCtorEq, decide_true, decide_false]
    first | refine FCall.go (own17g hs) (FZs.one (FZ.stV s)) ?_ | refine FCall.go' (own17g hs) (FZs.one (FZ.stV s)) ?_ | refine FCall.goQ (own17g hs) (FZs.one (FZ.stV s)) ?_
    simp only [stV, stL, plsV, hssV, pksV]
    simp only [Cd.cd6, Tk.t6, base0, base1, base2, base3, Option.isNone_none, Option.isNone_some, Nat.reduceBEq, true_or, or_true, false_or, or_false, Nat.reduceLT, Nat.reduceMod, Nat.reducePow, rmaps, nsucc, List.flatten_cons, List.flatten_nil, Nat.reduceEqDiff, Nat.reduceLeDiff, Nat.reduceAdd, Nat.reduceMul, Nat.reduceSub, ↓reduceIte, reduceCtorEq, decide_true, decide_false]
    first | refine FCall.go (isOver18 c s hc hs) (FZs.two (FZ.caseV c) (FZ.stV s)) ?_ | refine FCall.go' (isOver18 c s hc hs) (FZs.two (FZ.caseV c) (FZ.stV s)) ?_ | refine FCall.goQ (isOver18 c s hc hs) (FZs.two (FZ.caseV c) (FZ.stV s)) ?_
    simp only [Cd.cd6, Tk.t6, base0, base1, base2, base3, Option.isNone_none, Option.isNone_some, Nat.reduceBEq, true_or, or_true, false_or, or_false, Nat.reduceLT, Nat.reduceMod, Nat.reducePow, rmaps, nsucc, List.flatten_cons, List.flatten_nil, Nat.reduceEqDiff, Nat.reduceLeDiff, Nat.reduceAdd, Nat.reduceMul, Nat.reduceSub, ↓reduceIte, reduceCtorEq, decide_true, decide_false]
    first | refine FCall.go (checkState35 c s hc hs) (FZs.two (FZ.caseV c) (FZ.stV s)) ?_ | refine FCall.go' (checkState35 c s hc hs) (FZs.two (FZ.caseV c) (FZ.stV s)) ?_ | refine FCall.goQ (checkState35 c s hc hs) (FZs.two (FZ.caseV c) (FZ.stV s)) ?_
    simp only [bne_self_eq_false, Cd.cd6, Tk.t6, base0, base1, base2, base3, Option.isNone_none, Option.isNone_some, Nat.reduceBEq, true_or, or_true, false_or, or_false, Nat.reduceLT, Nat.reduceMod, Nat.reducePow, rmaps, nsucc, List.flatten_cons, List.flatten_nil, Nat.reduceEqDiff, Nat.reduceLeDiff, Nat.reduceAdd, Nat.reduceMul, Nat.reduceSub, ↓reduceIte, reduceCtorEq, decide_true, decide_false]
    by_cases he : (checkState c s).2 = 0
    · simp only [he, z1, Cd.cd6, Tk.t6, base0, base1, base2, base3, Option.isNone_none, Option.isNone_some, Nat.reduceBEq, true_or, or_true, false_or, or_false, Nat.reduceLT, Nat.reduceMod, Nat.reducePow, rmaps, nsucc, List.flatten_cons, List.flatten_nil, Nat.reduceEqDiff, Nat.reduceLeDiff, Nat.reduceAdd, Nat.reduceMul, Nat.reduceSub, ↓reduceIte, reduceCtorEq, decide_true, decide_false]
      first | refine FCall.go (over31 s hs.p) (FZs.one (FZ.stV s)) ?_ | refine FCall.go' (over31 s hs.p) (FZs.one (FZ.stV s)) ?_ | refine FCall.goQ (over31 s hs.p) (FZs.one (FZ.stV s)) ?_
      simp only [overS, Cd.cd6, Tk.t6, base0, base1, base2, base3, Option.isNone_none, Option.isNone_some, Nat.reduceBEq, true_or, or_true, false_or, or_false, Nat.reduceLT, Nat.reduceMod, Nat.reducePow, rmaps, nsucc, List.flatten_cons, List.flatten_nil, Nat.reduceEqDiff, Nat.reduceLeDiff, Nat.reduceAdd, Nat.reduceMul, Nat.reduceSub, ↓reduceIte, reduceCtorEq, decide_true, decide_false]
      exact fin_v (by simp)
    · simp only [show ((checkState c s).2 == 0) = false from by simp [he], decide_eq_false he, Cd.cd6, Tk.t6, base0, base1, base2, base3, Option.isNone_none, Option.isNone_some, Nat.reduceBEq, true_or, or_true, false_or, or_false, Nat.reduceLT, Nat.reduceMod, Nat.reducePow, rmaps, nsucc, List.flatten_cons, List.flatten_nil, Nat.reduceEqDiff, Nat.reduceLeDiff, Nat.reduceAdd, Nat.reduceMul, Nat.reduceSub, ↓reduceIte, reduceCtorEq, decide_true, decide_false]
      exact fin_v rfl
  · have h2 : ((checkCase c).2 == 0) = false := by simp [h1]
    have h3 : ((checkCase c).2 != 0) = true := by simp [h1]
    rw [if_neg h1]
    simp only [stV, stL, plsV, hssV, pksV]
    simp only [h2, h3, bne_self_eq_false, Cd.cd6, Tk.t6, base0, base1, base2, base3, Option.isNone_none, Option.isNone_some, Nat.reduceBEq, true_or, or_true, false_or, or_false, Nat.reduceLT, Nat.reduceMod, Nat.reducePow, rmaps, nsucc, List.flatten_cons, List.flatten_nil, Nat.reduceEqDiff, Nat.reduceLeDiff, Nat.reduceAdd, Nat.reduceMul, Nat.reduceSub, ↓reduceIte, reduceCtorEq, decide_true, decide_false]
    refine (same27 nilSt nil_small).bgo' (Views.cons (FZ.stV nilSt).view (Views.cons nil_view Views.nil)) (Ground.v _) ?_
    simp only [h2, h3, bne_self_eq_false, Cd.cd6, Tk.t6, base0, base1, base2, base3, Option.isNone_none, Option.isNone_some, Nat.reduceBEq, true_or, or_true, false_or, or_false, Nat.reduceLT, Nat.reduceMod, Nat.reducePow, rmaps, nsucc, List.flatten_cons, List.flatten_nil, Nat.reduceEqDiff, Nat.reduceLeDiff, Nat.reduceAdd, Nat.reduceMul, Nat.reduceSub, ↓reduceIte, reduceCtorEq, decide_true, decide_false]
    first | refine FCall.go (ownCase13 c hc.p hc.v) (FZs.one (FZ.caseV c)) ?_ | refine FCall.go' (ownCase13 c hc.p hc.v) (FZs.one (FZ.caseV c)) ?_ | refine FCall.goQ (ownCase13 c hc.p hc.v) (FZs.one (FZ.caseV c)) ?_
    simp only [caseV]
    simp only [Cd.cd6, Tk.t6, base0, base1, base2, base3, Option.isNone_none, Option.isNone_some, Nat.reduceBEq, true_or, or_true, false_or, or_false, Nat.reduceLT, Nat.reduceMod, Nat.reducePow, rmaps, nsucc, List.flatten_cons, List.flatten_nil, Nat.reduceEqDiff, Nat.reduceLeDiff, Nat.reduceAdd, Nat.reduceMul, Nat.reduceSub, ↓reduceIte, reduceCtorEq, decide_true, decide_false]
    first | refine FCall.go (own17g hs) (FZs.one (FZ.stV s)) ?_ | refine FCall.go' (own17g hs) (FZs.one (FZ.stV s)) ?_ | refine FCall.goQ (own17g hs) (FZs.one (FZ.stV s)) ?_
    simp only [stV, stL, plsV, hssV, pksV]
    simp only [Cd.cd6, Tk.t6, base0, base1, base2, base3, Option.isNone_none, Option.isNone_some, Nat.reduceBEq, true_or, or_true, false_or, or_false, Nat.reduceLT, Nat.reduceMod, Nat.reducePow, rmaps, nsucc, List.flatten_cons, List.flatten_nil, Nat.reduceEqDiff, Nat.reduceLeDiff, Nat.reduceAdd, Nat.reduceMul, Nat.reduceSub, ↓reduceIte, reduceCtorEq, decide_true, decide_false]
    first | refine FCall.go (checkState34 c s hc hs) (FZs.two (FZ.caseV c) (FZ.stV s)) ?_ | refine FCall.go' (checkState34 c s hc hs) (FZs.two (FZ.caseV c) (FZ.stV s)) ?_ | refine FCall.goQ (checkState34 c s hc hs) (FZs.two (FZ.caseV c) (FZ.stV s)) ?_
    simp only [Cd.cd6, Tk.t6, base0, base1, base2, base3, Option.isNone_none, Option.isNone_some, Nat.reduceBEq, true_or, or_true, false_or, or_false, Nat.reduceLT, Nat.reduceMod, Nat.reducePow, rmaps, nsucc, List.flatten_cons, List.flatten_nil, Nat.reduceEqDiff, Nat.reduceLeDiff, Nat.reduceAdd, Nat.reduceMul, Nat.reduceSub, ↓reduceIte, reduceCtorEq, decide_true, decide_false]
    first | refine FCall.go (ownCase13 c hc.p hc.v) (FZs.one (FZ.caseV c)) ?_ | refine FCall.go' (ownCase13 c hc.p hc.v) (FZs.one (FZ.caseV c)) ?_ | refine FCall.goQ (ownCase13 c hc.p hc.v) (FZs.one (FZ.caseV c)) ?_
    simp only [caseV]
    simp only [Cd.cd6, Tk.t6, base0, base1, base2, base3, Option.isNone_none, Option.isNone_some, Nat.reduceBEq, true_or, or_true, false_or, or_false, Nat.reduceLT, Nat.reduceMod, Nat.reducePow, rmaps, nsucc, List.flatten_cons, List.flatten_nil, Nat.reduceEqDiff, Nat.reduceLeDiff, Nat.reduceAdd, Nat.reduceMul, Nat.reduceSub, ↓reduceIte, reduceCtorEq, decide_true, decide_false]
    first | refine FCall.go (own17g hs) (FZs.one (FZ.stV s)) ?_ | refine FCall.go' (own17g hs) (FZs.one (FZ.stV s)) ?_ | refine FCall.goQ (own17g hs) (FZs.one (FZ.stV s)) ?_
    simp only [stV, stL, plsV, hssV, pksV]
    simp only [Cd.cd6, Tk.t6, base0, base1, base2, base3, Option.isNone_none, Option.isNone_some, Nat.reduceBEq, true_or, or_true, false_or, or_false, Nat.reduceLT, Nat.reduceMod, Nat.reducePow, rmaps, nsucc, List.flatten_cons, List.flatten_nil, Nat.reduceEqDiff, Nat.reduceLeDiff, Nat.reduceAdd, Nat.reduceMul, Nat.reduceSub, ↓reduceIte, reduceCtorEq, decide_true, decide_false]
    first | refine FCall.go (isOver18 c s hc hs) (FZs.two (FZ.caseV c) (FZ.stV s)) ?_ | refine FCall.go' (isOver18 c s hc hs) (FZs.two (FZ.caseV c) (FZ.stV s)) ?_ | refine FCall.goQ (isOver18 c s hc hs) (FZs.two (FZ.caseV c) (FZ.stV s)) ?_
    simp only [Cd.cd6, Tk.t6, base0, base1, base2, base3, Option.isNone_none, Option.isNone_some, Nat.reduceBEq, true_or, or_true, false_or, or_false, Nat.reduceLT, Nat.reduceMod, Nat.reducePow, rmaps, nsucc, List.flatten_cons, List.flatten_nil, Nat.reduceEqDiff, Nat.reduceLeDiff, Nat.reduceAdd, Nat.reduceMul, Nat.reduceSub, ↓reduceIte, reduceCtorEq, decide_true, decide_false]
    first | refine FCall.go (checkState35 c s hc hs) (FZs.two (FZ.caseV c) (FZ.stV s)) ?_ | refine FCall.go' (checkState35 c s hc hs) (FZs.two (FZ.caseV c) (FZ.stV s)) ?_ | refine FCall.goQ (checkState35 c s hc hs) (FZs.two (FZ.caseV c) (FZ.stV s)) ?_
    simp only [bne_self_eq_false, Cd.cd6, Tk.t6, base0, base1, base2, base3, Option.isNone_none, Option.isNone_some, Nat.reduceBEq, true_or, or_true, false_or, or_false, Nat.reduceLT, Nat.reduceMod, Nat.reducePow, rmaps, nsucc, List.flatten_cons, List.flatten_nil, Nat.reduceEqDiff, Nat.reduceLeDiff, Nat.reduceAdd, Nat.reduceMul, Nat.reduceSub, ↓reduceIte, reduceCtorEq, decide_true, decide_false]
    by_cases he : (checkState c s).2 = 0
    · simp only [he, z1, Cd.cd6, Tk.t6, base0, base1, base2, base3, Option.isNone_none, Option.isNone_some, Nat.reduceBEq, true_or, or_true, false_or, or_false, Nat.reduceLT, Nat.reduceMod, Nat.reducePow, rmaps, nsucc, List.flatten_cons, List.flatten_nil, Nat.reduceEqDiff, Nat.reduceLeDiff, Nat.reduceAdd, Nat.reduceMul, Nat.reduceSub, ↓reduceIte, reduceCtorEq, decide_true, decide_false]
      first | refine FCall.go (over31 s hs.p) (FZs.one (FZ.stV s)) ?_ | refine FCall.go' (over31 s hs.p) (FZs.one (FZ.stV s)) ?_ | refine FCall.goQ (over31 s hs.p) (FZs.one (FZ.stV s)) ?_
      simp only [overS, Cd.cd6, Tk.t6, base0, base1, base2, base3, Option.isNone_none, Option.isNone_some, Nat.reduceBEq, true_or, or_true, false_or, or_false, Nat.reduceLT, Nat.reduceMod, Nat.reducePow, rmaps, nsucc, List.flatten_cons, List.flatten_nil, Nat.reduceEqDiff, Nat.reduceLeDiff, Nat.reduceAdd, Nat.reduceMul, Nat.reduceSub, ↓reduceIte, reduceCtorEq, decide_true, decide_false]
      exact fin_v (by simp)
    · simp only [show ((checkState c s).2 == 0) = false from by simp [he], decide_eq_false he, Cd.cd6, Tk.t6, base0, base1, base2, base3, Option.isNone_none, Option.isNone_some, Nat.reduceBEq, true_or, or_true, false_or, or_false, Nat.reduceLT, Nat.reduceMod, Nat.reducePow, rmaps, nsucc, List.flatten_cons, List.flatten_nil, Nat.reduceEqDiff, Nat.reduceLeDiff, Nat.reduceAdd, Nat.reduceMul, Nat.reduceSub, ↓reduceIte, reduceCtorEq, decide_true, decide_false]
      exact fin_v rfl

end Go.Proofs.Ytgmncggiblaciaa

/- Readers of the arguments. -/
namespace Go.Proofs.Ytgmncggiblaciaa
open Go Go.Proofs.Ytgmncggiblaciaa.Ab
set_option maxRecDepth 100000

theorem rdI : Rd Try.prog 3 (fun n : Int => [.v (.int .i64 n)]) (fun n => IntKind.i64.min ≤ n ∧ n ≤ IntKind.i64.max) := Rd.int Try.underlying3
theorem rdB : Rd Try.prog 4 (fun b : Bool => [.v (.bool b)]) (fun _ => True) := Rd.bool Try.underlying4
theorem rdInts : Rd Try.prog 22 (fun l : List Int => [ints l]) (fun _ => True) :=
  (Rd.slice Try.underlying22 (by kernel_rfl) (by decide) rdI (fun _ => rfl)).map (fun l : List Int => l) (fun _ => rfl) (fun _ _ => trivial)
theorem rdCase : Rd Try.prog 24 (fun c : Case => [.v (.int .i64 c.hosts), ints c.place, ints c.verd]) (fun _ => True) :=
  (Rd.struct Try.underlying24 rfl (by kernel_rfl) (RdF.cons (s := 1) rfl (by kernel_rfl) rdI (RdF.cons (s := 1) rfl (by kernel_rfl) rdInts (RdF.cons (s := 1) rfl (by kernel_rfl) rdInts RdF.nil)))).map
    (fun p => (⟨p.1, p.2.1, p.2.2.1⟩ : Case)) (fun _ => rfl) (fun _ _ => trivial)
theorem rdPl : Rd Try.prog 68 plR (fun _ => True) :=
  (Rd.struct Try.underlying68 rfl (by kernel_rfl) (RdF.cons (s := 1) rfl (by kernel_rfl) rdI (RdF.cons (s := 1) rfl (by kernel_rfl) rdB (RdF.cons (s := 1) rfl (by kernel_rfl) rdB (RdF.cons (s := 1) rfl (by kernel_rfl) rdI RdF.nil))))).map
    (fun p => (⟨p.1, p.2.1, p.2.2.1, p.2.2.2.1⟩ : Pl)) (fun _ => rfl) (fun _ _ => trivial)
theorem rdPls : Rd Try.prog 29 (fun l : List Pl => [plsV l]) (fun _ => True) :=
  (Rd.slice Try.underlying29 (by kernel_rfl) (by decide) rdPl (fun _ => rfl)).map (fun l : List Pl => l) (fun _ => rfl) (fun _ _ => trivial)
theorem rdPt : Rd Try.prog 90 ptR (fun _ => True) :=
  (Rd.struct Try.underlying90 rfl (by kernel_rfl) (RdF.cons (s := 1) rfl (by kernel_rfl) rdI (RdF.cons (s := 1) rfl (by kernel_rfl) rdB (RdF.cons (s := 1) rfl (by kernel_rfl) rdB (RdF.cons (s := 1) rfl (by kernel_rfl) rdI (RdF.cons (s := 1) rfl (by kernel_rfl) rdI RdF.nil)))))).map
    (fun p => (⟨p.1, p.2.1, p.2.2.1, p.2.2.2.1, p.2.2.2.2.1⟩ : Pt)) (fun _ => rfl) (fun _ _ => trivial)
theorem rdPts : Rd Try.prog 78 (fun l : List Pt => [ptsV l]) (fun _ => True) :=
  (Rd.slice Try.underlying78 (by kernel_rfl) (by decide) rdPt (fun _ => rfl)).map (fun l : List Pt => l) (fun _ => rfl) (fun _ _ => trivial)
theorem rdHs : Rd Try.prog 80 hsR (fun _ => True) :=
  (Rd.struct Try.underlying80 rfl (by kernel_rfl) (RdF.cons (s := 1) rfl (by kernel_rfl) rdB (RdF.cons (s := 1) rfl (by kernel_rfl) rdPts RdF.nil))).map
    (fun p => (⟨p.1, p.2.1⟩ : Hs)) (fun _ => rfl) (fun _ _ => trivial)
theorem rdHss : Rd Try.prog 30 (fun l : List Hs => [hssV l]) (fun _ => True) :=
  (Rd.slice Try.underlying30 (by kernel_rfl) (by decide) rdHs (fun _ => rfl)).map (fun l : List Hs => l) (fun _ => rfl) (fun _ _ => trivial)
theorem rdPk : Rd Try.prog 92 pkR (fun _ => True) :=
  (Rd.struct Try.underlying92 rfl (by kernel_rfl) (RdF.cons (s := 1) rfl (by kernel_rfl) rdI (RdF.cons (s := 1) rfl (by kernel_rfl) rdI (RdF.cons (s := 1) rfl (by kernel_rfl) rdI (RdF.cons (s := 1) rfl (by kernel_rfl) rdI RdF.nil))))).map
    (fun p => (⟨p.1, p.2.1, p.2.2.1, p.2.2.2.1⟩ : Pk)) (fun _ => rfl) (fun _ _ => trivial)
theorem rdPks : Rd Try.prog 31 (fun l : List Pk => [pksV l]) (fun _ => True) :=
  (Rd.slice Try.underlying31 (by kernel_rfl) (by decide) rdPk (fun _ => rfl)).map (fun l : List Pk => l) (fun _ => rfl) (fun _ _ => trivial)
theorem rdSt : Rd Try.prog 33 stL (fun _ => True) :=
  (Rd.struct Try.underlying33 rfl (by kernel_rfl) (RdF.cons (s := 1) rfl (by kernel_rfl) rdPls (RdF.cons (s := 1) rfl (by kernel_rfl) rdI (RdF.cons (s := 1) rfl (by kernel_rfl) rdHss (RdF.cons (s := 1) rfl (by kernel_rfl) rdPks RdF.nil))))).map
    (fun p => (⟨p.1, p.2.1, p.2.2.1, p.2.2.2.1⟩ : Stt)) (fun _ => rfl) (fun _ _ => trivial)
theorem own : ownKnob Try.prog.godebug = none := by kernel_rfl
theorem laidOut : laidOutB Try.prog = true := by kernel_rfl
end Go.Proofs.Ytgmncggiblaciaa

/- The law holds: for every input it returns true, and each argument reads behind the call as it read before. No condition. -/
namespace Go.Proofs.Ytgmncggiblaciaa
open Go Go.Proofs.Ytgmncggiblaciaa.Ab Go.ChangeShapes Go.WideShapes Go.ChangeAt Go.RowKit
set_option maxRecDepth 100000

set_option maxHeartbeats 800000 in
theorem lift6 (os : Os) (started : os.Started) (H : Type) (enc : TypeId × Value → H) :
    ReturnsInHanded {} Try.checked os 6 .any (Rows.hostsCasesSpec.pre6 enc Try.prog Try.f6 Rows.hostsCasesRow.domain false) (Rows.hostsCasesSpec.post enc Try.prog Try.f6 false true false false) := by
  refine returnsInHanded_of_change (C := Try.checked) own started (by kernel_rfl) Try.func6
    (ChangeSpec.witness6 (enc := enc) (C := Try.checked) false ⟨#[], #[.agg #[.int .i64 0, .slice none 0 0, .slice none 0 0], .agg #[.slice none 0 0, .int .i64 0, .slice none 0 0, .slice none 0 0]], []⟩ 8 (by kernel_rfl) (by kernel_rfl) (by kernel_rfl) (by kernel_rfl)) ?_
  intro W base args ds gs before hval0 hW _ _
  have hval : ∀ (j : Nat) t v, Try.f6.params[j]? = some t → args[j]? = some v → Value.okWide Try.prog W .any base t v := hval0
  have hW' := hW
  obtain ⟨p, q, hA0, hV, rfl, _, _⟩ := hW
  have hA : DataW.TrodAll enc Try.prog W 0 (fun _ => true) true Try.f6.params.toList args.toList ds p := hA0
  rw [Try.params6] at hA hval
  obtain ⟨v0, v1, d0, d1, p0, p1, rfl, rfl, rfl, h0, h1⟩ := trodAll_two hA
  obtain ⟨rfl, rfl⟩ := trodVars_none hV
  obtain ⟨x0, -, hx0⟩ := arg_struct rdCase Try.underlying24 (hval 0 24 v0 rfl rfl) h0
  obtain ⟨x1, -, hx1⟩ := arg_struct rdSt Try.underlying33 (hval 1 33 v1 rfl rfl) h1
  clear hA0 hval0
  simp only [List.append_nil] at hW'
  have hlt : ∀ x ∈ p0 ++ p1, x.block < W.heap.size := fun x hx => by simpa using hW'.lt x hx
  refine ((law6 x0 x1).true (xs := #[v0, v1]) (W := W) ⟨rfl, fun j hj => ?_⟩).mono fun e W' ⟨he, hb⟩ => ?_
  · match j, hj with
    | 0, _ => exact hx0
    | 1, _ => exact hx1
  subst he
  have harg0 : DataW.Trod enc Try.prog W' 0 (fun b => decide (b < W.heap.size)) true 24 (v0) d0 p0 :=
    Below.trod laidOut (by kernel_rfl) (of_decide_eq_true (by kernel_rfl)) h0 hb (fun x hx => hlt x (List.mem_append.2 (.inl hx)))
  have harg1 : DataW.Trod enc Try.prog W' 0 (fun b => decide (b < W.heap.size)) true 33 (v1) d1 p1 :=
    Below.trod laidOut (by kernel_rfl) (of_decide_eq_true (by kernel_rfl)) h1 hb (fun x hx => hlt x (List.mem_append.2 (.inr hx)))
  refine ⟨_, rfl, _, _, _, [], _, [], hW', ?_, trodAll_mk2 harg0 harg1, rfl, hb.frame _, fun h => by cases h⟩
  exact trodAll_mk1 (shut_bool Try.underlying4 _)

theorem hostsCases : Rows.HostsCasesSaid :=
  OpenClaim.holds_of_wide 6 Try.f6 rfl rfl rfl rfl rfl rfl rfl ⟨rfl, rfl, rfl, rfl, rfl⟩ rfl rfl rfl rfl rfl (by kernel_rfl) Try.func6 (by kernel_rfl)
    (of_decide_eq_true (by kernel_rfl)) (by unfold Func.isWrapper; first | (rw [if_pos (by decide +kernel)]; kernel_rfl) | (rw [if_neg (by decide +kernel)]; exact ⟨rfl, rfl⟩))
    (fun os started H enc _ => lift6 os started H enc)
end Go.Proofs.Ytgmncggiblaciaa

/- Part 4 of a proof: hostsEnds holds for every input; no condition. -/
import Derived.Test.YtgmncggiblaciaaProg
import Derived.KernelRfl
import Derived.Test.YtgmncggiblaciaaRows
import Derived.ProofKit
import Derived.Test.YtgmncggiblaciaaAb0
import Derived.Test.YtgmncggiblaciaaAb1
import Derived.Test.YtgmncggiblaciaaAb2
import Derived.Test.YtgmncggiblaciaaAb3
import Derived.Test.YtgmncggiblaciaaAb4
import Derived.Test.YtgmncggiblaciaaAb5
import Derived.Test.YtgmncggiblaciaaAb6
import Derived.Test.YtgmncggiblaciaaAb7
import Derived.Test.YtgmncggiblaciaaAb8
import Derived.Test.YtgmncggiblaciaaAb8a
import Derived.Test.YtgmncggiblaciaaAb8b
import Derived.Test.YtgmncggiblaciaaAb8c
import Derived.Test.YtgmncggiblaciaaAb8d
import Derived.Test.YtgmncggiblaciaaAb9
import Derived.Test.YtgmncggiblaciaaAb10
import Derived.Test.YtgmncggiblaciaaAb11
import Derived.Test.YtgmncggiblaciaaAb12
import Derived.Test.YtgmncggiblaciaaAb13
import Derived.Test.YtgmncggiblaciaaAb14
import Derived.Test.YtgmncggiblaciaaAb15
import Derived.Test.YtgmncggiblaciaaAb16
import Derived.Test.YtgmncggiblaciaaAb17
import Derived.Test.YtgmncggiblaciaaAb18
import Derived.Test.YtgmncggiblaciaaAb19
import Derived.Test.YtgmncggiblaciaaAb20
import Derived.Test.YtgmncggiblaciaaAb21
import Derived.Test.YtgmncggiblaciaaQe3
set_option linter.unusedSimpArgs false
set_option linter.unusedVariables false
/- Walks: the first state. -/
namespace Go.Proofs.Ytgmncggiblaciaa
open Go Go.Proofs.Ytgmncggiblaciaa.Ab
set_option maxRecDepth 100000

theorem zeros_flat {α : Type} [Inhabited α] {enc : α → List AV} {k : Nat} {z : List AV} {x : α} (hx : enc x = z) (hl : z.length = k) (hk : 0 < k) : ∀ n : Nat, (List.range (n * k)).map (fun i => z.getD (i % k) .any) = flatE enc (List.replicate n x)
  | 0 => by simp [flatE]
  | n + 1 => by
    rw [Nat.add_mul, Nat.one_mul, List.range_add, List.map_append, zeros_flat hx hl hk n, List.replicate_succ', flatE_append]
    congr 1
    simp only [flatE, List.map_cons, List.map_nil, List.flatten_cons, List.flatten_nil, List.append_nil, hx]
    apply List.ext_getElem
    · simp [hl]
    · intro i h1 h2
      simp only [List.length_map, List.length_range] at h1
      simp only [List.getElem_map, List.getElem_range]
      rw [Nat.add_comm, Nat.add_mul_mod_self_right, Nat.mod_eq_of_lt h1, List.getD_eq_getElem?_getD, List.getElem?_eq_getElem h2]; rfl

theorem start42 (c : Case) (hc : CaseOk c) (H : AH) : ACall Try.prog 42 [caseV c] H (DoneV H.next H (startS c)) := by
  have hp6 := hc.p6; have hh4 := hc.h4; have hh1 := hc.h1
  have m1 : ((c.place.length : Nat) : Int) ≤ 140737488355328 := by omega
  have m2 : ((24 : Nat) : Int) * ((c.place.length : Nat) : Int) ≤ 2 ^ 47 := by omega
  have m3 : c.hosts ≤ 140737488355328 := by omega
  have m4 : ((32 : Nat) : Int) * c.hosts ≤ 2 ^ 47 := by omega
  have m5 : 0 ≤ c.hosts := by omega
  have z1 := zeros_flat (enc := plR) (k := 4) (z := plR ⟨0, false, false, 0⟩) (x := ⟨0, false, false, 0⟩) rfl rfl (by decide) c.place.length
  have z2 := zeros_flat (enc := hsO) (k := 2) (z := hsO ⟨false, nilS, []⟩) (x := ⟨false, nilS, []⟩) rfl rfl (by decide) c.hosts.toNat
  simp only [plR, hsO, nilS] at z1 z2
  simp only [caseV]
  refine ACall.enter [] Cd.fn42 (by simp) ?_
  simp only [ints, List.length_map, m1, m2, m3, m4, m5, Int.toNat_natCast, Int.natCast_nonneg, z1, z2, nsucc, Cd.cd42, Tk.t42, base0, base1, base2, base3, Option.isNone_none, Option.isNone_some, Nat.reduceBEq, true_or, or_true, false_or, or_false, Nat.reduceLT, Nat.reduceMod, Nat.reducePow, rmaps, nsucc, List.flatten_cons, List.flatten_nil, Nat.reduceEqDiff, Nat.reduceLeDiff, Nat.reduceAdd, Nat.reduceMul, Nat.reduceSub, ↓reduceIte, reduceCtorEq, decide_true, decide_false]
  refine ⟨_, rfl, ⟨rfl, by simp <;> omega, fun m hm => by simp [show m ≠ H.next by omega, show m ≠ H.next + 1 by omega, show m ≠ H.next + 1 + 1 by omega]⟩, H.next + 1, H.next + 1 + 1, nilS, List.replicate c.hosts.toNat ⟨false, nilS, []⟩, ?_, ⟨?_, ?_, ?_, .inl ⟨rfl, .inl rfl⟩, fun y hy => ?_, by omega, fun n hn => by simp [nilS, nmA] at hn, fun y hy n hn => ?_, fun i j hi hj hij n hn => ?_⟩, fun n hn => ?_⟩
  · simp [stO, startS, nilS]
  · simp [startS, nsucc]
  · simp [nilS, nsucc]
  · simp [startS, OH.hs]
  · rw [List.eq_of_mem_replicate hy]; exact .inl ⟨rfl, .inl rfl⟩
  · rw [List.eq_of_mem_replicate hy] at hn; simp [nilS, nmA] at hn
  · have := List.eq_of_mem_replicate (getD_mem hi)
    rw [this] at hn; simp [nilS, nmA] at hn
  · rcases hn with rfl | rfl | hn | ⟨y, hy, hn⟩
    · exact ⟨by omega, by simp⟩
    · exact ⟨by omega, by simp⟩
    · simp [nilS, nmA] at hn
    · rw [List.eq_of_mem_replicate hy] at hn; simp [nilS, nmA] at hn

end Go.Proofs.Ytgmncggiblaciaa

/- Walks: a state after an act. -/
namespace Go.Proofs.Ytgmncggiblaciaa
open Go Go.Proofs.Ytgmncggiblaciaa.Ab
set_option maxRecDepth 100000

theorem stV_view {H : AH} {s : Stt} {p h : Nat} {aq : AV} {o : List OH} (x : OwnS H s p h aq o) : View H (.agg (stO s p h aq o)) (stV s) := x.view.agg
theorem fin_s {H : AH} {s : Stt} {p h : Nat} {aq : AV} {o : List OH} {y y' : Value} (x : OwnS H s p h aq o) (hy : y = y') : ∃ v v', AOut.ret (.tup [.agg (stO s p h aq o), .v y]) = .ret v ∧ View H v v' ∧ FZ v' ∧ v' = .tup [stV s, .v y'] := by
  subst hy; exact ⟨_, _, rfl, Views.tup (Views.cons (stV_view x) (Views.cons (FZ.v _).view Views.nil)), FZ.tup (FZs.two (FZ.stV _) (FZ.v _)), rfl⟩
def nilSt : Stt := ⟨[], 0, [], []⟩
theorem nil_view {H : AH} : View H (.agg [.v (.slice none 0 0), .v (.int .i64 0), .v (.slice none 0 0), .v (.slice none 0 0)]) (stV nilSt) :=
  Views.agg (Views.cons (View.nil _) (Views.cons (FZ.v _).view (Views.cons (View.nil _) (Views.cons (View.nil _) Views.nil))))
theorem fin_n {H : AH} {y y' : Value} (hy : y = y') : ∃ v v', AOut.ret (.tup [.agg [.v (.slice none 0 0), .v (.int .i64 0), .v (.slice none 0 0), .v (.slice none 0 0)], .v y]) = .ret v ∧ View H v v' ∧ FZ v' ∧ v' = .tup [stV nilSt, .v y'] := by
  subst hy; exact ⟨_, _, rfl, Views.tup (Views.cons nil_view (Views.cons (FZ.v _).view Views.nil)), FZ.tup (FZs.two (FZ.stV _) (FZ.v _)), rfl⟩
theorem DoneV.fc {P : Program} {m : FuncId} {args : List AV} {B : Nat} {s : Stt} (h : ACall P m args AH.none (DoneV B AH.none s)) : FCall P m args (· = stV s) :=
  h.mono fun out H' hx => by
    obtain ⟨cs, rfl, _, p, h, aq, o, rfl, x, _⟩ := hx
    exact ⟨_, _, rfl, stV_view x, FZ.stV _, rfl⟩
theorem OwnX.out {B : Nat} {H : AH} {r : Nat} {c : List AV} {s : Stt} {p h : Nat} {aq : AV} {o : List OH} (x : OwnX B H r c s p h aq o) {H' : AH} (hk : ∀ m, NmS p h aq o m → H'.own m = H.own m) : OwnS H' s p h aq o := x.st.frame hk

theorem acted16 (c : Case) (s : Stt) (a : Ac) (hc : SmallC c) (hs : SmallS s) : FCall Try.prog 16 [caseV c, stV s, acV a] (· = if (checkState c s).2 = 0 ∧ actE c s a = 0 then .tup [stV (actS c s a), .v (.int .i64 0)] else .tup [stV nilSt, .v (.int .i64 (if (checkState c s).2 = 0 then actE c s a else (checkState c s).2))]) := by
  simp only [caseV, stV, stL, plsV, hssV, pksV, acV, acR]
  refine ACall.enter [27] Cd.fn16 (by simp) ?_
  simp only [Cd.cd16, Tk.t16, base0, base1, base2, base3, Option.isNone_none, Option.isNone_some, Nat.reduceBEq, true_or, or_true, false_or, or_false, Nat.reduceLT, Nat.reduceMod, Nat.reducePow, rmaps, nsucc, List.flatten_cons, List.flatten_nil, Nat.reduceEqDiff, Nat.reduceLeDiff, Nat.reduceAdd, Nat.reduceMul, Nat.reduceSub, ↓reduceIte, reduceCtorEq, decide_true, decide_false]
  refine (stateErr44 c s hc hs).go (FZs.two (FZ.caseV c) (FZ.stV s)) ?_
  by_cases h1 : (checkState c s).2 = 0
  · have h1' : ((checkState c s).2 == 0) = true := by simp [h1]
    have hV : Valid c s := checkState_ok.mp h1
    simp only [h1', Cd.cd16, Tk.t16, base0, base1, base2, base3, Option.isNone_none, Option.isNone_some, Nat.reduceBEq, true_or, or_true, false_or, or_false, Nat.reduceLT, Nat.reduceMod, Nat.reducePow, rmaps, nsucc, List.flatten_cons, List.flatten_nil, Nat.reduceEqDiff, Nat.reduceLeDiff, Nat.reduceAdd, Nat.reduceMul, Nat.reduceSub, ↓reduceIte, reduceCtorEq, decide_true, decide_false]
    refine (actErr45 c s hV a).go (FZs.three (FZ.caseV c) (FZ.stV s) (FZ.acV a)) ?_
    by_cases h2 : actE c s a = 0
    · have h2' : (actE c s a != 0) = false := by simp [h2]
      have hlp := hV.lp; have hlh := hV.lh; have hp1 := hV.ok.p1; have hh1 := hV.ok.h1
      rw [if_pos ⟨h1, h2⟩]
      simp only [h2', Cd.cd16, Tk.t16, base0, base1, base2, base3, Option.isNone_none, Option.isNone_some, Nat.reduceBEq, true_or, or_true, false_or, or_false, Nat.reduceLT, Nat.reduceMod, Nat.reducePow, rmaps, nsucc, List.flatten_cons, List.flatten_nil, Nat.reduceEqDiff, Nat.reduceLeDiff, Nat.reduceAdd, Nat.reduceMul, Nat.reduceSub, ↓reduceIte, reduceCtorEq, decide_true, decide_false]
      refine NewS.go' (own46 s _ hs (by omega) (by omega)) fun p h aq o H1 hN x0 hnm => ?_
      have hone := one_aq x0.q
      have hcel := cells_aq x0.q
      simp only [stO]
      simp only [hone, hcel, Cd.cd16, Tk.t16, base0, base1, base2, base3, Option.isNone_none, Option.isNone_some, Nat.reduceBEq, true_or, or_true, false_or, or_false, Nat.reduceLT, Nat.reduceMod, Nat.reducePow, rmaps, nsucc, List.flatten_cons, List.flatten_nil, Nat.reduceEqDiff, Nat.reduceLeDiff, Nat.reduceAdd, Nat.reduceMul, Nat.reduceSub, ↓reduceIte, reduceCtorEq, decide_true, decide_false]
      obtain ⟨_, t1, n1, k1⟩ := hN
      simp only at t1 n1 k1 hnm
      have k0 := k1 AH.none.next (by omega)
      simp at k0
      refine DoneR.go (act47 (B := AH.none.next + 1) hV a ⟨p, h, aq, o, by simp [runL, caseL, stO], x0.frame fun m hm => by have := hnm m hm; simp [show m ≠ H1.next by omega], fun m hm => by have := hnm m hm; simp; omega, by omega, by simp⟩ h2) fun H4 hF hR => ?_
      obtain ⟨p', h', aq', o', x⟩ := hR
      have k4 := hF.own AH.none.next (by omega)
      simp [show AH.none.next ≠ H1.next by omega, k0] at k4
      have hr4 := x.rb
      simp only [runL, caseL, stO, List.cons_append, List.nil_append] at hr4
      have hone := one_aq x.st.q
      have hcel := cells_aq x.st.q
      simp only [hr4, k4, hone, hcel, Cd.cd16, Tk.t16, base0, base1, base2, base3, Option.isNone_none, Option.isNone_some, Nat.reduceBEq, true_or, or_true, false_or, or_false, Nat.reduceLT, Nat.reduceMod, Nat.reducePow, rmaps, nsucc, List.flatten_cons, List.flatten_nil, Nat.reduceEqDiff, Nat.reduceLeDiff, Nat.reduceAdd, Nat.reduceMul, Nat.reduceSub, ↓reduceIte, reduceCtorEq, decide_true, decide_false]
      exact fin_s (x.st.frame fun n h3 => by have := (x.nr n h3).2; simp; omega) rfl
    · have h2' : (actE c s a != 0) = true := by simp [h2]
      rw [if_neg (by simp [h2]), if_pos h1]
      simp only [h2', Cd.cd16, Tk.t16, base0, base1, base2, base3, Option.isNone_none, Option.isNone_some, Nat.reduceBEq, true_or, or_true, false_or, or_false, Nat.reduceLT, Nat.reduceMod, Nat.reducePow, rmaps, nsucc, List.flatten_cons, List.flatten_nil, Nat.reduceEqDiff, Nat.reduceLeDiff, Nat.reduceAdd, Nat.reduceMul, Nat.reduceSub, ↓reduceIte, reduceCtorEq, decide_true, decide_false]
      exact fin_n rfl
  · have h1' : ((checkState c s).2 == 0) = false := by simp [h1]
    have h1'' : ((checkState c s).2 != 0) = true := by simp [h1]
    rw [if_neg (by simp [h1]), if_neg h1]
    simp only [h1', h1'', Cd.cd16, Tk.t16, base0, base1, base2, base3, Option.isNone_none, Option.isNone_some, Nat.reduceBEq, true_or, or_true, false_or, or_false, Nat.reduceLT, Nat.reduceMod, Nat.reducePow, rmaps, nsucc, List.flatten_cons, List.flatten_nil, Nat.reduceEqDiff, Nat.reduceLeDiff, Nat.reduceAdd, Nat.reduceMul, Nat.reduceSub, ↓reduceIte, reduceCtorEq, decide_true, decide_false]
    exact fin_n rfl
end Go.Proofs.Ytgmncggiblaciaa

/- Walks: runs. -/
namespace Go.Proofs.Ytgmncggiblaciaa
open Go Go.Proofs.Ytgmncggiblaciaa.Ab
set_option maxRecDepth 100000

/-- a run from a state on -/
def runFrom (c : Case) : Stt → List Ac → Nat → Stt × Nat × Int
  | s, [], k => (s, k, 0)
  | s, a :: l, k => if actE c s a = 0 then runFrom c (actS c s a) l (k + 1) else (nilSt, k, actE c s a)
def runOf (c : Case) (l : List Ac) : Stt × Nat × Int :=
  if (checkCase c).2 ≠ 0 then (nilSt, 0, (checkCase c).2) else if l.length > 60 then (nilSt, 0, 2) else runFrom c (startS c) l 0
theorem runFrom_step {c : Case} {s : Stt} {l : List Ac} {i : Nat} (hi : i < l.length) : runFrom c s (l.drop i) i = if actE c s (l.getD i default) = 0 then runFrom c (actS c s (l.getD i default)) (l.drop (i + 1)) (i + 1) else (nilSt, i, actE c s (l.getD i default)) := by
  rw [List.drop_eq_getElem_cons hi, List.getD_eq_getElem?_getD, List.getElem?_eq_getElem hi]; rfl
theorem fin_s3 {H : AH} {s : Stt} {p h : Nat} {aq : AV} {o : List OH} {y y' z z' : Value} (x : OwnS H s p h aq o) (hy : y = y') (hz : z = z') : ∃ v v', AOut.ret (.tup [.agg (stO s p h aq o), .v y, .v z]) = .ret v ∧ View H v v' ∧ FZ v' ∧ v' = .tup [stV s, .v y', .v z'] := by
  subst hy; subst hz; exact ⟨_, _, rfl, Views.tup (Views.cons (stV_view x) (Views.cons (FZ.v _).view (Views.cons (FZ.v _).view Views.nil))), FZ.tup (FZs.three (FZ.stV _) (FZ.v _) (FZ.v _)), rfl⟩
theorem fin_n3 {H : AH} {y y' z z' : Value} (hy : y = y') (hz : z = z') : ∃ v v', AOut.ret (.tup [.agg [.v (.slice none 0 0), .v (.int .i64 0), .v (.slice none 0 0), .v (.slice none 0 0)], .v y, .v z]) = .ret v ∧ View H v v' ∧ FZ v' ∧ v' = .tup [stV nilSt, .v y', .v z'] := by
  subst hy; subst hz; exact ⟨_, _, rfl, Views.tup (Views.cons nil_view (Views.cons (FZ.v _).view (Views.cons (FZ.v _).view Views.nil))), FZ.tup (FZs.three (FZ.stV _) (FZ.v _) (FZ.v _)), rfl⟩
/-- the answer of a run -/
def runV (r : Stt × Nat × Int) : AV := .tup [stV r.1, .v (.int .i64 (r.2.1 : Nat)), .v (.int .i64 r.2.2)]

theorem DoneV.go' {P : Program} {m : FuncId} {args : List AV} {H : AH} {B : Nat} {s : Stt} {mu : List Nat} {Kt : Kont} {fm : AF} {dst : Option Nat} {ds : List DOp} {f : AF} {pd : List (Nat × Nat × ABlk)} {rd : List Nat}
    (h : ACall P m args H (DoneV B H s)) (h' : ∀ cs H', Fr B H H' → OwnV B H' cs s → dops P mu Kt fm ds (f.put dst (.agg cs)) H' pd rd) : ACall P m args H (dcallK P mu Kt fm dst ds f pd rd) :=
  h.mono fun out H' hx => by
    obtain ⟨cs, rfl, h1, h2⟩ := hx
    exact h' cs H' h1 h2
set_option maxHeartbeats 1000000 in
theorem runOf25 (c : Case) (l : List Ac) (hb : l.length < 2 ^ 40) : FCall Try.prog 25 [caseV c, acsV l] (· = runV (runOf c l)) := by
  simp only [caseV, acsV]
  unfold runOf runV
  refine ACall.enter [28] Cd.fn25 (by simp) ?_
  simp only [Cd.cd25, Tk.t25, base0, base1, base2, base3, Option.isNone_none, Option.isNone_some, Nat.reduceBEq, true_or, or_true, false_or, or_false, Nat.reduceLT, Nat.reduceMod, Nat.reducePow, rmaps, nsucc, List.flatten_cons, List.flatten_nil, Nat.reduceEqDiff, Nat.reduceLeDiff, Nat.reduceAdd, Nat.reduceMul, Nat.reduceSub, ↓reduceIte, reduceCtorEq, decide_true, decide_false]
  refine (caseErr41 c).go (FZs.one (FZ.caseV c)) ?_
  by_cases hc : (checkCase c).2 = 0
  · have hc' : ((checkCase c).2 != 0) = false := by simp [hc]
    have hk := checkCase_ok.mp hc
    rw [if_neg (by simp [hc])]
    by_cases hl : l.length > 60
    · rw [if_pos hl]
      simp only [hc', List.length_map, show decide (((l.length : Nat) : Int) > 60) = true from decide_eq_true (by omega), Cd.cd25, Tk.t25, base0, base1, base2, base3, Option.isNone_none, Option.isNone_some, Nat.reduceBEq, true_or, or_true, false_or, or_false, Nat.reduceLT, Nat.reduceMod, Nat.reducePow, rmaps, nsucc, List.flatten_cons, List.flatten_nil, Nat.reduceEqDiff, Nat.reduceLeDiff, Nat.reduceAdd, Nat.reduceMul, Nat.reduceSub, ↓reduceIte, reduceCtorEq, decide_true, decide_false]
      exact fin_n3 rfl rfl
    · rw [if_neg hl]
      simp only [hc', List.length_map, show decide (((l.length : Nat) : Int) > 60) = false from decide_eq_false (by omega), Cd.cd25, Tk.t25, base0, base1, base2, base3, Option.isNone_none, Option.isNone_some, Nat.reduceBEq, true_or, or_true, false_or, or_false, Nat.reduceLT, Nat.reduceMod, Nat.reducePow, rmaps, nsucc, List.flatten_cons, List.flatten_nil, Nat.reduceEqDiff, Nat.reduceLeDiff, Nat.reduceAdd, Nat.reduceMul, Nat.reduceSub, ↓reduceIte, reduceCtorEq, decide_true, decide_false]
      refine DoneV.go' (start42 c hk _) fun cs H1 hF hO => ?_
      obtain ⟨p, h, aq, o, rfl, x0, hnm⟩ := hO
      obtain ⟨t1, n1, k1⟩ := hF
      simp only at t1 n1 k1 hnm
      have hone := one_aq x0.q
      have hcel := cells_aq x0.q
      have k0 := k1 AH.none.next (by omega)
      simp at k0
      simp only [stO]
      obtain ⟨r, hr⟩ : ∃ r, r = H1.next := ⟨_, rfl⟩
      have hr0 : AH.none.next ≠ r := by omega
      simp only [hone, hcel, List.length_map, Cd.cd25, Tk.t25, base0, base1, base2, base3, Option.isNone_none, Option.isNone_some, Nat.reduceBEq, true_or, or_true, false_or, or_false, Nat.reduceLT, Nat.reduceMod, Nat.reducePow, rmaps, nsucc, List.flatten_cons, List.flatten_nil, Nat.reduceEqDiff, Nat.reduceLeDiff, Nat.reduceAdd, Nat.reduceMul, Nat.reduceSub, ↓reduceIte, reduceCtorEq, decide_true, decide_false]
      refine LWP.loop [28] (fun m f H' => ∃ i, m = l.length - i ∧ (i ≤ l.length) ∧ f.t 31 = .v (.int .i64 (i : Nat)) ∧ f.t 30 = .v (.int .i64 (l.length : Nat)) ∧ f.t 29 = .lst 2 (l.map acR) .unk ∧ f.t 8 = .ptr r 0 ∧ f.t 4 = .ptr AH.none.next 0 ∧ f.t 2 = .box [.v (.int .i64 c.hosts), ints c.place, ints c.verd] ∧ f.t 1 = .lst 2 (l.map acR) .unk ∧ f.ds = [] ∧ ∃ s, Valid c s ∧ runFrom c s (l.drop i) i = runFrom c (startS c) l 0 ∧ OwnR (AH.none.next + 1) H' r c s ∧ H'.own AH.none.next = some (.cells [.v (.slice none 0 0), .v (.int .i64 0), .v (.slice none 0 0), .v (.slice none 0 0)]) ∧ r < H'.next) ?_ ?_ (m := l.length - (0))
      · exact ⟨0, rfl, (by omega), rfl, rfl, rfl, by rw [hr]; rfl, rfl, rfl, rfl, rfl, by refine ⟨startS c, valid_start hk, rfl, ⟨p, h, aq, o, ?_⟩, ?_, ?_⟩ <;> first   | exact ⟨by simp [runL, caseL, stO, hr], x0.frame fun m hm => by have := hnm m hm; simp [show m ≠ H1.next by omega], fun m hm => by have := hnm m hm; simp; omega, by omega, by simp [hr]⟩   | (simp [show AH.none.next ≠ H1.next by omega, k0]; done)   | (show r < H1.next + 1; omega)⟩
      · rintro m f H' ⟨i, rfl, hi, f31, f30, f29, f8, f4, f2, f1, hds, ⟨s,hV,hrun,hR,hw,hx⟩⟩
        by_cases hlt : i < l.length
        · obtain ⟨p, h, aq, o, x⟩ := hR
          have hrb := x.rb
          have hbr := x.br
          simp only [runL, caseL, stO, List.cons_append, List.nil_append] at hrb
          have w1 : (r = H'.next) = False := eq_false (by omega)
          have w2 : (AH.none.next = H'.next) = False := eq_false (by omega)
          have hstep := runFrom_step (c := c) (s := s) hlt
          generalize ha : l.getD i default = a at hstep
          simp only [ltT hlt, List.length_map, inR hlt, Int.toNat_natCast, getD_map acR _ _ hlt, ha, acR, hrb, w1, f31, f30, f29, f8, f4, f2, f1, hds, Cd.cd25, Tk.t25, base0, base1, base2, base3, Option.isNone_none, Option.isNone_some, Nat.reduceBEq, true_or, or_true, false_or, or_false, Nat.reduceLT, Nat.reduceMod, Nat.reducePow, rmaps, nsucc, List.flatten_cons, List.flatten_nil, Nat.reduceEqDiff, Nat.reduceLeDiff, Nat.reduceAdd, Nat.reduceMul, Nat.reduceSub, ↓reduceIte, reduceCtorEq, decide_true, decide_false]
          have xs : ∀ Hx : AH, (∀ m, m < H'.next → Hx.own m = H'.own m) → OwnS Hx s p h aq o := fun Hx hk => x.st.frame fun m hm => hk m (x.nr m hm).2.2
          refine (actErr45 c s hV a).bgo' (Views.cons (FZ.caseV c).view (Views.cons (stV_view (xs _ fun m hm => by simp [show m ≠ H'.next by omega])) (Views.cons (FZ.acV a).view Views.nil))) (Ground.v _) ?_
          by_cases he : actE c s a = 0
          · have he' : (actE c s a != 0) = false := by simp [he]
            rw [if_pos he] at hstep
            simp only [he', acR, f31, f30, f29, f8, f4, f2, f1, hds, Cd.cd25, Tk.t25, base0, base1, base2, base3, Option.isNone_none, Option.isNone_some, Nat.reduceBEq, true_or, or_true, false_or, or_false, Nat.reduceLT, Nat.reduceMod, Nat.reducePow, rmaps, nsucc, List.flatten_cons, List.flatten_nil, Nat.reduceEqDiff, Nat.reduceLeDiff, Nat.reduceAdd, Nat.reduceMul, Nat.reduceSub, ↓reduceIte, reduceCtorEq, decide_true, decide_false]
            refine DoneR.go (act47 (B := AH.none.next + 1) hV a ⟨p, h, aq, o, by simp [w1, hrb, runL, caseL, stO], xs _ fun m hm => by simp [show m ≠ H'.next by omega], fun m hm => by have := x.nr m hm; simp; omega, by omega, by simp; omega⟩ he) fun H4 hF hR => ?_
            have k4 := hF.own AH.none.next (by omega)
            simp [w2, hw] at k4
            have hx4 := hF.next
            simp only [f31, f30, f29, f8, f4, f2, f1, hds, Cd.cd25, Tk.t25, base0, base1, base2, base3, Option.isNone_none, Option.isNone_some, Nat.reduceBEq, true_or, or_true, false_or, or_false, Nat.reduceLT, Nat.reduceMod, Nat.reducePow, rmaps, nsucc, List.flatten_cons, List.flatten_nil, Nat.reduceEqDiff, Nat.reduceLeDiff, Nat.reduceAdd, Nat.reduceMul, Nat.reduceSub, ↓reduceIte, reduceCtorEq, decide_true, decide_false]
            refine ⟨_, by omega, i + 1, rfl, by omega, ?_⟩
            (repeat' apply And.intro) <;> first | rfl | (rw [wrapS (by omega)]) | omega | assumption | (exact ⟨_, hV.act he, by rw [← hstep]; exact hrun, hR, k4, by simp at hx4; omega⟩)
          · have he' : (actE c s a != 0) = true := by simp [he]
            rw [if_neg he] at hstep
            rw [← hrun, hstep]
            simp only [he', hw, w2, f31, f30, f29, f8, f4, f2, f1, hds, Cd.cd25, Tk.t25, base0, base1, base2, base3, Option.isNone_none, Option.isNone_some, Nat.reduceBEq, true_or, or_true, false_or, or_false, Nat.reduceLT, Nat.reduceMod, Nat.reducePow, rmaps, nsucc, List.flatten_cons, List.flatten_nil, Nat.reduceEqDiff, Nat.reduceLeDiff, Nat.reduceAdd, Nat.reduceMul, Nat.reduceSub, ↓reduceIte, reduceCtorEq, decide_true, decide_false]
            exact fin_n3 rfl rfl
        · have hi' : i = l.length := by omega
          subst hi'
          obtain ⟨p, h, aq, o, x⟩ := hR
          have hrb := x.rb
          have hone := one_aq x.st.q
          have hcel := cells_aq x.st.q
          simp only [runL, caseL, stO, List.cons_append, List.nil_append] at hrb
          rw [List.drop_length] at hrun
          rw [← hrun]
          simp only [ltF hlt, hrb, hw, hone, hcel, List.length_map, f31, f30, f29, f8, f4, f2, f1, hds, Cd.cd25, Tk.t25, base0, base1, base2, base3, Option.isNone_none, Option.isNone_some, Nat.reduceBEq, true_or, or_true, false_or, or_false, Nat.reduceLT, Nat.reduceMod, Nat.reducePow, rmaps, nsucc, List.flatten_cons, List.flatten_nil, Nat.reduceEqDiff, Nat.reduceLeDiff, Nat.reduceAdd, Nat.reduceMul, Nat.reduceSub, ↓reduceIte, reduceCtorEq, decide_true, decide_false]
          exact fin_s3 (x.st.frame fun m hm => by have := (x.nr m hm).2; simp; omega) rfl rfl
  · have hc' : ((checkCase c).2 != 0) = true := by simp [hc]
    rw [if_pos hc]
    simp only [hc', Cd.cd25, Tk.t25, base0, base1, base2, base3, Option.isNone_none, Option.isNone_some, Nat.reduceBEq, true_or, or_true, false_or, or_false, Nat.reduceLT, Nat.reduceMod, Nat.reducePow, rmaps, nsucc, List.flatten_cons, List.flatten_nil, Nat.reduceEqDiff, Nat.reduceLeDiff, Nat.reduceAdd, Nat.reduceMul, Nat.reduceSub, ↓reduceIte, reduceCtorEq, decide_true, decide_false]
    exact fin_n3 rfl rfl
end Go.Proofs.Ytgmncggiblaciaa

/- Walks: the reference's runs. -/
namespace Go.Proofs.Ytgmncggiblaciaa
open Go Go.Proofs.Ytgmncggiblaciaa.Ab
set_option maxRecDepth 100000

/-- the answer of the reference's run -/
def runW (r : Stt × Nat × Int) : AV := .agg (stL r.1 ++ [.v (.int .i64 (r.2.1 : Nat)), .v (.int .i64 r.2.2)])
end Go.Proofs.Ytgmncggiblaciaa

/- Walks: what is over, what is worst, what is small. -/
namespace Go.Proofs.Ytgmncggiblaciaa
open Go Go.Proofs.Ytgmncggiblaciaa.Ab
set_option maxRecDepth 100000

theorem worstI_snoc (l : List Int) (x : Int) : worstI (l ++ [x]) = if x > worstI l then x else worstI l := by unfold worstI; rw [List.foldl_append]; rfl
theorem worstI_take {l : List Int} {i : Nat} (hi : i < l.length) : worstI (l.take (i + 1)) = if l.getD i 0 > worstI (l.take i) then l.getD i 0 else worstI (l.take i) := by
  rw [← worstI_snoc]; congr 1
  rw [List.take_add_one, List.getD_eq_getElem?_getD, List.getElem?_eq_getElem hi]; rfl

theorem if_max {x : Int} (h : 0 ≤ x) : (if x > worstI [] then x else worstI []) = x := by
  show (if x > 0 then x else 0) = x
  by_cases h' : x > 0
  · rw [if_pos h']
  · rw [if_neg h']; omega

theorem isOver18 (c : Case) (s : Stt) (hc : SmallC c) (hs : SmallS s) : FCall Try.prog 18 [caseV c, stV s] (· = .tup [.v (.bool (decide ((checkState c s).2 = 0) && overS s)), .v (.int .i64 (checkState c s).2)]) := by
  simp only [caseV, stV, stL]
  refine ACall.enter [] Cd.fn18 (by simp) ?_
  simp only [Cd.cd18, Tk.t18, base0, base1, base2, base3, Option.isNone_none, Option.isNone_some, Nat.reduceBEq, true_or, or_true, false_or, or_false, Nat.reduceLT, Nat.reduceMod, Nat.reducePow, rmaps, nsucc, List.flatten_cons, List.flatten_nil, Nat.reduceEqDiff, Nat.reduceLeDiff, Nat.reduceAdd, Nat.reduceMul, Nat.reduceSub, ↓reduceIte, reduceCtorEq, decide_true, decide_false]
  refine (stateErr44 c s hc hs).go (FZs.two (FZ.caseV c) (FZ.stV s)) ?_
  by_cases h : (checkState c s).2 = 0
  · have h' : ((checkState c s).2 != 0) = false := by simp [h]
    simp only [h', Cd.cd18, Tk.t18, base0, base1, base2, base3, Option.isNone_none, Option.isNone_some, Nat.reduceBEq, true_or, or_true, false_or, or_false, Nat.reduceLT, Nat.reduceMod, Nat.reducePow, rmaps, nsucc, List.flatten_cons, List.flatten_nil, Nat.reduceEqDiff, Nat.reduceLeDiff, Nat.reduceAdd, Nat.reduceMul, Nat.reduceSub, ↓reduceIte, reduceCtorEq, decide_true, decide_false]
    refine (containsFunc48 s.placed 49 [] (fun p => !p.tk) hs.p FZs.nil (fun x => notTaken49 x)).go (FZs.two (FZ.plsV _) (FZ.fn FZs.nil FZs.nil)) ?_
    simp only [Cd.cd18, Tk.t18, base0, base1, base2, base3, Option.isNone_none, Option.isNone_some, Nat.reduceBEq, true_or, or_true, false_or, or_false, Nat.reduceLT, Nat.reduceMod, Nat.reducePow, rmaps, nsucc, List.flatten_cons, List.flatten_nil, Nat.reduceEqDiff, Nat.reduceLeDiff, Nat.reduceAdd, Nat.reduceMul, Nat.reduceSub, ↓reduceIte, reduceCtorEq, decide_true, decide_false]
    refine fin_t2 ?_ (by rw [h])
    rw [h]
    simp only [decide_true, Bool.true_and, overS]
    congr 1
    induction s.placed with
    | nil => rfl
    | cons x l ih => simp only [List.any_cons, List.all_cons, Bool.not_or, Bool.not_not, ih]
  · have h' : ((checkState c s).2 != 0) = true := by simp [h]
    simp only [h', Cd.cd18, Tk.t18, base0, base1, base2, base3, Option.isNone_none, Option.isNone_some, Nat.reduceBEq, true_or, or_true, false_or, or_false, Nat.reduceLT, Nat.reduceMod, Nat.reducePow, rmaps, nsucc, List.flatten_cons, List.flatten_nil, Nat.reduceEqDiff, Nat.reduceLeDiff, Nat.reduceAdd, Nat.reduceMul, Nat.reduceSub, ↓reduceIte, reduceCtorEq, decide_true, decide_false]
    exact fin_t2 (by simp [h]) rfl

theorem max52 (l : List Int) (hb : l.length < 2 ^ 40) (h0 : 0 < l.length) (hp : ∀ x ∈ l, 0 ≤ x) : FCall Try.prog 52 [ints l] (· = .v (.int .i64 (worstI l))) := by
  simp only [ints]
  have e0 : (0 : Int) ≤ 0 ∧ (0 : Int) < (l.length : Int) := by omega
  have g0 := getD_ints l 0 h0
  have hx : 0 ≤ l.getD 0 0 := hp _ (by rw [List.getD_eq_getElem?_getD, List.getElem?_eq_getElem h0]; exact List.getElem_mem h0)
  have h1 := worstI_take h0
  have h2 : worstI (l.take 1) = l.getD 0 0 := by
    rw [h1, List.take_zero]; exact if_max hx
  refine ACall.enter [] Cd.fn52 (by simp) ?_
  simp only [List.length_map, show decide (((l.length : Nat) : Int) < 1) = false from decide_eq_false (by omega), e0, show Int.toNat 0 = 0 from rfl, g0, Cd.cd52, Tk.t52, base0, base1, base2, base3, Option.isNone_none, Option.isNone_some, Nat.reduceBEq, true_or, or_true, false_or, or_false, Nat.reduceLT, Nat.reduceMod, Nat.reducePow, rmaps, nsucc, List.flatten_cons, List.flatten_nil, Nat.reduceEqDiff, Nat.reduceLeDiff, Nat.reduceAdd, Nat.reduceMul, Nat.reduceSub, ↓reduceIte, reduceCtorEq, decide_true, decide_false]
  refine LWP.loop [] (fun m f H' => ∃ i, m = l.length - i ∧ (i ≤ l.length) ∧ (1 ≤ i) ∧ f.t 4 = .v (.int .i64 (i : Nat)) ∧ f.t 3 = .v (.int .i64 (worstI (l.take i))) ∧ f.t 0 = ints l ∧ f.ds = [] ∧ H' = AH.none) ?_ ?_ (m := l.length - (1))
  · exact ⟨1, rfl, (by omega), (by omega), rfl, by rw [h2]; rfl, rfl, rfl, rfl⟩
  · rintro m f H' ⟨i, rfl, hi, hi1, f4, f3, f0, hds, rfl⟩
    simp only [ints] at f0
    by_cases hlt : i < l.length
    · have e := worstI_take hlt
      have gg := getD_ints l i hlt
      simp only [ltT hlt, List.length_map, inR hlt, Int.toNat_natCast, gg, ← e, f4, f3, f0, hds, Cd.cd52, Tk.t52, base0, base1, base2, base3, Option.isNone_none, Option.isNone_some, Nat.reduceBEq, true_or, or_true, false_or, or_false, Nat.reduceLT, Nat.reduceMod, Nat.reducePow, rmaps, nsucc, List.flatten_cons, List.flatten_nil, Nat.reduceEqDiff, Nat.reduceLeDiff, Nat.reduceAdd, Nat.reduceMul, Nat.reduceSub, ↓reduceIte, reduceCtorEq, decide_true, decide_false]
      refine ⟨_, by omega, i + 1, rfl, by omega, by omega, ?_⟩
      (repeat' apply And.intro) <;> first | rfl | (rw [wrapS (by omega)]) | omega | assumption | (trivial)
    · have hi' : i = l.length := by omega
      subst hi'
      simp only [ltF hlt, List.length_map, f4, f3, f0, hds, Cd.cd52, Tk.t52, base0, base1, base2, base3, Option.isNone_none, Option.isNone_some, Nat.reduceBEq, true_or, or_true, false_or, or_false, Nat.reduceLT, Nat.reduceMod, Nat.reducePow, rmaps, nsucc, List.flatten_cons, List.flatten_nil, Nat.reduceEqDiff, Nat.reduceLeDiff, Nat.reduceAdd, Nat.reduceMul, Nat.reduceSub, ↓reduceIte, reduceCtorEq, decide_true, decide_false]
      exact fin_v (by rw [List.take_length])

theorem single39 : FCall Try.prog 39 [] (· = caseV ⟨1, [0], [1]⟩) := by
  refine ACall.enter [] Cd.fn39 (by simp) ?_
  simp only [Cd.cd39, Tk.t39, base0, base1, base2, base3, Option.isNone_none, Option.isNone_some, Nat.reduceBEq, true_or, or_true, false_or, or_false, Nat.reduceLT, Nat.reduceMod, Nat.reducePow, rmaps, nsucc, List.flatten_cons, List.flatten_nil, Nat.reduceEqDiff, Nat.reduceLeDiff, Nat.reduceAdd, Nat.reduceMul, Nat.reduceSub, ↓reduceIte, reduceCtorEq, decide_true, decide_false]
  exact ⟨_, _, rfl, Views.agg (Views.cons (FZ.v _).view (Views.cons (View.tip fun r hr => by simp at hr; subst hr; exact FZs.v1 _) (Views.cons (View.tip fun r hr => by simp at hr; subst hr; exact FZs.v1 _) Views.nil))), FZ.caseV ⟨1, [0], [1]⟩, rfl⟩
end Go.Proofs.Ytgmncggiblaciaa

/- Walks: what is small. -/
namespace Go.Proofs.Ytgmncggiblaciaa
open Go Go.Proofs.Ytgmncggiblaciaa.Ab
set_option maxRecDepth 100000

def smallB (c : Case) (s : Stt) : Bool := decide (c.place.length ≤ 9 ∧ c.verd.length ≤ 9 ∧ s.placed.length ≤ 9 ∧ s.hosts.length ≤ 9 ∧ s.net.length ≤ 15) && s.hosts.all fun x => decide (x.parts.length ≤ 9)
def fewB (s : Stt) : Bool := decide (s.placed.length ≤ 6 ∧ s.hosts.length ≤ 4 ∧ s.net.length ≤ 12) && s.hosts.all fun x => decide (x.parts.length ≤ 6)
theorem all_false {l : List Hs} {p : Hs → Bool} {i : Nat} (hi : i < l.length) (h : p (l.getD i default) = false) : l.all p = false := by
  rw [List.all_eq_false]; exact ⟨_, getD_mem hi, by rw [h]; simp⟩
theorem smallB_ok {c : Case} {s : Stt} (h : smallB c s = true) : SmallC c ∧ SmallS s := by
  simp only [smallB, Bool.and_eq_true, decide_eq_true_eq, List.all_eq_true] at h
  obtain ⟨⟨h1, h2, h3, h4, h5⟩, h6⟩ := h
  exact ⟨⟨by omega, by omega⟩, ⟨by omega, by omega, by omega, fun x hx => by have := h6 x hx; omega⟩⟩
set_option maxHeartbeats 1000000 in
theorem small24 (c : Case) (s : Stt) : FCall Try.prog 24 [caseV c, stV s] (· = .v (.bool (smallB c s))) := by
  simp only [caseV, stV]
  refine ACall.enter [] Cd.fn24 (by simp) ?_
  rcases (by omega : (9 < c.place.length) ∨ (c.place.length ≤ 9 ∧ 9 < c.verd.length) ∨ (c.place.length ≤ 9 ∧ c.verd.length ≤ 9 ∧ 9 < s.placed.length) ∨ (c.place.length ≤ 9 ∧ c.verd.length ≤ 9 ∧ s.placed.length ≤ 9 ∧ 9 < s.hosts.length) ∨ (c.place.length ≤ 9 ∧ c.verd.length ≤ 9 ∧ s.placed.length ≤ 9 ∧ s.hosts.length ≤ 9 ∧ 15 < s.net.length) ∨ (c.place.length ≤ 9 ∧ c.verd.length ≤ 9 ∧ s.placed.length ≤ 9 ∧ s.hosts.length ≤ 9 ∧ s.net.length ≤ 15)) with h0 | ⟨h0, h1⟩ | ⟨h0, h1, h2⟩ | ⟨h0, h1, h2, h3⟩ | ⟨h0, h1, h2, h3, h4⟩ | ⟨h0, h1, h2, h3, h4⟩
  · simp only [stL, plsV, hssV, pksV, ints, List.length_map, show decide (((c.place.length : Nat) : Int) > 9) = true from decide_eq_true (by omega), Cd.cd24, Tk.t24, base0, base1, base2, base3, Option.isNone_none, Option.isNone_some, Nat.reduceBEq, true_or, or_true, false_or, or_false, Nat.reduceLT, Nat.reduceMod, Nat.reducePow, rmaps, nsucc, List.flatten_cons, List.flatten_nil, Nat.reduceEqDiff, Nat.reduceLeDiff, Nat.reduceAdd, Nat.reduceMul, Nat.reduceSub, ↓reduceIte, reduceCtorEq, decide_true, decide_false]
    exact fin_v (by rw [smallB]; simp; omega)
  · simp only [stL, plsV, hssV, pksV, ints, List.length_map, show decide (((c.place.length : Nat) : Int) > 9) = false from decide_eq_false (by omega), show decide (((c.verd.length : Nat) : Int) > 9) = true from decide_eq_true (by omega), Cd.cd24, Tk.t24, base0, base1, base2, base3, Option.isNone_none, Option.isNone_some, Nat.reduceBEq, true_or, or_true, false_or, or_false, Nat.reduceLT, Nat.reduceMod, Nat.reducePow, rmaps, nsucc, List.flatten_cons, List.flatten_nil, Nat.reduceEqDiff, Nat.reduceLeDiff, Nat.reduceAdd, Nat.reduceMul, Nat.reduceSub, ↓reduceIte, reduceCtorEq, decide_true, decide_false]
    exact fin_v (by rw [smallB]; simp; omega)
  · simp only [stL, plsV, hssV, pksV, ints, List.length_map, show decide (((c.place.length : Nat) : Int) > 9) = false from decide_eq_false (by omega), show decide (((c.verd.length : Nat) : Int) > 9) = false from decide_eq_false (by omega), show decide (((s.placed.length : Nat) : Int) > 9) = true from decide_eq_true (by omega), Cd.cd24, Tk.t24, base0, base1, base2, base3, Option.isNone_none, Option.isNone_some, Nat.reduceBEq, true_or, or_true, false_or, or_false, Nat.reduceLT, Nat.reduceMod, Nat.reducePow, rmaps, nsucc, List.flatten_cons, List.flatten_nil, Nat.reduceEqDiff, Nat.reduceLeDiff, Nat.reduceAdd, Nat.reduceMul, Nat.reduceSub, ↓reduceIte, reduceCtorEq, decide_true, decide_false]
    exact fin_v (by rw [smallB]; simp; omega)
  · simp only [stL, plsV, hssV, pksV, ints, List.length_map, show decide (((c.place.length : Nat) : Int) > 9) = false from decide_eq_false (by omega), show decide (((c.verd.length : Nat) : Int) > 9) = false from decide_eq_false (by omega), show decide (((s.placed.length : Nat) : Int) > 9) = false from decide_eq_false (by omega), show decide (((s.hosts.length : Nat) : Int) > 9) = true from decide_eq_true (by omega), Cd.cd24, Tk.t24, base0, base1, base2, base3, Option.isNone_none, Option.isNone_some, Nat.reduceBEq, true_or, or_true, false_or, or_false, Nat.reduceLT, Nat.reduceMod, Nat.reducePow, rmaps, nsucc, List.flatten_cons, List.flatten_nil, Nat.reduceEqDiff, Nat.reduceLeDiff, Nat.reduceAdd, Nat.reduceMul, Nat.reduceSub, ↓reduceIte, reduceCtorEq, decide_true, decide_false]
    exact fin_v (by rw [smallB]; simp; omega)
  · simp only [stL, plsV, hssV, pksV, ints, List.length_map, show decide (((c.place.length : Nat) : Int) > 9) = false from decide_eq_false (by omega), show decide (((c.verd.length : Nat) : Int) > 9) = false from decide_eq_false (by omega), show decide (((s.placed.length : Nat) : Int) > 9) = false from decide_eq_false (by omega), show decide (((s.hosts.length : Nat) : Int) > 9) = false from decide_eq_false (by omega), show decide (((s.net.length : Nat) : Int) > 15) = true from decide_eq_true (by omega), Cd.cd24, Tk.t24, base0, base1, base2, base3, Option.isNone_none, Option.isNone_some, Nat.reduceBEq, true_or, or_true, false_or, or_false, Nat.reduceLT, Nat.reduceMod, Nat.reducePow, rmaps, nsucc, List.flatten_cons, List.flatten_nil, Nat.reduceEqDiff, Nat.reduceLeDiff, Nat.reduceAdd, Nat.reduceMul, Nat.reduceSub, ↓reduceIte, reduceCtorEq, decide_true, decide_false]
    exact fin_v (by rw [smallB]; simp; omega)
  · simp only [stL, plsV, hssV, pksV, ints, List.length_map, show decide (((c.place.length : Nat) : Int) > 9) = false from decide_eq_false (by omega), show decide (((c.verd.length : Nat) : Int) > 9) = false from decide_eq_false (by omega), show decide (((s.placed.length : Nat) : Int) > 9) = false from decide_eq_false (by omega), show decide (((s.hosts.length : Nat) : Int) > 9) = false from decide_eq_false (by omega), show decide (((s.net.length : Nat) : Int) > 15) = false from decide_eq_false (by omega), Cd.cd24, Tk.t24, base0, base1, base2, base3, Option.isNone_none, Option.isNone_some, Nat.reduceBEq, true_or, or_true, false_or, or_false, Nat.reduceLT, Nat.reduceMod, Nat.reducePow, rmaps, nsucc, List.flatten_cons, List.flatten_nil, Nat.reduceEqDiff, Nat.reduceLeDiff, Nat.reduceAdd, Nat.reduceMul, Nat.reduceSub, ↓reduceIte, reduceCtorEq, decide_true, decide_false]
    refine LWP.loop [] (fun m f H' => ∃ i, m = s.hosts.length - i ∧ (i ≤ s.hosts.length) ∧ ((s.hosts.take i).all (fun x => decide (x.parts.length ≤ 9)) = true) ∧ f.t 5 = .v (.int .i64 (i : Nat)) ∧ f.t 3 = .box (stL s) ∧ f.ds = [] ∧ H' = AH.none) ?_ ?_ (m := s.hosts.length - (0))
    · exact ⟨0, rfl, (by omega), (by simp), rfl, by simp [stL, plsV, hssV, pksV, upd], rfl, rfl⟩
    · rintro m f H' ⟨i, rfl, hi, hok, f5, f3, hds, rfl⟩
      by_cases hlt : i < s.hosts.length
      · by_cases hp : (s.hosts.getD i default).parts.length ≤ 9
        · simp only [stL, hssV, List.length_map, ltT hlt, inR hlt, Int.toNat_natCast, getD_map hsR _ _ hlt, hsR, ptsV, show decide ((((s.hosts.getD i default).parts.length : Nat) : Int) > 9) = false from decide_eq_false (by omega), f5, f3, hds, Cd.cd24, Tk.t24, base0, base1, base2, base3, Option.isNone_none, Option.isNone_some, Nat.reduceBEq, true_or, or_true, false_or, or_false, Nat.reduceLT, Nat.reduceMod, Nat.reducePow, rmaps, nsucc, List.flatten_cons, List.flatten_nil, Nat.reduceEqDiff, Nat.reduceLeDiff, Nat.reduceAdd, Nat.reduceMul, Nat.reduceSub, ↓reduceIte, reduceCtorEq, decide_true, decide_false]
          refine ⟨_, by omega, i + 1, rfl, by omega, by rw [take_succ_getD hlt, List.all_append, hok]; simpa using hp, ?_⟩
          (repeat' apply And.intro) <;> first | rfl | (rw [wrapS (by omega)]) | omega | assumption
        · simp only [stL, hssV, List.length_map, ltT hlt, inR hlt, Int.toNat_natCast, getD_map hsR _ _ hlt, hsR, ptsV, show decide ((((s.hosts.getD i default).parts.length : Nat) : Int) > 9) = true from decide_eq_true (by omega), f5, f3, hds, Cd.cd24, Tk.t24, base0, base1, base2, base3, Option.isNone_none, Option.isNone_some, Nat.reduceBEq, true_or, or_true, false_or, or_false, Nat.reduceLT, Nat.reduceMod, Nat.reducePow, rmaps, nsucc, List.flatten_cons, List.flatten_nil, Nat.reduceEqDiff, Nat.reduceLeDiff, Nat.reduceAdd, Nat.reduceMul, Nat.reduceSub, ↓reduceIte, reduceCtorEq, decide_true, decide_false]
          exact fin_v (by rw [smallB, all_false hlt (by simpa using hp)]; simp)
      · have hi' : i = s.hosts.length := by omega
        subst hi'
        rw [List.take_length] at hok
        simp only [stL, hssV, List.length_map, ltF hlt, f5, f3, hds, Cd.cd24, Tk.t24, base0, base1, base2, base3, Option.isNone_none, Option.isNone_some, Nat.reduceBEq, true_or, or_true, false_or, or_false, Nat.reduceLT, Nat.reduceMod, Nat.reducePow, rmaps, nsucc, List.flatten_cons, List.flatten_nil, Nat.reduceEqDiff, Nat.reduceLeDiff, Nat.reduceAdd, Nat.reduceMul, Nat.reduceSub, ↓reduceIte, reduceCtorEq, decide_true, decide_false]
        exact fin_v (by rw [smallB, hok]; simp [*])
end Go.Proofs.Ytgmncggiblaciaa

/- Walks: a state is the same as itself. -/
namespace Go.Proofs.Ytgmncggiblaciaa
open Go Go.Proofs.Ytgmncggiblaciaa.Ab
set_option maxRecDepth 100000

set_option maxHeartbeats 2000000 in
theorem same27 (s : Stt) (hs : SmallS s) : FCall Try.prog 27 [stV s, stV s] (· = .v (.bool true)) := by
  have hp := hs.p; have hh := hs.h; have hn := hs.n
  simp only [stV]
  refine ACall.enter [] Cd.fn27 (by simp) ?_
  simp only [stL, plsV, hssV, pksV, List.length_map, bne_self_eq_false, Cd.cd27, Tk.t27, base0, base1, base2, base3, Option.isNone_none, Option.isNone_some, Nat.reduceBEq, true_or, or_true, false_or, or_false, Nat.reduceLT, Nat.reduceMod, Nat.reducePow, rmaps, nsucc, List.flatten_cons, List.flatten_nil, Nat.reduceEqDiff, Nat.reduceLeDiff, Nat.reduceAdd, Nat.reduceMul, Nat.reduceSub, ↓reduceIte, reduceCtorEq, decide_true, decide_false]
  refine LWP.loop [] (fun m f H' => ∃ i, m = s.placed.length - i ∧ (i ≤ s.placed.length) ∧ f.t 5 = .v (.int .i64 (i : Nat)) ∧ f.t 3 = .box (stL s) ∧ f.t 2 = .box (stL s) ∧ f.ds = [] ∧ H' = AH.none) ?_ ?_ (m := s.placed.length - (0))
  · exact ⟨0, rfl, (by omega), rfl, by simp [stL, plsV, hssV, pksV, upd], by simp [stL, plsV, hssV, pksV, upd], rfl, rfl⟩
  · rintro m f H' ⟨i, rfl, hi, f5, f3, f2, hds, rfl⟩
    by_cases hlt : i < s.placed.length
    · simp only [stL, plsV, List.length_map, ltT hlt, inR hlt, Int.toNat_natCast, getD_map plR _ _ hlt, plR, f5, f3, f2, hds, Cd.cd27, Tk.t27, base0, base1, base2, base3, Option.isNone_none, Option.isNone_some, Nat.reduceBEq, true_or, or_true, false_or, or_false, Nat.reduceLT, Nat.reduceMod, Nat.reducePow, rmaps, nsucc, List.flatten_cons, List.flatten_nil, Nat.reduceEqDiff, Nat.reduceLeDiff, Nat.reduceAdd, Nat.reduceMul, Nat.reduceSub, ↓reduceIte, reduceCtorEq, decide_true, decide_false]
      refine ⟨_, by omega, i + 1, rfl, by omega, ?_⟩
      (repeat' apply And.intro) <;> first | rfl | (rw [wrapS (by omega)]) | omega | assumption
    have hi' : i = s.placed.length := by omega
    subst hi'
    simp only [stL, plsV, List.length_map, ltF hlt, f5, f3, f2, hds, Cd.cd27, Tk.t27, base0, base1, base2, base3, Option.isNone_none, Option.isNone_some, Nat.reduceBEq, true_or, or_true, false_or, or_false, Nat.reduceLT, Nat.reduceMod, Nat.reducePow, rmaps, nsucc, List.flatten_cons, List.flatten_nil, Nat.reduceEqDiff, Nat.reduceLeDiff, Nat.reduceAdd, Nat.reduceMul, Nat.reduceSub, ↓reduceIte, reduceCtorEq, decide_true, decide_false]
    refine LWP.loop [] (fun m f H' => ∃ i, m = s.net.length - i ∧ (i ≤ s.net.length) ∧ f.t 6 = .v (.int .i64 (i : Nat)) ∧ f.t 3 = .box (stL s) ∧ f.t 2 = .box (stL s) ∧ f.ds = [] ∧ H' = AH.none) ?_ ?_ (m := s.net.length - (0))
    · exact ⟨0, rfl, (by omega), (by first | rfl | exact f6), (by first | rfl | exact f3), (by first | rfl | exact f2), rfl, rfl⟩
    · rintro m f H' ⟨i, rfl, hi, f6, f3, f2, hds, rfl⟩
      by_cases hlt : i < s.net.length
      · simp only [stL, pksV, List.length_map, ltT hlt, inR hlt, Int.toNat_natCast, getD_map pkR _ _ hlt, pkR, f6, f3, f2, hds, Cd.cd27, Tk.t27, base0, base1, base2, base3, Option.isNone_none, Option.isNone_some, Nat.reduceBEq, true_or, or_true, false_or, or_false, Nat.reduceLT, Nat.reduceMod, Nat.reducePow, rmaps, nsucc, List.flatten_cons, List.flatten_nil, Nat.reduceEqDiff, Nat.reduceLeDiff, Nat.reduceAdd, Nat.reduceMul, Nat.reduceSub, ↓reduceIte, reduceCtorEq, decide_true, decide_false]
        refine ⟨_, by omega, i + 1, rfl, by omega, ?_⟩
        (repeat' apply And.intro) <;> first | rfl | (rw [wrapS (by omega)]) | omega | assumption
      have hi' : i = s.net.length := by omega
      subst hi'
      simp only [stL, pksV, List.length_map, ltF hlt, f6, f3, f2, hds, Cd.cd27, Tk.t27, base0, base1, base2, base3, Option.isNone_none, Option.isNone_some, Nat.reduceBEq, true_or, or_true, false_or, or_false, Nat.reduceLT, Nat.reduceMod, Nat.reducePow, rmaps, nsucc, List.flatten_cons, List.flatten_nil, Nat.reduceEqDiff, Nat.reduceLeDiff, Nat.reduceAdd, Nat.reduceMul, Nat.reduceSub, ↓reduceIte, reduceCtorEq, decide_true, decide_false]
      refine LWP.loop [] (fun m f H' => ∃ i, m = s.hosts.length - i ∧ (i ≤ s.hosts.length) ∧ f.t 7 = .v (.int .i64 (i : Nat)) ∧ f.t 3 = .box (stL s) ∧ f.t 2 = .box (stL s) ∧ f.ds = [] ∧ True) ?_ ?_ (m := s.hosts.length - (0))
      · exact ⟨0, rfl, (by omega), (by first | rfl | exact f7), (by first | rfl | exact f3), (by first | rfl | exact f2), rfl, trivial⟩
      · rintro m f H' ⟨i, rfl, hi, f7, f3, f2, hds, hH⟩
        by_cases hlt : i < s.hosts.length
        · have hq := hs.q' i
          obtain ⟨h9, hh9⟩ : ∃ h9, h9 = H'.next := ⟨_, rfl⟩
          simp only [stL, hssV, List.length_map, ltT hlt, inR hlt, Int.toNat_natCast, getD_map hsR _ _ hlt, hsR, nsucc, ptsV, bne_self_eq_false, f7, f3, f2, hds, Cd.cd27, Tk.t27, base0, base1, base2, base3, Option.isNone_none, Option.isNone_some, Nat.reduceBEq, true_or, or_true, false_or, or_false, Nat.reduceLT, Nat.reduceMod, Nat.reducePow, rmaps, nsucc, List.flatten_cons, List.flatten_nil, Nat.reduceEqDiff, Nat.reduceLeDiff, Nat.reduceAdd, Nat.reduceMul, Nat.reduceSub, ↓reduceIte, reduceCtorEq, decide_true, decide_false]
          refine LWP.loop [] (fun m f H' => ∃ j, m = (s.hosts.getD i default).parts.length - j ∧ (j ≤ (s.hosts.getD i default).parts.length) ∧ f.t 10 = .v (.int .i64 (j : Nat)) ∧ f.t 9 = .ptr (h9 + 1) 0 ∧ f.t 8 = .ptr h9 0 ∧ f.t 7 = .v (.int .i64 (i : Nat)) ∧ f.t 3 = .box (stL s) ∧ f.t 2 = .box (stL s) ∧ f.ds = [] ∧ H'.own h9 = some (.cells (hsR (s.hosts.getD i default))) ∧ H'.own (h9 + 1) = some (.cells (hsR (s.hosts.getD i default)))) ?_ ?_ (m := (s.hosts.getD i default).parts.length - (0))
          · exact ⟨0, rfl, (by omega), (by first | rfl | exact f10), by rw [hh9]; rfl, by rw [hh9]; rfl, by exact f7, by exact f3, by exact f2, rfl, ⟨by simp [hsR, ptsV, hh9], by simp [hsR, ptsV, hh9]⟩⟩
          · rintro m f H' ⟨j, rfl, hj, f10, f9, f8, f7, f3, f2, hds, ⟨e8,e9⟩⟩
            by_cases hlj : j < (s.hosts.getD i default).parts.length
            · simp only [e8, e9, hsR, ptsV, List.length_map, ltT hlj, inR hlj, Int.toNat_natCast, getD_map ptR _ _ hlj, ptR, f10, f9, f8, f7, f3, f2, hds, Cd.cd27, Tk.t27, base0, base1, base2, base3, Option.isNone_none, Option.isNone_some, Nat.reduceBEq, true_or, or_true, false_or, or_false, Nat.reduceLT, Nat.reduceMod, Nat.reducePow, rmaps, nsucc, List.flatten_cons, List.flatten_nil, Nat.reduceEqDiff, Nat.reduceLeDiff, Nat.reduceAdd, Nat.reduceMul, Nat.reduceSub, ↓reduceIte, reduceCtorEq, decide_true, decide_false]
              refine ⟨_, by omega, j + 1, rfl, by omega, ?_⟩
              (repeat' apply And.intro) <;> first | rfl | (rw [wrapS (by omega)]) | omega | assumption | (exact ⟨e8, e9⟩)
            · simp only [e8, e9, hsR, ptsV, List.length_map, ltF hlj, f10, f9, f8, f7, f3, f2, hds, Cd.cd27, Tk.t27, base0, base1, base2, base3, Option.isNone_none, Option.isNone_some, Nat.reduceBEq, true_or, or_true, false_or, or_false, Nat.reduceLT, Nat.reduceMod, Nat.reducePow, rmaps, nsucc, List.flatten_cons, List.flatten_nil, Nat.reduceEqDiff, Nat.reduceLeDiff, Nat.reduceAdd, Nat.reduceMul, Nat.reduceSub, ↓reduceIte, reduceCtorEq, decide_true, decide_false]
              refine ⟨_, by omega, i + 1, rfl, by omega, ?_⟩
              (repeat' apply And.intro) <;> first | rfl | (rw [wrapS (by omega)]) | omega | assumption
        have hi' : i = s.hosts.length := by omega
        subst hi'
        simp only [stL, hssV, List.length_map, ltF hlt, f7, f3, f2, hds, Cd.cd27, Tk.t27, base0, base1, base2, base3, Option.isNone_none, Option.isNone_some, Nat.reduceBEq, true_or, or_true, false_or, or_false, Nat.reduceLT, Nat.reduceMod, Nat.reducePow, rmaps, nsucc, List.flatten_cons, List.flatten_nil, Nat.reduceEqDiff, Nat.reduceLeDiff, Nat.reduceAdd, Nat.reduceMul, Nat.reduceSub, ↓reduceIte, reduceCtorEq, decide_true, decide_false]
        exact fin_v rfl
end Go.Proofs.Ytgmncggiblaciaa

/- Walks: a schedule. -/
namespace Go.Proofs.Ytgmncggiblaciaa
open Go Go.Proofs.Ytgmncggiblaciaa.Ab
set_option maxRecDepth 100000

theorem OwnX.has {B : Nat} {H : AH} {r : Nat} {c : List AV} {s : Stt} {p h : Nat} {aq : AV} {o : List OH} (x : OwnX B H r c s p h aq o) {n : Nat} (hn : NmS p h aq o n) : H.own n ≠ none := by
  rcases hn with rfl | rfl | hn | ⟨y, hy, hn⟩
  · rw [x.st.hp]; simp
  · rw [x.st.hh]; simp
  · rcases x.st.q with ⟨_, rfl | rfl⟩ | ⟨m, rest, rfl, e⟩
    · cases hn
    · cases hn
    · cases hn; rw [e]; simp
  · rcases x.st.m y hy with ⟨_, e | e⟩ | ⟨m, rest, e, e'⟩
    · rw [e] at hn; cases hn
    · rw [e] at hn; cases hn
    · rw [e] at hn; cases hn; rw [e']; simp

theorem RetR.go {P : Program} {m : FuncId} {args : List AV} {H : AH} {R : AH → Prop} {v : AV} {mu : List Nat} {Kt : Kont} {dst : Option Nat} {os : List COp} {f : AF} (h : ACall P m args H (fun out H' => out = .ret v ∧ R H'))
    (k : ∀ H', R H' → cops P mu Kt os (f.put dst v) H') : ACall P m args H (callK P mu Kt dst os f) :=
  h.mono fun out H' ⟨e, h1⟩ => by subst e; exact k H' h1

/-- a run under way, with the acts so far -/
structure Sched (B : Nat) (H : AH) (a b r : Nat) (c : Case) (l : List Ac) (s : Stt) : Prop where
  va : ∃ v, H.own a = some (.cells [v]) ∧ GrowE acR 2 H v l
  vb : H.own b = some (.cells [.ptr r 0])
  st : OwnR B (H.less (· == b)) r c s
  aB : a < B
  ab : a ≠ b
  bn : b < H.next
set_option maxHeartbeats 1000000 in
theorem step53 {B : Nat} {H : AH} {a b r : Nat} {c : Case} {l : List Ac} {s : Stt} (x : Sched B H a b r c l s) (hV : Valid c s) (hl : l.length ≤ 1000) (k n : Int) (ha : actE c s ⟨k, n⟩ = 0) :
    ACall Try.prog 53 [.v (.int .i64 k), .v (.int .i64 n), .ptr a 0, .ptr b 0] H (fun out H' => out = .ret (.tup []) ∧ H.next ≤ H'.next ∧ (∀ m, m < B → m ≠ a → H'.own m = H.own m) ∧ Sched B H' a b r c (l ++ [⟨k, n⟩]) (actS c s ⟨k, n⟩)) := by
  obtain ⟨v, h1, hG⟩ := x.va
  obtain ⟨p, h, aq, o, y⟩ := x.st
  have hbr := y.br
  have hvb := x.vb
  have haB := x.aB; have hab := x.ab; have hbn := x.bn
  have hnb : ∀ m, NmS p h aq o m → m ≠ b := fun m hm e => by
    have := y.has hm; subst e; simp [AH.less] at this
  have hrb : r ≠ b := fun e => by have := y.rb; subst e; simp [AH.less] at this
  have hlt : ∀ m, NmS p h aq o m → B ≤ m ∧ m < H.next := fun m hm => (y.nr m hm).2
  simp only [AH.less] at hbr
  have e1 : (a = H.next) = False := eq_false (by omega)
  have e2 : (b = H.next) = False := eq_false (by omega)
  have e3 : (H.next = a) = False := eq_false (by omega)
  have e4 : (b = a) = False := eq_false (Ne.symm hab)
  refine ACall.enter [] Cd.fn53 (by simp) ?_
  rcases hG with ⟨rfl, rfl⟩ | ⟨t, rfl, ht⟩
  · simp only [h1, hvb, e1, e2, e3, e4, show roomA 16 1 = true from rfl, Cd.cd53, Tk.t53, base0, base1, base2, base3, Option.isNone_none, Option.isNone_some, Nat.reduceBEq, true_or, or_true, false_or, or_false, Nat.reduceLT, Nat.reduceMod, Nat.reducePow, rmaps, nsucc, List.flatten_cons, List.flatten_nil, Nat.reduceEqDiff, Nat.reduceLeDiff, Nat.reduceAdd, Nat.reduceMul, Nat.reduceSub, ↓reduceIte, reduceCtorEq, decide_true, decide_false]
    refine RetR.go (R := fun H' => ∃ H5, (Fr B _ H5 ∧ OwnR B H5 r c (actS c s ⟨k, n⟩)) ∧ H' = H5.plus _ (· == b) ∧ ∀ m, (m == b) = true → _ → H5.own m = none) (((act47 (B := B) (r := r) (s := s) hV ⟨k, n⟩ ⟨p, h, aq, o, ?_, y.st.frame fun m hm => ?_, fun m hm => ?_, ?_, ?_⟩ ha).frame (· == b)).mono fun out H' ⟨H5, ⟨e, h1, h2⟩, h3, h4⟩ => ⟨e, H5, ⟨h1, h2⟩, h3, h4⟩) fun H4 hx => ?_
    · have := y.rb
      simp only [AH.less, beq_iff_eq, hrb, if_false] at this ⊢
      simp [show r ≠ a by omega, show r ≠ H.next by omega, this]
    · have := hlt m hm; have := hnb m hm
      simp [AH.less, this, show m ≠ a by omega, show m ≠ H.next by omega]
    · have := hlt m hm; have := y.nr m hm; simp [AH.less]; omega
    · exact hbr.1
    · simp [AH.less]; omega
    · obtain ⟨H5, ⟨hF, hR⟩, rfl, hno⟩ := hx
      have k4 := hF.own
      have kn := hF.next
      have kt := hF.tip
      simp only [AH.less] at k4 kn kt
      have hb5 := hno b (by simp) (by simp [e4, e2, hvb])
      simp only [Cd.cd53, Tk.t53, base0, base1, base2, base3, Option.isNone_none, Option.isNone_some, Nat.reduceBEq, true_or, or_true, false_or, or_false, Nat.reduceLT, Nat.reduceMod, Nat.reducePow, rmaps, nsucc, List.flatten_cons, List.flatten_nil, Nat.reduceEqDiff, Nat.reduceLeDiff, Nat.reduceAdd, Nat.reduceMul, Nat.reduceSub, ↓reduceIte, reduceCtorEq, decide_true, decide_false]
      refine ⟨by simp [AH.plus]; omega, fun m h1 h2 => ?_, ⟨⟨.lst 2 [[.v (.int .i64 k), .v (.int .i64 n)]] (.live (H.next + 1)), ?_, GrowE.live (by simp [acR]) (by simp [AH.plus, kt])⟩, ?_, ?_, haB, hab, ?_⟩⟩
      · by_cases e : m = b
        · subst e; simp [AH.plus, h2, e2]
        · have := k4 m h1
          simp only [AH.plus, beq_iff_eq, e, if_false]
          rw [this]; simp [h2, e, show m ≠ H.next by omega]
      · have := k4 a haB
        simp only [AH.plus, beq_iff_eq, hab, if_false]
        rw [this]; simp [hab]
      · simp [AH.plus, e4, e2, hvb]
      · obtain ⟨p', h', aq', o', z⟩ := hR
        have hz : ∀ m, NmS p' h' aq' o' m → m ≠ b := fun m hm e => z.has hm (by rw [e]; exact hb5)
        have hzr : r ≠ b := hrb
        refine ⟨p', h', aq', o', ?_, z.st.frame fun m hm => ?_, z.nr, z.br⟩
        · simp [AH.less, AH.plus, hzr]; exact z.rb
        · simp [AH.less, AH.plus, hz m hm]
      · simp [AH.plus]; omega
  · simp only [h1, hvb, e1, e2, e3, e4, ht, List.length_map, room1 (b := 16) (n := l.length) (by omega) (by omega), Cd.cd53, Tk.t53, base0, base1, base2, base3, Option.isNone_none, Option.isNone_some, Nat.reduceBEq, true_or, or_true, false_or, or_false, Nat.reduceLT, Nat.reduceMod, Nat.reducePow, rmaps, nsucc, List.flatten_cons, List.flatten_nil, Nat.reduceEqDiff, Nat.reduceLeDiff, Nat.reduceAdd, Nat.reduceMul, Nat.reduceSub, ↓reduceIte, reduceCtorEq, decide_true, decide_false]
    refine RetR.go (R := fun H' => ∃ H5, (Fr B _ H5 ∧ OwnR B H5 r c (actS c s ⟨k, n⟩)) ∧ H' = H5.plus _ (· == b) ∧ ∀ m, (m == b) = true → _ → H5.own m = none) (((act47 (B := B) (r := r) (s := s) hV ⟨k, n⟩ ⟨p, h, aq, o, ?_, y.st.frame fun m hm => ?_, fun m hm => ?_, ?_, ?_⟩ ha).frame (· == b)).mono fun out H' ⟨H5, ⟨e, h1, h2⟩, h3, h4⟩ => ⟨e, H5, ⟨h1, h2⟩, h3, h4⟩) fun H4 hx => ?_
    · have := y.rb
      simp only [AH.less, beq_iff_eq, hrb, if_false] at this ⊢
      simp [show r ≠ a by omega, show r ≠ H.next by omega, this]
    · have := hlt m hm; have := hnb m hm
      simp [AH.less, this, show m ≠ a by omega, show m ≠ H.next by omega]
    · have := hlt m hm; have := y.nr m hm; simp [AH.less]; omega
    · exact hbr.1
    · simp [AH.less]; omega
    · obtain ⟨H5, ⟨hF, hR⟩, rfl, hno⟩ := hx
      have k4 := hF.own
      have kn := hF.next
      have kt := hF.tip
      simp only [AH.less] at k4 kn kt
      have hb5 := hno b (by simp) (by simp [e4, e2, hvb])
      simp only [Cd.cd53, Tk.t53, base0, base1, base2, base3, Option.isNone_none, Option.isNone_some, Nat.reduceBEq, true_or, or_true, false_or, or_false, Nat.reduceLT, Nat.reduceMod, Nat.reducePow, rmaps, nsucc, List.flatten_cons, List.flatten_nil, Nat.reduceEqDiff, Nat.reduceLeDiff, Nat.reduceAdd, Nat.reduceMul, Nat.reduceSub, ↓reduceIte, reduceCtorEq, decide_true, decide_false]
      refine ⟨by simp [AH.plus]; omega, fun m h1 h2 => ?_, ⟨⟨.lst 2 (l.map acR ++ [[.v (.int .i64 k), .v (.int .i64 n)]]) (.live t), ?_, GrowE.live (by simp [acR]) (by simp [AH.plus, kt])⟩, ?_, ?_, haB, hab, ?_⟩⟩
      · by_cases e : m = b
        · subst e; simp [AH.plus, h2, e2]
        · have := k4 m h1
          simp only [AH.plus, beq_iff_eq, e, if_false]
          rw [this]; simp [h2, e, show m ≠ H.next by omega]
      · have := k4 a haB
        simp only [AH.plus, beq_iff_eq, hab, if_false]
        rw [this]; simp [hab]
      · simp [AH.plus, e4, e2, hvb]
      · obtain ⟨p', h', aq', o', z⟩ := hR
        have hz : ∀ m, NmS p' h' aq' o' m → m ≠ b := fun m hm e => z.has hm (by rw [e]; exact hb5)
        have hzr : r ≠ b := hrb
        refine ⟨p', h', aq', o', ?_, z.st.frame fun m hm => ?_, z.nr, z.br⟩
        · simp [AH.less, AH.plus, hzr]; exact z.rb
        · simp [AH.less, AH.plus, hz m hm]
      · simp [AH.plus]; omega
end Go.Proofs.Ytgmncggiblaciaa

/- Walks: a schedule to a verdict. -/
namespace Go.Proofs.Ytgmncggiblaciaa
open Go Go.Proofs.Ytgmncggiblaciaa.Ab
set_option maxRecDepth 100000

/-- what a schedule to a verdict is -/
def SchedR (c : Case) (v : Int) (out : AV) : Prop :=
  if (checkCase c).2 ≠ 0 then out = .tup [acsV [], .v (.int .i64 (checkCase c).2)] else
  if isVerdict v = false then out = .tup [acsV [], .v (.int .i64 3)] else
  if (v == 4 || v == worstI c.verd) = false then out = .tup [acsV [], .v (.int .i64 23)] else
  ∃ l s, out = .tup [acsV l, .v (.int .i64 0)] ∧ l.length ≤ 60 ∧ Reach c l s ∧ overS s = true ∧ s.v = v
theorem fin_r {H : AH} {a : AV} {l : List Ac} {y : Value} {R : AV → Prop} (hG : GrowE acR 2 H a l) (hr : R (.tup [acsV l, .v y])) : ∃ v v', AOut.ret (.tup [a, .v y]) = .ret v ∧ View H v v' ∧ FZ v' ∧ R v' :=
  ⟨_, _, rfl, Views.tup (Views.cons (hG.view FZs.acR) (Views.cons (FZ.v _).view Views.nil)), FZ.tup (FZs.two (FZ.acsV l) (FZ.v _)), hr⟩

theorem Sched.net {B : Nat} {H : AH} {a b r : Nat} {c : Case} {l : List Ac} {s : Stt} (x : Sched B H a b r c l s) (hn : 0 < s.net.length) :
    ∃ n p h o, H.own r = some (.cells [.v (.int .i64 c.hosts), ints c.place, ints c.verd, .sl 4 p 0 s.placed.length, .v (.int .i64 s.v), .sl 2 h 0 (List.length (α := OH) o), .sl 4 n 0 s.net.length]) := by
  obtain ⟨p, h, aq, o, y⟩ := x.st
  obtain ⟨n, rest, rfl, e⟩ := y.st.q.own hn
  have hrb : r ≠ b := fun e => by have := y.rb; subst e; simp [AH.less] at this
  have := y.rb
  simp only [AH.less, beq_iff_eq, hrb, if_false] at this
  exact ⟨n, p, h, o, by rw [this]; rfl⟩

set_option maxHeartbeats 2000000 in
theorem schedule28 (c : Case) (v : Int) : FCall Try.prog 28 [caseV c, .v (.int .i64 v)] (SchedR c v) := by
  simp only [caseV]
  refine ACall.enter [53] Cd.fn28 (by simp) ?_
  simp only [Cd.cd28, Tk.t28, base0, base1, base2, base3, Option.isNone_none, Option.isNone_some, Nat.reduceBEq, true_or, or_true, false_or, or_false, Nat.reduceLT, Nat.reduceMod, Nat.reducePow, rmaps, nsucc, List.flatten_cons, List.flatten_nil, Nat.reduceEqDiff, Nat.reduceLeDiff, Nat.reduceAdd, Nat.reduceMul, Nat.reduceSub, ↓reduceIte, reduceCtorEq, decide_true, decide_false]
  refine (caseErr41 c).go (FZs.one (FZ.caseV c)) ?_
  by_cases hc : (checkCase c).2 = 0
  rotate_left
  · have hc' : ((checkCase c).2 != 0) = true := by simp [hc]
    simp only [hc', Cd.cd28, Tk.t28, base0, base1, base2, base3, Option.isNone_none, Option.isNone_some, Nat.reduceBEq, true_or, or_true, false_or, or_false, Nat.reduceLT, Nat.reduceMod, Nat.reducePow, rmaps, nsucc, List.flatten_cons, List.flatten_nil, Nat.reduceEqDiff, Nat.reduceLeDiff, Nat.reduceAdd, Nat.reduceMul, Nat.reduceSub, ↓reduceIte, reduceCtorEq, decide_true, decide_false]
    exact fin_r (l := []) GrowE.nil (by unfold SchedR; rw [if_pos hc])
  have hc' : ((checkCase c).2 != 0) = false := by simp [hc]
  have hk := checkCase_ok.mp hc
  have hp1 := hk.p1; have hp6 := hk.p6; have hvl := hk.vl
  simp only [hc', Cd.cd28, Tk.t28, base0, base1, base2, base3, Option.isNone_none, Option.isNone_some, Nat.reduceBEq, true_or, or_true, false_or, or_false, Nat.reduceLT, Nat.reduceMod, Nat.reducePow, rmaps, nsucc, List.flatten_cons, List.flatten_nil, Nat.reduceEqDiff, Nat.reduceLeDiff, Nat.reduceAdd, Nat.reduceMul, Nat.reduceSub, ↓reduceIte, reduceCtorEq, decide_true, decide_false]
  refine (isVerdict51 v).go (FZs.v1 _) ?_
  cases hv : isVerdict v
  · simp only [hv, Cd.cd28, Tk.t28, base0, base1, base2, base3, Option.isNone_none, Option.isNone_some, Nat.reduceBEq, true_or, or_true, false_or, or_false, Nat.reduceLT, Nat.reduceMod, Nat.reducePow, rmaps, nsucc, List.flatten_cons, List.flatten_nil, Nat.reduceEqDiff, Nat.reduceLeDiff, Nat.reduceAdd, Nat.reduceMul, Nat.reduceSub, ↓reduceIte, reduceCtorEq, decide_true, decide_false]
    exact fin_r (l := []) GrowE.nil (by unfold SchedR; rw [if_neg (by simp [hc]), if_pos hv])
  simp only [hv, Cd.cd28, Tk.t28, base0, base1, base2, base3, Option.isNone_none, Option.isNone_some, Nat.reduceBEq, true_or, or_true, false_or, or_false, Nat.reduceLT, Nat.reduceMod, Nat.reducePow, rmaps, nsucc, List.flatten_cons, List.flatten_nil, Nat.reduceEqDiff, Nat.reduceLeDiff, Nat.reduceAdd, Nat.reduceMul, Nat.reduceSub, ↓reduceIte, reduceCtorEq, decide_true, decide_false]
  refine (max52 c.verd (by omega) (by omega) fun x hx => ?_).go (FZs.one (FZ.ints _)) ?_
  · obtain ⟨i, hi, rfl⟩ := List.getElem_of_mem hx
    have := (hk.pl i (by omega)).2.2.1
    rw [List.getD_eq_getElem?_getD, List.getElem?_eq_getElem hi] at this; exact this
  by_cases h4 : v = 4 ∧ worstI c.verd ≠ v
  · have g1 : (v == 4) = true := by simp [h4.1]
    have g2 : (worstI c.verd != v) = true := by simpa using h4.2
    simp only [g1, g2, ints, List.length_map, Cd.cd28, Tk.t28, base0, base1, base2, base3, Option.isNone_none, Option.isNone_some, Nat.reduceBEq, true_or, or_true, false_or, or_false, Nat.reduceLT, Nat.reduceMod, Nat.reducePow, rmaps, nsucc, List.flatten_cons, List.flatten_nil, Nat.reduceEqDiff, Nat.reduceLeDiff, Nat.reduceAdd, Nat.reduceMul, Nat.reduceSub, ↓reduceIte, reduceCtorEq, decide_true, decide_false]
    refine LWP.loop [] (fun m f H' => ∃ i, m = c.place.length - i ∧ (i ≤ c.place.length) ∧ f.t 36 = .v (.int .i64 (i : Nat)) ∧ f.t 35 = .v (.int .i64 (c.place.length : Nat)) ∧ f.t 7 = .ptr AH.none.next 0 ∧ f.ds = [] ∧ ∃ va s, H'.own AH.none.next = some (.cells [va]) ∧ GrowE acR 2 H' va ((List.range i).map fun j : Nat => (⟨7, j⟩ : Ac)) ∧ Reach c ((List.range i).map fun j : Nat => (⟨7, j⟩ : Ac)) s ∧ GivenTo c s i ∧ s.v ≤ 4 ∧ (0 < i → s.v = 4)) ?_ ?_ (m := c.place.length - (0))
    · exact ⟨0, rfl, (by omega), rfl, rfl, rfl, rfl, ⟨_, startS c, rfl, GrowE.nil, Reach.nil, givenTo_start, by simp [startS], fun h => by omega⟩⟩
    · rintro m f H' ⟨i, rfl, hi, f36, f35, f7, hds, ⟨va,s,hva,hG,hr,hg,hvv,hv0⟩⟩
      by_cases hlt : i < c.place.length
      · have hV := hr.valid hk
        obtain ⟨q1, q2⟩ := giveUp_step hV hlt hg
        have hr' := hr.snoc q1
        have hmap : ((List.range (i + 1)).map fun j : Nat => (⟨7, j⟩ : Ac)) = ((List.range i).map fun j : Nat => (⟨7, j⟩ : Ac)) ++ [⟨7, (i : Int)⟩] := by rw [List.range_succ, List.map_append]; rfl
        have hvn : (actS c s ⟨7, i⟩).v ≤ 4 ∧ (actS c s ⟨7, i⟩).v = 4 := by
          rw [act7 rfl]; simp only [takeS]; split <;> omega
        generalize hL : ((List.range i).map fun j : Nat => (⟨7, j⟩ : Ac)) = L at hG hr hr' hmap
        have hLl : L.length = i := by rw [← hL]; simp
        rcases hG with ⟨rfl, rfl⟩ | ⟨t, rfl, ht⟩
        · simp only [ltT hlt, hva, show roomA 16 1 = true from rfl, f36, f35, f7, hds, Cd.cd28, Tk.t28, base0, base1, base2, base3, Option.isNone_none, Option.isNone_some, Nat.reduceBEq, true_or, or_true, false_or, or_false, Nat.reduceLT, Nat.reduceMod, Nat.reducePow, rmaps, nsucc, List.flatten_cons, List.flatten_nil, Nat.reduceEqDiff, Nat.reduceLeDiff, Nat.reduceAdd, Nat.reduceMul, Nat.reduceSub, ↓reduceIte, reduceCtorEq, decide_true, decide_false]
          refine ⟨_, by omega, i + 1, rfl, by omega, ?_⟩
          (repeat' apply And.intro) <;> first | rfl | (rw [wrapS (by omega)]) | omega | assumption | (exact ⟨.lst 2 [[.v (.int .i64 7), .v (.int .i64 (i : Nat))]] (.live H'.next), _, by simp, by rw [hmap]; exact GrowE.live (by simp [acR]) (by simp), by rw [hmap]; exact hr', q2, hvn.1, fun _ => hvn.2⟩)
        · simp only [ltT hlt, hva, ht, List.length_map, room1 (b := 16) (n := L.length) (by omega) (by omega), f36, f35, f7, hds, Cd.cd28, Tk.t28, base0, base1, base2, base3, Option.isNone_none, Option.isNone_some, Nat.reduceBEq, true_or, or_true, false_or, or_false, Nat.reduceLT, Nat.reduceMod, Nat.reducePow, rmaps, nsucc, List.flatten_cons, List.flatten_nil, Nat.reduceEqDiff, Nat.reduceLeDiff, Nat.reduceAdd, Nat.reduceMul, Nat.reduceSub, ↓reduceIte, reduceCtorEq, decide_true, decide_false]
          refine ⟨_, by omega, i + 1, rfl, by omega, ?_⟩
          (repeat' apply And.intro) <;> first | rfl | (rw [wrapS (by omega)]) | omega | assumption | (exact ⟨.lst 2 (L.map acR ++ [[.v (.int .i64 7), .v (.int .i64 (i : Nat))]]) (.live t), _, by simp, by rw [hmap]; exact GrowE.live (by simp [acR]) (by simp), by rw [hmap]; exact hr', q2, hvn.1, fun _ => hvn.2⟩)
      · have hi' : i = c.place.length := by omega
        subst hi'
        simp only [ltF hlt, hva, f36, f35, f7, hds, Cd.cd28, Tk.t28, base0, base1, base2, base3, Option.isNone_none, Option.isNone_some, Nat.reduceBEq, true_or, or_true, false_or, or_false, Nat.reduceLT, Nat.reduceMod, Nat.reducePow, rmaps, nsucc, List.flatten_cons, List.flatten_nil, Nat.reduceEqDiff, Nat.reduceLeDiff, Nat.reduceAdd, Nat.reduceMul, Nat.reduceSub, ↓reduceIte, reduceCtorEq, decide_true, decide_false]
        refine fin_r hG ?_
        unfold SchedR
        rw [if_neg (by simp [hc]), if_neg (by simp [hv]), if_neg (by simp [h4.1])]
        exact ⟨_, s, rfl, by simp; omega, hr, given_over (hr.valid hk) hg, by rw [hv0 (by omega), h4.1]⟩
  · have g0 : (v == 4) = false ∨ ((v == 4) = true ∧ (worstI c.verd != v) = false) := by
      by_cases e : v = 4
      · exact .inr ⟨by simp [e], by
          have : worstI c.verd = v := Classical.byContradiction fun h => h4 ⟨e, h⟩
          simp [this]⟩
      · exact .inl (by simp [e])
    by_cases h5 : v = worstI c.verd
    rotate_left
    · have e : v ≠ 4 := fun e => h4 ⟨e, fun h => h5 h.symm⟩
      have g1 : (v == 4) = false := by simp [e]
      have g2 : (v != worstI c.verd) = true := by simpa using h5
      simp only [g1, g2, Cd.cd28, Tk.t28, base0, base1, base2, base3, Option.isNone_none, Option.isNone_some, Nat.reduceBEq, true_or, or_true, false_or, or_false, Nat.reduceLT, Nat.reduceMod, Nat.reducePow, rmaps, nsucc, List.flatten_cons, List.flatten_nil, Nat.reduceEqDiff, Nat.reduceLeDiff, Nat.reduceAdd, Nat.reduceMul, Nat.reduceSub, ↓reduceIte, reduceCtorEq, decide_true, decide_false]
      exact fin_r (l := []) GrowE.nil (by unfold SchedR; rw [if_neg (by simp [hc]), if_neg (by simp [hv]), if_pos (by simp [e, h5])])
    · have g2 : (v != worstI c.verd) = false := by simpa using h5
      rcases g0 with g0 | ⟨g0, g1⟩
      · simp only [g0, g2, Cd.cd28, Tk.t28, base0, base1, base2, base3, Option.isNone_none, Option.isNone_some, Nat.reduceBEq, true_or, or_true, false_or, or_false, Nat.reduceLT, Nat.reduceMod, Nat.reducePow, rmaps, nsucc, List.flatten_cons, List.flatten_nil, Nat.reduceEqDiff, Nat.reduceLeDiff, Nat.reduceAdd, Nat.reduceMul, Nat.reduceSub, ↓reduceIte, reduceCtorEq, decide_true, decide_false]
        refine DoneV.go' (start42 c hk _) fun cs H1 hF hO => ?_
        obtain ⟨p, h, aq, o, rfl, x0, hnm⟩ := hO
        obtain ⟨t1, n1, k1⟩ := hF
        simp only at t1 n1 k1 hnm
        have hone := one_aq x0.q
        have hcel := cells_aq x0.q
        have k0 := k1 AH.none.next (by omega)
        simp at k0
        simp only [stO]
        obtain ⟨r, hr⟩ : ∃ r, r = H1.next := ⟨_, rfl⟩
        simp only [hone, hcel, ints, List.length_map, Cd.cd28, Tk.t28, base0, base1, base2, base3, Option.isNone_none, Option.isNone_some, Nat.reduceBEq, true_or, or_true, false_or, or_false, Nat.reduceLT, Nat.reduceMod, Nat.reducePow, rmaps, nsucc, List.flatten_cons, List.flatten_nil, Nat.reduceEqDiff, Nat.reduceLeDiff, Nat.reduceAdd, Nat.reduceMul, Nat.reduceSub, ↓reduceIte, reduceCtorEq, decide_true, decide_false]
        refine LWP.loop [53] (fun m f H' => ∃ i, m = c.place.length - i ∧ (i ≤ c.place.length) ∧ f.t 58 = .v (.int .i64 (i : Nat)) ∧ f.t 57 = .v (.int .i64 (c.place.length : Nat)) ∧ f.t 11 = .fn (.func 53) [] [.ptr AH.none.next 0, .ptr (AH.none.next + 1) 0] ∧ f.t 10 = .ptr (AH.none.next + 1) 0 ∧ f.t 7 = .ptr AH.none.next 0 ∧ f.ds = [] ∧ ∃ l s, Sched (AH.none.next + 2) H' AH.none.next (AH.none.next + 1) r c l s ∧ Reach c l s ∧ Seq1 c s i ∧ l.length = 4 * i) ?_ ?_ (m := c.place.length - (0))
        · exact ⟨0, rfl, (by omega), rfl, rfl, rfl, rfl, rfl, rfl, by refine ⟨[], startS c, ⟨⟨_, ?_, GrowE.nil⟩, ?_, ⟨p, h, aq, o, ?_, x0.frame fun m hm => ?_, fun m hm => ?_, ?_, ?_⟩, ?_, ?_, ?_⟩, Reach.nil, seq1_start, rfl⟩ <;> first   | (simp [show AH.none.next ≠ H1.next by omega, k0]; done)   | (simp [hr]; done)   | (simp [AH.less, hr, runL, caseL, stO, ints, show H1.next ≠ AH.none.next + 1 by omega]; done)   | (have := hnm m hm; simp [AH.less, show m ≠ H1.next by omega, show m ≠ AH.none.next + 1 by omega]; done)   | (have := hnm m hm; simp [AH.less]; omega)   | omega   | (simp [AH.less]; omega)   | trace_state⟩
        · rintro m f H' ⟨i, rfl, hi, f58, f57, f11, f10, f7, hds, ⟨l,s,hS,hrc,hq,hll⟩⟩
          by_cases hlt : i < c.place.length
          · have hV := hrc.valid hk
            have hnl := hq.nl
            obtain ⟨a1, b1⟩ := step_ask hV hlt hq
            obtain ⟨a2, b2⟩ := step_create hV hlt hq
            obtain ⟨a3, b3⟩ := step_end hV hlt hq
            obtain ⟨a4, b4⟩ := step_taken hV hlt hq
            have r1 := hrc.snoc a1
            rw [b1] at r1
            have r2 := r1.snoc a2
            rw [b2] at r2
            have r3 := r2.snoc a3
            rw [b3] at r3
            have r4 := r3.snoc a4
            rw [b4] at r4
            simp only [ltT hlt, f58, f57, f11, f10, f7, hds, Cd.cd28, Tk.t28, base0, base1, base2, base3, Option.isNone_none, Option.isNone_some, Nat.reduceBEq, true_or, or_true, false_or, or_false, Nat.reduceLT, Nat.reduceMod, Nat.reducePow, rmaps, nsucc, List.flatten_cons, List.flatten_nil, Nat.reduceEqDiff, Nat.reduceLeDiff, Nat.reduceAdd, Nat.reduceMul, Nat.reduceSub, ↓reduceIte, reduceCtorEq, decide_true, decide_false]
            refine RetR.go (step53 hS hV (by omega) 0 i a1) fun H2 hS1 => ?_
            obtain ⟨_, _, hS1⟩ := hS1
            rw [b1] at hS1
            obtain ⟨n, p, h, o, e1⟩ := hS1.net (by simp [s1])
            have w1 : IntKind.i64.wrap (((s1 c s i).net.length : Nat) - 1) = (s.net.length : Nat) := by rw [wrapI (by simp [s1] <;> omega) (by simp [s1] <;> omega)]; simp [s1]
            simp only [hS1.vb, e1, w1, f58, f57, f11, f10, f7, hds, Cd.cd28, Tk.t28, base0, base1, base2, base3, Option.isNone_none, Option.isNone_some, Nat.reduceBEq, true_or, or_true, false_or, or_false, Nat.reduceLT, Nat.reduceMod, Nat.reducePow, rmaps, nsucc, List.flatten_cons, List.flatten_nil, Nat.reduceEqDiff, Nat.reduceLeDiff, Nat.reduceAdd, Nat.reduceMul, Nat.reduceSub, ↓reduceIte, reduceCtorEq, decide_true, decide_false]
            refine RetR.go (step53 hS1 (r1.valid hk) (by simp; omega) 1 (s.net.length : Nat) a2) fun H3 hS2 => ?_
            obtain ⟨_, _, hS2⟩ := hS2
            rw [b2] at hS2
            simp only [f58, f57, f11, f10, f7, hds, Cd.cd28, Tk.t28, base0, base1, base2, base3, Option.isNone_none, Option.isNone_some, Nat.reduceBEq, true_or, or_true, false_or, or_false, Nat.reduceLT, Nat.reduceMod, Nat.reducePow, rmaps, nsucc, List.flatten_cons, List.flatten_nil, Nat.reduceEqDiff, Nat.reduceLeDiff, Nat.reduceAdd, Nat.reduceMul, Nat.reduceSub, ↓reduceIte, reduceCtorEq, decide_true, decide_false]
            refine RetR.go (step53 hS2 (r2.valid hk) (by simp; omega) 4 i a3) fun H4 hS3 => ?_
            obtain ⟨_, _, hS3⟩ := hS3
            rw [b3] at hS3
            obtain ⟨n', p', h', o', e3⟩ := hS3.net (by simp [s3])
            have w3 : IntKind.i64.wrap (((s3 c s i).net.length : Nat) - 1) = (s.net.length : Nat) + 1 := by rw [wrapI (by simp [s3] <;> omega) (by simp [s3] <;> omega)]; simp [s3] <;> omega
            simp only [hS3.vb, e3, w3, f58, f57, f11, f10, f7, hds, Cd.cd28, Tk.t28, base0, base1, base2, base3, Option.isNone_none, Option.isNone_some, Nat.reduceBEq, true_or, or_true, false_or, or_false, Nat.reduceLT, Nat.reduceMod, Nat.reducePow, rmaps, nsucc, List.flatten_cons, List.flatten_nil, Nat.reduceEqDiff, Nat.reduceLeDiff, Nat.reduceAdd, Nat.reduceMul, Nat.reduceSub, ↓reduceIte, reduceCtorEq, decide_true, decide_false]
            refine RetR.go (step53 hS3 (r3.valid hk) (by simp; omega) 1 ((s.net.length : Nat) + 1) a4) fun H5 hS4 => ?_
            obtain ⟨_, _, hS4⟩ := hS4
            rw [b4] at hS4
            simp only [f58, f57, f11, f10, f7, hds, Cd.cd28, Tk.t28, base0, base1, base2, base3, Option.isNone_none, Option.isNone_some, Nat.reduceBEq, true_or, or_true, false_or, or_false, Nat.reduceLT, Nat.reduceMod, Nat.reducePow, rmaps, nsucc, List.flatten_cons, List.flatten_nil, Nat.reduceEqDiff, Nat.reduceLeDiff, Nat.reduceAdd, Nat.reduceMul, Nat.reduceSub, ↓reduceIte, reduceCtorEq, decide_true, decide_false]
            refine ⟨_, by omega, i + 1, rfl, by omega, ?_⟩
            (repeat' apply And.intro) <;> first | rfl | (rw [wrapS (by omega)]) | omega | assumption | (exact ⟨_, _, hS4, r4, seq1_step hV hlt hq, by simp; omega⟩)
          · have hi' : i = c.place.length := by omega
            subst hi'
            obtain ⟨va, e1, e2⟩ := hS.va
            simp only [ltF hlt, e1, f58, f57, f11, f10, f7, hds, Cd.cd28, Tk.t28, base0, base1, base2, base3, Option.isNone_none, Option.isNone_some, Nat.reduceBEq, true_or, or_true, false_or, or_false, Nat.reduceLT, Nat.reduceMod, Nat.reducePow, rmaps, nsucc, List.flatten_cons, List.flatten_nil, Nat.reduceEqDiff, Nat.reduceLeDiff, Nat.reduceAdd, Nat.reduceMul, Nat.reduceSub, ↓reduceIte, reduceCtorEq, decide_true, decide_false]
            refine fin_r e2 ?_
            unfold SchedR
            obtain ⟨o1, o2⟩ := seq1_over (hrc.valid hk) hq
            rw [if_neg (by simp [hc]), if_neg (by simp [hv]), if_neg (by simp [h5])]
            exact ⟨l, s, rfl, by omega, hrc, o1, by rw [o2, h5]⟩
      · simp only [g0, g1, g2, Cd.cd28, Tk.t28, base0, base1, base2, base3, Option.isNone_none, Option.isNone_some, Nat.reduceBEq, true_or, or_true, false_or, or_false, Nat.reduceLT, Nat.reduceMod, Nat.reducePow, rmaps, nsucc, List.flatten_cons, List.flatten_nil, Nat.reduceEqDiff, Nat.reduceLeDiff, Nat.reduceAdd, Nat.reduceMul, Nat.reduceSub, ↓reduceIte, reduceCtorEq, decide_true, decide_false]
        refine DoneV.go' (start42 c hk _) fun cs H1 hF hO => ?_
        obtain ⟨p, h, aq, o, rfl, x0, hnm⟩ := hO
        obtain ⟨t1, n1, k1⟩ := hF
        simp only at t1 n1 k1 hnm
        have hone := one_aq x0.q
        have hcel := cells_aq x0.q
        have k0 := k1 AH.none.next (by omega)
        simp at k0
        simp only [stO]
        obtain ⟨r, hr⟩ : ∃ r, r = H1.next := ⟨_, rfl⟩
        simp only [hone, hcel, ints, List.length_map, Cd.cd28, Tk.t28, base0, base1, base2, base3, Option.isNone_none, Option.isNone_some, Nat.reduceBEq, true_or, or_true, false_or, or_false, Nat.reduceLT, Nat.reduceMod, Nat.reducePow, rmaps, nsucc, List.flatten_cons, List.flatten_nil, Nat.reduceEqDiff, Nat.reduceLeDiff, Nat.reduceAdd, Nat.reduceMul, Nat.reduceSub, ↓reduceIte, reduceCtorEq, decide_true, decide_false]
        refine LWP.loop [53] (fun m f H' => ∃ i, m = c.place.length - i ∧ (i ≤ c.place.length) ∧ f.t 58 = .v (.int .i64 (i : Nat)) ∧ f.t 57 = .v (.int .i64 (c.place.length : Nat)) ∧ f.t 11 = .fn (.func 53) [] [.ptr AH.none.next 0, .ptr (AH.none.next + 1) 0] ∧ f.t 10 = .ptr (AH.none.next + 1) 0 ∧ f.t 7 = .ptr AH.none.next 0 ∧ f.ds = [] ∧ ∃ l s, Sched (AH.none.next + 2) H' AH.none.next (AH.none.next + 1) r c l s ∧ Reach c l s ∧ Seq1 c s i ∧ l.length = 4 * i) ?_ ?_ (m := c.place.length - (0))
        · exact ⟨0, rfl, (by omega), rfl, rfl, rfl, rfl, rfl, rfl, by refine ⟨[], startS c, ⟨⟨_, ?_, GrowE.nil⟩, ?_, ⟨p, h, aq, o, ?_, x0.frame fun m hm => ?_, fun m hm => ?_, ?_, ?_⟩, ?_, ?_, ?_⟩, Reach.nil, seq1_start, rfl⟩ <;> first   | (simp [show AH.none.next ≠ H1.next by omega, k0]; done)   | (simp [hr]; done)   | (simp [AH.less, hr, runL, caseL, stO, ints, show H1.next ≠ AH.none.next + 1 by omega]; done)   | (have := hnm m hm; simp [AH.less, show m ≠ H1.next by omega, show m ≠ AH.none.next + 1 by omega]; done)   | (have := hnm m hm; simp [AH.less]; omega)   | omega   | (simp [AH.less]; omega)   | trace_state⟩
        · rintro m f H' ⟨i, rfl, hi, f58, f57, f11, f10, f7, hds, ⟨l,s,hS,hrc,hq,hll⟩⟩
          by_cases hlt : i < c.place.length
          · have hV := hrc.valid hk
            have hnl := hq.nl
            obtain ⟨a1, b1⟩ := step_ask hV hlt hq
            obtain ⟨a2, b2⟩ := step_create hV hlt hq
            obtain ⟨a3, b3⟩ := step_end hV hlt hq
            obtain ⟨a4, b4⟩ := step_taken hV hlt hq
            have r1 := hrc.snoc a1
            rw [b1] at r1
            have r2 := r1.snoc a2
            rw [b2] at r2
            have r3 := r2.snoc a3
            rw [b3] at r3
            have r4 := r3.snoc a4
            rw [b4] at r4
            simp only [ltT hlt, f58, f57, f11, f10, f7, hds, Cd.cd28, Tk.t28, base0, base1, base2, base3, Option.isNone_none, Option.isNone_some, Nat.reduceBEq, true_or, or_true, false_or, or_false, Nat.reduceLT, Nat.reduceMod, Nat.reducePow, rmaps, nsucc, List.flatten_cons, List.flatten_nil, Nat.reduceEqDiff, Nat.reduceLeDiff, Nat.reduceAdd, Nat.reduceMul, Nat.reduceSub, ↓reduceIte, reduceCtorEq, decide_true, decide_false]
            refine RetR.go (step53 hS hV (by omega) 0 i a1) fun H2 hS1 => ?_
            obtain ⟨_, _, hS1⟩ := hS1
            rw [b1] at hS1
            obtain ⟨n, p, h, o, e1⟩ := hS1.net (by simp [s1])
            have w1 : IntKind.i64.wrap (((s1 c s i).net.length : Nat) - 1) = (s.net.length : Nat) := by rw [wrapI (by simp [s1] <;> omega) (by simp [s1] <;> omega)]; simp [s1]
            simp only [hS1.vb, e1, w1, f58, f57, f11, f10, f7, hds, Cd.cd28, Tk.t28, base0, base1, base2, base3, Option.isNone_none, Option.isNone_some, Nat.reduceBEq, true_or, or_true, false_or, or_false, Nat.reduceLT, Nat.reduceMod, Nat.reducePow, rmaps, nsucc, List.flatten_cons, List.flatten_nil, Nat.reduceEqDiff, Nat.reduceLeDiff, Nat.reduceAdd, Nat.reduceMul, Nat.reduceSub, ↓reduceIte, reduceCtorEq, decide_true, decide_false]
            refine RetR.go (step53 hS1 (r1.valid hk) (by simp; omega) 1 (s.net.length : Nat) a2) fun H3 hS2 => ?_
            obtain ⟨_, _, hS2⟩ := hS2
            rw [b2] at hS2
            simp only [f58, f57, f11, f10, f7, hds, Cd.cd28, Tk.t28, base0, base1, base2, base3, Option.isNone_none, Option.isNone_some, Nat.reduceBEq, true_or, or_true, false_or, or_false, Nat.reduceLT, Nat.reduceMod, Nat.reducePow, rmaps, nsucc, List.flatten_cons, List.flatten_nil, Nat.reduceEqDiff, Nat.reduceLeDiff, Nat.reduceAdd, Nat.reduceMul, Nat.reduceSub, ↓reduceIte, reduceCtorEq, decide_true, decide_false]
            refine RetR.go (step53 hS2 (r2.valid hk) (by simp; omega) 4 i a3) fun H4 hS3 => ?_
            obtain ⟨_, _, hS3⟩ := hS3
            rw [b3] at hS3
            obtain ⟨n', p', h', o', e3⟩ := hS3.net (by simp [s3])
            have w3 : IntKind.i64.wrap (((s3 c s i).net.length : Nat) - 1) = (s.net.length : Nat) + 1 := by rw [wrapI (by simp [s3] <;> omega) (by simp [s3] <;> omega)]; simp [s3] <;> omega
            simp only [hS3.vb, e3, w3, f58, f57, f11, f10, f7, hds, Cd.cd28, Tk.t28, base0, base1, base2, base3, Option.isNone_none, Option.isNone_some, Nat.reduceBEq, true_or, or_true, false_or, or_false, Nat.reduceLT, Nat.reduceMod, Nat.reducePow, rmaps, nsucc, List.flatten_cons, List.flatten_nil, Nat.reduceEqDiff, Nat.reduceLeDiff, Nat.reduceAdd, Nat.reduceMul, Nat.reduceSub, ↓reduceIte, reduceCtorEq, decide_true, decide_false]
            refine RetR.go (step53 hS3 (r3.valid hk) (by simp; omega) 1 ((s.net.length : Nat) + 1) a4) fun H5 hS4 => ?_
            obtain ⟨_, _, hS4⟩ := hS4
            rw [b4] at hS4
            simp only [f58, f57, f11, f10, f7, hds, Cd.cd28, Tk.t28, base0, base1, base2, base3, Option.isNone_none, Option.isNone_some, Nat.reduceBEq, true_or, or_true, false_or, or_false, Nat.reduceLT, Nat.reduceMod, Nat.reducePow, rmaps, nsucc, List.flatten_cons, List.flatten_nil, Nat.reduceEqDiff, Nat.reduceLeDiff, Nat.reduceAdd, Nat.reduceMul, Nat.reduceSub, ↓reduceIte, reduceCtorEq, decide_true, decide_false]
            refine ⟨_, by omega, i + 1, rfl, by omega, ?_⟩
            (repeat' apply And.intro) <;> first | rfl | (rw [wrapS (by omega)]) | omega | assumption | (exact ⟨_, _, hS4, r4, seq1_step hV hlt hq, by simp; omega⟩)
          · have hi' : i = c.place.length := by omega
            subst hi'
            obtain ⟨va, e1, e2⟩ := hS.va
            simp only [ltF hlt, e1, f58, f57, f11, f10, f7, hds, Cd.cd28, Tk.t28, base0, base1, base2, base3, Option.isNone_none, Option.isNone_some, Nat.reduceBEq, true_or, or_true, false_or, or_false, Nat.reduceLT, Nat.reduceMod, Nat.reducePow, rmaps, nsucc, List.flatten_cons, List.flatten_nil, Nat.reduceEqDiff, Nat.reduceLeDiff, Nat.reduceAdd, Nat.reduceMul, Nat.reduceSub, ↓reduceIte, reduceCtorEq, decide_true, decide_false]
            refine fin_r e2 ?_
            unfold SchedR
            obtain ⟨o1, o2⟩ := seq1_over (hrc.valid hk) hq
            rw [if_neg (by simp [hc]), if_neg (by simp [hv]), if_neg (by simp [h5])]
            exact ⟨l, s, rfl, by omega, hrc, o1, by rw [o2, h5]⟩
end Go.Proofs.Ytgmncggiblaciaa

/- Walks: the tests that hold the laws awake. -/
namespace Go.Proofs.Ytgmncggiblaciaa
open Go Go.Proofs.Ytgmncggiblaciaa.Ab
set_option maxRecDepth 100000

theorem VR.untip {g : G} {k : Nat} {rows : List (List AV)} {tip : Tip} {x : Value} (h : VR g (.lst k rows tip) x) : VR g (.lst k rows .unk) x := by
  cases h with
  | lst q1 q2 q3 q4 q5 q6 q7 q8 => exact .lst q1 q2 q3 q4 q5 q6 q7 trivial
theorem FCall.untip {P : Program} {m : FuncId} {a : AV} {k : Nat} {rows : List (List AV)} {tip : Tip} {R : AV → Prop} (h : FCall P m [a, .lst k rows .unk] R) : FCall P m [a, .lst k rows tip] R :=
  ⟨h.1, fun g xs w hw hx => h.2 g xs w hw ⟨hx.1, fun j hj => by
    have := hx.2 j hj
    match j, hj with
    | 0, _ => exact this
    | 1, _ => exact VR.untip this⟩⟩

def one : Case := ⟨1, [0], [1]⟩
def oneL : List Ac := [⟨0, 0⟩, ⟨1, 0⟩, ⟨4, 0⟩, ⟨1, 1⟩]
def oneS : Stt := (runOf one oneL).1
theorem one_run : runOf one oneL = (oneS, 4, 0) := by decide +kernel
theorem one_s : oneS.v = 1 ∧ oneS.net.length = 2 ∧ (checkState one oneS).2 = 0 ∧ overS oneS = true := by decide +kernel
theorem one_small : SmallS oneS := ((checkState_ok (c := one)).mp one_s.2.2.1).small
theorem one_ok : (checkCase one).2 = 0 := by decide +kernel
theorem one_v : isVerdict 3 = true ∧ isVerdict 1 = true ∧ worstI one.verd = 1 := by decide +kernel
theorem acRow_fz {l : List Ac} {r : List AV} (h : r ∈ l.map acR) : FZs r := by
  obtain ⟨x, _, rfl⟩ := List.mem_map.mp h; exact FZs.acR x
set_option maxHeartbeats 1000000 in
theorem awake23 : FCall Try.prog 23 [] (· = .v (.bool true)) := by
  refine ACall.enter [] Cd.fn23 (by simp) ?_
  simp only [Cd.cd23, Tk.t23, base0, base1, base2, base3, Option.isNone_none, Option.isNone_some, Nat.reduceBEq, true_or, or_true, false_or, or_false, Nat.reduceLT, Nat.reduceMod, Nat.reducePow, rmaps, nsucc, List.flatten_cons, List.flatten_nil, Nat.reduceEqDiff, Nat.reduceLeDiff, Nat.reduceAdd, Nat.reduceMul, Nat.reduceSub, ↓reduceIte, reduceCtorEq, decide_true, decide_false]
  refine (single39).go FZs.nil ?_
  simp only [Cd.cd23, Tk.t23, base0, base1, base2, base3, Option.isNone_none, Option.isNone_some, Nat.reduceBEq, true_or, or_true, false_or, or_false, Nat.reduceLT, Nat.reduceMod, Nat.reducePow, rmaps, nsucc, List.flatten_cons, List.flatten_nil, Nat.reduceEqDiff, Nat.reduceLeDiff, Nat.reduceAdd, Nat.reduceMul, Nat.reduceSub, ↓reduceIte, reduceCtorEq, decide_true, decide_false]
  refine (FCall.untip (runOf25 one oneL (by decide))).go (FZs.two (FZ.caseV _) (FZ.lst rfl fun r hr => acRow_fz (l := oneL) (by simpa [oneL, acR] using hr))) ?_
  rw [one_run]
  simp only [runV, stV, stL, plsV, hssV, pksV]
  simp only [Cd.cd23, Tk.t23, base0, base1, base2, base3, Option.isNone_none, Option.isNone_some, Nat.reduceBEq, true_or, or_true, false_or, or_false, Nat.reduceLT, Nat.reduceMod, Nat.reducePow, rmaps, nsucc, List.flatten_cons, List.flatten_nil, Nat.reduceEqDiff, Nat.reduceLeDiff, Nat.reduceAdd, Nat.reduceMul, Nat.reduceSub, ↓reduceIte, reduceCtorEq, decide_true, decide_false]
  refine single39.goQ FZs.nil ?_
  simp only [Cd.cd23, Tk.t23, base0, base1, base2, base3, Option.isNone_none, Option.isNone_some, Nat.reduceBEq, true_or, or_true, false_or, or_false, Nat.reduceLT, Nat.reduceMod, Nat.reducePow, rmaps, nsucc, List.flatten_cons, List.flatten_nil, Nat.reduceEqDiff, Nat.reduceLeDiff, Nat.reduceAdd, Nat.reduceMul, Nat.reduceSub, ↓reduceIte, reduceCtorEq, decide_true, decide_false]
  refine (isOver18 one oneS ⟨by decide, by decide⟩ one_small).go' (FZs.two (FZ.caseV _) (FZ.stV _)) ?_
  obtain ⟨e1, e2, e3, e4⟩ := one_s
  rw [e3, e4]
  simp only [Cd.cd23, Tk.t23, base0, base1, base2, base3, Option.isNone_none, Option.isNone_some, Nat.reduceBEq, true_or, or_true, false_or, or_false, Nat.reduceLT, Nat.reduceMod, Nat.reducePow, rmaps, nsucc, List.flatten_cons, List.flatten_nil, Nat.reduceEqDiff, Nat.reduceLeDiff, Nat.reduceAdd, Nat.reduceMul, Nat.reduceSub, ↓reduceIte, reduceCtorEq, decide_true, decide_false]
  refine single39.go FZs.nil ?_
  simp only [Cd.cd23, Tk.t23, base0, base1, base2, base3, Option.isNone_none, Option.isNone_some, Nat.reduceBEq, true_or, or_true, false_or, or_false, Nat.reduceLT, Nat.reduceMod, Nat.reducePow, rmaps, nsucc, List.flatten_cons, List.flatten_nil, Nat.reduceEqDiff, Nat.reduceLeDiff, Nat.reduceAdd, Nat.reduceMul, Nat.reduceSub, ↓reduceIte, reduceCtorEq, decide_true, decide_false]
  refine (schedule28 one 3).some (FZs.two (FZ.caseV _) (FZ.v _)) fun v hz hr => ?_
  unfold SchedR at hr
  obtain ⟨f1, f2, f3⟩ := one_v
  rw [if_neg (by simp [one_ok]), if_neg (by simp [f1]), if_pos (by rw [f3]; rfl)] at hr
  subst hr
  generalize oneS = s0 at e1 e2 ⊢
  simp (maxSteps := 2000000) only [acsV, e1, e2, List.length_map, Cd.cd23, Tk.t23, base0, base1, base2, base3, Option.isNone_none, Option.isNone_some, Nat.reduceBEq, true_or, or_true, false_or, or_false, Nat.reduceLT, Nat.reduceMod, Nat.reducePow, rmaps, nsucc, List.flatten_cons, List.flatten_nil, Nat.reduceEqDiff, Nat.reduceLeDiff, Nat.reduceAdd, Nat.reduceMul, Nat.reduceSub, ↓reduceIte, reduceCtorEq, decide_true, decide_false]
  exact fin_v rfl

end Go.Proofs.Ytgmncggiblaciaa

/- Walks: a useful act, a component that is tried. -/
namespace Go.Proofs.Ytgmncggiblaciaa
open Go Go.Proofs.Ytgmncggiblaciaa.Ab
set_option maxRecDepth 100000

def usefulK : List Int := [1, 4, 5, 0]
def UsefulR (l : List Ac) (out : AV) : Prop := (∃ a ∈ l, a.kind ∈ usefulK ∧ out = .tup [acV a, .v (.bool true)]) ∨ ((∀ a ∈ l, a.kind ∉ usefulK) ∧ out = .tup [acV ⟨0, 0⟩, .v (.bool false)])
end Go.Proofs.Ytgmncggiblaciaa

/- Walks: the law that hosts come to the same verdict. -/
namespace Go.Proofs.Ytgmncggiblaciaa
open Go Go.Proofs.Ytgmncggiblaciaa.Ab
set_option maxRecDepth 100000


theorem NewS.fc {m : FuncId} {args : List AV} {s : Stt} (h : ACall Try.prog m args AH.none (fun out H' => ∃ cs, out = .ret (.agg cs) ∧ NewS AH.none s cs H')) : FCall Try.prog m args (· = stV s) :=
  h.mono fun out H' hx => by
    obtain ⟨cs, rfl, hn⟩ := hx
    obtain ⟨p, h, aq, o, rfl, x, _⟩ := hn.ex
    exact ⟨_, _, rfl, stV_view x, FZ.stV _, rfl⟩
theorem own17f {c : Case} {s : Stt} (h : Valid c s) : FCall Try.prog 17 [stV s] (· = stV s) :=
  NewS.fc (own17 s AH.none h.small (by have := h.lp; have := h.ok.p1; omega) (by have := h.lh; have := h.ok.h1; omega))
theorem CaseOk.small {c : Case} (h : CaseOk c) : SmallC c := ⟨by have := h.p6; omega, by have := h.p6; have := h.vl; omega⟩

end Go.Proofs.Ytgmncggiblaciaa

/- Walks: the law that a case can end and that nothing is done twice. -/
namespace Go.Proofs.Ytgmncggiblaciaa
open Go Go.Proofs.Ytgmncggiblaciaa.Ab
set_option maxRecDepth 100000

theorem possible7 {c : Case} {s : Stt} {i : Nat} (hi : i < c.place.length) : isPossible c s ⟨7, (i : Nat)⟩ = !(s.placed.getD i default).tk := by
  have e : within ((i : Nat) : Int) 0 ((c.place.length : Int) - 1) = true := by rw [within_iff]; omega
  unfold isPossible
  simp only [e, Int.toNat_natCast]
  rfl
theorem actE7 {c : Case} {s : Stt} {i : Nat} (hi : i < c.place.length) : actE c s ⟨7, (i : Nat)⟩ = if (s.placed.getD i default).tk then 28 else 0 := by
  unfold actE
  rw [possible7 hi]
  cases (s.placed.getD i default).tk <;> rfl
theorem give_tk {c : Case} {s : Stt} {i : Nat} (hi : i < s.placed.length) : ((actS c s ⟨7, (i : Nat)⟩).placed.getD i default).tk = true := by
  have : ∀ x : Pl, (s.placed.set i x).getD i default = x := fun x => by rw [getD_set hi, if_pos rfl]
  exact congrArg Pl.tk (this _)
theorem sendP_pre (l : List Pk) (p : Pk) : ∃ r, sendP l p = l ++ r := by
  unfold sendP; split
  · exact ⟨_, rfl⟩
  · exact ⟨[], by simp⟩
theorem deliver_net (c : Case) (s : Stt) (p : Pk) : ∃ r, (deliverS c s p).net = s.net ++ r := by
  have z : ∃ r, s.net = s.net ++ r := ⟨[], by simp⟩
  unfold deliverS
  dsimp only
  split
  · split
    · exact z
    · cases partAt c s p.part <;> exact sendP_pre _ _
  split
  · exact z
  split
  · split <;> exact sendP_pre _ _
  split
  · cases partAt c s p.part with
    | none => exact z
    | some k => simp only; split; · exact z
                split <;> exact z
  · exact z
theorem twice {c : Case} {s : Stt} (h : Valid c s) {n : Int} (h0 : 0 ≤ n) (h1 : n < s.net.length) (h2 : s.net.length ≤ 10) :
    ∃ once two a b, actE c s ⟨1, n⟩ = 0 ∧ actS c s ⟨1, n⟩ = once ∧ actE c s ⟨3, n⟩ = 0 ∧ actS c s ⟨3, n⟩ = two ∧ two.net.length = s.net.length + 1 ∧
      actE c two ⟨1, (s.net.length : Int)⟩ = 0 ∧ actS c two ⟨1, (s.net.length : Int)⟩ = a ∧ actE c a ⟨1, n⟩ = 0 ∧ actS c a ⟨1, n⟩ = b ∧ bare once = bare b := by
  have hn : n.toNat < s.net.length := by omega
  have hp : PkOk c (s.net.getD n.toNat default) := h.nt _ (getD_mem hn)
  have e3 : actS c s ⟨3, n⟩ = { s with net := s.net ++ [s.net.getD n.toNat default] } := by
    show ({ s with net := sendP s.net (s.net.getD n.toNat default) } : Stt) = _
    unfold sendP; rw [if_pos (by omega)]
  have ea : actS c { s with net := s.net ++ [s.net.getD n.toNat default] } ⟨1, (s.net.length : Int)⟩ = deliverS c s (s.net.getD n.toNat default) := by
    show deliverS c { s with net := (s.net ++ [s.net.getD n.toNat default]).eraseIdx (s.net.length : Int).toNat } ((s.net ++ [s.net.getD n.toNat default]).getD (s.net.length : Int).toNat default) = _
    rw [Int.toNat_natCast, erase_last, getD_last]
  obtain ⟨r, hr⟩ := deliver_net c s (s.net.getD n.toNat default)
  have eb : (deliverS c s (s.net.getD n.toNat default)).net.getD n.toNat default = s.net.getD n.toNat default := by
    rw [hr, List.getD_eq_getElem?_getD, List.getElem?_append_left hn, ← List.getD_eq_getElem?_getD]
  have hlen : s.net.length ≤ (deliverS c s (s.net.getD n.toNat default)).net.length := by rw [hr]; simp
  refine ⟨_, _, _, _, actE_mk (by omega) (by rw [possible1, within_iff]; omega), rfl, ?_, e3, by simp, actE_mk (by omega) ?_, ea, actE_mk (by omega) ?_, rfl, ?_⟩
  · refine actE_mk (by omega) ?_
    show (within n 0 ((s.net.length : Int) - 1) && decide ((s.net.length : Int) < 12)) = true
    rw [show within n 0 ((s.net.length : Int) - 1) = true from by rw [within_iff]; omega, decide_eq_true (by omega)]; rfl
  · rw [possible1, within_iff]; simp <;> omega
  · rw [possible1, within_iff]; omega
  · show bare (deliverS c { s with net := s.net.eraseIdx n.toNat } (s.net.getD n.toNat default)) = bare (deliverS c { deliverS c s (s.net.getD n.toNat default) with net := _ } ((deliverS c s (s.net.getD n.toNat default)).net.getD n.toNat default))
    rw [eb, bare_deliver, deliver_twice h hp]

theorem bare_view {H : AH} (s : Stt) : View H (.agg [plsV s.placed, .v (.int .i64 s.v), hssV s.hosts, .v (.slice none 0 0)]) (stV (bare s)) :=
  Views.agg (Views.cons (FZ.plsV _).view (Views.cons (FZ.v _).view (Views.cons (FZ.hssV _).view (Views.cons (View.nil _) Views.nil))))

set_option maxHeartbeats 4000000 in
theorem law7 (c : Case) (s : Stt) (n : Int) : FCall Try.prog 7 [caseV c, stV s, .v (.int .i64 n)] (· = .v (.bool true)) := by
  simp only [caseV, stV, stL, plsV, hssV, pksV]
  refine ACall.enter [] Cd.fn7 (by simp) ?_
  simp only [Cd.cd7, Tk.t7, base0, base1, base2, base3, Option.isNone_none, Option.isNone_some, Nat.reduceBEq, true_or, or_true, false_or, or_false, Nat.reduceLT, Nat.reduceMod, Nat.reducePow, rmaps, nsucc, List.flatten_cons, List.flatten_nil, Nat.reduceEqDiff, Nat.reduceLeDiff, Nat.reduceAdd, Nat.reduceMul, Nat.reduceSub, ↓reduceIte, reduceCtorEq, decide_true, decide_false]
  refine awake23.go FZs.nil ?_
  simp only [Cd.cd7, Tk.t7, base0, base1, base2, base3, Option.isNone_none, Option.isNone_some, Nat.reduceBEq, true_or, or_true, false_or, or_false, Nat.reduceLT, Nat.reduceMod, Nat.reducePow, rmaps, nsucc, List.flatten_cons, List.flatten_nil, Nat.reduceEqDiff, Nat.reduceLeDiff, Nat.reduceAdd, Nat.reduceMul, Nat.reduceSub, ↓reduceIte, reduceCtorEq, decide_true, decide_false]
  refine (small24 c s).go (FZs.two (FZ.caseV c) (FZ.stV s)) ?_
  cases hsm : smallB c s
  · simp only [Cd.cd7, Tk.t7, base0, base1, base2, base3, Option.isNone_none, Option.isNone_some, Nat.reduceBEq, true_or, or_true, false_or, or_false, Nat.reduceLT, Nat.reduceMod, Nat.reducePow, rmaps, nsucc, List.flatten_cons, List.flatten_nil, Nat.reduceEqDiff, Nat.reduceLeDiff, Nat.reduceAdd, Nat.reduceMul, Nat.reduceSub, ↓reduceIte, reduceCtorEq, decide_true, decide_false]
    exact fin_v rfl
  obtain ⟨hc, hs⟩ := smallB_ok hsm
  simp only [Cd.cd7, Tk.t7, base0, base1, base2, base3, Option.isNone_none, Option.isNone_some, Nat.reduceBEq, true_or, or_true, false_or, or_false, Nat.reduceLT, Nat.reduceMod, Nat.reducePow, rmaps, nsucc, List.flatten_cons, List.flatten_nil, Nat.reduceEqDiff, Nat.reduceLeDiff, Nat.reduceAdd, Nat.reduceMul, Nat.reduceSub, ↓reduceIte, reduceCtorEq, decide_true, decide_false]
  refine (stateErr15 c s hc hs).go (FZs.two (FZ.caseV c) (FZ.stV s)) ?_
  by_cases he : (checkState c s).2 = 0
  rotate_left
  · simp only [show ((checkState c s).2 != 0) = true from by simp [he], Cd.cd7, Tk.t7, base0, base1, base2, base3, Option.isNone_none, Option.isNone_some, Nat.reduceBEq, true_or, or_true, false_or, or_false, Nat.reduceLT, Nat.reduceMod, Nat.reducePow, rmaps, nsucc, List.flatten_cons, List.flatten_nil, Nat.reduceEqDiff, Nat.reduceLeDiff, Nat.reduceAdd, Nat.reduceMul, Nat.reduceSub, ↓reduceIte, reduceCtorEq, decide_true, decide_false]
    exact fin_v rfl
  have hV := checkState_ok.mp he
  have hlp := hV.lp
  have hk := hV.ok
  have hp6 := hk.p6
  have z0 : ((0 : Int) != 0) = false := rfl
  rw [he]
  simp only [z0, Cd.cd7, Tk.t7, base0, base1, base2, base3, Option.isNone_none, Option.isNone_some, Nat.reduceBEq, true_or, or_true, false_or, or_false, Nat.reduceLT, Nat.reduceMod, Nat.reducePow, rmaps, nsucc, List.flatten_cons, List.flatten_nil, Nat.reduceEqDiff, Nat.reduceLeDiff, Nat.reduceAdd, Nat.reduceMul, Nat.reduceSub, ↓reduceIte, reduceCtorEq, decide_true, decide_false]
  refine LWP.loop [] (fun m f H' => ∃ i, m = s.placed.length - i ∧ (i ≤ s.placed.length) ∧ f.t 7 = .v (.int .i64 (i : Nat)) ∧ f.t 2 = .v (.int .i64 n) ∧ f.t 3 = .box [.v (.int .i64 c.hosts), ints c.place, ints c.verd] ∧ f.t 4 = .box (stL s) ∧ f.ds = [] ∧ True) ?_ ?_ (m := s.placed.length - (0))
  · exact ⟨0, rfl, (by omega), rfl, rfl, rfl, rfl, rfl, trivial⟩
  · rintro m f H' ⟨i, rfl, hi, f7, f2, f3, f4, hds, hw⟩
    simp only [stL, plsV, hssV, pksV] at f4
    by_cases hlt : i < s.placed.length
    · simp only [ltT hlt, List.length_map, f7, f2, f3, f4, hds, Cd.cd7, Tk.t7, base0, base1, base2, base3, Option.isNone_none, Option.isNone_some, Nat.reduceBEq, true_or, or_true, false_or, or_false, Nat.reduceLT, Nat.reduceMod, Nat.reducePow, rmaps, nsucc, List.flatten_cons, List.flatten_nil, Nat.reduceEqDiff, Nat.reduceLeDiff, Nat.reduceAdd, Nat.reduceMul, Nat.reduceSub, ↓reduceIte, reduceCtorEq, decide_true, decide_false]
      first | refine FCall.go (ownCase13 c hc.p hc.v) (FZs.one (FZ.caseV c)) ?_ | refine FCall.go' (ownCase13 c hc.p hc.v) (FZs.one (FZ.caseV c)) ?_ | refine FCall.goQ (ownCase13 c hc.p hc.v) (FZs.one (FZ.caseV c)) ?_
      simp only [caseV]
      simp only [f7, f2, f3, f4, hds, Cd.cd7, Tk.t7, base0, base1, base2, base3, Option.isNone_none, Option.isNone_some, Nat.reduceBEq, true_or, or_true, false_or, or_false, Nat.reduceLT, Nat.reduceMod, Nat.reducePow, rmaps, nsucc, List.flatten_cons, List.flatten_nil, Nat.reduceEqDiff, Nat.reduceLeDiff, Nat.reduceAdd, Nat.reduceMul, Nat.reduceSub, ↓reduceIte, reduceCtorEq, decide_true, decide_false]
      first | refine FCall.go (own17f hV) (FZs.one (FZ.stV s)) ?_ | refine FCall.go' (own17f hV) (FZs.one (FZ.stV s)) ?_ | refine FCall.goQ (own17f hV) (FZs.one (FZ.stV s)) ?_
      simp only [stV, stL, plsV, hssV, pksV]
      simp only [f7, f2, f3, f4, hds, Cd.cd7, Tk.t7, base0, base1, base2, base3, Option.isNone_none, Option.isNone_some, Nat.reduceBEq, true_or, or_true, false_or, or_false, Nat.reduceLT, Nat.reduceMod, Nat.reducePow, rmaps, nsucc, List.flatten_cons, List.flatten_nil, Nat.reduceEqDiff, Nat.reduceLeDiff, Nat.reduceAdd, Nat.reduceMul, Nat.reduceSub, ↓reduceIte, reduceCtorEq, decide_true, decide_false]
      first | refine FCall.go (acted16 c s ⟨7, (i : Nat)⟩ hc hs) (FZs.three (FZ.caseV c) (FZ.stV s) (FZ.acV ⟨7, (i : Nat)⟩)) ?_ | refine FCall.go' (acted16 c s ⟨7, (i : Nat)⟩ hc hs) (FZs.three (FZ.caseV c) (FZ.stV s) (FZ.acV ⟨7, (i : Nat)⟩)) ?_ | refine FCall.goQ (acted16 c s ⟨7, (i : Nat)⟩ hc hs) (FZs.three (FZ.caseV c) (FZ.stV s) (FZ.acV ⟨7, (i : Nat)⟩)) ?_
      rw [actE7 (by omega), he]
      cases htk : (s.placed.getD i default).tk
      · rw [if_pos ⟨rfl, rfl⟩]
        have ha : actE c s ⟨7, (i : Nat)⟩ = 0 := by rw [actE7 (by omega), htk]; rfl
        have hst := PStep.act hV ha
        have hlen := hst.len
        have h4 := given_v (hV.act ha) (given7 hV ha rfl)
        have ht := give_tk (c := c) hlt
        generalize actS c s ⟨7, (i : Nat)⟩ = s' at hlen h4 ht
        have hlt' : i < s'.placed.length := by omega
        simp only [stV, stL, plsV, hssV, pksV]
        simp only [z0, List.length_map, inR hlt, inR hlt', Int.toNat_natCast, getD_map plR _ _ hlt, getD_map plR _ _ hlt', plR, htk, ht, h4, hlen, bne_self_eq_false, f7, f2, f3, f4, hds, Cd.cd7, Tk.t7, base0, base1, base2, base3, Option.isNone_none, Option.isNone_some, Nat.reduceBEq, true_or, or_true, false_or, or_false, Nat.reduceLT, Nat.reduceMod, Nat.reducePow, rmaps, nsucc, List.flatten_cons, List.flatten_nil, Nat.reduceEqDiff, Nat.reduceLeDiff, Nat.reduceAdd, Nat.reduceMul, Nat.reduceSub, ↓reduceIte, reduceCtorEq, decide_true, decide_false]
        refine ⟨_, by omega, i + 1, rfl, by omega, ?_⟩
        (repeat' apply And.intro) <;> first | rfl | (rw [wrapS (by omega)]) | omega | assumption | (trivial)
      · rw [if_neg (by simp), if_pos rfl, if_pos rfl]
        simp only [stV, stL, plsV, hssV, pksV]
        simp only [List.length_map, inR hlt, Int.toNat_natCast, getD_map plR _ _ hlt, plR, htk, bne_self_eq_false, f7, f2, f3, f4, hds, Cd.cd7, Tk.t7, base0, base1, base2, base3, Option.isNone_none, Option.isNone_some, Nat.reduceBEq, true_or, or_true, false_or, or_false, Nat.reduceLT, Nat.reduceMod, Nat.reducePow, rmaps, nsucc, List.flatten_cons, List.flatten_nil, Nat.reduceEqDiff, Nat.reduceLeDiff, Nat.reduceAdd, Nat.reduceMul, Nat.reduceSub, ↓reduceIte, reduceCtorEq, decide_true, decide_false]
        refine ⟨_, by omega, i + 1, rfl, by omega, ?_⟩
        (repeat' apply And.intro) <;> first | rfl | (rw [wrapS (by omega)]) | omega | assumption | (trivial)
    · simp only [ltF hlt, List.length_map, f7, f2, f3, f4, hds, Cd.cd7, Tk.t7, base0, base1, base2, base3, Option.isNone_none, Option.isNone_some, Nat.reduceBEq, true_or, or_true, false_or, or_false, Nat.reduceLT, Nat.reduceMod, Nat.reducePow, rmaps, nsucc, List.flatten_cons, List.flatten_nil, Nat.reduceEqDiff, Nat.reduceLeDiff, Nat.reduceAdd, Nat.reduceMul, Nat.reduceSub, ↓reduceIte, reduceCtorEq, decide_true, decide_false]
      refine (within29 _ _ _).go (FZs.v3 _ _ _) ?_
      have hln := hV.ln
      have e0 : IntKind.i64.wrap ((s.net.length : Int) - 1) = (s.net.length : Int) - 1 := wrapI (by omega) (by omega)
      have e1 : IntKind.i64.wrap ((s.net.length : Int) + 1) = ((s.net.length + 1 : Nat) : Int) := by rw [wrapS (by omega)]
      by_cases hw : within n 0 ((s.net.length : Int) - 1) = true
      rotate_left
      · simp only [List.length_map, e0, hw, f7, f2, f3, f4, hds, Cd.cd7, Tk.t7, base0, base1, base2, base3, Option.isNone_none, Option.isNone_some, Nat.reduceBEq, true_or, or_true, false_or, or_false, Nat.reduceLT, Nat.reduceMod, Nat.reducePow, rmaps, nsucc, List.flatten_cons, List.flatten_nil, Nat.reduceEqDiff, Nat.reduceLeDiff, Nat.reduceAdd, Nat.reduceMul, Nat.reduceSub, ↓reduceIte, reduceCtorEq, decide_true, decide_false]
        exact fin_v rfl
      by_cases hl : s.net.length ≤ 10
      rotate_left
      · simp only [List.length_map, e0, hw, show decide (((s.net.length : Nat) : Int) > 10) = true from decide_eq_true (by omega), f7, f2, f3, f4, hds, Cd.cd7, Tk.t7, base0, base1, base2, base3, Option.isNone_none, Option.isNone_some, Nat.reduceBEq, true_or, or_true, false_or, or_false, Nat.reduceLT, Nat.reduceMod, Nat.reducePow, rmaps, nsucc, List.flatten_cons, List.flatten_nil, Nat.reduceEqDiff, Nat.reduceLeDiff, Nat.reduceAdd, Nat.reduceMul, Nat.reduceSub, ↓reduceIte, reduceCtorEq, decide_true, decide_false]
        exact fin_v rfl
      rw [within_iff] at hw
      obtain ⟨once, two, a, b, q1, rfl, q3, r3, q5, q6, r6, q8, rfl, hbare⟩ := twice hV hw.1 (by omega) hl
      have hw' : within n 0 ((s.net.length : Int) - 1) = true := within_iff.mpr hw
      have hV2 : Valid c two := r3 ▸ hV.act q3
      have hV3 : Valid c a := r6 ▸ hV2.act q6
      simp only [List.length_map, e0, hw', show decide (((s.net.length : Nat) : Int) > 10) = false from decide_eq_false (by omega), f7, f2, f3, f4, hds, Cd.cd7, Tk.t7, base0, base1, base2, base3, Option.isNone_none, Option.isNone_some, Nat.reduceBEq, true_or, or_true, false_or, or_false, Nat.reduceLT, Nat.reduceMod, Nat.reducePow, rmaps, nsucc, List.flatten_cons, List.flatten_nil, Nat.reduceEqDiff, Nat.reduceLeDiff, Nat.reduceAdd, Nat.reduceMul, Nat.reduceSub, ↓reduceIte, reduceCtorEq, decide_true, decide_false]
      first | refine FCall.go (ownCase13 c hc.p hc.v) (FZs.one (FZ.caseV c)) ?_ | refine FCall.go' (ownCase13 c hc.p hc.v) (FZs.one (FZ.caseV c)) ?_ | refine FCall.goQ (ownCase13 c hc.p hc.v) (FZs.one (FZ.caseV c)) ?_
      simp only [caseV]
      simp only [f7, f2, f3, f4, hds, Cd.cd7, Tk.t7, base0, base1, base2, base3, Option.isNone_none, Option.isNone_some, Nat.reduceBEq, true_or, or_true, false_or, or_false, Nat.reduceLT, Nat.reduceMod, Nat.reducePow, rmaps, nsucc, List.flatten_cons, List.flatten_nil, Nat.reduceEqDiff, Nat.reduceLeDiff, Nat.reduceAdd, Nat.reduceMul, Nat.reduceSub, ↓reduceIte, reduceCtorEq, decide_true, decide_false]
      first | refine FCall.go (own17f hV) (FZs.one (FZ.stV s)) ?_ | refine FCall.go' (own17f hV) (FZs.one (FZ.stV s)) ?_ | refine FCall.goQ (own17f hV) (FZs.one (FZ.stV s)) ?_
      simp only [stV, stL, plsV, hssV, pksV]
      simp only [f7, f2, f3, f4, hds, Cd.cd7, Tk.t7, base0, base1, base2, base3, Option.isNone_none, Option.isNone_some, Nat.reduceBEq, true_or, or_true, false_or, or_false, Nat.reduceLT, Nat.reduceMod, Nat.reducePow, rmaps, nsucc, List.flatten_cons, List.flatten_nil, Nat.reduceEqDiff, Nat.reduceLeDiff, Nat.reduceAdd, Nat.reduceMul, Nat.reduceSub, ↓reduceIte, reduceCtorEq, decide_true, decide_false]
      first | refine FCall.go (acted16 c s ⟨1, n⟩ hc hs) (FZs.three (FZ.caseV c) (FZ.stV s) (FZ.acV ⟨1, n⟩)) ?_ | refine FCall.go' (acted16 c s ⟨1, n⟩ hc hs) (FZs.three (FZ.caseV c) (FZ.stV s) (FZ.acV ⟨1, n⟩)) ?_ | refine FCall.goQ (acted16 c s ⟨1, n⟩ hc hs) (FZs.three (FZ.caseV c) (FZ.stV s) (FZ.acV ⟨1, n⟩)) ?_
      rw [if_pos ⟨he, q1⟩]
      simp only [stV, stL, plsV, hssV, pksV]
      simp only [f7, f2, f3, f4, hds, Cd.cd7, Tk.t7, base0, base1, base2, base3, Option.isNone_none, Option.isNone_some, Nat.reduceBEq, true_or, or_true, false_or, or_false, Nat.reduceLT, Nat.reduceMod, Nat.reducePow, rmaps, nsucc, List.flatten_cons, List.flatten_nil, Nat.reduceEqDiff, Nat.reduceLeDiff, Nat.reduceAdd, Nat.reduceMul, Nat.reduceSub, ↓reduceIte, reduceCtorEq, decide_true, decide_false]
      first | refine FCall.go (ownCase13 c hc.p hc.v) (FZs.one (FZ.caseV c)) ?_ | refine FCall.go' (ownCase13 c hc.p hc.v) (FZs.one (FZ.caseV c)) ?_ | refine FCall.goQ (ownCase13 c hc.p hc.v) (FZs.one (FZ.caseV c)) ?_
      simp only [caseV]
      simp only [f7, f2, f3, f4, hds, Cd.cd7, Tk.t7, base0, base1, base2, base3, Option.isNone_none, Option.isNone_some, Nat.reduceBEq, true_or, or_true, false_or, or_false, Nat.reduceLT, Nat.reduceMod, Nat.reducePow, rmaps, nsucc, List.flatten_cons, List.flatten_nil, Nat.reduceEqDiff, Nat.reduceLeDiff, Nat.reduceAdd, Nat.reduceMul, Nat.reduceSub, ↓reduceIte, reduceCtorEq, decide_true, decide_false]
      first | refine FCall.go (own17f hV) (FZs.one (FZ.stV s)) ?_ | refine FCall.go' (own17f hV) (FZs.one (FZ.stV s)) ?_ | refine FCall.goQ (own17f hV) (FZs.one (FZ.stV s)) ?_
      simp only [stV, stL, plsV, hssV, pksV]
      simp only [f7, f2, f3, f4, hds, Cd.cd7, Tk.t7, base0, base1, base2, base3, Option.isNone_none, Option.isNone_some, Nat.reduceBEq, true_or, or_true, false_or, or_false, Nat.reduceLT, Nat.reduceMod, Nat.reducePow, rmaps, nsucc, List.flatten_cons, List.flatten_nil, Nat.reduceEqDiff, Nat.reduceLeDiff, Nat.reduceAdd, Nat.reduceMul, Nat.reduceSub, ↓reduceIte, reduceCtorEq, decide_true, decide_false]
      first | refine FCall.go (acted16 c s ⟨3, n⟩ hc hs) (FZs.three (FZ.caseV c) (FZ.stV s) (FZ.acV ⟨3, n⟩)) ?_ | refine FCall.go' (acted16 c s ⟨3, n⟩ hc hs) (FZs.three (FZ.caseV c) (FZ.stV s) (FZ.acV ⟨3, n⟩)) ?_ | refine FCall.goQ (acted16 c s ⟨3, n⟩ hc hs) (FZs.three (FZ.caseV c) (FZ.stV s) (FZ.acV ⟨3, n⟩)) ?_
      rw [if_pos ⟨he, q3⟩, r3]
      simp only [stV, stL, plsV, hssV, pksV]
      simp only [z0, List.length_map, e1, q5, bne_self_eq_false, f7, f2, f3, f4, hds, Cd.cd7, Tk.t7, base0, base1, base2, base3, Option.isNone_none, Option.isNone_some, Nat.reduceBEq, true_or, or_true, false_or, or_false, Nat.reduceLT, Nat.reduceMod, Nat.reducePow, rmaps, nsucc, List.flatten_cons, List.flatten_nil, Nat.reduceEqDiff, Nat.reduceLeDiff, Nat.reduceAdd, Nat.reduceMul, Nat.reduceSub, ↓reduceIte, reduceCtorEq, decide_true, decide_false]
      first | refine FCall.go (ownCase13 c hc.p hc.v) (FZs.one (FZ.caseV c)) ?_ | refine FCall.go' (ownCase13 c hc.p hc.v) (FZs.one (FZ.caseV c)) ?_ | refine FCall.goQ (ownCase13 c hc.p hc.v) (FZs.one (FZ.caseV c)) ?_
      simp only [caseV]
      simp only [f7, f2, f3, f4, hds, Cd.cd7, Tk.t7, base0, base1, base2, base3, Option.isNone_none, Option.isNone_some, Nat.reduceBEq, true_or, or_true, false_or, or_false, Nat.reduceLT, Nat.reduceMod, Nat.reducePow, rmaps, nsucc, List.flatten_cons, List.flatten_nil, Nat.reduceEqDiff, Nat.reduceLeDiff, Nat.reduceAdd, Nat.reduceMul, Nat.reduceSub, ↓reduceIte, reduceCtorEq, decide_true, decide_false]
      first | refine FCall.go (acted16 c two ⟨1, (s.net.length : Int)⟩ hc hV2.small) (FZs.three (FZ.caseV c) (FZ.stV two) (FZ.acV ⟨1, (s.net.length : Int)⟩)) ?_ | refine FCall.go' (acted16 c two ⟨1, (s.net.length : Int)⟩ hc hV2.small) (FZs.three (FZ.caseV c) (FZ.stV two) (FZ.acV ⟨1, (s.net.length : Int)⟩)) ?_ | refine FCall.goQ (acted16 c two ⟨1, (s.net.length : Int)⟩ hc hV2.small) (FZs.three (FZ.caseV c) (FZ.stV two) (FZ.acV ⟨1, (s.net.length : Int)⟩)) ?_
      rw [if_pos ⟨checkState_ok.mpr hV2, q6⟩, r6]
      simp only [stV, stL, plsV, hssV, pksV]
      simp only [f7, f2, f3, f4, hds, Cd.cd7, Tk.t7, base0, base1, base2, base3, Option.isNone_none, Option.isNone_some, Nat.reduceBEq, true_or, or_true, false_or, or_false, Nat.reduceLT, Nat.reduceMod, Nat.reducePow, rmaps, nsucc, List.flatten_cons, List.flatten_nil, Nat.reduceEqDiff, Nat.reduceLeDiff, Nat.reduceAdd, Nat.reduceMul, Nat.reduceSub, ↓reduceIte, reduceCtorEq, decide_true, decide_false]
      first | refine FCall.go (ownCase13 c hc.p hc.v) (FZs.one (FZ.caseV c)) ?_ | refine FCall.go' (ownCase13 c hc.p hc.v) (FZs.one (FZ.caseV c)) ?_ | refine FCall.goQ (ownCase13 c hc.p hc.v) (FZs.one (FZ.caseV c)) ?_
      simp only [caseV]
      simp only [f7, f2, f3, f4, hds, Cd.cd7, Tk.t7, base0, base1, base2, base3, Option.isNone_none, Option.isNone_some, Nat.reduceBEq, true_or, or_true, false_or, or_false, Nat.reduceLT, Nat.reduceMod, Nat.reducePow, rmaps, nsucc, List.flatten_cons, List.flatten_nil, Nat.reduceEqDiff, Nat.reduceLeDiff, Nat.reduceAdd, Nat.reduceMul, Nat.reduceSub, ↓reduceIte, reduceCtorEq, decide_true, decide_false]
      first | refine FCall.go (acted16 c a ⟨1, n⟩ hc hV3.small) (FZs.three (FZ.caseV c) (FZ.stV a) (FZ.acV ⟨1, n⟩)) ?_ | refine FCall.go' (acted16 c a ⟨1, n⟩ hc hV3.small) (FZs.three (FZ.caseV c) (FZ.stV a) (FZ.acV ⟨1, n⟩)) ?_ | refine FCall.goQ (acted16 c a ⟨1, n⟩ hc hV3.small) (FZs.three (FZ.caseV c) (FZ.stV a) (FZ.acV ⟨1, n⟩)) ?_
      rw [if_pos ⟨checkState_ok.mpr hV3, q8⟩]
      simp only [stV, stL, plsV, hssV, pksV]
      simp only [z0, f7, f2, f3, f4, hds, Cd.cd7, Tk.t7, base0, base1, base2, base3, Option.isNone_none, Option.isNone_some, Nat.reduceBEq, true_or, or_true, false_or, or_false, Nat.reduceLT, Nat.reduceMod, Nat.reducePow, rmaps, nsucc, List.flatten_cons, List.flatten_nil, Nat.reduceEqDiff, Nat.reduceLeDiff, Nat.reduceAdd, Nat.reduceMul, Nat.reduceSub, ↓reduceIte, reduceCtorEq, decide_true, decide_false]
      refine (same27 (bare (actS c s ⟨1, n⟩)) ⟨(hV.act q1).small.p, (hV.act q1).small.h, by simp [bare], (hV.act q1).small.q⟩).bgo (Views.cons (bare_view _) (Views.cons (hbare ▸ bare_view _) Views.nil)) (Ground.v _) ?_
      simp only [f7, f2, f3, f4, hds, Cd.cd7, Tk.t7, base0, base1, base2, base3, Option.isNone_none, Option.isNone_some, Nat.reduceBEq, true_or, or_true, false_or, or_false, Nat.reduceLT, Nat.reduceMod, Nat.reducePow, rmaps, nsucc, List.flatten_cons, List.flatten_nil, Nat.reduceEqDiff, Nat.reduceLeDiff, Nat.reduceAdd, Nat.reduceMul, Nat.reduceSub, ↓reduceIte, reduceCtorEq, decide_true, decide_false]
      exact fin_v rfl
end Go.Proofs.Ytgmncggiblaciaa

/- Walks: any state copied by the reference. -/
namespace Go.Proofs.Ytgmncggiblaciaa
open Go Go.Proofs.Ytgmncggiblaciaa.Ab
set_option maxRecDepth 100000

/-- a state whose hosts are being laid, one after the other; it may have no placed components and no hosts -/
structure OwnK (B : Nat) (H : AH) (s : Stt) (i : Nat) (ap ah aq : AV) (o : List OH) : Prop where
  hp : Arr plR 4 H ap s.placed
  ha : (o = [] ∧ ah = nilS) ∨ ∃ h, ah = .sl 2 h 0 o.length ∧ H.own h = some (.cells (flatE hsO o))
  eq : o.map OH.hs = s.hosts.take i
  q : Arr pkR 4 H aq s.net
  m : ∀ y ∈ o, Arr ptR 5 H y.a y.parts
  dp : ∀ n, nmA ap = some n → nmA ah ≠ some n
  dq : ∀ n, nmA aq = some n → nmA ah ≠ some n
  dm : ∀ y ∈ o, ∀ n, nmA y.a = some n → nmA ah ≠ some n
  lp : ∀ n, nmA ap = some n → B ≤ n ∧ n < H.next
  lh : ∀ n, nmA ah = some n → B ≤ n ∧ n < H.next
  lq : ∀ n, nmA aq = some n → B ≤ n ∧ n < H.next
  lm : ∀ y ∈ o, ∀ n, nmA y.a = some n → B ≤ n ∧ n < H.next

theorem OwnK.step {B : Nat} {H H2 : AH} {s : Stt} {i h' : Nat} {ap ah aq : AV} {o : List OH} {y : OH} (x : OwnK B H s i ap ah aq o) (hi : i < s.hosts.length) (hy : y.hs = s.hosts.getD i default) (hv : Arr ptR 5 H2 y.a y.parts)
    (hnv : ∀ n, nmA y.a = some n → H.next ≤ n ∧ n < H2.next ∧ n ≠ h') (hh : H2.own h' = some (.cells (flatE hsO (o ++ [y])))) (hn : H.next ≤ h' ∧ h' < H2.next)
    (hk : ∀ n, B ≤ n → n < H.next → nmA ah ≠ some n → H2.own n = H.own n) (hB : B ≤ H.next) : OwnK B H2 s (i + 1) ap (.sl 2 h' 0 (o.length + 1)) aq (o ++ [y]) := by
  refine ⟨x.hp.mono fun n hn' => hk n (x.lp n hn').1 (x.lp n hn').2 (x.dp n hn'), .inr ⟨h', by simp, hh⟩, ?_, x.q.mono fun n hn' => hk n (x.lq n hn').1 (x.lq n hn').2 (x.dq n hn'), fun z hz => ?_, fun n hn' => ?_, fun n hn' => ?_, fun z hz n hn' => ?_, fun n hn' => ?_, fun n hn' => ?_, fun n hn' => ?_, fun z hz n hn' => ?_⟩
  · rw [List.map_append, x.eq, take_succ_getD hi]; simp [hy]
  · rcases List.mem_append.mp hz with hz | hz
    · exact (x.m z hz).mono fun n hn' => hk n (x.lm z hz n hn').1 (x.lm z hz n hn').2 (x.dm z hz n hn')
    · simp only [List.mem_singleton] at hz; subst hz; exact hv
  · have h1 := x.lp n hn'
    exact fun e => by simp only [nmA, Option.some.injEq] at e; omega
  · have h1 := x.lq n hn'
    exact fun e => by simp only [nmA, Option.some.injEq] at e; omega
  · rcases List.mem_append.mp hz with hz | hz
    · have h1 := x.lm z hz n hn'
      exact fun e => by simp only [nmA, Option.some.injEq] at e; omega
    · simp only [List.mem_singleton] at hz; subst hz
      have h1 := hnv n hn'
      exact fun e => by simp only [nmA, Option.some.injEq] at e; omega
  · have := x.lp n hn'; omega
  · simp only [nmA, Option.some.injEq] at hn'; omega
  · have := x.lq n hn'; omega
  · rcases List.mem_append.mp hz with hz | hz
    · have := x.lm z hz n hn'; omega
    · simp only [List.mem_singleton] at hz; subst hz; have := hnv n hn'; omega

theorem OwnK.view {B : Nat} {H H2 : AH} {s : Stt} {ap ah aq : AV} {o : List OH} (x : OwnK B H s s.hosts.length ap ah aq o) (hk : ∀ n, B ≤ n → H2.own n = H.own n) : View H2 (.agg [ap, .v (.int .i64 s.v), ah, aq]) (stV s) := by
  have hp := x.hp.mono fun n hn => hk n (x.lp n hn).1
  have hq := x.q.mono fun n hn => hk n (x.lq n hn).1
  have hm : ∀ y ∈ o, Arr ptR 5 H2 y.a y.parts := fun y hy => (x.m y hy).mono fun n hn => hk n (x.lm y hy n hn).1
  have heq := x.eq
  rw [List.take_length] at heq
  refine Views.agg (Views.cons (hp.view plR_len FZs.plR) (Views.cons (FZ.v _).view (Views.cons ?_ (Views.cons (hq.view pkR_len FZs.pkR) Views.nil))))
  rcases x.ha with ⟨rfl, rfl⟩ | ⟨h, rfl, hh⟩
  · rw [← heq]; exact View.nil _
  · have hl : s.hosts.length = o.length := by rw [← heq, List.length_map]
    have hh2 : H2.own h = some (.cells (flatE hsO o)) := by rw [hk h (x.lh h rfl).1]; exact hh
    refine View.sl hh2 (by rw [flatE_len hsO_len]; omega) (by simp [hl]) (fun i hi => ?_) fun i j hi hj => ?_
    · exact (congrArg List.length (getDmap hsR s.hosts i (by omega))).trans rfl
    · have e1 : (flatE hsO o).getD (0 + i * 2 + j) .any = (hsO (o.getD i default)).getD j .any := by
        have := flatE_get hsO_len o i j [] hi hj
        rw [List.append_nil] at this; rw [Nat.zero_add]; exact this
      have e2 : s.hosts.getD i default = (o.getD i default).hs := by
        rw [← heq, List.getD_eq_getElem?_getD, List.getElem?_map, List.getElem?_eq_getElem hi, List.getD_eq_getElem?_getD, List.getElem?_eq_getElem hi]; rfl
      rw [e1, getDmap hsR s.hosts i (by omega), e2]
      have : j = 0 ∨ j = 1 := by omega
      rcases this with rfl | rfl
      · exact (FZ.v _).view
      · exact (hm _ (getD_mem hi)).view ptR_len FZs.ptR

end Go.Proofs.Ytgmncggiblaciaa

/- Readers of the arguments. -/
namespace Go.Proofs.Ytgmncggiblaciaa
open Go Go.Proofs.Ytgmncggiblaciaa.Ab
set_option maxRecDepth 100000

theorem rdI : Rd Try.prog 3 (fun n : Int => [.v (.int .i64 n)]) (fun n => IntKind.i64.min ≤ n ∧ n ≤ IntKind.i64.max) := Rd.int Try.underlying3
theorem rdB : Rd Try.prog 4 (fun b : Bool => [.v (.bool b)]) (fun _ => True) := Rd.bool Try.underlying4
theorem rdInts : Rd Try.prog 22 (fun l : List Int => [ints l]) (fun _ => True) :=
  (Rd.slice Try.underlying22 (by kernel_rfl) (by decide) rdI (fun _ => rfl)).map (fun l : List Int => l) (fun _ => rfl) (fun _ _ => trivial)
theorem rdCase : Rd Try.prog 24 (fun c : Case => [.v (.int .i64 c.hosts), ints c.place, ints c.verd]) (fun _ => True) :=
  (Rd.struct Try.underlying24 rfl (by kernel_rfl) (RdF.cons (s := 1) rfl (by kernel_rfl) rdI (RdF.cons (s := 1) rfl (by kernel_rfl) rdInts (RdF.cons (s := 1) rfl (by kernel_rfl) rdInts RdF.nil)))).map
    (fun p => (⟨p.1, p.2.1, p.2.2.1⟩ : Case)) (fun _ => rfl) (fun _ _ => trivial)
theorem rdPl : Rd Try.prog 68 plR (fun _ => True) :=
  (Rd.struct Try.underlying68 rfl (by kernel_rfl) (RdF.cons (s := 1) rfl (by kernel_rfl) rdI (RdF.cons (s := 1) rfl (by kernel_rfl) rdB (RdF.cons (s := 1) rfl (by kernel_rfl) rdB (RdF.cons (s := 1) rfl (by kernel_rfl) rdI RdF.nil))))).map
    (fun p => (⟨p.1, p.2.1, p.2.2.1, p.2.2.2.1⟩ : Pl)) (fun _ => rfl) (fun _ _ => trivial)
theorem rdPls : Rd Try.prog 29 (fun l : List Pl => [plsV l]) (fun _ => True) :=
  (Rd.slice Try.underlying29 (by kernel_rfl) (by decide) rdPl (fun _ => rfl)).map (fun l : List Pl => l) (fun _ => rfl) (fun _ _ => trivial)
theorem rdPt : Rd Try.prog 90 ptR (fun _ => True) :=
  (Rd.struct Try.underlying90 rfl (by kernel_rfl) (RdF.cons (s := 1) rfl (by kernel_rfl) rdI (RdF.cons (s := 1) rfl (by kernel_rfl) rdB (RdF.cons (s := 1) rfl (by kernel_rfl) rdB (RdF.cons (s := 1) rfl (by kernel_rfl) rdI (RdF.cons (s := 1) rfl (by kernel_rfl) rdI RdF.nil)))))).map
    (fun p => (⟨p.1, p.2.1, p.2.2.1, p.2.2.2.1, p.2.2.2.2.1⟩ : Pt)) (fun _ => rfl) (fun _ _ => trivial)
theorem rdPts : Rd Try.prog 78 (fun l : List Pt => [ptsV l]) (fun _ => True) :=
  (Rd.slice Try.underlying78 (by kernel_rfl) (by decide) rdPt (fun _ => rfl)).map (fun l : List Pt => l) (fun _ => rfl) (fun _ _ => trivial)
theorem rdHs : Rd Try.prog 80 hsR (fun _ => True) :=
  (Rd.struct Try.underlying80 rfl (by kernel_rfl) (RdF.cons (s := 1) rfl (by kernel_rfl) rdB (RdF.cons (s := 1) rfl (by kernel_rfl) rdPts RdF.nil))).map
    (fun p => (⟨p.1, p.2.1⟩ : Hs)) (fun _ => rfl) (fun _ _ => trivial)
theorem rdHss : Rd Try.prog 30 (fun l : List Hs => [hssV l]) (fun _ => True) :=
  (Rd.slice Try.underlying30 (by kernel_rfl) (by decide) rdHs (fun _ => rfl)).map (fun l : List Hs => l) (fun _ => rfl) (fun _ _ => trivial)
theorem rdPk : Rd Try.prog 92 pkR (fun _ => True) :=
  (Rd.struct Try.underlying92 rfl (by kernel_rfl) (RdF.cons (s := 1) rfl (by kernel_rfl) rdI (RdF.cons (s := 1) rfl (by kernel_rfl) rdI (RdF.cons (s := 1) rfl (by kernel_rfl) rdI (RdF.cons (s := 1) rfl (by kernel_rfl) rdI RdF.nil))))).map
    (fun p => (⟨p.1, p.2.1, p.2.2.1, p.2.2.2.1⟩ : Pk)) (fun _ => rfl) (fun _ _ => trivial)
theorem rdPks : Rd Try.prog 31 (fun l : List Pk => [pksV l]) (fun _ => True) :=
  (Rd.slice Try.underlying31 (by kernel_rfl) (by decide) rdPk (fun _ => rfl)).map (fun l : List Pk => l) (fun _ => rfl) (fun _ _ => trivial)
theorem rdSt : Rd Try.prog 33 stL (fun _ => True) :=
  (Rd.struct Try.underlying33 rfl (by kernel_rfl) (RdF.cons (s := 1) rfl (by kernel_rfl) rdPls (RdF.cons (s := 1) rfl (by kernel_rfl) rdI (RdF.cons (s := 1) rfl (by kernel_rfl) rdHss (RdF.cons (s := 1) rfl (by kernel_rfl) rdPks RdF.nil))))).map
    (fun p => (⟨p.1, p.2.1, p.2.2.1, p.2.2.2.1⟩ : Stt)) (fun _ => rfl) (fun _ _ => trivial)
theorem own : ownKnob Try.prog.godebug = none := by kernel_rfl
theorem laidOut : laidOutB Try.prog = true := by kernel_rfl
end Go.Proofs.Ytgmncggiblaciaa

/- The law holds: for every input it returns true, and each argument reads behind the call as it read before. No condition. -/
namespace Go.Proofs.Ytgmncggiblaciaa
open Go Go.Proofs.Ytgmncggiblaciaa.Ab Go.ChangeShapes Go.WideShapes Go.ChangeAt Go.RowKit
set_option maxRecDepth 100000

set_option maxHeartbeats 800000 in
theorem lift7 (os : Os) (started : os.Started) (H : Type) (enc : TypeId × Value → H) :
    ReturnsInHanded {} Try.checked os 7 .any (Rows.hostsEndsSpec.pre6 enc Try.prog Try.f7 Rows.hostsEndsRow.domain false) (Rows.hostsEndsSpec.post enc Try.prog Try.f7 false true false false) := by
  refine returnsInHanded_of_change (C := Try.checked) own started (by kernel_rfl) Try.func7
    (ChangeSpec.witness6 (enc := enc) (C := Try.checked) false ⟨#[], #[.agg #[.int .i64 0, .slice none 0 0, .slice none 0 0], .agg #[.slice none 0 0, .int .i64 0, .slice none 0 0, .slice none 0 0], .int .i64 0], []⟩ 8 (by kernel_rfl) (by kernel_rfl) (by kernel_rfl) (by kernel_rfl)) ?_
  intro W base args ds gs before hval0 hW _ _
  have hval : ∀ (j : Nat) t v, Try.f7.params[j]? = some t → args[j]? = some v → Value.okWide Try.prog W .any base t v := hval0
  have hW' := hW
  obtain ⟨p, q, hA0, hV, rfl, _, _⟩ := hW
  have hA : DataW.TrodAll enc Try.prog W 0 (fun _ => true) true Try.f7.params.toList args.toList ds p := hA0
  rw [Try.params7] at hA hval
  obtain ⟨v0, v1, v2, d0, d1, d2, p0, p1, p2, rfl, rfl, rfl, h0, h1, h2⟩ := trodAll_three hA
  obtain ⟨rfl, rfl⟩ := trodVars_none hV
  obtain ⟨x0, -, hx0⟩ := arg_struct rdCase Try.underlying24 (hval 0 24 v0 rfl rfl) h0
  obtain ⟨x1, -, hx1⟩ := arg_struct rdSt Try.underlying33 (hval 1 33 v1 rfl rfl) h1
  obtain ⟨n2, rfl⟩ := okWide_int Try.underlying3 (hval 2 3 v2 rfl rfl)
  obtain ⟨x2, -, hx2⟩ := arg_one rdI h2 rfl
  clear hA0 hval0
  simp only [List.append_nil] at hW'
  have hlt : ∀ x ∈ p0 ++ p1 ++ p2, x.block < W.heap.size := fun x hx => by simpa using hW'.lt x hx
  refine ((law7 x0 x1 x2).true (xs := #[v0, v1, .int .i64 n2]) (W := W) ⟨rfl, fun j hj => ?_⟩).mono fun e W' ⟨he, hb⟩ => ?_
  · match j, hj with
    | 0, _ => exact hx0
    | 1, _ => exact hx1
    | 2, _ => exact hx2
  subst he
  have harg0 : DataW.Trod enc Try.prog W' 0 (fun b => decide (b < W.heap.size)) true 24 (v0) d0 p0 :=
    Below.trod laidOut (by kernel_rfl) (of_decide_eq_true (by kernel_rfl)) h0 hb (fun x hx => hlt x (List.mem_append.2 (.inl (List.mem_append.2 (.inl hx)))))
  have harg1 : DataW.Trod enc Try.prog W' 0 (fun b => decide (b < W.heap.size)) true 33 (v1) d1 p1 :=
    Below.trod laidOut (by kernel_rfl) (of_decide_eq_true (by kernel_rfl)) h1 hb (fun x hx => hlt x (List.mem_append.2 (.inl (List.mem_append.2 (.inr hx)))))
  have harg2 : DataW.Trod enc Try.prog W' 0 (fun b => decide (b < W.heap.size)) true 3 (.int .i64 n2) d2 p2 :=
    Below.trod laidOut (by kernel_rfl) (of_decide_eq_true (by kernel_rfl)) h2 hb (fun x hx => hlt x (List.mem_append.2 (.inr hx)))
  refine ⟨_, rfl, _, _, _, [], _, [], hW', ?_, (by have h := trodAll_mk3 harg0 harg1 harg2; rw [← List.append_assoc] at h; exact h), rfl, hb.frame _, fun h => by cases h⟩
  exact trodAll_mk1 (shut_bool Try.underlying4 _)

theorem hostsEnds : Rows.HostsEndsSaid :=
  OpenClaim.holds_of_wide 7 Try.f7 rfl rfl rfl rfl rfl rfl rfl ⟨rfl, rfl, rfl, rfl, rfl⟩ rfl rfl rfl rfl rfl (by kernel_rfl) Try.func7 (by kernel_rfl)
    (of_decide_eq_true (by kernel_rfl)) (by unfold Func.isWrapper; first | (rw [if_pos (by decide +kernel)]; kernel_rfl) | (rw [if_neg (by decide +kernel)]; exact ⟨rfl, rfl⟩))
    (fun os started H enc _ => lift7 os started H enc)
end Go.Proofs.Ytgmncggiblaciaa

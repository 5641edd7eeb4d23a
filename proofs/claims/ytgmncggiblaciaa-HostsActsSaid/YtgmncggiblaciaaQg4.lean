/- Part 4 of a proof: hostsActs holds for every input; no condition. -/
import Derived.Test.YtgmncggiblaciaaProg
import Derived.KernelRfl
import Derived.Test.YtgmncggiblaciaaRows
import Derived.ProofKit
import Derived.Test.YtgmncggiblaciaaAb0
import Derived.Test.YtgmncggiblaciaaAb1
import Derived.Test.YtgmncggiblaciaaAb2
import Derived.Test.YtgmncggiblaciaaAb3
import Derived.Test.YtgmncggiblaciaaAb4
import Derived.Test.YtgmncggiblaciaaAb5
import Derived.Test.YtgmncggiblaciaaAb6
import Derived.Test.YtgmncggiblaciaaAb7
import Derived.Test.YtgmncggiblaciaaAb8
import Derived.Test.YtgmncggiblaciaaAb8a
import Derived.Test.YtgmncggiblaciaaAb8b
import Derived.Test.YtgmncggiblaciaaAb8c
import Derived.Test.YtgmncggiblaciaaAb8d
import Derived.Test.YtgmncggiblaciaaAb9
import Derived.Test.YtgmncggiblaciaaAb10
import Derived.Test.YtgmncggiblaciaaAb11
import Derived.Test.YtgmncggiblaciaaAb12
import Derived.Test.YtgmncggiblaciaaAb13
import Derived.Test.YtgmncggiblaciaaAb14
import Derived.Test.YtgmncggiblaciaaAb15
import Derived.Test.YtgmncggiblaciaaAb16
import Derived.Test.YtgmncggiblaciaaAb17
import Derived.Test.YtgmncggiblaciaaAb18
import Derived.Test.YtgmncggiblaciaaAb19
import Derived.Test.YtgmncggiblaciaaAb20
import Derived.Test.YtgmncggiblaciaaAb21
import Derived.Test.YtgmncggiblaciaaQg3
set_option linter.unusedSimpArgs false
set_option linter.unusedVariables false
set_option linter.defProp false
/- Walks: a state of the reference's own. -/
namespace Go.Proofs.Ytgmncggiblaciaa
open Go Go.Proofs.Ytgmncggiblaciaa.Ab
set_option maxRecDepth 100000

/-- a state whose hosts are being laid, one after the other -/
structure OwnJ (B : Nat) (H : AH) (s : Stt) (i p : Nat) (ah aq : AV) (o : List OH) : Prop where
  hp : H.own p = some (.cells (flatE plR s.placed))
  ha : (o = [] ∧ ah = nilS) ∨ ∃ h, ah = .sl 2 h 0 o.length ∧ H.own h = some (.cells (flatE hsO o))
  eq : o.map OH.hs = s.hosts.take i
  q : Arr pkR 4 H aq s.net
  m : ∀ y ∈ o, Arr ptR 5 H y.a y.parts
  dp : nmA ah ≠ some p
  dq : ∀ n, nmA aq = some n → n ≠ p ∧ nmA ah ≠ some n
  dm : ∀ y ∈ o, ∀ n, nmA y.a = some n → n ≠ p ∧ nmA ah ≠ some n ∧ nmA aq ≠ some n
  dd : ∀ i j, i < o.length → j < o.length → i ≠ j → ∀ n, nmA (o.getD i default).a = some n → nmA (o.getD j default).a ≠ some n
  lp : B ≤ p ∧ p < H.next
  lh : ∀ n, nmA ah = some n → B ≤ n ∧ n < H.next
  lq : ∀ n, nmA aq = some n → B ≤ n ∧ n < H.next
  lm : ∀ y ∈ o, ∀ n, nmA y.a = some n → B ≤ n ∧ n < H.next

theorem getD_snoc {α : Type} [Inhabited α] {l : List α} {x : α} {j : Nat} : (l ++ [x]).getD j default = if j = l.length then x else l.getD j default := by
  by_cases e : j = l.length
  · subst e; simp [List.getD_eq_getElem?_getD]
  · rw [if_neg e]
    by_cases h : j < l.length
    · rw [List.getD_eq_getElem?_getD, List.getElem?_append_left h, ← List.getD_eq_getElem?_getD]
    · simp [List.getD_eq_getElem?_getD, List.getElem?_eq_none (show l.length ≤ j by omega), List.getElem?_eq_none (show (l ++ [x]).length ≤ j by simp; omega)]

theorem OwnJ.step {B : Nat} {H H2 : AH} {s : Stt} {i p h' : Nat} {ah aq : AV} {o : List OH} {y : OH} (x : OwnJ B H s i p ah aq o) (hi : i < s.hosts.length) (hy : y.hs = s.hosts.getD i default) (hv : Arr ptR 5 H2 y.a y.parts)
    (hnv : ∀ n, nmA y.a = some n → H.next ≤ n ∧ n < H2.next ∧ n ≠ h') (hh : H2.own h' = some (.cells (flatE hsO (o ++ [y])))) (hn : H.next ≤ h' ∧ h' < H2.next)
    (hk : ∀ n, B ≤ n → n < H.next → nmA ah ≠ some n → H2.own n = H.own n) : OwnJ B H2 s (i + 1) p (.sl 2 h' 0 (o.length + 1)) aq (o ++ [y]) := by
  have hlp := x.lp
  refine ⟨?_, .inr ⟨h', by simp, hh⟩, ?_, x.q.mono fun n hn' => ?_, fun z hz => ?_, fun e => ?_, fun n hn' => ?_, fun z hz n hn' => ?_, fun a b ha' hb' hab n hn' => ?_, by omega, fun n hn' => ?_, fun n hn' => ?_, fun z hz n hn' => ?_⟩
  · rw [hk p hlp.1 hlp.2 x.dp]; exact x.hp
  · rw [List.map_append, x.eq, take_succ_getD hi]; simp [hy]
  · exact hk n (x.lq n hn').1 (x.lq n hn').2 (x.dq n hn').2
  · rcases List.mem_append.mp hz with hz | hz
    · exact (x.m z hz).mono fun n hn' => hk n (x.lm z hz n hn').1 (x.lm z hz n hn').2 (x.dm z hz n hn').2.1
    · simp only [List.mem_singleton] at hz; subst hz; exact hv
  · simp only [nmA, Option.some.injEq] at e; omega
  · have h1 := x.lq n hn'
    exact ⟨(x.dq n hn').1, fun e => by simp only [nmA, Option.some.injEq] at e; omega⟩
  · rcases List.mem_append.mp hz with hz | hz
    · have h1 := x.lm z hz n hn'
      exact ⟨(x.dm z hz n hn').1, fun e => by simp only [nmA, Option.some.injEq] at e; omega, (x.dm z hz n hn').2.2⟩
    · simp only [List.mem_singleton] at hz; subst hz
      have h1 := hnv n hn'
      exact ⟨by omega, fun e => by simp only [nmA, Option.some.injEq] at e; omega, fun e => by have := x.lq n e; omega⟩
  · simp only [List.length_append, List.length_cons, List.length_nil] at ha' hb'
    rw [getD_snoc] at hn' ⊢
    by_cases e1 : a = o.length <;> by_cases e2 : b = o.length
    · omega
    · rw [if_pos e1] at hn'; rw [if_neg e2]
      have h1 := hnv n hn'
      intro e; have := x.lm _ (getD_mem (show b < o.length by omega)) n e; omega
    · rw [if_neg e1] at hn'; rw [if_pos e2]
      intro e
      have h1 := hnv n e; have := x.lm _ (getD_mem (show a < o.length by omega)) n hn'; omega
    · rw [if_neg e1] at hn'; rw [if_neg e2]; exact x.dd a b (by omega) (by omega) hab n hn'
  · simp only [nmA, Option.some.injEq] at hn'; omega
  · have := x.lq n hn'; omega
  · rcases List.mem_append.mp hz with hz | hz
    · have := x.lm z hz n hn'; omega
    · simp only [List.mem_singleton] at hz; subst hz; have := hnv n hn'; omega

theorem OwnJ.own {B : Nat} {H : AH} {s : Stt} {p : Nat} {ah aq : AV} {o : List OH} (x : OwnJ B H s s.hosts.length p ah aq o) (h0 : 0 < s.hosts.length) :
    ∃ h, ah = .sl 2 h 0 o.length ∧ OwnS H s p h aq o ∧ ∀ n, NmS p h aq o n → B ≤ n ∧ n < H.next := by
  have heq := x.eq
  rw [List.take_length] at heq
  rcases x.ha with ⟨rfl, _⟩ | ⟨h, rfl, hh⟩
  · rw [← heq] at h0; simp at h0
  · refine ⟨h, rfl, ⟨x.hp, hh, heq.symm, x.q, x.m, fun e => x.dp (by rw [e]; rfl), fun n hn => ⟨(x.dq n hn).1, fun e => (x.dq n hn).2 (by rw [e]; rfl)⟩, fun y hy n hn => ⟨(x.dm y hy n hn).1, fun e => (x.dm y hy n hn).2.1 (by rw [e]; rfl), (x.dm y hy n hn).2.2⟩, x.dd⟩, fun n hn => ?_⟩
    rcases hn with rfl | rfl | hn | ⟨y, hy, hn⟩
    · exact x.lp
    · exact x.lh n rfl
    · exact x.lq n hn
    · exact x.lm y hy n hn

set_option maxHeartbeats 2000000 in
theorem own17 (s : Stt) (H : AH) (hs : SmallS s) (h1 : 0 < s.placed.length) (h2 : 0 < s.hosts.length) : ACall Try.prog 17 [stV s] H (fun out H' => ∃ cs, out = .ret (.agg cs) ∧ NewS H s cs H') := by
  have hsh := hs.h; have hsp := hs.p; have hsn := hs.n
  have hl' : (s.placed.length = 0) = False := eq_false (by omega)
  simp only [stV, stL]
  obtain ⟨n2, hn2⟩ : ∃ n2, n2 = H.next := ⟨_, rfl⟩
  have hcase : s.net = [] ∨ ((s.net.length = 0) = False ∧ s.net ≠ []) := by
    by_cases h : s.net = []
    · exact .inl h
    · exact .inr ⟨eq_false (by simpa using h), h⟩
  rcases hcase with hn0 | ⟨hn0, hn0'⟩
  all_goals
    refine ACall.enter [8, 14, 38, 41] Cd.fn17 (by simp) ?_
    simp only [plsV, pksV, hn0, List.length_map, hl', show roomA 24 s.placed.length = true from room_of (by omega) (by omega), show roomA 32 s.net.length = true from room_of (by omega) (by omega), Cd.cd17, Tk.t17, base0, base1, base2, base3, Option.isNone_none, Option.isNone_some, Nat.reduceBEq, true_or, or_true, false_or, or_false, Nat.reduceLT, Nat.reduceMod, Nat.reducePow, rmaps, nsucc, List.flatten_cons, List.flatten_nil, Nat.reduceEqDiff, Nat.reduceLeDiff, Nat.reduceAdd, Nat.reduceMul, Nat.reduceSub, ↓reduceIte, reduceCtorEq, decide_true, decide_false]
    obtain ⟨aq, haq⟩ : ∃ aq, aq = if s.net = [] then AV.lst 4 [] .full else AV.sl 4 (n2 + 3) 0 s.net.length := ⟨_, rfl⟩
    refine LWP.loop [8, 14, 38, 41] (fun m f H' => ∃ i, m = s.hosts.length - i ∧ (i ≤ s.hosts.length) ∧ f.t 4 = .v (.int .i64 (i : Nat)) ∧ f.t 3 = .ptr (n2 + 1) 0 ∧ f.t 2 = .ptr n2 0 ∧ f.t 1 = .box (stL s) ∧ f.ds = [] ∧ ∃ o ah, OwnJ (n2 + 2) H' s i (n2 + 2) ah aq o ∧ H'.own (n2 + 1) = some (.cells [.sl 4 (n2 + 2) 0 s.placed.length, .v (.int .i64 s.v), ah, aq]) ∧ H'.own n2 = some (.cells [.v (.slice none 0 0), .v (.int .i64 0), .v (.slice none 0 0), .v (.slice none 0 0)]) ∧ H'.tip = H.tip ∧ n2 + 2 ≤ H'.next ∧ (∀ n, n < H.next → H'.own n = H.own n)) ?_ ?_ (m := s.hosts.length - (0))
    · exact ⟨0, rfl, (by omega), rfl, by rw [hn2]; rfl, by rw [hn2]; rfl, by simp [stL, plsV, pksV, upd, hn0], rfl, by refine ⟨[], nilS, ⟨?_, .inl ⟨rfl, rfl⟩, by simp, ?_, fun y hy => by simp at hy, fun e => by simp [nilS, nmA] at e, fun n hn => ?_, fun y hy => by simp at hy, fun i j h => by simp at h, ⟨Nat.le_refl _, ?_⟩, fun n hn => by simp [nilS, nmA] at hn, fun n hn => ?_, fun y hy => by simp at hy⟩, ?_, ?_, ?_, ?_, fun n hn => ?_⟩ <;> first   | (simp [hn2, flatE]; done)   | (simp [haq, hn0, hn2, nilS]; done)   | (simp [hn0]; exact .inl ⟨hn0, .inr (by rw [haq, if_pos hn0])⟩)   | (simp only [hn0, if_true] at haq; subst haq; exact .inl ⟨hn0, .inr rfl⟩)   | (rw [if_neg hn0'] at haq; subst haq; exact .inr ⟨_, [], rfl, by simp [hn2, flatE]⟩)   | (simp only [hn0, if_true] at haq; subst haq; cases hn)   | (rw [if_neg hn0'] at haq; subst haq; cases hn; first | omega | (simp [hn2, nilS, nmA]; done) | (simp [hn2, nilS, nmA]; omega))   | (rw [if_neg hn0'] at haq; subst haq; simp [hn2, nilS]; done)   | (simp only [hn2, nsucc, if_false, if_true]; done)   | (simp [hn2, show n ≠ H.next by omega, show n ≠ H.next + 1 by omega, show n ≠ H.next + 2 by omega, show n ≠ H.next + 3 by omega]; done)⟩
    · rintro m f H' ⟨i, rfl, hi, f4, f3, f2, f1, hds, ⟨o,ah,hJ,hb3,hb2,ht,hx,hkk⟩⟩
      have hoi : o.length = i := by have := congrArg List.length hJ.eq; simp at this; omega
      by_cases hlt : i < s.hosts.length
      · have hpb := hs.q' i
        have hlt' := ltT hlt
        have hpc : (s.hosts.getD i default).parts = [] ∨ (((s.hosts.getD i default).parts.length = 0) = False ∧ (s.hosts.getD i default).parts ≠ []) := by
          by_cases h : (s.hosts.getD i default).parts = []
          · exact .inl h
          · exact .inr ⟨eq_false (by simpa using h), h⟩
        simp only [stL, hssV] at f1
        rcases hpc with hpe | ⟨hpl, hpl'⟩
        · rcases hJ.ha with ⟨rfl, rfl⟩ | ⟨h, rfl, hh⟩
          ·
            have g1 : (n2 + 1 = H'.next) = False := eq_false (by omega)
            have g2 : (n2 + 1 = H'.next + 1) = False := eq_false (by omega)
            have g3 : (n2 + 1 = n2) = False := eq_false (by omega)
            simp only [hb3, hlt', inR hlt, Int.toNat_natCast, getD_map hsR _ _ hlt, hsR, ptsV, List.length_map, g1, g2, g3, nilS, hpe, show roomA 32 1 = true from rfl, f4, f3, f2, f1, hds, Cd.cd17, Tk.t17, base0, base1, base2, base3, Option.isNone_none, Option.isNone_some, Nat.reduceBEq, true_or, or_true, false_or, or_false, Nat.reduceLT, Nat.reduceMod, Nat.reducePow, rmaps, nsucc, List.flatten_cons, List.flatten_nil, Nat.reduceEqDiff, Nat.reduceLeDiff, Nat.reduceAdd, Nat.reduceMul, Nat.reduceSub, ↓reduceIte, reduceCtorEq, decide_true, decide_false]
            refine ⟨fun n hn => by first | trivial | (simp at hn; subst hn; simp [show n2 + 1 ≠ H'.next by omega]), _, by omega, i + 1, rfl, by omega, by rw [wrapS (by omega)], rfl, [⟨(s.hosts.getD i default).lost, AV.lst 5 [] .full, (s.hosts.getD i default).parts⟩], .sl 2 H'.next 0 (1), ?_⟩
            refine ⟨hJ.step (y := ⟨(s.hosts.getD i default).lost, AV.lst 5 [] .full, (s.hosts.getD i default).parts⟩) hlt rfl (.inl ⟨hpe, .inr rfl⟩) (fun n hn => by cases hn) (by simp [show H'.next ≠ n2 by omega, show H'.next ≠ n2 + 1 by omega, show H'.next + 1 ≠ n2 + 1 by omega, show n2 ≠ H'.next by omega, show n2 ≠ H'.next + 1 by omega, hsO, flatE]) ⟨by omega, by simp <;> omega⟩ (fun n e0 e1 e2 => by simp [show n ≠ n2 + 1 by omega, show n ≠ H'.next by omega]), ?_, ?_, ht, ?_, fun n hn => ?_⟩
            · simp
            · simp [show H'.next ≠ n2 by omega, show H'.next ≠ n2 + 1 by omega, show H'.next + 1 ≠ n2 + 1 by omega, show n2 ≠ H'.next by omega, show n2 ≠ H'.next + 1 by omega, hb2]
            · first | omega | (simp; omega)
            · simp [show n ≠ n2 + 1 by omega, show n ≠ H'.next by omega]; exact hkk n hn
          ·
            have g1 : (n2 + 1 = H'.next) = False := eq_false (by omega)
            have g2 : (n2 + 1 = H'.next + 1) = False := eq_false (by omega)
            have g3 : (n2 + 1 = n2) = False := eq_false (by omega)
            have hlh := hJ.lh h rfl
            have g4 : (n2 + 1 = h) = False := eq_false (by omega)
            have g5 : (h = H'.next) = False := eq_false (by omega)
            have g6 : (h = n2 + 1) = False := eq_false (by omega)
            have g7 : (h = H'.next + 1) = False := eq_false (by omega)
            have elen : o.length * 2 ≤ (flatE hsO o).length := by rw [flatE_len hsO_len]; omega
            have etk : List.take (o.length * 2) (flatE hsO o) = flatE hsO o := by rw [← flatE_len hsO_len, List.take_length]
            simp only [hb3, hlt', inR hlt, Int.toNat_natCast, getD_map hsR _ _ hlt, hsR, ptsV, List.length_map, g1, g2, g3, nilS, hpe, hh, elen, etk, room1 (b := 32) (n := o.length) (by omega) (by omega), g4, g5, g6, g7, f4, f3, f2, f1, hds, Cd.cd17, Tk.t17, base0, base1, base2, base3, Option.isNone_none, Option.isNone_some, Nat.reduceBEq, true_or, or_true, false_or, or_false, Nat.reduceLT, Nat.reduceMod, Nat.reducePow, rmaps, nsucc, List.flatten_cons, List.flatten_nil, Nat.reduceEqDiff, Nat.reduceLeDiff, Nat.reduceAdd, Nat.reduceMul, Nat.reduceSub, ↓reduceIte, reduceCtorEq, decide_true, decide_false]
            refine ⟨fun n hn => by first | trivial | (simp at hn; subst hn; simp [show n2 + 1 ≠ H'.next by omega]), _, by omega, i + 1, rfl, by omega, by rw [wrapS (by omega)], rfl, o ++ [⟨(s.hosts.getD i default).lost, AV.lst 5 [] .full, (s.hosts.getD i default).parts⟩], .sl 2 H'.next 0 (o.length + 1), ?_⟩
            refine ⟨hJ.step (y := ⟨(s.hosts.getD i default).lost, AV.lst 5 [] .full, (s.hosts.getD i default).parts⟩) hlt rfl (.inl ⟨hpe, .inr rfl⟩) (fun n hn => by cases hn) (by simp [show H'.next ≠ n2 by omega, show H'.next ≠ n2 + 1 by omega, show H'.next + 1 ≠ n2 + 1 by omega, show n2 ≠ H'.next by omega, show n2 ≠ H'.next + 1 by omega, show H'.next ≠ h by omega, show H'.next + 1 ≠ h by omega, show n2 ≠ h by omega, hsO, flatE]) ⟨by omega, by simp <;> omega⟩ (fun n e0 e1 e2 => by simp [show n ≠ n2 + 1 by omega, show n ≠ H'.next by omega, show n ≠ h from fun e => e2 (by rw [e]; rfl)]), ?_, ?_, ht, ?_, fun n hn => ?_⟩
            · simp
            · simp [show H'.next ≠ n2 by omega, show H'.next ≠ n2 + 1 by omega, show H'.next + 1 ≠ n2 + 1 by omega, show n2 ≠ H'.next by omega, show n2 ≠ H'.next + 1 by omega, show H'.next ≠ h by omega, show H'.next + 1 ≠ h by omega, show n2 ≠ h by omega, hb2]
            · first | omega | (simp; omega)
            · simp [show n ≠ n2 + 1 by omega, show n ≠ H'.next by omega, show n ≠ h by omega]; exact hkk n hn
        · rcases hJ.ha with ⟨rfl, rfl⟩ | ⟨h, rfl, hh⟩
          ·
            have g1 : (n2 + 1 = H'.next) = False := eq_false (by omega)
            have g2 : (n2 + 1 = H'.next + 1) = False := eq_false (by omega)
            have g3 : (n2 + 1 = n2) = False := eq_false (by omega)
            simp only [hb3, hlt', inR hlt, Int.toNat_natCast, getD_map hsR _ _ hlt, hsR, ptsV, List.length_map, g1, g2, g3, nilS, hpl, show roomA 32 (s.hosts.getD i default).parts.length = true from room_of (by omega) (by omega), show roomA 32 1 = true from rfl, f4, f3, f2, f1, hds, Cd.cd17, Tk.t17, base0, base1, base2, base3, Option.isNone_none, Option.isNone_some, Nat.reduceBEq, true_or, or_true, false_or, or_false, Nat.reduceLT, Nat.reduceMod, Nat.reducePow, rmaps, nsucc, List.flatten_cons, List.flatten_nil, Nat.reduceEqDiff, Nat.reduceLeDiff, Nat.reduceAdd, Nat.reduceMul, Nat.reduceSub, ↓reduceIte, reduceCtorEq, decide_true, decide_false]
            refine ⟨fun n hn => by first | trivial | (simp at hn; subst hn; simp [show n2 + 1 ≠ H'.next by omega]), _, by omega, i + 1, rfl, by omega, by rw [wrapS (by omega)], rfl, [⟨(s.hosts.getD i default).lost, AV.sl 5 H'.next 0 (s.hosts.getD i default).parts.length, (s.hosts.getD i default).parts⟩], .sl 2 (H'.next + 1) 0 (1), ?_⟩
            refine ⟨hJ.step (y := ⟨(s.hosts.getD i default).lost, AV.sl 5 H'.next 0 (s.hosts.getD i default).parts.length, (s.hosts.getD i default).parts⟩) hlt rfl (.inr ⟨H'.next, [], rfl, by simp [show H'.next ≠ n2 by omega, show H'.next ≠ n2 + 1 by omega, show H'.next + 1 ≠ n2 + 1 by omega, show n2 ≠ H'.next by omega, show n2 ≠ H'.next + 1 by omega, flatE]⟩) (fun n hn => by cases hn; exact ⟨Nat.le_refl _, by simp <;> omega, by omega⟩) (by simp [show H'.next ≠ n2 by omega, show H'.next ≠ n2 + 1 by omega, show H'.next + 1 ≠ n2 + 1 by omega, show n2 ≠ H'.next by omega, show n2 ≠ H'.next + 1 by omega, hsO, flatE]) ⟨by omega, by simp <;> omega⟩ (fun n e0 e1 e2 => by simp [show n ≠ n2 + 1 by omega, show n ≠ H'.next by omega, show n ≠ H'.next + 1 by omega]), ?_, ?_, ht, ?_, fun n hn => ?_⟩
            · simp
            · simp [show H'.next ≠ n2 by omega, show H'.next ≠ n2 + 1 by omega, show H'.next + 1 ≠ n2 + 1 by omega, show n2 ≠ H'.next by omega, show n2 ≠ H'.next + 1 by omega, hb2]
            · first | omega | (simp; omega)
            · simp [show n ≠ n2 + 1 by omega, show n ≠ H'.next by omega, show n ≠ H'.next + 1 by omega]; exact hkk n hn
          ·
            have g1 : (n2 + 1 = H'.next) = False := eq_false (by omega)
            have g2 : (n2 + 1 = H'.next + 1) = False := eq_false (by omega)
            have g3 : (n2 + 1 = n2) = False := eq_false (by omega)
            have hlh := hJ.lh h rfl
            have g4 : (n2 + 1 = h) = False := eq_false (by omega)
            have g5 : (h = H'.next) = False := eq_false (by omega)
            have g6 : (h = n2 + 1) = False := eq_false (by omega)
            have g7 : (h = H'.next + 1) = False := eq_false (by omega)
            have elen : o.length * 2 ≤ (flatE hsO o).length := by rw [flatE_len hsO_len]; omega
            have etk : List.take (o.length * 2) (flatE hsO o) = flatE hsO o := by rw [← flatE_len hsO_len, List.take_length]
            simp only [hb3, hlt', inR hlt, Int.toNat_natCast, getD_map hsR _ _ hlt, hsR, ptsV, List.length_map, g1, g2, g3, nilS, hpl, show roomA 32 (s.hosts.getD i default).parts.length = true from room_of (by omega) (by omega), hh, elen, etk, room1 (b := 32) (n := o.length) (by omega) (by omega), g4, g5, g6, g7, f4, f3, f2, f1, hds, Cd.cd17, Tk.t17, base0, base1, base2, base3, Option.isNone_none, Option.isNone_some, Nat.reduceBEq, true_or, or_true, false_or, or_false, Nat.reduceLT, Nat.reduceMod, Nat.reducePow, rmaps, nsucc, List.flatten_cons, List.flatten_nil, Nat.reduceEqDiff, Nat.reduceLeDiff, Nat.reduceAdd, Nat.reduceMul, Nat.reduceSub, ↓reduceIte, reduceCtorEq, decide_true, decide_false]
            refine ⟨fun n hn => by first | trivial | (simp at hn; subst hn; simp [show n2 + 1 ≠ H'.next by omega]), _, by omega, i + 1, rfl, by omega, by rw [wrapS (by omega)], rfl, o ++ [⟨(s.hosts.getD i default).lost, AV.sl 5 H'.next 0 (s.hosts.getD i default).parts.length, (s.hosts.getD i default).parts⟩], .sl 2 (H'.next + 1) 0 (o.length + 1), ?_⟩
            refine ⟨hJ.step (y := ⟨(s.hosts.getD i default).lost, AV.sl 5 H'.next 0 (s.hosts.getD i default).parts.length, (s.hosts.getD i default).parts⟩) hlt rfl (.inr ⟨H'.next, [], rfl, by simp [show H'.next ≠ n2 by omega, show H'.next ≠ n2 + 1 by omega, show H'.next + 1 ≠ n2 + 1 by omega, show n2 ≠ H'.next by omega, show n2 ≠ H'.next + 1 by omega, show H'.next ≠ h by omega, show H'.next + 1 ≠ h by omega, show n2 ≠ h by omega, flatE]⟩) (fun n hn => by cases hn; exact ⟨Nat.le_refl _, by simp <;> omega, by omega⟩) (by simp [show H'.next ≠ n2 by omega, show H'.next ≠ n2 + 1 by omega, show H'.next + 1 ≠ n2 + 1 by omega, show n2 ≠ H'.next by omega, show n2 ≠ H'.next + 1 by omega, show H'.next ≠ h by omega, show H'.next + 1 ≠ h by omega, show n2 ≠ h by omega, hsO, flatE]) ⟨by omega, by simp <;> omega⟩ (fun n e0 e1 e2 => by simp [show n ≠ n2 + 1 by omega, show n ≠ H'.next by omega, show n ≠ H'.next + 1 by omega, show n ≠ h from fun e => e2 (by rw [e]; rfl)]), ?_, ?_, ht, ?_, fun n hn => ?_⟩
            · simp
            · simp [show H'.next ≠ n2 by omega, show H'.next ≠ n2 + 1 by omega, show H'.next + 1 ≠ n2 + 1 by omega, show n2 ≠ H'.next by omega, show n2 ≠ H'.next + 1 by omega, show H'.next ≠ h by omega, show H'.next + 1 ≠ h by omega, show n2 ≠ h by omega, hb2]
            · first | omega | (simp; omega)
            · simp [show n ≠ n2 + 1 by omega, show n ≠ H'.next by omega, show n ≠ H'.next + 1 by omega, show n ≠ h by omega]; exact hkk n hn
      · have hi' : i = s.hosts.length := by omega
        subst hi'
        obtain ⟨h, rfl, hO, hnm⟩ := hJ.own h2
        simp only [stL, hssV] at f1
        have one3 : (AV.one aq) = true := by rw [haq]; split <;> rfl
        have g3 : (n2 + 1 = n2) = False := eq_false (by omega)
        have hol : o.length = s.hosts.length := hoi
        have hfin : ∀ v : List AV, v = stO s (n2 + 2) h aq o → ∀ H2 : AH, H2.tip = H'.tip → H'.next ≤ H2.next → (∀ n, n ≠ n2 → H2.own n = H'.own n) → ∃ cs, AOut.ret (.agg v) = .ret (.agg cs) ∧ NewS H s cs H2 := fun v hv H2 e1 e2 e3 =>
          ⟨v, rfl, ⟨_, _, _, _, hv, hO.frame fun n hn => e3 n (by have := hnm n hn; omega), fun n hn => by have := hnm n hn; omega⟩, by rw [e1]; exact ht, by omega, fun n hn => by rw [e3 n (by omega)]; exact hkk n hn⟩
        by_cases hn : s.net = []
        · rw [if_pos hn] at haq
          rw [haq] at hb3
          simp only [List.length_map, ltF hlt, hb3, hb2, g3, f4, f3, f2, f1, hds, Cd.cd17, Tk.t17, base0, base1, base2, base3, Option.isNone_none, Option.isNone_some, Nat.reduceBEq, true_or, or_true, false_or, or_false, Nat.reduceLT, Nat.reduceMod, Nat.reducePow, rmaps, nsucc, List.flatten_cons, List.flatten_nil, Nat.reduceEqDiff, Nat.reduceLeDiff, Nat.reduceAdd, Nat.reduceMul, Nat.reduceSub, ↓reduceIte, reduceCtorEq, decide_true, decide_false]
          exact hfin _ (by rw [stO, haq, hol]) _ rfl (Nat.le_refl _) fun n hn => by simp [hn]
        · rw [if_neg hn] at haq
          rw [haq] at hb3
          simp only [List.length_map, ltF hlt, hb3, hb2, g3, f4, f3, f2, f1, hds, Cd.cd17, Tk.t17, base0, base1, base2, base3, Option.isNone_none, Option.isNone_some, Nat.reduceBEq, true_or, or_true, false_or, or_false, Nat.reduceLT, Nat.reduceMod, Nat.reducePow, rmaps, nsucc, List.flatten_cons, List.flatten_nil, Nat.reduceEqDiff, Nat.reduceLeDiff, Nat.reduceAdd, Nat.reduceMul, Nat.reduceSub, ↓reduceIte, reduceCtorEq, decide_true, decide_false]
          exact hfin _ (by rw [stO, haq, hol]) _ rfl (Nat.le_refl _) fun n hn => by simp [hn]
end Go.Proofs.Ytgmncggiblaciaa

/- Walks: the reference's packets, and what is taken. -/
namespace Go.Proofs.Ytgmncggiblaciaa
open Go Go.Proofs.Ytgmncggiblaciaa.Ab
set_option maxRecDepth 100000

/-- a list of the call's own, with another one in its place -/
def NextA {α : Type} (enc : α → List AV) (k : Nat) (H : AH) (a : AV) (l : List α) (v : AV) (H' : AH) : Prop :=
  Arr enc k H' v l ∧ (nmA v = nmA a ∨ (nmA v = some H.next ∧ H.next < H'.next)) ∧ H'.tip = H.tip ∧ H.next ≤ H'.next ∧ ∀ m, m < H.next → nmA a ≠ some m → H'.own m = H.own m

theorem send64 {H : AH} {a : AV} {l : List Pk} (k : Pk) (ha : Arr pkR 4 H a l) (hl : l.length ≤ 12) (hn : ∀ n, nmA a = some n → n < H.next) :
    ACall Try.prog 64 [a, .agg (pkR k)] H (fun out H' => ∃ v, out = .ret v ∧ NextA pkR 4 H a (sendP l k) v H') := by
  simp only [pkR]
  refine ACall.enter [12] Cd.fn64 (by simp) ?_
  rcases arr_cases ha with ⟨rfl, rfl⟩ | ⟨rfl, rfl⟩ | ⟨n, rest, rfl, hnm⟩
  · simp only [nilS, show decide (((0 : Nat) : Int) ≥ 12) = false from rfl, show roomA 32 1 = true from rfl, Cd.cd64, Tk.t64, base0, base1, base2, base3, Option.isNone_none, Option.isNone_some, Nat.reduceBEq, true_or, or_true, false_or, or_false, Nat.reduceLT, Nat.reduceMod, Nat.reducePow, rmaps, nsucc, List.flatten_cons, List.flatten_nil, Nat.reduceEqDiff, Nat.reduceLeDiff, Nat.reduceAdd, Nat.reduceMul, Nat.reduceSub, ↓reduceIte, reduceCtorEq, decide_true, decide_false]
    exact ⟨_, rfl, .inr ⟨H.next, [], rfl, by simp [flatE, pkR, sendP]⟩, .inr ⟨rfl, by simp⟩, rfl, by simp, fun m h1 h2 => by simp [show m ≠ H.next by omega]⟩
  · simp only [nilS, List.length_nil, show decide (((0 : Nat) : Int) ≥ 12) = false from rfl, show roomA 32 1 = true from rfl, Cd.cd64, Tk.t64, base0, base1, base2, base3, Option.isNone_none, Option.isNone_some, Nat.reduceBEq, true_or, or_true, false_or, or_false, Nat.reduceLT, Nat.reduceMod, Nat.reducePow, rmaps, nsucc, List.flatten_cons, List.flatten_nil, Nat.reduceEqDiff, Nat.reduceLeDiff, Nat.reduceAdd, Nat.reduceMul, Nat.reduceSub, ↓reduceIte, reduceCtorEq, decide_true, decide_false]
    exact ⟨_, rfl, .inr ⟨H.next, [], rfl, by simp [flatE, pkR, sendP]⟩, .inr ⟨rfl, by simp⟩, rfl, by simp, fun m h1 h2 => by simp [show m ≠ H.next by omega]⟩
  · have hn' := hn n rfl
    by_cases hlt : l.length < 12
    · have g1 : (n = H.next) = False := eq_false (by omega)
      have elen : l.length * 4 ≤ (flatE pkR l ++ rest).length := by rw [List.length_append, flatE_len pkR_len]; omega
      have etk : List.take (l.length * 4) (flatE pkR l ++ rest) = flatE pkR l := by rw [← flatE_len pkR_len, List.take_left]
      simp only [show decide ((l.length : Int) ≥ 12) = false from decide_eq_false (by omega), hnm, g1, elen, etk, room1 (b := 32) (n := l.length) (by omega) (by omega), Cd.cd64, Tk.t64, base0, base1, base2, base3, Option.isNone_none, Option.isNone_some, Nat.reduceBEq, true_or, or_true, false_or, or_false, Nat.reduceLT, Nat.reduceMod, Nat.reducePow, rmaps, nsucc, List.flatten_cons, List.flatten_nil, Nat.reduceEqDiff, Nat.reduceLeDiff, Nat.reduceAdd, Nat.reduceMul, Nat.reduceSub, ↓reduceIte, reduceCtorEq, decide_true, decide_false]
      rw [show sendP l k = l ++ [k] from if_pos hlt]
      refine ⟨_, rfl, .inr ⟨H.next, [], by simp, by simp [Ne.symm (show n ≠ H.next by omega), flatE_append]; rfl⟩, .inr ⟨rfl, by simp⟩, rfl, by simp, fun m h1 h2 => ?_⟩
      simp [show m ≠ H.next by omega, show m ≠ n from fun e => h2 (by rw [e]; rfl)]
    · simp only [show decide ((l.length : Int) ≥ 12) = true from decide_eq_true (by omega), Cd.cd64, Tk.t64, base0, base1, base2, base3, Option.isNone_none, Option.isNone_some, Nat.reduceBEq, true_or, or_true, false_or, or_false, Nat.reduceLT, Nat.reduceMod, Nat.reducePow, rmaps, nsucc, List.flatten_cons, List.flatten_nil, Nat.reduceEqDiff, Nat.reduceLeDiff, Nat.reduceAdd, Nat.reduceMul, Nat.reduceSub, ↓reduceIte, reduceCtorEq, decide_true, decide_false]
      rw [show sendP l k = l from if_neg hlt]
      exact ⟨_, rfl, ha, .inl rfl, rfl, Nat.le_refl _, fun m h1 h2 => rfl⟩

set_option maxHeartbeats 1000000 in
theorem without66 {H : AH} {n : Nat} {l : List Pk} {rest : List AV} (hnm : H.own n = some (.cells (flatE pkR l ++ rest))) (hn : n < H.next) (hb : l.length < 2 ^ 40) (i : Nat) (hi : i < l.length) :
    ACall Try.prog 66 [.sl 4 n 0 l.length, .v (.int .i64 (i : Nat))] H (fun out H' => ∃ v, out = .ret v ∧ Arr pkR 4 H' v (l.eraseIdx i) ∧ (∀ m, nmA v = some m → H.next ≤ m ∧ m < H'.next) ∧ H'.tip = H.tip ∧ H.next ≤ H'.next ∧ ∀ m, m < H.next → H'.own m = H.own m) := by
  have b1 : 0 ≤ (i : Int) ∧ (i : Int) ≤ (l.length : Int) := by omega
  have b2 : 0 ≤ (i : Int) + 1 ∧ (i : Int) + 1 ≤ (l.length : Int) := by omega
  have t1 : ((i : Int) + 1).toNat = i + 1 := by omega
  have w1 : IntKind.i64.wrap ((i : Int) + 1) = (i : Int) + 1 := wrapI (by omega) (by omega)
  have L1 : (flatE pkR l ++ rest).length = l.length * 4 + rest.length := by rw [List.length_append, flatE_len pkR_len]
  have c1 : i * 4 ≤ (flatE pkR l ++ rest).length := by omega
  have c2 : (chunk 4 i (flatE pkR l ++ rest)).flatten = flatE pkR (l.take i) := by
    rw [chunk_flatten _ _ c1, flatE_takeAll pkR_len l i rest (by omega)]
  have n1 : (n = H.next) = False := eq_false (by omega)
  have n2 : (n = H.next + 1) = False := eq_false (by omega)
  have LT : (flatE pkR (l.take i)).length = i * 4 := by rw [flatE_len pkR_len, List.length_take]; congr 1; omega
  have tk : List.take (i * 4) (flatE pkR (l.take i)) = flatE pkR (l.take i) := by rw [← LT, List.take_length]
  have he : l.eraseIdx i = l.take i ++ l.drop (i + 1) := List.eraseIdx_eq_take_drop_succ ..
  have hel : (l.eraseIdx i).length = l.length - 1 := by rw [List.length_eraseIdx, if_pos hi]
  have cond : (l.length - (i + 1) = 0) = (¬ i + 1 < l.length) := by apply propext; omega
  have c3 : (i + 1) * 4 + (l.length - (i + 1)) * 4 ≤ (flatE pkR l ++ rest).length := by omega
  have c4 : (chunk 4 (l.length - (i + 1)) (List.drop ((i + 1) * 4) (flatE pkR l ++ rest))).flatten = flatE pkR (l.drop (i + 1)) := by
    rw [chunk_flatten _ _ (by rw [List.length_drop]; omega), flatE_dropAll pkR_len l (i + 1) rest (by omega), flatE_takeAll pkR_len (l.drop (i + 1)) _ rest (by simp), List.take_of_length_le (by simp)]
  have c5 := flatE_one_all (enc := pkR) (fun x => rfl) (l.drop (i + 1))
  have r1 : roomA 32 i = true := room_of (by omega) (by omega)
  have r2 : roomA 32 (l.length - (i + 1)) = true := room_of (by omega) (by omega)
  have r3 : roomA 32 (i + (l.length - (i + 1))) = true := room_of (by omega) (by omega)
  have r4 : i + (l.length - (i + 1)) = l.length - 1 := by omega
  have le1 : i * 4 ≤ (flatE pkR (List.take i l)).length := by omega
  by_cases h0 : i = 0
  · have h0' : (i = 0) = True := eq_true h0
    have te : l.take i = [] := by rw [h0]; rfl
    by_cases hlt : i + 1 < l.length
    · have z : (l.length - (i + 1) = 0) = False := eq_false (by omega)
      refine ACall.enter [9, 14] Cd.fn66 (by simp) ?_
      simp only [b1, b2, t1, w1, Int.toNat_natCast, hnm, chunk_len, c1, c2, n1, n2, r1, r2, r3, h0', hlt, c3, c4, c5, z, Cd.cd66, Tk.t66, base0, base1, base2, base3, Option.isNone_none, Option.isNone_some, Nat.reduceBEq, true_or, or_true, false_or, or_false, Nat.reduceLT, Nat.reduceMod, Nat.reducePow, rmaps, nsucc, List.flatten_cons, List.flatten_nil, Nat.reduceEqDiff, Nat.reduceLeDiff, Nat.reduceAdd, Nat.reduceMul, Nat.reduceSub, ↓reduceIte, reduceCtorEq, decide_true, decide_false]
      refine ⟨_, rfl, .inr ⟨H.next, [], by rw [hel]; congr 1; omega, by simp [he, te]⟩, fun m hm => by cases hm; simp, by simp, fun m hm => by simp [show m ≠ H.next by omega]⟩
    · refine ACall.enter [9, 14] Cd.fn66 (by simp) ?_
      simp only [b1, b2, t1, w1, Int.toNat_natCast, hnm, chunk_len, c1, c2, n1, n2, r1, r2, r3, h0', hlt, Cd.cd66, Tk.t66, base0, base1, base2, base3, Option.isNone_none, Option.isNone_some, Nat.reduceBEq, true_or, or_true, false_or, or_false, Nat.reduceLT, Nat.reduceMod, Nat.reducePow, rmaps, nsucc, List.flatten_cons, List.flatten_nil, Nat.reduceEqDiff, Nat.reduceLeDiff, Nat.reduceAdd, Nat.reduceMul, Nat.reduceSub, ↓reduceIte, reduceCtorEq, decide_true, decide_false]
      refine ⟨_, rfl, .inl ⟨?_, .inr rfl⟩, (fun m hm => by cases hm), Nat.le_refl _, fun m hm => trivial⟩
      rw [he, te, List.drop_of_length_le (by omega)]; rfl
  · have h0' : (i = 0) = False := eq_false h0
    have c2' := flatE_one_all (enc := pkR) (fun x => rfl) (l.take i)
    by_cases hlt : i + 1 < l.length
    · have z : (l.length - (i + 1) = 0) = False := eq_false (by omega)
      refine ACall.enter [9, 14] Cd.fn66 (by simp) ?_
      simp only [b1, b2, t1, w1, Int.toNat_natCast, hnm, chunk_len, c1, c2, n1, n2, r1, r2, r3, h0', hlt, c3, c4, c5, z, le1, tk, Cd.cd66, Tk.t66, base0, base1, base2, base3, Option.isNone_none, Option.isNone_some, Nat.reduceBEq, true_or, or_true, false_or, or_false, Nat.reduceLT, Nat.reduceMod, Nat.reducePow, rmaps, nsucc, List.flatten_cons, List.flatten_nil, Nat.reduceEqDiff, Nat.reduceLeDiff, Nat.reduceAdd, Nat.reduceMul, Nat.reduceSub, ↓reduceIte, reduceCtorEq, decide_true, decide_false]
      refine ⟨_, rfl, .inr ⟨H.next + 1, [], by rw [hel]; congr 1, by simp [he, flatE_append]⟩, fun m hm => by cases hm; simp, by omega, fun m hm => by simp [show m ≠ H.next by omega, show m ≠ H.next + 1 by omega]⟩
    · refine ACall.enter [9, 14] Cd.fn66 (by simp) ?_
      simp only [b1, b2, t1, w1, Int.toNat_natCast, hnm, chunk_len, c1, c2, n1, n2, r1, r2, r3, h0', hlt, le1, tk, Cd.cd66, Tk.t66, base0, base1, base2, base3, Option.isNone_none, Option.isNone_some, Nat.reduceBEq, true_or, or_true, false_or, or_false, Nat.reduceLT, Nat.reduceMod, Nat.reducePow, rmaps, nsucc, List.flatten_cons, List.flatten_nil, Nat.reduceEqDiff, Nat.reduceLeDiff, Nat.reduceAdd, Nat.reduceMul, Nat.reduceSub, ↓reduceIte, reduceCtorEq, decide_true, decide_false]
      refine ⟨_, rfl, .inr ⟨H.next + 1, [], ?_, ?_⟩, fun m hm => by cases hm; simp, by omega, fun m hm => by simp [show m ≠ H.next by omega, show m ≠ H.next + 1 by omega]⟩
      · rw [hel]; congr 1; omega
      · rw [he, List.drop_of_length_le (by omega), List.append_nil]; simp
end Go.Proofs.Ytgmncggiblaciaa

/- Walks: the reference takes, and delivers. -/
namespace Go.Proofs.Ytgmncggiblaciaa
open Go Go.Proofs.Ytgmncggiblaciaa.Ab
set_option maxRecDepth 100000

section
variable {H H' : AH} {s : Stt} {p h : Nat} {aq : AV} {o : List OH}
theorem OwnS.placed' (x : OwnS H s p h aq o) {l : List Pl} {v : Int} (hp : H'.own p = some (.cells (flatE plR l))) (hk : ∀ n, NmS p h aq o n → n ≠ p → H'.own n = H.own n) : OwnS H' { s with placed := l, v := v } p h aq o :=
  ⟨hp, by rw [hk h (.inr (.inl rfl)) (Ne.symm x.ph)]; exact x.hh, x.eq, x.q.mono fun n hn => hk n (.inr (.inr (.inl hn))) (x.dq n hn).1, fun y hy => (x.m y hy).mono fun n hn => hk n (.inr (.inr (.inr ⟨y, hy, hn⟩))) (x.dm y hy n hn).1, x.ph, x.dq, x.dm, x.dd⟩
theorem OwnS.net' (x : OwnS H s p h aq o) {aq' : AV} {l : List Pk} (hq : Arr pkR 4 H' aq' l) (hn : ∀ n, nmA aq' = some n → nmA aq = some n ∨ ¬ NmS p h aq o n) (hk : ∀ n, NmS p h aq o n → nmA aq ≠ some n → H'.own n = H.own n) :
    OwnS H' { s with net := l } p h aq' o := by
  refine ⟨?_, ?_, x.eq, hq, fun y hy => (x.m y hy).mono fun n hn' => ?_, x.ph, fun n hn' => ?_, fun y hy n hn' => ?_, x.dd⟩
  · rw [hk p (.inl rfl) fun e => (x.dq _ e).1 rfl]; exact x.hp
  · rw [hk h (.inr (.inl rfl)) fun e => (x.dq _ e).2 rfl]; exact x.hh
  · exact hk n (.inr (.inr (.inr ⟨y, hy, hn'⟩))) (x.dm y hy n hn').2.2
  · rcases hn n hn' with h1 | h1
    · exact x.dq n h1
    · exact ⟨fun e => h1 (.inl e), fun e => h1 (.inr (.inl e))⟩
  · have h1 := x.dm y hy n hn'
    refine ⟨h1.1, h1.2.1, fun e => ?_⟩
    rcases hn n e with h2 | h2
    · exact h1.2.2 h2
    · exact h2 (.inr (.inr (.inr ⟨y, hy, hn'⟩)))
end

/-- a state by value, of the call's own -/
def OwnV (B : Nat) (H : AH) (cs : List AV) (s : Stt) : Prop := ∃ p h aq o, cs = stO s p h aq o ∧ OwnS H s p h aq o ∧ ∀ n, NmS p h aq o n → B ≤ n ∧ n < H.next
def DoneV (B : Nat) (H : AH) (s : Stt) (out : AOut) (H' : AH) : Prop := ∃ cs, out = .ret (.agg cs) ∧ Fr B H H' ∧ OwnV B H' cs s
theorem one_aq {H : AH} {aq : AV} {l : List Pk} (h : Arr pkR 4 H aq l) : AV.one aq = true := by
  rcases h with ⟨_, rfl | rfl⟩ | ⟨n, rest, rfl, _⟩ <;> rfl
theorem cells_aq {H : AH} {aq : AV} {l : List Pk} (h : Arr pkR 4 H aq l) : cellsA aq = some [aq] := by
  rcases h with ⟨_, rfl | rfl⟩ | ⟨n, rest, rfl, _⟩ <;> rfl

/-- what `take` leaves -/
def TakeX (H : AH) (s : Stt) (p h : Nat) (aq : AV) (o : List OH) (out : AOut) (H' : AH) : Prop := out = .ret (.agg (stO s p h aq o)) ∧ OwnS H' s p h aq o ∧ H'.tip = H.tip ∧ H.next ≤ H'.next ∧ ∀ m, m < H.next → m ≠ p → H'.own m = H.own m
theorem take68x {H : AH} {s : Stt} {p h : Nat} {aq : AV} {o : List OH} (x : OwnS H s p h aq o) (hnm : ∀ n, NmS p h aq o n → n < H.next) (part v : Int) (h0 : 0 ≤ part) (hp : part < (s.placed.length : Int)) :
    ACall Try.prog 68 [.agg [.sl 4 p 0 s.placed.length, .v (.int .i64 s.v), .sl 2 h 0 o.length, aq], .v (.int .i64 part), .v (.int .i64 v)] H (TakeX H (takeS s part v) p h aq o) := by
  have hnp := hnm p (.inl rfl)
  have hone := one_aq x.q
  have e1 : 0 ≤ part ∧ part < (s.placed.length : Int) := ⟨h0, hp⟩
  have hi : part.toNat < s.placed.length := by omega
  generalize hx0 : s.placed.getD part.toNat default = x0
  have l2 : part.toNat * 4 + 2 + 1 ≤ (flatE plR s.placed).length := by rw [flatE_len plR_len]; omega
  have s2 := flatE_splice' (enc := plR) (l := s.placed) (i := part.toNat) (j := 2) (a := .v (.bool true)) (x := { x0 with tk := true }) plR_len hi (by decide) (by rw [hx0]; rfl)
  have l3 : part.toNat * 4 + 3 + 1 ≤ (flatE plR (s.placed.set part.toNat { x0 with tk := true })).length := by rw [flatE_len plR_len, List.length_set]; omega
  have s3 := flatE_splice' (enc := plR) (l := s.placed.set part.toNat { x0 with tk := true }) (i := part.toNat) (j := 3) (a := .v (.int .i64 v)) (x := { x0 with tk := true, v := v }) plR_len (by rw [List.length_set]; exact hi) (by decide) (by rw [getD_set hi, if_pos rfl]; rfl)
  rw [List.set_set] at s3
  have f1 : (p = H.next) = False := eq_false (by omega)
  have f2 : (p = H.next + 1) = False := eq_false (by omega)
  have f3 : (H.next = p) = False := eq_false (by omega)
  have f4 : (H.next + 1 = p) = False := eq_false (by omega)
  rw [show takeS s part v = { s with placed := s.placed.set part.toNat { x0 with tk := true, v := v }, v := if v > s.v then v else s.v } from by unfold takeS; rw [hx0]]
  rcases arr_cases x.q with ⟨rfl, _⟩ | ⟨rfl, _⟩ | ⟨n, rest, rfl, _⟩
  all_goals
    refine ACall.enter [3] Cd.fn68 (by simp) ?_
    simp only [e1, x.hp, l2, s2, l3, s3, f1, f2, f3, f4, nilS, Cd.cd68, Tk.t68, base0, base1, base2, base3, Option.isNone_none, Option.isNone_some, Nat.reduceBEq, true_or, or_true, false_or, or_false, Nat.reduceLT, Nat.reduceMod, Nat.reducePow, rmaps, nsucc, List.flatten_cons, List.flatten_nil, Nat.reduceEqDiff, Nat.reduceLeDiff, Nat.reduceAdd, Nat.reduceMul, Nat.reduceSub, ↓reduceIte, reduceCtorEq, decide_true, decide_false]
    refine ⟨fun n hn => by simp at hn; subst hn; simp [show H.next ≠ p by omega], ?_⟩
    refine ⟨?_, x.placed' (by simp [f1, f2]) fun n hn hnp' => ?_, rfl, by simp <;> omega, fun m hm h1 => by simp [h1, show m ≠ H.next by omega, show m ≠ H.next + 1 by omega]⟩
    · simp [stO, nilS]
    · have := hnm n hn
      simp [show n ≠ H.next by omega, show n ≠ H.next + 1 by omega, hnp']
end Go.Proofs.Ytgmncggiblaciaa

/- Walks: the reference delivers. -/
namespace Go.Proofs.Ytgmncggiblaciaa
open Go Go.Proofs.Ytgmncggiblaciaa.Ab
set_option maxRecDepth 100000

section
variable {B : Nat} {H H' : AH} {r : Nat} {c : List AV} {s : Stt} {p h : Nat} {aq : AV} {o : List OH}
theorem OwnX.net2 (x : OwnX B H r c s p h aq o) {aq' : AV} {l : List Pk} (hx : H.next ≤ H'.next) (hr : H'.own r = some (.cells (runL c s p h aq' o))) (hq : Arr pkR 4 H' aq' l)
    (hn : ∀ n, nmA aq' = some n → nmA aq = some n ∨ (¬ NmS p h aq o n ∧ n ≠ r ∧ B ≤ n ∧ n < H'.next)) (hk : ∀ m, m < H.next → m ≠ r → nmA aq ≠ some m → H'.own m = H.own m) :
    OwnX B H' r c { s with net := l } p h aq' o := by
  have hb := x.br
  refine ⟨hr, x.st.net' hq (fun n hn' => (hn n hn').imp id And.left) fun n hm h' => hk n (x.nr n hm).2.2 (x.nr n hm).1 h', fun n hn' => ?_, ⟨hb.1, by omega⟩⟩
  rcases hn' with rfl | rfl | hn' | ⟨y, hy, hn'⟩
  · have := x.np; omega
  · have := x.nh; omega
  · rcases hn n hn' with h1 | h1
    · have := x.nq h1; omega
    · exact h1.2
  · have := x.no hy hn'; omega
theorem OwnX.cells (x : OwnX B H r [] s p h aq o) : H.own r = some (.cells [.sl 4 p 0 s.placed.length, .v (.int .i64 s.v), .sl 2 h 0 o.length, aq]) := x.rb
/-- a state by value gets a block -/
theorem OwnV.box {cs : List AV} (x : OwnV B H cs s) (hB : B ≤ H.next) (h1 : H.next < H'.next) (h2 : H'.own H.next = some (.cells cs)) (h3 : ∀ m, m < H.next → H'.own m = H.own m) : ∃ p h aq o, cs = stO s p h aq o ∧ OwnX B H' H.next [] s p h aq o := by
  obtain ⟨p, h, aq, o, rfl, x, hn⟩ := x
  exact ⟨p, h, aq, o, rfl, h2, x.frame fun n hm => h3 n (hn n hm).2, fun n hm => by have := hn n hm; omega, hB, h1⟩
end
theorem NextA.go {P : Program} {m : FuncId} {args : List AV} {H : AH} {a : AV} {l : List Pk} {mu : List Nat} {Kt : Kont} {dst : Option Nat} {os : List COp} {f : AF}
    (h : ACall P m args H (fun out H' => ∃ v, out = .ret v ∧ NextA pkR 4 H a l v H')) (h' : ∀ v H', NextA pkR 4 H a l v H' → cops P mu Kt os (f.put dst v) H') : ACall P m args H (callK P mu Kt dst os f) :=
  h.mono fun out H' hx => by
    obtain ⟨v, rfl, hn⟩ := hx
    exact h' v H' hn
theorem DoneV.go {P : Program} {m : FuncId} {args : List AV} {H : AH} {B : Nat} {s : Stt} {mu : List Nat} {Kt : Kont} {dst : Option Nat} {os : List COp} {f : AF}
    (h : ACall P m args H (DoneV B H s)) (h' : ∀ cs H', Fr B H H' → OwnV B H' cs s → cops P mu Kt os (f.put dst (.agg cs)) H') : ACall P m args H (callK P mu Kt dst os f) :=
  h.mono fun out H' hx => by
    obtain ⟨cs, rfl, h1, h2⟩ := hx
    exact h' cs H' h1 h2
theorem TakeX.go {P : Program} {m : FuncId} {args : List AV} {H : AH} {s : Stt} {p h : Nat} {aq : AV} {o : List OH} {mu : List Nat} {Kt : Kont} {dst : Option Nat} {os : List COp} {f : AF}
    (hc : ACall P m args H (TakeX H s p h aq o)) (h' : ∀ H', OwnS H' s p h aq o → H'.tip = H.tip → H.next ≤ H'.next → (∀ m, m < H.next → m ≠ p → H'.own m = H.own m) → cops P mu Kt os (f.put dst (.agg (stO s p h aq o))) H') : ACall P m args H (callK P mu Kt dst os f) :=
  hc.mono fun out H' hx => by
    obtain ⟨rfl, h1, h2, h3, h4⟩ := hx
    exact h' H' h1 h2 h3 h4
theorem ExR.go {P : Program} {m : FuncId} {args : List AV} {H : AH} {R : AV → AH → Prop} {mu : List Nat} {Kt : Kont} {dst : Option Nat} {os : List COp} {f : AF}
    (h : ACall P m args H (fun out H' => ∃ v, out = .ret v ∧ R v H')) (h' : ∀ v H', R v H' → cops P mu Kt os (f.put dst v) H') : ACall P m args H (callK P mu Kt dst os f) :=
  h.mono fun out H' hx => by
    obtain ⟨v, rfl, hn⟩ := hx
    exact h' v H' hn
theorem case3 {H : AH} {c : Case} {s : Stt} {B r p h : Nat} {aq : AV} {o : List OH} (x : OwnX B H r [] s p h aq o) (n : Int) : Views H [.agg [.v (.int .i64 c.hosts), ints c.place, ints c.verd], .agg [.sl 4 p 0 s.placed.length, .v (.int .i64 s.v), .sl 2 h 0 o.length, aq], .v (.int .i64 n)] [caseV c, stV s, .v (.int .i64 n)] := caseViews x.st n

/-- a packet is sent, and the state is returned -/
theorem send_end {B : Nat} {H Hx H5 H6 : AH} {r : Nat} {s : Stt} {p h : Nat} {a w : AV} {o : List OH} {pk : Pk} (x : OwnX B Hx r [] s p h a o) (hn1 : ∀ n, NmS p h a o n → n ≠ r + 1) (hr1 : r + 1 < Hx.next) (ht : Hx.tip = H.tip) (hx : H.next ≤ Hx.next) (hk : ∀ m, m < B → Hx.own m = H.own m)
    (hw : NextA pkR 4 Hx a (sendP s.net pk) w H5) (h6n : H6.next = H5.next) (h6t : H6.tip = H5.tip) (h6k : ∀ m, m ≠ r → m ≠ r + 1 → H6.own m = H5.own m) : DoneV B H { s with net := sendP s.net pk } (.ret (.agg (stO s p h w o))) H6 := by
  obtain ⟨hwa, hwn, hwt, hwx, hwk⟩ := hw
  have hbr := x.br
  have hw1 : ∀ n, nmA w = some n → n ≠ r ∧ n ≠ r + 1 ∧ B ≤ n ∧ n < H5.next := fun n hn => by
    rcases hwn with e | ⟨e, e'⟩
    · rw [e] at hn
      have := x.nq hn; have := hn1 n (.inr (.inr (.inl hn))); omega
    · rw [e] at hn; cases hn; omega
  have hkk : ∀ n, NmS p h a o n → nmA a ≠ some n → H6.own n = Hx.own n := fun n hn hne => by
    have := x.nr n hn; have := hn1 n hn
    rw [h6k n (by omega) (by omega), hwk n (by omega) hne]
  refine ⟨_, rfl, ⟨(h6t.trans hwt).trans ht, by omega, fun m hm => ?_⟩, p, h, w, o, rfl, x.st.net' (hwa.mono fun n hn => h6k n (hw1 n hn).1 (hw1 n hn).2.1) (fun n hn => ?_) hkk, fun n hn => ?_⟩
  · rw [h6k m (by omega) (by omega), hwk m (by omega) fun e => by have := x.nq e; omega, hk m hm]
  · rcases hwn with e | ⟨e, e'⟩
    · exact .inl (e ▸ hn)
    · rw [e] at hn; cases hn
      exact .inr fun hc => by have := x.nr _ hc; omega
  · rcases hn with rfl | rfl | hn | ⟨y, hy, hn⟩
    · have := x.np; omega
    · have := x.nh; omega
    · have := hw1 n hn; omega
    · have := x.no hy hn; omega

theorem nms_set {p h : Nat} {aq : AV} {o : List OH} {i : Nat} {y : OH} {m : Nat} (hm : NmS p h aq (o.set i y) m) : NmS p h aq o m ∨ nmA y.a = some m := by
  rcases hm with hm | hm | hm | ⟨z, hz, hm⟩
  · exact .inl (.inl hm)
  · exact .inl (.inr (.inl hm))
  · exact .inl (.inr (.inr (.inl hm)))
  · rcases List.mem_or_eq_of_mem_set hz with hz | rfl
    · exact .inl (.inr (.inr (.inr ⟨z, hz, hm⟩)))
    · exact .inr hm
/-- a send, with the return behind it -/
theorem send_go {B : Nat} {H Hx : AH} {r : Nat} {s : Stt} {p h : Nat} {a : AV} {o : List OH} {pk : Pk} {mu : List Nat} {Kt : Kont} {dst : Option Nat} {os : List COp} {f : AF} (x : OwnX B Hx r [] s p h a o) (hl : s.net.length ≤ 12) (ht : Hx.tip = H.tip) (hx : H.next ≤ Hx.next)
    (hr1 : r + 1 < Hx.next) (hk : ∀ m, m < B → Hx.own m = H.own m) (hn1 : ∀ n, NmS p h a o n → n ≠ r + 1) (h6 : Hx.own (r + 1) = some (.cells [.v (.slice none 0 0), .v (.int .i64 0), .v (.slice none 0 0), .v (.slice none 0 0)]))
    (k : ∀ w H5, H5.own r = some (.cells [.sl 4 p 0 s.placed.length, .v (.int .i64 s.v), .sl 2 h 0 o.length, a]) → H5.own (r + 1) = some (.cells [.v (.slice none 0 0), .v (.int .i64 0), .v (.slice none 0 0), .v (.slice none 0 0)]) → Arr pkR 4 H5 w (sendP s.net pk) →
      (∀ H6 : AH, H6.next = H5.next → H6.tip = H5.tip → (∀ m, m ≠ r → m ≠ r + 1 → H6.own m = H5.own m) → DoneV B H { s with net := sendP s.net pk } (.ret (.agg [.sl 4 p 0 s.placed.length, .v (.int .i64 s.v), .sl 2 h 0 o.length, w])) H6) → cops Try.prog mu Kt os (f.put dst w) H5) :
    ACall Try.prog 64 [a, .agg [.v (.int .i64 pk.kind), .v (.int .i64 pk.host), .v (.int .i64 pk.part), .v (.int .i64 pk.v)]] Hx (callK Try.prog mu Kt dst os f) := by
  refine NextA.go (send64 pk x.st.q hl fun m hm => x.nq hm |>.2.2) fun w H5 hw => k w H5 ?_ ?_ hw.1 fun H6 e1 e2 e3 => send_end x hn1 hr1 ht hx hk hw e1 e2 e3
  · rw [hw.2.2.2.2 r x.br.2 fun e => (x.nq e).1 rfl, x.rb]; rfl
  · rw [hw.2.2.2.2 _ hr1 fun e => hn1 _ (.inr (.inr (.inl e))) rfl, h6]

set_option maxHeartbeats 4000000 in
theorem deliver65 {B : Nat} {H : AH} {cs : List AV} {c : Case} {s : Stt} (hO : OwnV B H cs s) (hB : B ≤ H.next) (hV : Valid c s) (at_ : Nat) (ha : at_ < s.net.length) :
    ACall Try.prog 65 [caseV c, .agg cs, .v (.int .i64 (at_ : Nat))] H (DoneV B H (deliverS c { s with net := s.net.eraseIdx at_ } (s.net.getD at_ default))) := by
  obtain ⟨p, h, aq, o, rfl, x0, hnm⟩ := hO
  have hln := hV.ln; have hlp := hV.lp; have hlh := hV.lh
  obtain ⟨n, rest, rfl, hnq⟩ := x0.q.own (by omega)
  have hnn := hnm n (.inr (.inr (.inl rfl)))
  have hnp := hnm p (.inl rfl); have hnh := hnm h (.inr (.inl rfl))
  have hvn : Valid c { s with net := s.net.eraseIdx at_ } := hV.net (by rw [List.length_eraseIdx]; split <;> omega) fun q hq => hV.nt q (List.mem_of_mem_eraseIdx hq)
  have hk := hV.nt _ (getD_mem ha)
  have d0 := flatE_drop (enc := pkR) pkR_len s.net at_ 0 rest ha (by decide)
  generalize hkk : s.net.getD at_ default = k at hk d0
  simp only [Nat.add_zero, pkR, List.drop_zero, List.drop_succ_cons, List.cons_append, List.nil_append] at d0
  have f1 : (n = H.next) = False := eq_false (by omega)
  have f2 : (n = H.next + 1) = False := eq_false (by omega)
  have f3 : (n = H.next + 1 + 1) = False := eq_false (by omega)
  simp only [caseV, stO]
  refine ACall.enter [4, 49] Cd.fn65 (by simp) ?_
  simp only [inR ha, Int.toNat_natCast, hnq, d0, le4, f1, f2, f3, Cd.cd65, Tk.t65, base0, base1, base2, base3, Option.isNone_none, Option.isNone_some, Nat.reduceBEq, true_or, or_true, false_or, or_false, Nat.reduceLT, Nat.reduceMod, Nat.reducePow, rmaps, nsucc, List.flatten_cons, List.flatten_nil, Nat.reduceEqDiff, Nat.reduceLeDiff, Nat.reduceAdd, Nat.reduceMul, Nat.reduceSub, ↓reduceIte, reduceCtorEq, decide_true, decide_false]
  refine ExR.go (without66 (l := s.net) (rest := rest) (n := n) (by simp [f1, f2, f3, hnq]) (by simp; omega) (by omega) at_ ha) fun v H2 hw => ?_
  obtain ⟨hva, hvn2, ht2, hx2, hk2⟩ := hw
  simp only at hvn2 ht2 hx2 hk2
  have hc2 := cells_aq hva
  have ho2 := one_aq hva
  have hr2 : H2.own H.next = some (.cells [.sl 4 p 0 s.placed.length, .v (.int .i64 s.v), .sl 2 h 0 o.length, .sl 4 n 0 s.net.length]) := by rw [hk2 _ (by omega)]; simp [nsucc]
  have h62 : H2.own (H.next + 1) = some (.cells [.v (.slice none 0 0), .v (.int .i64 0), .v (.slice none 0 0), .v (.slice none 0 0)]) := by rw [hk2 _ (by omega)]; simp [nsucc]
  have h72 : H2.own (H.next + 1 + 1) = some (.cells [.v (.int .i64 k.kind), .v (.int .i64 k.host), .v (.int .i64 k.part), .v (.int .i64 k.v)]) := by rw [hk2 _ (by omega)]; simp [nsucc]
  have hlow : ∀ m, m < H.next → H2.own m = H.own m := fun m hm => by rw [hk2 m (by omega)]; simp [show m ≠ H.next by omega, show m ≠ H.next + 1 by omega, show m ≠ H.next + 1 + 1 by omega]
  obtain ⟨r, hre⟩ : ∃ r, r = H.next := ⟨_, rfl⟩
  rw [← hre] at hr2 h62 h72 hx2 hvn2 hlow ⊢
  have x2 : OwnX B H2 r [] s p h (.sl 4 n 0 s.net.length) o := ⟨hr2, x0.frame fun m hm => hlow m (by have := hnm m hm; omega), fun m hm => by have := hnm m hm; omega, by omega, by omega⟩
  -- the heap behind the store
  have x3 : OwnX B { H2 with own := fun m => if m = r then some (.cells [.sl 4 p 0 s.placed.length, .v (.int .i64 s.v), .sl 2 h 0 o.length, v]) else H2.own m } r [] { s with net := s.net.eraseIdx at_ } p h v o :=
    x2.net2 (Nat.le_refl _) (by simp [runL, stO]) (hva.mono fun m hm => by have := hvn2 m hm; simp [show m ≠ r by omega]) (fun m hm => .inr (by
      have h1 := hvn2 m hm
      exact ⟨fun e => by have := (x2.nr m e); have := hnm m e; omega, by omega, by omega, h1.2⟩)) fun m h1 h2 h3 => by simp [h2]
  generalize hs1 : ({ s with net := s.net.eraseIdx at_ } : Stt) = s1 at x3 hvn ⊢
  have e4 : s1.placed = s.placed ∧ s1.v = s.v ∧ s1.hosts = s.hosts := by subst hs1; exact ⟨rfl, rfl, rfl⟩
  obtain ⟨q1, q2, q3⟩ := hvn.hostIx hk.lo hk.hi
  rw [hk.pl] at q1 q2 q3
  have hlo : s1.hosts.length = o.length := by rw [x3.st.eq, List.length_map]
  have hlp1 := hvn.lp; have hln1 := hvn.ln
  have klo := hk.lo; have khi := hk.hi; have kk0 := hk.k0; have kk3 := hk.k3
  have e1 : 0 ≤ k.host ∧ k.host < (o.length : Int) := by omega
  have e2 : 0 ≤ k.part ∧ k.part < (s.placed.length : Int) := by omega
  have hi : k.host.toNat < o.length := by omega
  have hpi : k.part.toNat < s1.placed.length := by omega
  have eh : s1.hosts.getD k.host.toNat default = (o.getD k.host.toNat default).hs := by rw [x3.st.eq, getD_mapH _ _ hi]
  have hpa : partAt c s1 k.part = partIx (o.getD k.host.toNat default).parts k.part := by unfold partAt hostOf; rw [hk.pl, eh]; rfl
  have hmem := x2.st.m _ (getD_mem hi)
  have hdm := x2.st.dm _ (getD_mem hi)
  have hno := fun m (hm : nmA (o.getD k.host.toNat default).a = some m) => hnm m (.inr (.inr (.inr ⟨_, getD_mem hi, hm⟩)))
  have dh0 := flatE_drop' (enc := hsO) (l := o) (i := k.host.toNat) (j := 0) hsO_len hi (by decide)
  have dh1 := flatE_drop' (enc := hsO) (l := o) (i := k.host.toNat) (j := 1) hsO_len hi (by decide)
  generalize hx0 : o.getD k.host.toNat default = y0 at eh hpa hmem hdm hno dh0 dh1
  simp only [Nat.add_zero, hsO, List.drop_zero, List.drop_succ_cons, List.cons_append, List.nil_append] at dh0 dh1
  have l1 : k.host.toNat * 2 + 1 + 1 ≤ (flatE hsO o).length := by rw [flatE_len hsO_len]; omega
  have hnm3 : ∀ m, NmS p h v o m → m ≠ r ∧ m ≠ r + 1 ∧ m ≠ r + 1 + 1 ∧ B ≤ m ∧ m < H2.next := fun m hm => by
    have h1 := x3.nr m hm
    rcases hm with rfl | rfl | hm | ⟨y, hy, hm⟩
    · exact ⟨by omega, by omega, by omega, h1.2⟩
    · exact ⟨by omega, by omega, by omega, h1.2⟩
    · have := hvn2 m hm; exact ⟨by omega, by omega, by omega, h1.2⟩
    · have := hnm m (.inr (.inr (.inr ⟨y, hy, hm⟩))); exact ⟨by omega, by omega, by omega, h1.2⟩
  have hend : ∀ (Hx : AH) (s' : Stt) (p' h' : Nat) (aq' : AV) (o' : List OH), OwnX B Hx r [] s' p' h' aq' o' → (∀ n, NmS p' h' aq' o' n → n ≠ r + 1) → Hx.tip = H.tip → r + 1 + 1 + 1 ≤ Hx.next → (∀ m, m < B → Hx.own m = H.own m) →
      ∀ H4 : AH, H4.next = Hx.next → H4.tip = Hx.tip → (∀ m, m ≠ r + 1 → H4.own m = Hx.own m) → DoneV B H s' (.ret (.agg (stO s' p' h' aq' o'))) H4 := fun Hx s' p' h' aq' o' xx hnn' t1 n1 k1 H4 n4 t4 k4 =>
    ⟨_, rfl, ⟨t4.trans t1, by omega, fun m hm => by rw [k4 m (by omega), k1 m hm]⟩, p', h', aq', o', rfl, xx.st.frame fun n hn => k4 n (hnn' n hn), fun n hn => by have := xx.nr n hn; omega⟩
  have g1 : (p = r) = False := eq_false (by omega)
  have g2 : (h = r) = False := eq_false (by omega)
  have g3 : (r = h) = False := eq_false (by omega)
  have g4 : (r = p) = False := eq_false (by omega)
  have g5 : (h = r + 1) = False := eq_false (by omega)
  have g6 : (p = r + 1) = False := eq_false (by omega)
  have h3t : H2.tip = H.tip := ht2
  have hkB : ∀ m, m < B → H2.own m = H.own m := fun m hm => hlow m (by omega)
  have hv1 : s.v = s1.v := e4.2.1.symm
  have hp1 : s.placed.length = s1.placed.length := by rw [e4.1]
  rw [hp1, hv1] at x3
  rcases (by omega : k.kind = 0 ∨ k.kind = 1 ∨ k.kind = 2 ∨ k.kind = 3) with kk | kk | kk | kk
  · have z0 : (k.kind == 0) = true := by simp [kk]
    cases hl : y0.lost
    · cases hpt : partAt c s1 k.part with
      | some i =>
        rw [deliver0s kk (by rw [eh]; exact hl) hpt]
        simp only [hr2, hc2, ho2, h72, h62, e1, x2.st.hh, dh0, hl, z0, g2, g5, nsucc, Cd.cd65, Tk.t65, base0, base1, base2, base3, Option.isNone_none, Option.isNone_some, Nat.reduceBEq, true_or, or_true, false_or, or_false, Nat.reduceLT, Nat.reduceMod, Nat.reducePow, rmaps, nsucc, List.flatten_cons, List.flatten_nil, Nat.reduceEqDiff, Nat.reduceLeDiff, Nat.reduceAdd, Nat.reduceMul, Nat.reduceSub, ↓reduceIte, reduceCtorEq, decide_true, decide_false]
        refine (partOn67 c s1 hvn k.part klo khi).bgo (by rw [hp1, hv1]; exact case3 x3 k.part) (Ground.v _) ?_
        rw [hpt]
        simp only [ixOf, hr2, hc2, ho2, h72, h62, hp1, hv1, show ((((i : Nat) : Int)) == -1) = false from beq_eq_false_iff_ne.mpr (by omega), nsucc, Cd.cd65, Tk.t65, base0, base1, base2, base3, Option.isNone_none, Option.isNone_some, Nat.reduceBEq, true_or, or_true, false_or, or_false, Nat.reduceLT, Nat.reduceMod, Nat.reducePow, rmaps, nsucc, List.flatten_cons, List.flatten_nil, Nat.reduceEqDiff, Nat.reduceLeDiff, Nat.reduceAdd, Nat.reduceMul, Nat.reduceSub, ↓reduceIte, reduceCtorEq, decide_true, decide_false]
        refine send_go (pk := ⟨1, k.host, k.part, 0⟩) x3 (by omega) h3t (by simp; omega) (by simp; omega) (fun m hm => by simp [show m ≠ r by omega, hkB m hm]) (fun m hm => (hnm3 m hm).2.1) (by simp [nsucc, h62]) fun w H5 hr5 h65 hwa hw => ?_
        simp only [hr5, h65, cells_aq hwa, one_aq hwa, nsucc, Cd.cd65, Tk.t65, base0, base1, base2, base3, Option.isNone_none, Option.isNone_some, Nat.reduceBEq, true_or, or_true, false_or, or_false, Nat.reduceLT, Nat.reduceMod, Nat.reducePow, rmaps, nsucc, List.flatten_cons, List.flatten_nil, Nat.reduceEqDiff, Nat.reduceLeDiff, Nat.reduceAdd, Nat.reduceMul, Nat.reduceSub, ↓reduceIte, reduceCtorEq, decide_true, decide_false]
        exact hw _ rfl rfl fun m h1 h2 => by simp [h1, h2]
      | none =>
        rw [deliver0n kk (by rw [eh]; exact hl) hpt, eh]
        simp only [hr2, hc2, ho2, h72, h62, e1, x2.st.hh, dh0, hl, z0, g2, g5, nsucc, Cd.cd65, Tk.t65, base0, base1, base2, base3, Option.isNone_none, Option.isNone_some, Nat.reduceBEq, true_or, or_true, false_or, or_false, Nat.reduceLT, Nat.reduceMod, Nat.reducePow, rmaps, nsucc, List.flatten_cons, List.flatten_nil, Nat.reduceEqDiff, Nat.reduceLeDiff, Nat.reduceAdd, Nat.reduceMul, Nat.reduceSub, ↓reduceIte, reduceCtorEq, decide_true, decide_false]
        refine (partOn67 c s1 hvn k.part klo khi).bgo (by rw [hp1, hv1]; exact case3 x3 k.part) (Ground.v _) ?_
        rw [hpt]
        have w1 : (H2.next = r) = False := eq_false (by omega)
        have w2 : (r = H2.next) = False := eq_false (by omega)
        have w3 : (h = H2.next) = False := eq_false (by have := x2.nh; omega)
        have w4 : (r + 1 = h) = False := eq_false (by omega)
        have u1 : (r + 1 + 1 = h) = False := eq_false (by omega)
        have u2 : (r + 1 + 1 = H2.next) = False := eq_false (by omega)
        have u3 : (r + 1 = H2.next) = False := eq_false (by omega)
        have hdm3 := x3.st.dm y0 (hx0 ▸ getD_mem hi)
        have hma := arr_cases hmem
        rcases hma with ⟨hxa, hl0⟩ | ⟨hxa, hl0⟩ | ⟨m0, rest0, hxa, hnm0⟩
        ·
          have s9 := flatE_splice' (enc := hsO) (l := o) (i := k.host.toNat) (j := 1) (a := .sl 5 H2.next 0 1) (x := ⟨y0.lost, .sl 5 H2.next 0 1, [⟨k.part, false, false, 0, 0⟩]⟩) hsO_len hi (by decide) (by rw [hx0]; rfl)
          simp only [ixOf, show ((-1 : Int) == -1) = true from rfl, u1, u2, u3, hr2, hc2, ho2, h72, h62, hp1, hv1, x2.st.hh, dh1, nsucc, w1, w2, w3, w4, g2, g3, g5, l1, s9, hxa, nilS, show roomA 32 1 = true from rfl, Cd.cd65, Tk.t65, base0, base1, base2, base3, Option.isNone_none, Option.isNone_some, Nat.reduceBEq, true_or, or_true, false_or, or_false, Nat.reduceLT, Nat.reduceMod, Nat.reducePow, rmaps, nsucc, List.flatten_cons, List.flatten_nil, Nat.reduceEqDiff, Nat.reduceLeDiff, Nat.reduceAdd, Nat.reduceMul, Nat.reduceSub, ↓reduceIte, reduceCtorEq, decide_true, decide_false]
          rw [show y0.hs.parts ++ ([⟨k.part, false, false, 0, 0⟩] : List Pt) = [⟨k.part, false, false, 0, 0⟩] from by rw [show y0.hs.parts = [] from hl0]; rfl]
          refine send_go (s := setHost s1 k.host.toNat (⟨y0.lost, .sl 5 H2.next 0 1, ([⟨k.part, false, false, 0, 0⟩] : List Pt)⟩ : OH).hs) (o := o.set k.host.toNat ⟨y0.lost, .sl 5 H2.next 0 1, [⟨k.part, false, false, 0, 0⟩]⟩) (p := p) (h := h) (B := B) (H := H) (r := r) (pk := ⟨1, k.host, k.part, 0⟩) ?_ (by simp only [setHost]; omega) h3t (by simp; omega) (by simp; omega) (fun m hm => ?_) (fun m hm => ?_) (by simp [u3, w4, nsucc, h62]) fun w H5 hr5 h65 hwa hw => ?_
          · exact x3.host (y := ⟨y0.lost, .sl 5 H2.next 0 1, [⟨k.part, false, false, 0, 0⟩]⟩) hi (by simp) (by simp [g3, w2]) (by simp [hl]) (.inr ⟨H2.next, [], rfl, by simp [w1, Ne.symm (show h ≠ H2.next by omega), flatE, ptR]⟩) (.inr ⟨rfl, by simp⟩) fun m h1 h2 h3 => by
              rw [hx0, hxa] at h3
              simp [h2, show m ≠ H2.next from Nat.ne_of_lt h1]
          · simp [show m ≠ h by omega, show m ≠ H2.next by omega, show m ≠ r by omega, hkB m hm]
          · rcases nms_set hm with hm | hm
            · exact (hnm3 m hm).2.1
            · cases hm; omega
          simp only [hr5, h65, cells_aq hwa, one_aq hwa, nsucc, Cd.cd65, Tk.t65, base0, base1, base2, base3, Option.isNone_none, Option.isNone_some, Nat.reduceBEq, true_or, or_true, false_or, or_false, Nat.reduceLT, Nat.reduceMod, Nat.reducePow, rmaps, nsucc, List.flatten_cons, List.flatten_nil, Nat.reduceEqDiff, Nat.reduceLeDiff, Nat.reduceAdd, Nat.reduceMul, Nat.reduceSub, ↓reduceIte, reduceCtorEq, decide_true, decide_false]
          exact hw _ rfl rfl fun m h1 h2 => by simp [h1, h2]
        ·
          have s9 := flatE_splice' (enc := hsO) (l := o) (i := k.host.toNat) (j := 1) (a := .sl 5 H2.next 0 1) (x := ⟨y0.lost, .sl 5 H2.next 0 1, [⟨k.part, false, false, 0, 0⟩]⟩) hsO_len hi (by decide) (by rw [hx0]; rfl)
          simp only [ixOf, show ((-1 : Int) == -1) = true from rfl, u1, u2, u3, hr2, hc2, ho2, h72, h62, hp1, hv1, x2.st.hh, dh1, nsucc, w1, w2, w3, w4, g2, g3, g5, l1, s9, hxa, show roomA 32 1 = true from rfl, Cd.cd65, Tk.t65, base0, base1, base2, base3, Option.isNone_none, Option.isNone_some, Nat.reduceBEq, true_or, or_true, false_or, or_false, Nat.reduceLT, Nat.reduceMod, Nat.reducePow, rmaps, nsucc, List.flatten_cons, List.flatten_nil, Nat.reduceEqDiff, Nat.reduceLeDiff, Nat.reduceAdd, Nat.reduceMul, Nat.reduceSub, ↓reduceIte, reduceCtorEq, decide_true, decide_false]
          rw [show y0.hs.parts ++ ([⟨k.part, false, false, 0, 0⟩] : List Pt) = [⟨k.part, false, false, 0, 0⟩] from by rw [show y0.hs.parts = [] from hl0]; rfl]
          refine send_go (s := setHost s1 k.host.toNat (⟨y0.lost, .sl 5 H2.next 0 1, ([⟨k.part, false, false, 0, 0⟩] : List Pt)⟩ : OH).hs) (o := o.set k.host.toNat ⟨y0.lost, .sl 5 H2.next 0 1, [⟨k.part, false, false, 0, 0⟩]⟩) (p := p) (h := h) (B := B) (H := H) (r := r) (pk := ⟨1, k.host, k.part, 0⟩) ?_ (by simp only [setHost]; omega) h3t (by simp; omega) (by simp; omega) (fun m hm => ?_) (fun m hm => ?_) (by simp [u3, w4, nsucc, h62]) fun w H5 hr5 h65 hwa hw => ?_
          · exact x3.host (y := ⟨y0.lost, .sl 5 H2.next 0 1, [⟨k.part, false, false, 0, 0⟩]⟩) hi (by simp) (by simp [g3, w2]) (by simp [hl]) (.inr ⟨H2.next, [], rfl, by simp [w1, Ne.symm (show h ≠ H2.next by omega), flatE, ptR]⟩) (.inr ⟨rfl, by simp⟩) fun m h1 h2 h3 => by
              rw [hx0, hxa] at h3
              simp [h2, show m ≠ H2.next from Nat.ne_of_lt h1]
          · simp [show m ≠ h by omega, show m ≠ H2.next by omega, show m ≠ r by omega, hkB m hm]
          · rcases nms_set hm with hm | hm
            · exact (hnm3 m hm).2.1
            · cases hm; omega
          simp only [hr5, h65, cells_aq hwa, one_aq hwa, nsucc, Cd.cd65, Tk.t65, base0, base1, base2, base3, Option.isNone_none, Option.isNone_some, Nat.reduceBEq, true_or, or_true, false_or, or_false, Nat.reduceLT, Nat.reduceMod, Nat.reducePow, rmaps, nsucc, List.flatten_cons, List.flatten_nil, Nat.reduceEqDiff, Nat.reduceLeDiff, Nat.reduceAdd, Nat.reduceMul, Nat.reduceSub, ↓reduceIte, reduceCtorEq, decide_true, decide_false]
          exact hw _ rfl rfl fun m h1 h2 => by simp [h1, h2]
        ·
          have hn' := hno m0 (by rw [hxa]; rfl)
          have hn2' := hdm m0 (by rw [hxa]; rfl)
          have hnm0 : H2.own m0 = some (.cells (flatE ptR y0.parts ++ rest0)) := hnm0
          have z1 : (m0 = r) = False := eq_false (by omega)
          have z2 : (m0 = h) = False := eq_false hn2'.2.1
          have z3 : (h = m0) = False := eq_false (Ne.symm hn2'.2.1)
          have z4 : (m0 = H2.next) = False := eq_false (by omega)
          have z5 : (r = m0) = False := eq_false (by omega)
          have z6 : (r + 1 = m0) = False := eq_false (by omega)
          have z7 : (r + 1 + 1 = m0) = False := eq_false (by omega)
          have hpl6 : y0.parts.length ≤ 6 := by
            have h1 := (hvn.hs k.host.toNat (by omega)).len
            rw [eh] at h1
            have := hvn.ok.p6
            exact Nat.le_trans h1 this
          have elen : y0.parts.length * 5 ≤ (flatE ptR y0.parts ++ rest0).length := by rw [List.length_append, flatE_len ptR_len]; omega
          have etk : List.take (y0.parts.length * 5) (flatE ptR y0.parts ++ rest0) = flatE ptR y0.parts := by rw [← flatE_len ptR_len, List.take_left]
          have s9 := flatE_splice' (enc := hsO) (l := o) (i := k.host.toNat) (j := 1) (a := .sl 5 H2.next 0 (y0.parts.length + 1)) (x := ⟨y0.lost, .sl 5 H2.next 0 (y0.parts.length + 1), y0.parts ++ ([⟨k.part, false, false, 0, 0⟩] : List Pt)⟩) hsO_len hi (by decide) (by rw [hx0]; rfl)
          simp only [ixOf, show ((-1 : Int) == -1) = true from rfl, u1, u2, u3, hr2, hc2, ho2, h72, h62, hp1, hv1, x2.st.hh, dh1, nsucc, w1, w2, w3, w4, g2, g3, g5, l1, s9, hxa, hnm0, elen, etk, room1 (b := 32) (n := y0.parts.length) (by omega) (by omega), z1, z2, z3, z4, z5, z6, z7, Cd.cd65, Tk.t65, base0, base1, base2, base3, Option.isNone_none, Option.isNone_some, Nat.reduceBEq, true_or, or_true, false_or, or_false, Nat.reduceLT, Nat.reduceMod, Nat.reducePow, rmaps, nsucc, List.flatten_cons, List.flatten_nil, Nat.reduceEqDiff, Nat.reduceLeDiff, Nat.reduceAdd, Nat.reduceMul, Nat.reduceSub, ↓reduceIte, reduceCtorEq, decide_true, decide_false]
          refine send_go (s := setHost s1 k.host.toNat (⟨y0.lost, .sl 5 H2.next 0 1, y0.parts ++ ([⟨k.part, false, false, 0, 0⟩] : List Pt)⟩ : OH).hs) (o := o.set k.host.toNat ⟨y0.lost, .sl 5 H2.next 0 (y0.parts.length + 1), y0.parts ++ ([⟨k.part, false, false, 0, 0⟩] : List Pt)⟩) (p := p) (h := h) (B := B) (H := H) (r := r) (pk := ⟨1, k.host, k.part, 0⟩) ?_ (by simp only [setHost]; omega) h3t (by simp; omega) (by simp; omega) (fun m hm => ?_) (fun m hm => ?_) (by simp [u3, w4, nsucc, h62, z6]) fun w H5 hr5 h65 hwa hw => ?_
          · exact x3.host (y := ⟨y0.lost, .sl 5 H2.next 0 (y0.parts.length + 1), y0.parts ++ ([⟨k.part, false, false, 0, 0⟩] : List Pt)⟩) hi (by simp) (by simp [g3, w2, z5]) (by simp [hl]) (.inr ⟨H2.next, [], by simp, by simp [w1, Ne.symm (show h ≠ H2.next by omega), Ne.symm (show m0 ≠ H2.next by omega), flatE_append]; rfl⟩) (.inr ⟨rfl, by simp⟩) fun m h1 h2 h3 => by
              rw [hx0, hxa] at h3
              simp [h2, show m ≠ H2.next from Nat.ne_of_lt h1, show m ≠ m0 from fun e => h3 (by rw [e]; rfl)]
          · simp [show m ≠ h by omega, show m ≠ H2.next by omega, show m ≠ m0 by omega, show m ≠ r by omega, hkB m hm]
          · rcases nms_set hm with hm | hm
            · exact (hnm3 m hm).2.1
            · cases hm; omega
          simp only [hr5, h65, cells_aq hwa, one_aq hwa, nsucc, Cd.cd65, Tk.t65, base0, base1, base2, base3, Option.isNone_none, Option.isNone_some, Nat.reduceBEq, true_or, or_true, false_or, or_false, Nat.reduceLT, Nat.reduceMod, Nat.reducePow, rmaps, nsucc, List.flatten_cons, List.flatten_nil, Nat.reduceEqDiff, Nat.reduceLeDiff, Nat.reduceAdd, Nat.reduceMul, Nat.reduceSub, ↓reduceIte, reduceCtorEq, decide_true, decide_false]
          exact hw _ rfl rfl fun m h1 h2 => by simp [h1, h2]
    · rw [deliver0l kk (by rw [eh]; exact hl)]
      simp only [hr2, hc2, ho2, h72, h62, e1, x2.st.hh, dh0, hl, z0, g2, g5, nsucc, Cd.cd65, Tk.t65, base0, base1, base2, base3, Option.isNone_none, Option.isNone_some, Nat.reduceBEq, true_or, or_true, false_or, or_false, Nat.reduceLT, Nat.reduceMod, Nat.reducePow, rmaps, nsucc, List.flatten_cons, List.flatten_nil, Nat.reduceEqDiff, Nat.reduceLeDiff, Nat.reduceAdd, Nat.reduceMul, Nat.reduceSub, ↓reduceIte, reduceCtorEq, decide_true, decide_false]
      rw [hp1, hv1]
      exact hend _ _ _ _ _ _ x3 (fun m hm => (hnm3 m hm).2.1) h3t hx2 (fun m hm => by simp [show m ≠ r by omega, hkB m hm]) _ rfl rfl fun m hm => by simp [hm]
  · have z0 : (k.kind == 0) = false := by simp [kk]
    have z1 : (k.kind == 1) = true := by simp [kk]
    rw [deliver1 kk]
    have hp2 : H2.own p = some (.cells (flatE plR s1.placed)) := by rw [e4.1]; exact x2.st.hp
    have l2 : k.part.toNat * 4 + 1 + 1 ≤ (flatE plR s1.placed).length := by rw [flatE_len plR_len]; omega
    generalize hp0 : s1.placed.getD k.part.toNat default = p0
    have s9 := flatE_splice' (enc := plR) (l := s1.placed) (i := k.part.toNat) (j := 1) (a := .v (.bool true)) (x := { p0 with cr := true }) plR_len hpi (by decide) (by rw [hp0]; rfl)
    rw [hp1] at e2
    simp only [hr2, hc2, ho2, h72, h62, e1, e2, hp1, hv1, x2.st.hh, hp2, l2, s9, z0, z1, g1, g2, g3, g4, g5, g6, nsucc, show (r + 1 = p) = False from eq_false (by omega), show (r + 1 + 1 = p) = False from eq_false (by omega), Cd.cd65, Tk.t65, base0, base1, base2, base3, Option.isNone_none, Option.isNone_some, Nat.reduceBEq, true_or, or_true, false_or, or_false, Nat.reduceLT, Nat.reduceMod, Nat.reducePow, rmaps, nsucc, List.flatten_cons, List.flatten_nil, Nat.reduceEqDiff, Nat.reduceLeDiff, Nat.reduceAdd, Nat.reduceMul, Nat.reduceSub, ↓reduceIte, reduceCtorEq, decide_true, decide_false]
    have xx := x3.placed (l := s1.placed.set k.part.toNat { p0 with cr := true }) (v := s1.v) (H' := ⟨H2.next, fun m => if m = p then some (.cells (flatE plR (s1.placed.set k.part.toNat { p0 with cr := true }))) else if m = r then some (.cells [.sl 4 p 0 s1.placed.length, .v (.int .i64 s1.v), .sl 2 h 0 o.length, v]) else H2.own m, H2.tip⟩) (Nat.le_refl _) (by simp) (by simp [g4, runL, stO]) (by simp) fun m h1 h2 h3 => by simp [h3]
    have hh := hend _ _ _ _ _ _ xx (fun m hm => (hnm3 m hm).2.1) h3t hx2 (fun m hm => by simp [show m ≠ r by omega, show m ≠ p by omega, hkB m hm])
    simp only [stO, List.length_set] at hh
    exact hh _ rfl rfl fun m hm => by simp [hm]
  · have z0 : (k.kind == 0) = false := by simp [kk]
    have z1 : (k.kind == 1) = false := by simp [kk]
    have z2 : (k.kind == 2) = true := by simp [kk]
    rw [deliver2 kk]
    have hp2 : H2.own p = some (.cells (flatE plR s1.placed)) := by rw [e4.1]; exact x2.st.hp
    have d2 := flatE_drop' (enc := plR) (l := s1.placed) (i := k.part.toNat) (j := 2) plR_len hpi (by decide)
    simp only [plR, List.drop_zero, List.drop_succ_cons, List.cons_append, List.nil_append] at d2
    rw [hp1] at e2
    cases ht : (s1.placed.getD k.part.toNat default).tk
    · simp only [Bool.false_eq_true, if_false]
      simp only [hr2, hc2, ho2, h72, h62, e1, e2, hp1, hv1, x2.st.hh, hp2, d2, ht, z0, z1, z2, g1, g2, g3, g4, g5, g6, nsucc, Cd.cd65, Tk.t65, base0, base1, base2, base3, Option.isNone_none, Option.isNone_some, Nat.reduceBEq, true_or, or_true, false_or, or_false, Nat.reduceLT, Nat.reduceMod, Nat.reducePow, rmaps, nsucc, List.flatten_cons, List.flatten_nil, Nat.reduceEqDiff, Nat.reduceLeDiff, Nat.reduceAdd, Nat.reduceMul, Nat.reduceSub, ↓reduceIte, reduceCtorEq, decide_true, decide_false]
      refine TakeX.go (take68x x3.st (fun m hm => (hnm3 m hm).2.2.2.2) k.part k.v klo (by omega)) fun H4 xt t4 n4 k4 => ?_
      simp only at t4 n4 k4
      have hr4 : H4.own r = some (.cells [.sl 4 p 0 s1.placed.length, .v (.int .i64 s1.v), .sl 2 h 0 o.length, v]) := by rw [k4 r (by omega) (by omega)]; simp
      have h64 : H4.own (r + 1) = some (.cells [.v (.slice none 0 0), .v (.int .i64 0), .v (.slice none 0 0), .v (.slice none 0 0)]) := by rw [k4 _ (by omega) (by omega)]; simp [nsucc, h62]
      have h74 : H4.own (r + 1 + 1) = some (.cells [.v (.int .i64 k.kind), .v (.int .i64 k.host), .v (.int .i64 k.part), .v (.int .i64 k.v)]) := by rw [k4 _ (by omega) (by omega)]; simp [nsucc, h72]
      simp only [stO]
      simp only [hr4, h64, h74, cells_aq hva, one_aq hva, nsucc, Cd.cd65, Tk.t65, base0, base1, base2, base3, Option.isNone_none, Option.isNone_some, Nat.reduceBEq, true_or, or_true, false_or, or_false, Nat.reduceLT, Nat.reduceMod, Nat.reducePow, rmaps, nsucc, List.flatten_cons, List.flatten_nil, Nat.reduceEqDiff, Nat.reduceLeDiff, Nat.reduceAdd, Nat.reduceMul, Nat.reduceSub, ↓reduceIte, reduceCtorEq, decide_true, decide_false]
      refine send_go (s := takeS s1 k.part k.v) (p := p) (h := h) (o := o) (B := B) (H := H) (r := r) (pk := ⟨3, k.host, k.part, 0⟩) ?_ (by simp only [takeS]; omega) (t4.trans h3t) (by simp; omega) (by simp; omega) (fun m hm => ?_) (fun m hm => (hnm3 m hm).2.1) (by simp [nsucc, h64]) fun w H5 hr5 h65 hwa hw => ?_
      · exact ⟨by simp [runL, stO], xt.frame fun m hm => by simp [(hnm3 m hm).1], fun m hm => by have := hnm3 m hm; simp; omega, by omega, by simp; omega⟩
      · simp [show m ≠ r by omega]
        rw [k4 m (by omega) (by omega)]; simp [show m ≠ r by omega, hkB m hm]
      · simp only [hr5, h65, cells_aq hwa, one_aq hwa, nsucc, Cd.cd65, Tk.t65, base0, base1, base2, base3, Option.isNone_none, Option.isNone_some, Nat.reduceBEq, true_or, or_true, false_or, or_false, Nat.reduceLT, Nat.reduceMod, Nat.reducePow, rmaps, nsucc, List.flatten_cons, List.flatten_nil, Nat.reduceEqDiff, Nat.reduceLeDiff, Nat.reduceAdd, Nat.reduceMul, Nat.reduceSub, ↓reduceIte, reduceCtorEq, decide_true, decide_false]
        exact hw _ rfl rfl fun m h1 h2 => by simp [h1, h2]
    · simp only [if_true]
      simp only [hr2, hc2, ho2, h72, h62, e1, e2, hp1, hv1, x2.st.hh, hp2, d2, ht, z0, z1, z2, g1, g2, g3, g4, g5, g6, nsucc, Cd.cd65, Tk.t65, base0, base1, base2, base3, Option.isNone_none, Option.isNone_some, Nat.reduceBEq, true_or, or_true, false_or, or_false, Nat.reduceLT, Nat.reduceMod, Nat.reducePow, rmaps, nsucc, List.flatten_cons, List.flatten_nil, Nat.reduceEqDiff, Nat.reduceLeDiff, Nat.reduceAdd, Nat.reduceMul, Nat.reduceSub, ↓reduceIte, reduceCtorEq, decide_true, decide_false]
      refine send_go (pk := ⟨3, k.host, k.part, 0⟩) x3 (by omega) h3t (by simp; omega) (by simp; omega) (fun m hm => by simp [show m ≠ r by omega, hkB m hm]) (fun m hm => (hnm3 m hm).2.1) (by simp [nsucc, h62]) fun w H5 hr5 h65 hwa hw => ?_
      simp only [hr5, h65, cells_aq hwa, one_aq hwa, nsucc, Cd.cd65, Tk.t65, base0, base1, base2, base3, Option.isNone_none, Option.isNone_some, Nat.reduceBEq, true_or, or_true, false_or, or_false, Nat.reduceLT, Nat.reduceMod, Nat.reducePow, rmaps, nsucc, List.flatten_cons, List.flatten_nil, Nat.reduceEqDiff, Nat.reduceLeDiff, Nat.reduceAdd, Nat.reduceMul, Nat.reduceSub, ↓reduceIte, reduceCtorEq, decide_true, decide_false]
      exact hw _ rfl rfl fun m h1 h2 => by simp [h1, h2]
  · have z0 : (k.kind == 0) = false := by simp [kk]
    have z1 : (k.kind == 1) = false := by simp [kk]
    have z2 : (k.kind == 2) = false := by simp [kk]
    have z3 : (k.kind == 3) = true := by simp [kk]
    simp only [hr2, hc2, ho2, h72, h62, e1, x2.st.hh, dh0, z0, z1, z2, z3, g2, g5, nsucc, Cd.cd65, Tk.t65, base0, base1, base2, base3, Option.isNone_none, Option.isNone_some, Nat.reduceBEq, true_or, or_true, false_or, or_false, Nat.reduceLT, Nat.reduceMod, Nat.reducePow, rmaps, nsucc, List.flatten_cons, List.flatten_nil, Nat.reduceEqDiff, Nat.reduceLeDiff, Nat.reduceAdd, Nat.reduceMul, Nat.reduceSub, ↓reduceIte, reduceCtorEq, decide_true, decide_false]
    refine (partOn67 c s1 hvn k.part klo khi).bgo (by rw [hp1, hv1]; exact case3 x3 k.part) (Ground.v _) ?_
    cases hpt : partAt c s1 k.part with
    | none =>
      rw [deliver3n kk hpt]
      cases hl : y0.lost
      · simp only [ixOf, hr2, hc2, ho2, h72, h62, hp1, hv1, x2.st.hh, dh0, hl, g2, g5, show ((-1 : Int) != -1) = false from rfl, nsucc, Cd.cd65, Tk.t65, base0, base1, base2, base3, Option.isNone_none, Option.isNone_some, Nat.reduceBEq, true_or, or_true, false_or, or_false, Nat.reduceLT, Nat.reduceMod, Nat.reducePow, rmaps, nsucc, List.flatten_cons, List.flatten_nil, Nat.reduceEqDiff, Nat.reduceLeDiff, Nat.reduceAdd, Nat.reduceMul, Nat.reduceSub, ↓reduceIte, reduceCtorEq, decide_true, decide_false]
        exact hend _ _ _ _ _ _ x3 (fun m hm => (hnm3 m hm).2.1) h3t hx2 (fun m hm => by simp [show m ≠ r by omega, hkB m hm]) _ rfl rfl fun m hm => by simp [hm]
      · simp only [ixOf, hr2, hc2, ho2, h72, h62, hp1, hv1, x2.st.hh, dh0, hl, g2, g5, show ((-1 : Int) != -1) = false from rfl, nsucc, Cd.cd65, Tk.t65, base0, base1, base2, base3, Option.isNone_none, Option.isNone_some, Nat.reduceBEq, true_or, or_true, false_or, or_false, Nat.reduceLT, Nat.reduceMod, Nat.reducePow, rmaps, nsucc, List.flatten_cons, List.flatten_nil, Nat.reduceEqDiff, Nat.reduceLeDiff, Nat.reduceAdd, Nat.reduceMul, Nat.reduceSub, ↓reduceIte, reduceCtorEq, decide_true, decide_false]
        exact hend _ _ _ _ _ _ x3 (fun m hm => (hnm3 m hm).2.1) h3t hx2 (fun m hm => by simp [show m ≠ r by omega, hkB m hm]) _ rfl rfl fun m hm => by simp [hm]
    | some j =>
      rw [deliver3s kk hpt, eh]
      rw [hpa] at hpt
      obtain ⟨j1, j2⟩ := partIx_some hpt
      have hj0 : (((j : Nat) : Int) != -1) = true := bne_iff_ne.mpr (by omega)
      obtain ⟨m0, rest0, hxa, hnm0⟩ := hmem.own (by omega)
      have hn' := hno m0 (by rw [hxa]; rfl)
      have hn2' := hdm m0 (by rw [hxa]; rfl)
      have v1 : (m0 = r) = False := eq_false (by omega)
      have v2 : (m0 = r + 1) = False := eq_false (by omega)
      have v3 : (r + 1 = m0) = False := eq_false (by omega)
      have v4 : (r = m0) = False := eq_false (by omega)
      have v5 : (h = m0) = False := eq_false (Ne.symm hn2'.2.1)
      cases hl : y0.lost
      · have d5 := flatE_drop (enc := ptR) ptR_len y0.parts j 1 rest0 j1 (by decide)
        simp only [ptR, List.drop_zero, List.drop_succ_cons, List.cons_append, List.nil_append] at d5
        simp only [show y0.hs.lost = false from hl, Bool.false_eq_true, if_false]
        cases he : (y0.parts.getD j default).ended
        · simp only [show (y0.hs.parts.getD j default).ended = false from he, Bool.false_eq_true, if_false]
          simp only [ixOf, hj0, hr2, hc2, ho2, h72, h62, hp1, hv1, x2.st.hh, dh0, dh1, hl, hxa, inR j1, Int.toNat_natCast, hnm0, d5, he, g2, g5, v1, v2, v3, v4, v5, nsucc, Cd.cd65, Tk.t65, base0, base1, base2, base3, Option.isNone_none, Option.isNone_some, Nat.reduceBEq, true_or, or_true, false_or, or_false, Nat.reduceLT, Nat.reduceMod, Nat.reducePow, rmaps, nsucc, List.flatten_cons, List.flatten_nil, Nat.reduceEqDiff, Nat.reduceLeDiff, Nat.reduceAdd, Nat.reduceMul, Nat.reduceSub, ↓reduceIte, reduceCtorEq, decide_true, decide_false]
          exact hend _ _ _ _ _ _ x3 (fun m hm => (hnm3 m hm).2.1) h3t hx2 (fun m hm => by simp [show m ≠ r by omega, hkB m hm]) _ rfl rfl fun m hm => by simp [hm]
        · simp only [show (y0.hs.parts.getD j default).ended = true from he, if_true]
          have l5 : j * 5 + 2 + 1 ≤ (flatE ptR y0.parts ++ rest0).length := by rw [List.length_append, flatE_len ptR_len]; omega
          have s5 := flatE_splice (enc := ptR) (k := 5) (l := y0.parts) (i := j) (j := 2) (rest := rest0) (cs := [.v (.bool true)]) (x := { y0.parts.getD j default with seen := true }) ptR_len j1 (by decide) rfl
          simp only [List.cons_append, List.nil_append, List.length_cons, List.length_nil, Nat.zero_add] at s5
          simp only [ixOf, hj0, hr2, hc2, ho2, h72, h62, hp1, hv1, x2.st.hh, dh0, dh1, hl, hxa, inR j1, Int.toNat_natCast, hnm0, d5, he, l5, s5, g2, g5, v1, v2, v3, v4, v5, nsucc, Cd.cd65, Tk.t65, base0, base1, base2, base3, Option.isNone_none, Option.isNone_some, Nat.reduceBEq, true_or, or_true, false_or, or_false, Nat.reduceLT, Nat.reduceMod, Nat.reducePow, rmaps, nsucc, List.flatten_cons, List.flatten_nil, Nat.reduceEqDiff, Nat.reduceLeDiff, Nat.reduceAdd, Nat.reduceMul, Nat.reduceSub, ↓reduceIte, reduceCtorEq, decide_true, decide_false]
          have xx := x3.host (i := k.host.toNat) (y := ⟨false, .sl 5 m0 0 y0.parts.length, y0.parts.set j ⟨(y0.parts.getD j default).part, true, true, (y0.parts.getD j default).v, (y0.parts.getD j default).tr⟩⟩) (H' := ⟨H2.next, fun m => if m = m0 then some (.cells (flatE ptR (y0.parts.set j ⟨(y0.parts.getD j default).part, true, true, (y0.parts.getD j default).v, (y0.parts.getD j default).tr⟩) ++ rest0)) else if m = r then some (.cells [.sl 4 p 0 s1.placed.length, .v (.int .i64 s1.v), .sl 2 h 0 o.length, v]) else H2.own m, H2.tip⟩) hi (Nat.le_refl _) (by simp [v4]) (by
              simp only [v5, g2, if_false]
              rw [x2.st.hh, flatE_same hi (by rw [hx0]; simp [hsO, hl, hxa])]) (.inr ⟨m0, rest0, by simp, by simp⟩) (.inl (by rw [hx0, hxa])) fun m h1 h2 h3 => by
            rw [hx0, hxa] at h3
            simp [show m ≠ m0 from fun e => h3 (by rw [e]; rfl)]
          have hh := hend _ _ _ _ _ _ xx (fun m hm => by
            rcases nms_set hm with hm | hm
            · exact (hnm3 m hm).2.1
            · cases hm; omega) h3t hx2 (fun m hm => by simp [show m ≠ r by omega, show m ≠ m0 by omega, hkB m hm])
          simp only [stO, List.length_set] at hh
          exact hh _ rfl rfl fun m hm => by simp [hm]
      · simp only [show y0.hs.lost = true from hl, if_true]
        simp only [ixOf, hj0, hr2, hc2, ho2, h72, h62, hp1, hv1, x2.st.hh, dh0, hl, g2, g5, v1, v2, v3, v4, v5, nsucc, Cd.cd65, Tk.t65, base0, base1, base2, base3, Option.isNone_none, Option.isNone_some, Nat.reduceBEq, true_or, or_true, false_or, or_false, Nat.reduceLT, Nat.reduceMod, Nat.reducePow, rmaps, nsucc, List.flatten_cons, List.flatten_nil, Nat.reduceEqDiff, Nat.reduceLeDiff, Nat.reduceAdd, Nat.reduceMul, Nat.reduceSub, ↓reduceIte, reduceCtorEq, decide_true, decide_false]
        exact hend _ _ _ _ _ _ x3 (fun m hm => (hnm3 m hm).2.1) h3t hx2 (fun m hm => by simp [show m ≠ r by omega, hkB m hm]) _ rfl rfl fun m hm => by simp [hm]
end Go.Proofs.Ytgmncggiblaciaa

/- Walks: the reference's act. -/
namespace Go.Proofs.Ytgmncggiblaciaa
open Go Go.Proofs.Ytgmncggiblaciaa.Ab
set_option maxRecDepth 100000

theorem NewS.go {P : Program} {m : FuncId} {args : List AV} {H : AH} {s : Stt} {mu : List Nat} {Kt : Kont} {dst : Option Nat} {os : List COp} {f : AF}
    (h : ACall P m args H (fun out H' => ∃ cs, out = .ret (.agg cs) ∧ NewS H s cs H')) (h' : ∀ p h aq o H', NewS H s (stO s p h aq o) H' → OwnS H' s p h aq o → (∀ n, NmS p h aq o n → H.next ≤ n ∧ n < H'.next) → cops P mu Kt os (f.put dst (.agg (stO s p h aq o))) H') : ACall P m args H (callK P mu Kt dst os f) :=
  h.mono fun out H' hx => by
    obtain ⟨cs, rfl, hn⟩ := hx
    obtain ⟨p, h, aq, o, rfl, h1, h2⟩ := hn.ex
    exact h' p h aq o H' hn h1 h2
theorem NewS.go' {P : Program} {m : FuncId} {args : List AV} {H : AH} {s : Stt} {mu : List Nat} {Kt : Kont} {fm : AF} {dst : Option Nat} {ds : List DOp} {f : AF} {pd : List (Nat × Nat × ABlk)} {rd : List Nat}
    (h : ACall P m args H (fun out H' => ∃ cs, out = .ret (.agg cs) ∧ NewS H s cs H')) (h' : ∀ p h aq o H', NewS H s (stO s p h aq o) H' → OwnS H' s p h aq o → (∀ n, NmS p h aq o n → H.next ≤ n ∧ n < H'.next) → dops P mu Kt fm ds (f.put dst (.agg (stO s p h aq o))) H' pd rd) : ACall P m args H (dcallK P mu Kt fm dst ds f pd rd) :=
  h.mono fun out H' hx => by
    obtain ⟨cs, rfl, hn⟩ := hx
    obtain ⟨p, h, aq, o, rfl, h1, h2⟩ := hn.ex
    exact h' p h aq o H' hn h1 h2

theorem NextA.go' {P : Program} {m : FuncId} {args : List AV} {H : AH} {a : AV} {l : List Pk} {mu : List Nat} {Kt : Kont} {fm : AF} {dst : Option Nat} {ds : List DOp} {f : AF} {pd : List (Nat × Nat × ABlk)} {rd : List Nat}
    (h : ACall P m args H (fun out H' => ∃ v, out = .ret v ∧ NextA pkR 4 H a l v H')) (h' : ∀ v H', NextA pkR 4 H a l v H' → dops P mu Kt fm ds (f.put dst v) H' pd rd) : ACall P m args H (dcallK P mu Kt fm dst ds f pd rd) :=
  h.mono fun out H' hx => by
    obtain ⟨v, rfl, hn⟩ := hx
    exact h' v H' hn
theorem send_go' {B : Nat} {H Hx : AH} {r : Nat} {s : Stt} {p h : Nat} {a : AV} {o : List OH} {pk : Pk} {mu : List Nat} {Kt : Kont} {dst : Option Nat} {fm : AF} {ds : List DOp} {f : AF} {pd : List (Nat × Nat × ABlk)} {rd : List Nat} (x : OwnX B Hx r [] s p h a o) (hl : s.net.length ≤ 12) (ht : Hx.tip = H.tip) (hx : H.next ≤ Hx.next)
    (hr1 : r + 1 < Hx.next) (hk : ∀ m, m < B → Hx.own m = H.own m) (hn1 : ∀ n, NmS p h a o n → n ≠ r + 1) (h6 : Hx.own (r + 1) = some (.cells [.v (.slice none 0 0), .v (.int .i64 0), .v (.slice none 0 0), .v (.slice none 0 0)]))
    (k : ∀ w H5, H5.own r = some (.cells [.sl 4 p 0 s.placed.length, .v (.int .i64 s.v), .sl 2 h 0 o.length, a]) → H5.own (r + 1) = some (.cells [.v (.slice none 0 0), .v (.int .i64 0), .v (.slice none 0 0), .v (.slice none 0 0)]) → Arr pkR 4 H5 w (sendP s.net pk) →
      (∀ H6 : AH, H6.next = H5.next → H6.tip = H5.tip → (∀ m, m ≠ r → m ≠ r + 1 → H6.own m = H5.own m) → DoneV B H { s with net := sendP s.net pk } (.ret (.agg [.sl 4 p 0 s.placed.length, .v (.int .i64 s.v), .sl 2 h 0 o.length, w])) H6) → dops Try.prog mu Kt fm ds (f.put dst w) H5 pd rd) :
    ACall Try.prog 64 [a, .agg [.v (.int .i64 pk.kind), .v (.int .i64 pk.host), .v (.int .i64 pk.part), .v (.int .i64 pk.v)]] Hx (dcallK Try.prog mu Kt fm dst ds f pd rd) := by
  refine NextA.go' (send64 pk x.st.q hl fun m hm => x.nq hm |>.2.2) fun w H5 hw => k w H5 ?_ ?_ hw.1 fun H6 e1 e2 e3 => send_end x hn1 hr1 ht hx hk hw e1 e2 e3
  · rw [hw.2.2.2.2 r x.br.2 fun e => (x.nq e).1 rfl, x.rb]; rfl
  · rw [hw.2.2.2.2 _ hr1 fun e => hn1 _ (.inr (.inr (.inl e))) rfl, h6]

section
variable {H : AH} {c : Case} {s : Stt} (hV : Valid c s) (a : Ac)
include hV
set_option maxHeartbeats 4000000 in
theorem act38 (ha : actE c s a = 0) : ACall Try.prog 38 [caseV c, stV s, acV a] H (DoneV H.next H (actS c s a)) := by
  obtain ⟨⟨hk0, hk7⟩, hp⟩ := actE_ok.mp ha
  have hlp := hV.lp; have hlh := hV.lh; have hln := hV.ln; have hp6 := hV.ok.p6; have hvl := hV.ok.vl; have hp1 := hV.ok.p1; have hh1 := hV.ok.h1
  simp only [caseV, acV, acR, stV, stL, plsV, hssV, pksV]
  refine ACall.enter [4] Cd.fn38 (by simp) ?_
  simp only [Cd.cd38, Tk.t38, base0, base1, base2, base3, Option.isNone_none, Option.isNone_some, Nat.reduceBEq, true_or, or_true, false_or, or_false, Nat.reduceLT, Nat.reduceMod, Nat.reducePow, rmaps, nsucc, List.flatten_cons, List.flatten_nil, Nat.reduceEqDiff, Nat.reduceLeDiff, Nat.reduceAdd, Nat.reduceMul, Nat.reduceSub, ↓reduceIte, reduceCtorEq, decide_true, decide_false]
  refine NewS.go (own17 s _ hV.small (by omega) (by omega)) fun p h aq o H1 hN x0 hnm => ?_
  obtain ⟨_, t1, n1, k1⟩ := hN
  simp only at t1 n1 k1 hnm
  have hr1 := k1 H.next (by omega)
  have h61 := k1 (H.next + 1) (by omega)
  simp [nsucc] at hr1 h61
  obtain ⟨r, hre⟩ : ∃ r, r = H.next := ⟨_, rfl⟩
  rw [← hre] at hr1 h61 n1 k1 hnm ⊢
  have hone := one_aq x0.q
  have hcel := cells_aq x0.q
  simp only [stO]
  have f1 : (p = r) = False := eq_false (by have := hnm p (.inl rfl); omega)
  have f2 : (h = r) = False := eq_false (by have := hnm h (.inr (.inl rfl)); omega)
  have f3 : (r = h) = False := eq_false (by have := hnm h (.inr (.inl rfl)); omega)
  have f4 : (r = p) = False := eq_false (by have := hnm p (.inl rfl); omega)
  have f5 : (r + 1 = p) = False := eq_false (by have := hnm p (.inl rfl); omega)
  have f6 : (r + 1 = h) = False := eq_false (by have := hnm h (.inr (.inl rfl)); omega)
  have hlo : s.hosts.length = o.length := by rw [x0.eq, List.length_map]
  have hlow : ∀ m, m < r → H1.own m = H.own m := fun m hm => by
    rw [k1 m (by omega)]; simp [show m ≠ r by omega, show m ≠ r + 1 by omega, ← hre]
  have x : OwnX r { H1 with own := fun m => if m = r then some (.cells [.sl 4 p 0 s.placed.length, .v (.int .i64 s.v), .sl 2 h 0 o.length, aq]) else H1.own m } r [] s p h aq o :=
    ⟨by simp [runL, stO], x0.frame fun m hm => by have := hnm m hm; simp [show m ≠ r by omega], fun m hm => by have := hnm m hm; simp; omega, Nat.le_refl _, by simp; omega⟩
  have hn1 : ∀ n, NmS p h aq o n → n ≠ r + 1 := fun n hn => by have := hnm n hn; omega
  have hend : ∀ (Hx : AH) (s' : Stt) (p' h' : Nat) (aq' : AV) (o' : List OH), OwnX r Hx r [] s' p' h' aq' o' → (∀ n, NmS p' h' aq' o' n → n ≠ r + 1) → Hx.tip = H.tip → r + 1 + 1 ≤ Hx.next → (∀ m, m < r → Hx.own m = H.own m) →
      ∀ H4 : AH, H4.next = Hx.next → H4.tip = Hx.tip → (∀ m, m ≠ r + 1 → H4.own m = Hx.own m) → DoneV r H s' (.ret (.agg [.sl 4 p' 0 s'.placed.length, .v (.int .i64 s'.v), .sl 2 h' 0 o'.length, aq'])) H4 := fun Hx s' p' h' aq' o' xx hnn' t1 n1 k1 H4 n4 t4 k4 =>
    ⟨_, rfl, ⟨t4.trans t1, by omega, fun m hm => by rw [k4 m (by omega), k1 m hm]⟩, p', h', aq', o', rfl, xx.st.frame fun n hn => k4 n (hnn' n hn), fun n hn => by have := xx.nr n hn; omega⟩
  rcases (by omega : a.kind = 0 ∨ a.kind = 1 ∨ a.kind = 2 ∨ a.kind = 3 ∨ (a.kind = 4 ∨ a.kind = 5) ∨ a.kind = 6 ∨ a.kind = 7) with kk | kk | kk | kk | kk | kk | kk
  · have g0 : (a.kind == 0) = true := by simp [kk]
    have w := possible_in hp (by omega)
    have e1 : 0 ≤ a.n ∧ a.n < (s.placed.length : Int) := by omega
    have e3 : 0 ≤ a.n ∧ a.n < (c.place.length : Int) := by omega
    have gg := getD_ints c.place a.n.toNat (by omega)
    have hi : a.n.toNat < s.placed.length := by omega
    have hpl := hV.pget hi
    rw [act0 kk]
    generalize hx0 : s.placed.getD a.n.toNat default = q0 at hpl
    have d0 := flatE_drop' (enc := plR) (l := s.placed) (i := a.n.toNat) (j := 0) plR_len hi (by decide)
    have l0 : a.n.toNat * 4 + 1 ≤ (flatE plR s.placed).length := by rw [flatE_len plR_len]; omega
    have s0 := flatE_splice' (enc := plR) (l := s.placed) (i := a.n.toNat) (j := 0) (a := .v (.int .i64 (q0.tr + 1))) (x := { q0 with tr := q0.tr + 1 }) plR_len hi (by decide) (by rw [hx0]; rfl)
    rw [hx0] at d0
    simp only [Nat.add_zero, plR, List.drop_zero, List.drop_succ_cons, List.cons_append, List.nil_append] at d0
    simp only [Nat.add_zero] at s0
    have hw : IntKind.i64.wrap (q0.tr + 1) = q0.tr + 1 := wrapI (by have := hpl.t0; omega) (by have := hpl.t3; omega)
    simp only [hr1, h61, g0, hone, hcel, e1, e3, gg, x0.hp, d0, hw, l0, s0, f1, f2, f3, f4, f5, f6, ints, List.length_map, Cd.cd38, Tk.t38, base0, base1, base2, base3, Option.isNone_none, Option.isNone_some, Nat.reduceBEq, true_or, or_true, false_or, or_false, Nat.reduceLT, Nat.reduceMod, Nat.reducePow, rmaps, nsucc, List.flatten_cons, List.flatten_nil, Nat.reduceEqDiff, Nat.reduceLeDiff, Nat.reduceAdd, Nat.reduceMul, Nat.reduceSub, ↓reduceIte, reduceCtorEq, decide_true, decide_false]
    refine send_go' (s := { s with placed := s.placed.set a.n.toNat { q0 with tr := q0.tr + 1 } }) (p := p) (h := h) (o := o) (B := r) (H := H) (r := r) (pk := ⟨0, c.place.getD a.n.toNat 0, a.n, 0⟩) ?_ hln t1 (by simp; omega) (by simp; omega) (fun m hm => ?_) hn1 (by simp [f5, nsucc, h61]) fun w H5 hr5 h65 hwa hw => ?_
    · exact x.placed (v := s.v) (Nat.le_refl _) (by simp) (by simp [f4, runL, stO]) (by simp) fun m h1 h2 h3 => by simp [h3]
    · have := hnm p (.inl rfl)
      simp [show m ≠ r by omega, show m ≠ p by omega, hlow m hm]
    · simp only [List.length_set] at hr5 hw
      simp only [hr5, h65, cells_aq hwa, one_aq hwa, nsucc, Cd.cd38, Tk.t38, base0, base1, base2, base3, Option.isNone_none, Option.isNone_some, Nat.reduceBEq, true_or, or_true, false_or, or_false, Nat.reduceLT, Nat.reduceMod, Nat.reducePow, rmaps, nsucc, List.flatten_cons, List.flatten_nil, Nat.reduceEqDiff, Nat.reduceLeDiff, Nat.reduceAdd, Nat.reduceMul, Nat.reduceSub, ↓reduceIte, reduceCtorEq, decide_true, decide_false]
      exact hw _ rfl rfl fun m h1 h2 => by simp [h1, h2]
  · have g0 : (a.kind == 0) = false := by simp [kk]
    have g1 : (a.kind == 1) = true := by simp [kk]
    have w := possible_net hp (by omega)
    have hi : a.n.toNat < s.net.length := by omega
    rw [act1 kk]
    simp only [hr1, h61, g0, g1, hone, hcel, Cd.cd38, Tk.t38, base0, base1, base2, base3, Option.isNone_none, Option.isNone_some, Nat.reduceBEq, true_or, or_true, false_or, or_false, Nat.reduceLT, Nat.reduceMod, Nat.reducePow, rmaps, nsucc, List.flatten_cons, List.flatten_nil, Nat.reduceEqDiff, Nat.reduceLeDiff, Nat.reduceAdd, Nat.reduceMul, Nat.reduceSub, ↓reduceIte, reduceCtorEq, decide_true, decide_false]
    have hw2 : (a.n.toNat : Int) = a.n := by omega
    rw [show AV.v (.int .i64 a.n) = .v (.int .i64 (a.n.toNat : Int)) from by rw [hw2]]
    refine DoneV.go (deliver65 (B := r + 1 + 1) (s := s) ⟨p, h, aq, o, rfl, x.st, fun n hn => by have := hnm n hn; simp; omega⟩ (by simp; omega) hV a.n.toNat hi) fun cs H5 hF hO => ?_
    obtain ⟨p', h', aq', o', rfl, y1, y2⟩ := hO
    obtain ⟨z1, z2, z3⟩ := hF
    simp only at z1 z2 z3
    have h65 : H5.own (r + 1) = some (.cells [.v (.slice none 0 0), .v (.int .i64 0), .v (.slice none 0 0), .v (.slice none 0 0)]) := by rw [z3 _ (by omega)]; simp [nsucc, h61]
    simp only [stO]
    simp only [h65, one_aq y1.q, cells_aq y1.q, Cd.cd38, Tk.t38, base0, base1, base2, base3, Option.isNone_none, Option.isNone_some, Nat.reduceBEq, true_or, or_true, false_or, or_false, Nat.reduceLT, Nat.reduceMod, Nat.reducePow, rmaps, nsucc, List.flatten_cons, List.flatten_nil, Nat.reduceEqDiff, Nat.reduceLeDiff, Nat.reduceAdd, Nat.reduceMul, Nat.reduceSub, ↓reduceIte, reduceCtorEq, decide_true, decide_false]
    exact ⟨_, rfl, ⟨z1.trans t1, by simp; omega, fun m hm => by simp [show m ≠ r + 1 by omega]; rw [z3 m (by omega)]; simp [show m ≠ r by omega, hlow m hm]⟩, p', h', aq', o', rfl, y1.frame fun n hn => by have := y2 n hn; simp [show n ≠ r + 1 by omega], fun n hn => by have := y2 n hn; simp; omega⟩
  · have g0 : (a.kind == 0) = false := by simp [kk]
    have g1 : (a.kind == 1) = false := by simp [kk]
    have g2 : (a.kind == 2) = true := by simp [kk]
    have w := possible_net hp (by omega)
    have hi : a.n.toNat < s.net.length := by omega
    obtain ⟨n, rest, rfl, hnq⟩ := x0.q.own (by omega)
    have hnn := hnm n (.inr (.inr (.inl rfl)))
    rw [act2 kk]
    simp only [hr1, h61, g0, g1, g2, hone, hcel, Cd.cd38, Tk.t38, base0, base1, base2, base3, Option.isNone_none, Option.isNone_some, Nat.reduceBEq, true_or, or_true, false_or, or_false, Nat.reduceLT, Nat.reduceMod, Nat.reducePow, rmaps, nsucc, List.flatten_cons, List.flatten_nil, Nat.reduceEqDiff, Nat.reduceLeDiff, Nat.reduceAdd, Nat.reduceMul, Nat.reduceSub, ↓reduceIte, reduceCtorEq, decide_true, decide_false]
    have hw2 : (a.n.toNat : Int) = a.n := by omega
    rw [show AV.v (.int .i64 a.n) = .v (.int .i64 (a.n.toNat : Int)) from by rw [hw2]]
    refine ExR.go (without66 (l := s.net) (rest := rest) (n := n) (by simp [show n ≠ r by omega, hnq]) (by simp; omega) (by omega) a.n.toNat hi) fun v H2 hw => ?_
    obtain ⟨hva, hvn2, ht2, hx2, hk2⟩ := hw
    simp only at hvn2 ht2 hx2 hk2
    have hc2 := cells_aq hva
    have ho2 := one_aq hva
    have hr2 : H2.own r = some (.cells [.sl 4 p 0 s.placed.length, .v (.int .i64 s.v), .sl 2 h 0 o.length, .sl 4 n 0 s.net.length]) := by rw [hk2 _ (by omega)]; simp
    have h62 : H2.own (r + 1) = some (.cells [.v (.slice none 0 0), .v (.int .i64 0), .v (.slice none 0 0), .v (.slice none 0 0)]) := by rw [hk2 _ (by omega)]; simp [nsucc, h61]
    simp only [hr2, h62, hc2, ho2, Cd.cd38, Tk.t38, base0, base1, base2, base3, Option.isNone_none, Option.isNone_some, Nat.reduceBEq, true_or, or_true, false_or, or_false, Nat.reduceLT, Nat.reduceMod, Nat.reducePow, rmaps, nsucc, List.flatten_cons, List.flatten_nil, Nat.reduceEqDiff, Nat.reduceLeDiff, Nat.reduceAdd, Nat.reduceMul, Nat.reduceSub, ↓reduceIte, reduceCtorEq, decide_true, decide_false]
    have x2 : OwnX r H2 r [] s p h (.sl 4 n 0 s.net.length) o := x.frame (by simp; omega) fun m hm => hk2 m hm
    have x3 : OwnX r { H2 with own := fun m => if m = r then some (.cells [.sl 4 p 0 s.placed.length, .v (.int .i64 s.v), .sl 2 h 0 o.length, v]) else H2.own m } r [] { s with net := s.net.eraseIdx a.n.toNat } p h v o :=
      x2.net2 (Nat.le_refl _) (by simp [runL, stO]) (hva.mono fun m hm => by have := hvn2 m hm; simp [show m ≠ r by omega]) (fun m hm => .inr (by
        have h1 := hvn2 m hm
        exact ⟨fun e => by have := hnm m e; omega, by omega, by omega, h1.2⟩)) fun m h1 h2 h3 => by simp [h2]
    exact hend _ _ _ _ _ _ x3 (fun m hm => by
      rcases hm with rfl | rfl | hm | ⟨y, hy, hm⟩
      · have := hnm m (.inl rfl); omega
      · have := hnm m (.inr (.inl rfl)); omega
      · have := hvn2 m hm; omega
      · have := hnm m (.inr (.inr (.inr ⟨y, hy, hm⟩))); omega) (ht2.trans t1) (by simp; omega) (fun m hm => by simp [show m ≠ r by omega]; rw [hk2 m (by omega)]; simp [show m ≠ r by omega, hlow m hm]) _ rfl rfl fun m hm => by simp [hm]
  · have g0 : (a.kind == 0) = false := by simp [kk]
    have g1 : (a.kind == 1) = false := by simp [kk]
    have g2 : (a.kind == 2) = false := by simp [kk]
    have g3 : (a.kind == 3) = true := by simp [kk]
    have w := possible_net hp (by omega)
    have hi : a.n.toNat < s.net.length := by omega
    have e1 : 0 ≤ a.n ∧ a.n < (s.net.length : Int) := by omega
    obtain ⟨n, rest, rfl, hnq⟩ := x0.q.own (by omega)
    have hnn := hnm n (.inr (.inr (.inl rfl)))
    rw [act3 kk]
    generalize hx0 : s.net.getD a.n.toNat default = k0
    have d0 := flatE_drop (enc := pkR) pkR_len s.net a.n.toNat 0 rest hi (by decide)
    rw [hx0] at d0
    simp only [Nat.add_zero, pkR, List.drop_zero, List.drop_succ_cons, List.cons_append, List.nil_append] at d0
    simp only [hr1, h61, g0, g1, g2, g3, hone, hcel, e1, hnq, d0, le4, show (n = r) = False from eq_false (by omega), Cd.cd38, Tk.t38, base0, base1, base2, base3, Option.isNone_none, Option.isNone_some, Nat.reduceBEq, true_or, or_true, false_or, or_false, Nat.reduceLT, Nat.reduceMod, Nat.reducePow, rmaps, nsucc, List.flatten_cons, List.flatten_nil, Nat.reduceEqDiff, Nat.reduceLeDiff, Nat.reduceAdd, Nat.reduceMul, Nat.reduceSub, ↓reduceIte, reduceCtorEq, decide_true, decide_false]
    refine send_go' (B := r) (H := H) (pk := k0) x hln t1 (by simp; omega) (by simp; omega) (fun m hm => by simp [show m ≠ r by omega, hlow m hm]) hn1 (by simp [nsucc, h61]) fun w H5 hr5 h65 hwa hw => ?_
    simp only [hr5, h65, cells_aq hwa, one_aq hwa, nsucc, Cd.cd38, Tk.t38, base0, base1, base2, base3, Option.isNone_none, Option.isNone_some, Nat.reduceBEq, true_or, or_true, false_or, or_false, Nat.reduceLT, Nat.reduceMod, Nat.reducePow, rmaps, nsucc, List.flatten_cons, List.flatten_nil, Nat.reduceEqDiff, Nat.reduceLeDiff, Nat.reduceAdd, Nat.reduceMul, Nat.reduceSub, ↓reduceIte, reduceCtorEq, decide_true, decide_false]
    exact hw _ rfl rfl fun m h1 h2 => by simp [h1, h2]
  · have g0 : (a.kind == 0) = false := by simp; omega
    have g1 : (a.kind == 1) = false := by simp; omega
    have g2 : (a.kind == 2) = false := by simp; omega
    have g3 : (a.kind == 3) = false := by simp; omega
    have w := possible_in hp (by omega)
    obtain ⟨i, hpt⟩ := tell_some hp kk
    obtain ⟨q1, q2, q3⟩ := hV.hostIx w.1 (by omega)
    have hi : (c.place.getD a.n.toNat 0).toNat < o.length := by omega
    have e1 : 0 ≤ a.n ∧ a.n < (c.place.length : Int) := by omega
    have e2 : 0 ≤ c.place.getD a.n.toNat 0 ∧ c.place.getD a.n.toNat 0 < (o.length : Int) := by omega
    have e3 : 0 ≤ a.n ∧ a.n < (c.verd.length : Int) := by omega
    rw [act45 kk hpt]
    have eh : hostOf c s a.n = (o.getD (c.place.getD a.n.toNat 0).toNat default).hs := by
      unfold hostOf
      rw [x.st.eq, getD_mapH _ _ hi]
    have hpa : partIx (o.getD (c.place.getD a.n.toNat 0).toNat default).parts a.n = some i := by
      have := hpt; unfold partAt at this; rw [eh] at this; exact this
    obtain ⟨i1, i2⟩ := partIx_some hpa
    have hpok := hV.hs _ q2
    rw [show s.hosts.getD (c.place.getD a.n.toNat 0).toNat default = (o.getD (c.place.getD a.n.toNat 0).toNat default).hs from eh] at hpok
    have hpto := hpok.1 _ (getD_mem (l := (o.getD (c.place.getD a.n.toNat 0).toNat default).hs.parts) i1)
    have hmem := x.st.m _ (getD_mem hi)
    have hdm := x.st.dm _ (getD_mem hi)
    have hno := fun n => x.no (getD_mem hi) (n := n)
    have hno2 := fun n (hn : nmA (o.getD (c.place.getD a.n.toNat 0).toNat default).a = some n) => hnm n (.inr (.inr (.inr ⟨_, getD_mem hi, hn⟩)))
    rw [eh]
    have d1 := flatE_drop' (enc := hsO) (l := o) (i := (c.place.getD a.n.toNat 0).toNat) (j := 1) hsO_len hi (by decide)
    generalize hx0 : o.getD (c.place.getD a.n.toNat 0).toNat default = y0 at i1 i2 hmem hdm hno hno2 hpto d1
    simp only [hsO, List.drop_zero, List.drop_succ_cons, List.cons_append, List.nil_append] at d1
    obtain ⟨n, rest, hxa, hnq⟩ := hmem.own (by omega)
    have hn := hno n (by rw [hxa]; rfl)
    have hn3 := hno2 n (by rw [hxa]; rfl)
    have hn2 := hdm n (by rw [hxa]; rfl)
    rw [hxa] at d1
    generalize hz0 : y0.parts.getD i default = z0
    have hz0' : y0.hs.parts.getD i default = z0 := hz0
    rw [hz0'] at hpto ⊢
    have e4 : (0 : Int) ≤ (i : Int) ∧ (i : Int) < (y0.parts.length : Int) := by omega
    have gg := getD_ints c.place a.n.toNat (by omega)
    have gv := getD_ints c.verd a.n.toNat (by omega)
    have hwt : IntKind.i64.wrap (z0.tr + 1) = z0.tr + 1 := by
      cases hye : z0.ended
      · have := hpto.ne hye; exact wrapI (by omega) (by omega)
      · have := hpto.en hye; exact wrapI (by omega) (by omega)
    have hnr : (n = r) = False := eq_false (by omega)
    have hrn : (r = n) = False := eq_false (by omega)
    have hrn1 : (r + 1 = n) = False := eq_false (by omega)
    have hnh' : (h = n) = False := eq_false (Ne.symm hn2.2.1)
    have hpn : (p = n) = False := eq_false (Ne.symm hn2.1)
    simp only [show (n = r) = False from hnr, if_false] at hnq
    have l1 : i * 5 + 1 + 1 ≤ (flatE ptR y0.parts ++ rest).length := by rw [List.length_append, flatE_len ptR_len]; omega
    have s1 := flatE_splice (enc := ptR) (k := 5) (l := y0.parts) (i := i) (j := 1) (rest := rest) (cs := [.v (.bool true)]) (x := ⟨z0.part, true, z0.seen, z0.v, z0.tr⟩) ptR_len i1 (by simp) (by rw [hz0]; rfl)
    have d4 := flatE_drop (enc := ptR) ptR_len y0.parts i 4 rest i1 (by decide)
    rw [hz0] at d4
    have l2 : i * 5 + 3 + 1 ≤ (flatE ptR (y0.parts.set i ⟨z0.part, true, z0.seen, z0.v, z0.tr⟩) ++ rest).length := by rw [List.length_append, flatE_len ptR_len, List.length_set]; omega
    have s2 := flatE_splice (enc := ptR) (k := 5) (l := y0.parts.set i ⟨z0.part, true, z0.seen, z0.v, z0.tr⟩) (i := i) (j := 3) (rest := rest) (cs := [.v (.int .i64 (c.verd.getD a.n.toNat 0))]) (x := ⟨z0.part, true, z0.seen, c.verd.getD a.n.toNat 0, z0.tr⟩) ptR_len (by rw [List.length_set]; exact i1) (by simp) (by rw [getD_set i1, if_pos rfl]; rfl)
    rw [List.set_set] at s2
    have l3 : i * 5 + 4 + 1 ≤ (flatE ptR (y0.parts.set i ⟨z0.part, true, z0.seen, c.verd.getD a.n.toNat 0, z0.tr⟩) ++ rest).length := by rw [List.length_append, flatE_len ptR_len, List.length_set]; omega
    have s3 := flatE_splice (enc := ptR) (k := 5) (l := y0.parts.set i ⟨z0.part, true, z0.seen, c.verd.getD a.n.toNat 0, z0.tr⟩) (i := i) (j := 4) (rest := rest) (cs := [.v (.int .i64 (z0.tr + 1))]) (x := ⟨z0.part, true, z0.seen, c.verd.getD a.n.toNat 0, z0.tr + 1⟩) ptR_len (by rw [List.length_set]; exact i1) (by simp) (by rw [getD_set i1, if_pos rfl]; rfl)
    rw [List.set_set] at s3
    simp only [ptR, List.drop_zero, List.drop_succ_cons, List.cons_append, List.nil_append, List.length_cons, List.length_nil, Nat.zero_add] at s1 s2 s3 d4
    have hk4 : (a.kind == 4) = true ∨ ((a.kind == 4) = false ∧ (a.kind == 5) = true) := by rcases kk with e | e <;> simp [e]
    rcases hk4 with g4 | ⟨g4, g5⟩
    · simp only [hr1, h61, hone, hcel, g0, g1, g2, g3, g4, e1, gg, e2, x0.hh, d1, ints, List.length_map, f1, f2, f3, f4, f5, f6, Cd.cd38, Tk.t38, base0, base1, base2, base3, Option.isNone_none, Option.isNone_some, Nat.reduceBEq, true_or, or_true, false_or, or_false, Nat.reduceLT, Nat.reduceMod, Nat.reducePow, rmaps, nsucc, List.flatten_cons, List.flatten_nil, Nat.reduceEqDiff, Nat.reduceLeDiff, Nat.reduceAdd, Nat.reduceMul, Nat.reduceSub, ↓reduceIte, reduceCtorEq, decide_true, decide_false]
      refine (partOn67 c s hV a.n w.1 (by omega)).bgoQ (case3 x a.n) (Ground.v _) ?_
      rw [hpt]
      simp only [ixOf, e4, Int.toNat_natCast, hr1, h61, hone, hcel, hnq, d4, hwt, l1, s1, l2, s2, l3, s3, hnr, hrn, e1, e3, gg, gv, ints, List.length_map, Cd.cd38, Tk.t38, base0, base1, base2, base3, Option.isNone_none, Option.isNone_some, Nat.reduceBEq, true_or, or_true, false_or, or_false, Nat.reduceLT, Nat.reduceMod, Nat.reducePow, rmaps, nsucc, List.flatten_cons, List.flatten_nil, Nat.reduceEqDiff, Nat.reduceLeDiff, Nat.reduceAdd, Nat.reduceMul, Nat.reduceSub, ↓reduceIte, reduceCtorEq, decide_true, decide_false]
      refine send_go' (s := setHost s (c.place.getD a.n.toNat 0).toNat ⟨y0.lost, y0.parts.set i ⟨z0.part, true, z0.seen, c.verd.getD a.n.toNat 0, z0.tr + 1⟩⟩) (p := p) (h := h) (o := o.set (c.place.getD a.n.toNat 0).toNat ⟨y0.lost, .sl 5 n 0 y0.parts.length, y0.parts.set i ⟨z0.part, true, z0.seen, c.verd.getD a.n.toNat 0, z0.tr + 1⟩⟩) (B := r) (H := H) (r := r) (pk := ⟨2, c.place.getD a.n.toNat 0, a.n, c.verd.getD a.n.toNat 0⟩) ?_ hln t1 (by simp; omega) (by simp; omega) (fun m hm => by simp [show m ≠ r by omega, show m ≠ n by omega, hlow m hm]) (fun m hm => ?_) (by simp [hrn1, nsucc, h61]) fun w H5 hr5 h65 hwa hw => ?_
      · exact x.host (i := (c.place.getD a.n.toNat 0).toNat) (y := ⟨y0.lost, .sl 5 n 0 y0.parts.length, y0.parts.set i ⟨z0.part, true, z0.seen, c.verd.getD a.n.toNat 0, z0.tr + 1⟩⟩) hi (Nat.le_refl _) (by simp [show r ≠ n by omega])
          (by simp only [hnh', f2, if_false]; rw [x0.hh, flatE_same hi (by rw [hx0]; simp [hsO, hxa])]) (.inr ⟨n, rest, by simp, by simp⟩) (.inl (by rw [hx0, hxa])) fun m q1 q2 q3 => by
          rw [hx0, hxa] at q3
          simp [show m ≠ n from fun e => q3 (by rw [e]; rfl)]
      · rcases nms_set hm with hm | hm
        · exact hn1 m hm
        · cases hm; omega
      · simp only [List.length_set, setHost] at hr5 hw
        simp only [hr5, h65, cells_aq hwa, one_aq hwa, nsucc, Cd.cd38, Tk.t38, base0, base1, base2, base3, Option.isNone_none, Option.isNone_some, Nat.reduceBEq, true_or, or_true, false_or, or_false, Nat.reduceLT, Nat.reduceMod, Nat.reducePow, rmaps, nsucc, List.flatten_cons, List.flatten_nil, Nat.reduceEqDiff, Nat.reduceLeDiff, Nat.reduceAdd, Nat.reduceMul, Nat.reduceSub, ↓reduceIte, reduceCtorEq, decide_true, decide_false]
        exact hw _ rfl rfl fun m h1 h2 => by simp [h1, h2]
    · simp only [hr1, h61, hone, hcel, g0, g1, g2, g3, g4, g5, e1, gg, e2, x0.hh, d1, ints, List.length_map, f1, f2, f3, f4, f5, f6, Cd.cd38, Tk.t38, base0, base1, base2, base3, Option.isNone_none, Option.isNone_some, Nat.reduceBEq, true_or, or_true, false_or, or_false, Nat.reduceLT, Nat.reduceMod, Nat.reducePow, rmaps, nsucc, List.flatten_cons, List.flatten_nil, Nat.reduceEqDiff, Nat.reduceLeDiff, Nat.reduceAdd, Nat.reduceMul, Nat.reduceSub, ↓reduceIte, reduceCtorEq, decide_true, decide_false]
      refine (partOn67 c s hV a.n w.1 (by omega)).bgoQ (case3 x a.n) (Ground.v _) ?_
      rw [hpt]
      simp only [ixOf, e4, Int.toNat_natCast, hr1, h61, hone, hcel, hnq, d4, hwt, l1, s1, l2, s2, l3, s3, hnr, hrn, e1, e3, gg, gv, ints, List.length_map, Cd.cd38, Tk.t38, base0, base1, base2, base3, Option.isNone_none, Option.isNone_some, Nat.reduceBEq, true_or, or_true, false_or, or_false, Nat.reduceLT, Nat.reduceMod, Nat.reducePow, rmaps, nsucc, List.flatten_cons, List.flatten_nil, Nat.reduceEqDiff, Nat.reduceLeDiff, Nat.reduceAdd, Nat.reduceMul, Nat.reduceSub, ↓reduceIte, reduceCtorEq, decide_true, decide_false]
      refine send_go' (s := setHost s (c.place.getD a.n.toNat 0).toNat ⟨y0.lost, y0.parts.set i ⟨z0.part, true, z0.seen, c.verd.getD a.n.toNat 0, z0.tr + 1⟩⟩) (p := p) (h := h) (o := o.set (c.place.getD a.n.toNat 0).toNat ⟨y0.lost, .sl 5 n 0 y0.parts.length, y0.parts.set i ⟨z0.part, true, z0.seen, c.verd.getD a.n.toNat 0, z0.tr + 1⟩⟩) (B := r) (H := H) (r := r) (pk := ⟨2, c.place.getD a.n.toNat 0, a.n, c.verd.getD a.n.toNat 0⟩) ?_ hln t1 (by simp; omega) (by simp; omega) (fun m hm => by simp [show m ≠ r by omega, show m ≠ n by omega, hlow m hm]) (fun m hm => ?_) (by simp [hrn1, nsucc, h61]) fun w H5 hr5 h65 hwa hw => ?_
      · exact x.host (i := (c.place.getD a.n.toNat 0).toNat) (y := ⟨y0.lost, .sl 5 n 0 y0.parts.length, y0.parts.set i ⟨z0.part, true, z0.seen, c.verd.getD a.n.toNat 0, z0.tr + 1⟩⟩) hi (Nat.le_refl _) (by simp [show r ≠ n by omega])
          (by simp only [hnh', f2, if_false]; rw [x0.hh, flatE_same hi (by rw [hx0]; simp [hsO, hxa])]) (.inr ⟨n, rest, by simp, by simp⟩) (.inl (by rw [hx0, hxa])) fun m q1 q2 q3 => by
          rw [hx0, hxa] at q3
          simp [show m ≠ n from fun e => q3 (by rw [e]; rfl)]
      · rcases nms_set hm with hm | hm
        · exact hn1 m hm
        · cases hm; omega
      · simp only [List.length_set, setHost] at hr5 hw
        simp only [hr5, h65, cells_aq hwa, one_aq hwa, nsucc, Cd.cd38, Tk.t38, base0, base1, base2, base3, Option.isNone_none, Option.isNone_some, Nat.reduceBEq, true_or, or_true, false_or, or_false, Nat.reduceLT, Nat.reduceMod, Nat.reducePow, rmaps, nsucc, List.flatten_cons, List.flatten_nil, Nat.reduceEqDiff, Nat.reduceLeDiff, Nat.reduceAdd, Nat.reduceMul, Nat.reduceSub, ↓reduceIte, reduceCtorEq, decide_true, decide_false]
        exact hw _ rfl rfl fun m h1 h2 => by simp [h1, h2]
  · have g0 : (a.kind == 0) = false := by simp [kk]
    have g1 : (a.kind == 1) = false := by simp [kk]
    have g2 : (a.kind == 2) = false := by simp [kk]
    have g3 : (a.kind == 3) = false := by simp [kk]
    have g4 : (a.kind == 4) = false := by simp [kk]
    have g5 : (a.kind == 5) = false := by simp [kk]
    have g6 : (a.kind == 6) = true := by simp [kk]
    have w : 0 ≤ a.n ∧ a.n ≤ c.hosts - 1 := by
      unfold isPossible at hp
      rw [if_neg (by simp [kk]), if_neg (by simp [kk]), if_pos (by simp [kk])] at hp
      simp only [Bool.and_eq_true] at hp
      exact within_iff.mp hp.1
    have hi : a.n.toNat < o.length := by omega
    have e1 : 0 ≤ a.n ∧ a.n < (o.length : Int) := by omega
    rw [act6 kk, x0.eq, getD_mapH _ _ hi]
    have hmem := x.st.m _ (getD_mem hi)
    have hdm := x.st.dm _ (getD_mem hi)
    generalize hx0 : o.getD a.n.toNat default = y0 at hmem hdm
    have l0 : a.n.toNat * 2 + 1 ≤ (flatE hsO o).length := by rw [flatE_len hsO_len]; omega
    have s0 := flatE_splice' (enc := hsO) (l := o) (i := a.n.toNat) (j := 0) (a := .v (.bool true)) (x := ⟨true, y0.a, y0.parts⟩) hsO_len hi (by decide) (by rw [hx0]; rfl)
    simp only [Nat.add_zero] at s0
    simp only [hr1, h61, g0, g1, g2, g3, g4, g5, g6, hone, hcel, e1, x0.hh, l0, s0, f1, f2, f3, f4, f5, f6, Cd.cd38, Tk.t38, base0, base1, base2, base3, Option.isNone_none, Option.isNone_some, Nat.reduceBEq, true_or, or_true, false_or, or_false, Nat.reduceLT, Nat.reduceMod, Nat.reducePow, rmaps, nsucc, List.flatten_cons, List.flatten_nil, Nat.reduceEqDiff, Nat.reduceLeDiff, Nat.reduceAdd, Nat.reduceMul, Nat.reduceSub, ↓reduceIte, reduceCtorEq, decide_true, decide_false]
    have xx := x.host (i := a.n.toNat) (y := ⟨true, y0.a, y0.parts⟩) (H' := ⟨H1.next, fun m => if m = h then some (.cells (flatE hsO (o.set a.n.toNat ⟨true, y0.a, y0.parts⟩))) else if m = r then some (.cells [.sl 4 p 0 s.placed.length, .v (.int .i64 s.v), .sl 2 h 0 o.length, aq]) else H1.own m, H1.tip⟩) hi (Nat.le_refl _) (by simp [f3]) (by simp) (hmem.mono fun n hn => by simp [(hdm n hn).2.1]) (.inl (by rw [hx0])) fun m q1 q2 q3 => by simp [q2]
    have hh := hend _ _ _ _ _ _ xx (fun m hm => by
      rcases nms_set hm with hm | hm
      · exact hn1 m hm
      · exact hn1 m (.inr (.inr (.inr ⟨_, getD_mem hi, by rw [hx0]; exact hm⟩)))) t1 n1 fun m hm => by simp [show m ≠ r by omega, show m ≠ h from fun e => by have := hnm h (.inr (.inl rfl)); omega, hlow m hm]
    simp only [List.length_set] at hh
    exact hh _ rfl rfl fun m hm => by simp [hm]
  · have g0 : (a.kind == 0) = false := by simp [kk]
    have g1 : (a.kind == 1) = false := by simp [kk]
    have g2 : (a.kind == 2) = false := by simp [kk]
    have g3 : (a.kind == 3) = false := by simp [kk]
    have g4 : (a.kind == 4) = false := by simp [kk]
    have g5 : (a.kind == 5) = false := by simp [kk]
    have g6 : (a.kind == 6) = false := by simp [kk]
    have g7 : (a.kind == 7) = true := by simp [kk]
    have w := possible_in hp (by omega)
    rw [act7 kk]
    simp only [hr1, h61, g0, g1, g2, g3, g4, g5, g6, g7, hone, hcel, Cd.cd38, Tk.t38, base0, base1, base2, base3, Option.isNone_none, Option.isNone_some, Nat.reduceBEq, true_or, or_true, false_or, or_false, Nat.reduceLT, Nat.reduceMod, Nat.reducePow, rmaps, nsucc, List.flatten_cons, List.flatten_nil, Nat.reduceEqDiff, Nat.reduceLeDiff, Nat.reduceAdd, Nat.reduceMul, Nat.reduceSub, ↓reduceIte, reduceCtorEq, decide_true, decide_false]
    refine TakeX.go (take68x x.st (fun m hm => by have := hnm m hm; simp; omega) a.n 4 w.1 (by omega)) fun H4 xt t4 n4 k4 => ?_
    simp only at t4 n4 k4
    have hnp := hnm p (.inl rfl)
    have h64 : H4.own (r + 1) = some (.cells [.v (.slice none 0 0), .v (.int .i64 0), .v (.slice none 0 0), .v (.slice none 0 0)]) := by rw [k4 _ (by omega) (by omega)]; simp [nsucc, h61]
    simp only [stO]
    simp only [h64, hone, hcel, Cd.cd38, Tk.t38, base0, base1, base2, base3, Option.isNone_none, Option.isNone_some, Nat.reduceBEq, true_or, or_true, false_or, or_false, Nat.reduceLT, Nat.reduceMod, Nat.reducePow, rmaps, nsucc, List.flatten_cons, List.flatten_nil, Nat.reduceEqDiff, Nat.reduceLeDiff, Nat.reduceAdd, Nat.reduceMul, Nat.reduceSub, ↓reduceIte, reduceCtorEq, decide_true, decide_false]
    exact ⟨_, rfl, ⟨t4.trans t1, by simp; omega, fun m hm => by simp [show m ≠ r + 1 by omega]; rw [k4 m (by omega) (by omega)]; simp [show m ≠ r by omega, hlow m hm]⟩, p, h, aq, o, rfl, xt.frame fun n hn => by have := hnm n hn; simp [show n ≠ r + 1 by omega], fun n hn => by have := hnm n hn; simp; omega⟩
end
end Go.Proofs.Ytgmncggiblaciaa

/- Walks: the first state. -/
namespace Go.Proofs.Ytgmncggiblaciaa
open Go Go.Proofs.Ytgmncggiblaciaa.Ab
set_option maxRecDepth 100000

theorem zeros_flat {α : Type} [Inhabited α] {enc : α → List AV} {k : Nat} {z : List AV} {x : α} (hx : enc x = z) (hl : z.length = k) (hk : 0 < k) : ∀ n : Nat, (List.range (n * k)).map (fun i => z.getD (i % k) .any) = flatE enc (List.replicate n x)
  | 0 => by simp [flatE]
  | n + 1 => by
    rw [Nat.add_mul, Nat.one_mul, List.range_add, List.map_append, zeros_flat hx hl hk n, List.replicate_succ', flatE_append]
    congr 1
    simp only [flatE, List.map_cons, List.map_nil, List.flatten_cons, List.flatten_nil, List.append_nil, hx]
    apply List.ext_getElem
    · simp [hl]
    · intro i h1 h2
      simp only [List.length_map, List.length_range] at h1
      simp only [List.getElem_map, List.getElem_range]
      rw [Nat.add_comm, Nat.add_mul_mod_self_right, Nat.mod_eq_of_lt h1, List.getD_eq_getElem?_getD, List.getElem?_eq_getElem h2]; rfl

theorem start42 (c : Case) (hc : CaseOk c) (H : AH) : ACall Try.prog 42 [caseV c] H (DoneV H.next H (startS c)) := by
  have hp6 := hc.p6; have hh4 := hc.h4; have hh1 := hc.h1
  have m1 : ((c.place.length : Nat) : Int) ≤ 140737488355328 := by omega
  have m2 : ((24 : Nat) : Int) * ((c.place.length : Nat) : Int) ≤ 2 ^ 47 := by omega
  have m3 : c.hosts ≤ 140737488355328 := by omega
  have m4 : ((32 : Nat) : Int) * c.hosts ≤ 2 ^ 47 := by omega
  have m5 : 0 ≤ c.hosts := by omega
  have z1 := zeros_flat (enc := plR) (k := 4) (z := plR ⟨0, false, false, 0⟩) (x := ⟨0, false, false, 0⟩) rfl rfl (by decide) c.place.length
  have z2 := zeros_flat (enc := hsO) (k := 2) (z := hsO ⟨false, nilS, []⟩) (x := ⟨false, nilS, []⟩) rfl rfl (by decide) c.hosts.toNat
  simp only [plR, hsO, nilS] at z1 z2
  simp only [caseV]
  refine ACall.enter [] Cd.fn42 (by simp) ?_
  simp only [ints, List.length_map, m1, m2, m3, m4, m5, Int.toNat_natCast, Int.natCast_nonneg, z1, z2, nsucc, Cd.cd42, Tk.t42, base0, base1, base2, base3, Option.isNone_none, Option.isNone_some, Nat.reduceBEq, true_or, or_true, false_or, or_false, Nat.reduceLT, Nat.reduceMod, Nat.reducePow, rmaps, nsucc, List.flatten_cons, List.flatten_nil, Nat.reduceEqDiff, Nat.reduceLeDiff, Nat.reduceAdd, Nat.reduceMul, Nat.reduceSub, ↓reduceIte, reduceCtorEq, decide_true, decide_false]
  refine ⟨_, rfl, ⟨rfl, by simp <;> omega, fun m hm => by simp [show m ≠ H.next by omega, show m ≠ H.next + 1 by omega, show m ≠ H.next + 1 + 1 by omega]⟩, H.next + 1, H.next + 1 + 1, nilS, List.replicate c.hosts.toNat ⟨false, nilS, []⟩, ?_, ⟨?_, ?_, ?_, .inl ⟨rfl, .inl rfl⟩, fun y hy => ?_, by omega, fun n hn => by simp [nilS, nmA] at hn, fun y hy n hn => ?_, fun i j hi hj hij n hn => ?_⟩, fun n hn => ?_⟩
  · simp [stO, startS, nilS]
  · simp [startS, nsucc]
  · simp [nilS, nsucc]
  · simp [startS, OH.hs]
  · rw [List.eq_of_mem_replicate hy]; exact .inl ⟨rfl, .inl rfl⟩
  · rw [List.eq_of_mem_replicate hy] at hn; simp [nilS, nmA] at hn
  · have := List.eq_of_mem_replicate (getD_mem hi)
    rw [this] at hn; simp [nilS, nmA] at hn
  · rcases hn with rfl | rfl | hn | ⟨y, hy, hn⟩
    · exact ⟨by omega, by simp⟩
    · exact ⟨by omega, by simp⟩
    · simp [nilS, nmA] at hn
    · rw [List.eq_of_mem_replicate hy] at hn; simp [nilS, nmA] at hn

end Go.Proofs.Ytgmncggiblaciaa

/- Walks: a state after an act. -/
namespace Go.Proofs.Ytgmncggiblaciaa
open Go Go.Proofs.Ytgmncggiblaciaa.Ab
set_option maxRecDepth 100000

theorem stV_view {H : AH} {s : Stt} {p h : Nat} {aq : AV} {o : List OH} (x : OwnS H s p h aq o) : View H (.agg (stO s p h aq o)) (stV s) := x.view.agg
theorem fin_s {H : AH} {s : Stt} {p h : Nat} {aq : AV} {o : List OH} {y y' : Value} (x : OwnS H s p h aq o) (hy : y = y') : ∃ v v', AOut.ret (.tup [.agg (stO s p h aq o), .v y]) = .ret v ∧ View H v v' ∧ FZ v' ∧ v' = .tup [stV s, .v y'] := by
  subst hy; exact ⟨_, _, rfl, Views.tup (Views.cons (stV_view x) (Views.cons (FZ.v _).view Views.nil)), FZ.tup (FZs.two (FZ.stV _) (FZ.v _)), rfl⟩
def nilSt : Stt := ⟨[], 0, [], []⟩
theorem nil_view {H : AH} : View H (.agg [.v (.slice none 0 0), .v (.int .i64 0), .v (.slice none 0 0), .v (.slice none 0 0)]) (stV nilSt) :=
  Views.agg (Views.cons (View.nil _) (Views.cons (FZ.v _).view (Views.cons (View.nil _) (Views.cons (View.nil _) Views.nil))))
theorem fin_n {H : AH} {y y' : Value} (hy : y = y') : ∃ v v', AOut.ret (.tup [.agg [.v (.slice none 0 0), .v (.int .i64 0), .v (.slice none 0 0), .v (.slice none 0 0)], .v y]) = .ret v ∧ View H v v' ∧ FZ v' ∧ v' = .tup [stV nilSt, .v y'] := by
  subst hy; exact ⟨_, _, rfl, Views.tup (Views.cons nil_view (Views.cons (FZ.v _).view Views.nil)), FZ.tup (FZs.two (FZ.stV _) (FZ.v _)), rfl⟩
theorem DoneV.fc {P : Program} {m : FuncId} {args : List AV} {B : Nat} {s : Stt} (h : ACall P m args AH.none (DoneV B AH.none s)) : FCall P m args (· = stV s) :=
  h.mono fun out H' hx => by
    obtain ⟨cs, rfl, _, p, h, aq, o, rfl, x, _⟩ := hx
    exact ⟨_, _, rfl, stV_view x, FZ.stV _, rfl⟩
theorem act38f (c : Case) (s : Stt) (a : Ac) (hV : Valid c s) (ha : actE c s a = 0) : FCall Try.prog 38 [caseV c, stV s, acV a] (· = stV (actS c s a)) := DoneV.fc (act38 hV a ha)
theorem OwnX.out {B : Nat} {H : AH} {r : Nat} {c : List AV} {s : Stt} {p h : Nat} {aq : AV} {o : List OH} (x : OwnX B H r c s p h aq o) {H' : AH} (hk : ∀ m, NmS p h aq o m → H'.own m = H.own m) : OwnS H' s p h aq o := x.st.frame hk

theorem acted16 (c : Case) (s : Stt) (a : Ac) (hc : SmallC c) (hs : SmallS s) : FCall Try.prog 16 [caseV c, stV s, acV a] (· = if (checkState c s).2 = 0 ∧ actE c s a = 0 then .tup [stV (actS c s a), .v (.int .i64 0)] else .tup [stV nilSt, .v (.int .i64 (if (checkState c s).2 = 0 then actE c s a else (checkState c s).2))]) := by
  simp only [caseV, stV, stL, plsV, hssV, pksV, acV, acR]
  refine ACall.enter [27] Cd.fn16 (by simp) ?_
  simp only [Cd.cd16, Tk.t16, base0, base1, base2, base3, Option.isNone_none, Option.isNone_some, Nat.reduceBEq, true_or, or_true, false_or, or_false, Nat.reduceLT, Nat.reduceMod, Nat.reducePow, rmaps, nsucc, List.flatten_cons, List.flatten_nil, Nat.reduceEqDiff, Nat.reduceLeDiff, Nat.reduceAdd, Nat.reduceMul, Nat.reduceSub, ↓reduceIte, reduceCtorEq, decide_true, decide_false]
  refine (stateErr44 c s hc hs).go (FZs.two (FZ.caseV c) (FZ.stV s)) ?_
  by_cases h1 : (checkState c s).2 = 0
  · have h1' : ((checkState c s).2 == 0) = true := by simp [h1]
    have hV : Valid c s := checkState_ok.mp h1
    simp only [h1', Cd.cd16, Tk.t16, base0, base1, base2, base3, Option.isNone_none, Option.isNone_some, Nat.reduceBEq, true_or, or_true, false_or, or_false, Nat.reduceLT, Nat.reduceMod, Nat.reducePow, rmaps, nsucc, List.flatten_cons, List.flatten_nil, Nat.reduceEqDiff, Nat.reduceLeDiff, Nat.reduceAdd, Nat.reduceMul, Nat.reduceSub, ↓reduceIte, reduceCtorEq, decide_true, decide_false]
    refine (actErr45 c s hV a).go (FZs.three (FZ.caseV c) (FZ.stV s) (FZ.acV a)) ?_
    by_cases h2 : actE c s a = 0
    · have h2' : (actE c s a != 0) = false := by simp [h2]
      have hlp := hV.lp; have hlh := hV.lh; have hp1 := hV.ok.p1; have hh1 := hV.ok.h1
      rw [if_pos ⟨h1, h2⟩]
      simp only [h2', Cd.cd16, Tk.t16, base0, base1, base2, base3, Option.isNone_none, Option.isNone_some, Nat.reduceBEq, true_or, or_true, false_or, or_false, Nat.reduceLT, Nat.reduceMod, Nat.reducePow, rmaps, nsucc, List.flatten_cons, List.flatten_nil, Nat.reduceEqDiff, Nat.reduceLeDiff, Nat.reduceAdd, Nat.reduceMul, Nat.reduceSub, ↓reduceIte, reduceCtorEq, decide_true, decide_false]
      refine NewS.go' (own46 s _ hs (by omega) (by omega)) fun p h aq o H1 hN x0 hnm => ?_
      have hone := one_aq x0.q
      have hcel := cells_aq x0.q
      simp only [stO]
      simp only [hone, hcel, Cd.cd16, Tk.t16, base0, base1, base2, base3, Option.isNone_none, Option.isNone_some, Nat.reduceBEq, true_or, or_true, false_or, or_false, Nat.reduceLT, Nat.reduceMod, Nat.reducePow, rmaps, nsucc, List.flatten_cons, List.flatten_nil, Nat.reduceEqDiff, Nat.reduceLeDiff, Nat.reduceAdd, Nat.reduceMul, Nat.reduceSub, ↓reduceIte, reduceCtorEq, decide_true, decide_false]
      obtain ⟨_, t1, n1, k1⟩ := hN
      simp only at t1 n1 k1 hnm
      have k0 := k1 AH.none.next (by omega)
      simp at k0
      refine DoneR.go (act47 (B := AH.none.next + 1) hV a ⟨p, h, aq, o, by simp [runL, caseL, stO], x0.frame fun m hm => by have := hnm m hm; simp [show m ≠ H1.next by omega], fun m hm => by have := hnm m hm; simp; omega, by omega, by simp⟩ h2) fun H4 hF hR => ?_
      obtain ⟨p', h', aq', o', x⟩ := hR
      have k4 := hF.own AH.none.next (by omega)
      simp [show AH.none.next ≠ H1.next by omega, k0] at k4
      have hr4 := x.rb
      simp only [runL, caseL, stO, List.cons_append, List.nil_append] at hr4
      have hone := one_aq x.st.q
      have hcel := cells_aq x.st.q
      simp only [hr4, k4, hone, hcel, Cd.cd16, Tk.t16, base0, base1, base2, base3, Option.isNone_none, Option.isNone_some, Nat.reduceBEq, true_or, or_true, false_or, or_false, Nat.reduceLT, Nat.reduceMod, Nat.reducePow, rmaps, nsucc, List.flatten_cons, List.flatten_nil, Nat.reduceEqDiff, Nat.reduceLeDiff, Nat.reduceAdd, Nat.reduceMul, Nat.reduceSub, ↓reduceIte, reduceCtorEq, decide_true, decide_false]
      exact fin_s (x.st.frame fun n h3 => by have := (x.nr n h3).2; simp; omega) rfl
    · have h2' : (actE c s a != 0) = true := by simp [h2]
      rw [if_neg (by simp [h2]), if_pos h1]
      simp only [h2', Cd.cd16, Tk.t16, base0, base1, base2, base3, Option.isNone_none, Option.isNone_some, Nat.reduceBEq, true_or, or_true, false_or, or_false, Nat.reduceLT, Nat.reduceMod, Nat.reducePow, rmaps, nsucc, List.flatten_cons, List.flatten_nil, Nat.reduceEqDiff, Nat.reduceLeDiff, Nat.reduceAdd, Nat.reduceMul, Nat.reduceSub, ↓reduceIte, reduceCtorEq, decide_true, decide_false]
      exact fin_n rfl
  · have h1' : ((checkState c s).2 == 0) = false := by simp [h1]
    have h1'' : ((checkState c s).2 != 0) = true := by simp [h1]
    rw [if_neg (by simp [h1]), if_neg h1]
    simp only [h1', h1'', Cd.cd16, Tk.t16, base0, base1, base2, base3, Option.isNone_none, Option.isNone_some, Nat.reduceBEq, true_or, or_true, false_or, or_false, Nat.reduceLT, Nat.reduceMod, Nat.reducePow, rmaps, nsucc, List.flatten_cons, List.flatten_nil, Nat.reduceEqDiff, Nat.reduceLeDiff, Nat.reduceAdd, Nat.reduceMul, Nat.reduceSub, ↓reduceIte, reduceCtorEq, decide_true, decide_false]
    exact fin_n rfl
end Go.Proofs.Ytgmncggiblaciaa

/- Walks: runs. -/
namespace Go.Proofs.Ytgmncggiblaciaa
open Go Go.Proofs.Ytgmncggiblaciaa.Ab
set_option maxRecDepth 100000

/-- a run from a state on -/
def runFrom (c : Case) : Stt → List Ac → Nat → Stt × Nat × Int
  | s, [], k => (s, k, 0)
  | s, a :: l, k => if actE c s a = 0 then runFrom c (actS c s a) l (k + 1) else (nilSt, k, actE c s a)
def runOf (c : Case) (l : List Ac) : Stt × Nat × Int :=
  if (checkCase c).2 ≠ 0 then (nilSt, 0, (checkCase c).2) else if l.length > 60 then (nilSt, 0, 2) else runFrom c (startS c) l 0
theorem runFrom_step {c : Case} {s : Stt} {l : List Ac} {i : Nat} (hi : i < l.length) : runFrom c s (l.drop i) i = if actE c s (l.getD i default) = 0 then runFrom c (actS c s (l.getD i default)) (l.drop (i + 1)) (i + 1) else (nilSt, i, actE c s (l.getD i default)) := by
  rw [List.drop_eq_getElem_cons hi, List.getD_eq_getElem?_getD, List.getElem?_eq_getElem hi]; rfl
theorem fin_s3 {H : AH} {s : Stt} {p h : Nat} {aq : AV} {o : List OH} {y y' z z' : Value} (x : OwnS H s p h aq o) (hy : y = y') (hz : z = z') : ∃ v v', AOut.ret (.tup [.agg (stO s p h aq o), .v y, .v z]) = .ret v ∧ View H v v' ∧ FZ v' ∧ v' = .tup [stV s, .v y', .v z'] := by
  subst hy; subst hz; exact ⟨_, _, rfl, Views.tup (Views.cons (stV_view x) (Views.cons (FZ.v _).view (Views.cons (FZ.v _).view Views.nil))), FZ.tup (FZs.three (FZ.stV _) (FZ.v _) (FZ.v _)), rfl⟩
theorem fin_n3 {H : AH} {y y' z z' : Value} (hy : y = y') (hz : z = z') : ∃ v v', AOut.ret (.tup [.agg [.v (.slice none 0 0), .v (.int .i64 0), .v (.slice none 0 0), .v (.slice none 0 0)], .v y, .v z]) = .ret v ∧ View H v v' ∧ FZ v' ∧ v' = .tup [stV nilSt, .v y', .v z'] := by
  subst hy; subst hz; exact ⟨_, _, rfl, Views.tup (Views.cons nil_view (Views.cons (FZ.v _).view (Views.cons (FZ.v _).view Views.nil))), FZ.tup (FZs.three (FZ.stV _) (FZ.v _) (FZ.v _)), rfl⟩
/-- the answer of a run -/
def runV (r : Stt × Nat × Int) : AV := .tup [stV r.1, .v (.int .i64 (r.2.1 : Nat)), .v (.int .i64 r.2.2)]

theorem DoneV.go' {P : Program} {m : FuncId} {args : List AV} {H : AH} {B : Nat} {s : Stt} {mu : List Nat} {Kt : Kont} {fm : AF} {dst : Option Nat} {ds : List DOp} {f : AF} {pd : List (Nat × Nat × ABlk)} {rd : List Nat}
    (h : ACall P m args H (DoneV B H s)) (h' : ∀ cs H', Fr B H H' → OwnV B H' cs s → dops P mu Kt fm ds (f.put dst (.agg cs)) H' pd rd) : ACall P m args H (dcallK P mu Kt fm dst ds f pd rd) :=
  h.mono fun out H' hx => by
    obtain ⟨cs, rfl, h1, h2⟩ := hx
    exact h' cs H' h1 h2
set_option maxHeartbeats 1000000 in
theorem runOf25 (c : Case) (l : List Ac) (hb : l.length < 2 ^ 40) : FCall Try.prog 25 [caseV c, acsV l] (· = runV (runOf c l)) := by
  simp only [caseV, acsV]
  unfold runOf runV
  refine ACall.enter [28] Cd.fn25 (by simp) ?_
  simp only [Cd.cd25, Tk.t25, base0, base1, base2, base3, Option.isNone_none, Option.isNone_some, Nat.reduceBEq, true_or, or_true, false_or, or_false, Nat.reduceLT, Nat.reduceMod, Nat.reducePow, rmaps, nsucc, List.flatten_cons, List.flatten_nil, Nat.reduceEqDiff, Nat.reduceLeDiff, Nat.reduceAdd, Nat.reduceMul, Nat.reduceSub, ↓reduceIte, reduceCtorEq, decide_true, decide_false]
  refine (caseErr41 c).go (FZs.one (FZ.caseV c)) ?_
  by_cases hc : (checkCase c).2 = 0
  · have hc' : ((checkCase c).2 != 0) = false := by simp [hc]
    have hk := checkCase_ok.mp hc
    rw [if_neg (by simp [hc])]
    by_cases hl : l.length > 60
    · rw [if_pos hl]
      simp only [hc', List.length_map, show decide (((l.length : Nat) : Int) > 60) = true from decide_eq_true (by omega), Cd.cd25, Tk.t25, base0, base1, base2, base3, Option.isNone_none, Option.isNone_some, Nat.reduceBEq, true_or, or_true, false_or, or_false, Nat.reduceLT, Nat.reduceMod, Nat.reducePow, rmaps, nsucc, List.flatten_cons, List.flatten_nil, Nat.reduceEqDiff, Nat.reduceLeDiff, Nat.reduceAdd, Nat.reduceMul, Nat.reduceSub, ↓reduceIte, reduceCtorEq, decide_true, decide_false]
      exact fin_n3 rfl rfl
    · rw [if_neg hl]
      simp only [hc', List.length_map, show decide (((l.length : Nat) : Int) > 60) = false from decide_eq_false (by omega), Cd.cd25, Tk.t25, base0, base1, base2, base3, Option.isNone_none, Option.isNone_some, Nat.reduceBEq, true_or, or_true, false_or, or_false, Nat.reduceLT, Nat.reduceMod, Nat.reducePow, rmaps, nsucc, List.flatten_cons, List.flatten_nil, Nat.reduceEqDiff, Nat.reduceLeDiff, Nat.reduceAdd, Nat.reduceMul, Nat.reduceSub, ↓reduceIte, reduceCtorEq, decide_true, decide_false]
      refine DoneV.go' (start42 c hk _) fun cs H1 hF hO => ?_
      obtain ⟨p, h, aq, o, rfl, x0, hnm⟩ := hO
      obtain ⟨t1, n1, k1⟩ := hF
      simp only at t1 n1 k1 hnm
      have hone := one_aq x0.q
      have hcel := cells_aq x0.q
      have k0 := k1 AH.none.next (by omega)
      simp at k0
      simp only [stO]
      obtain ⟨r, hr⟩ : ∃ r, r = H1.next := ⟨_, rfl⟩
      have hr0 : AH.none.next ≠ r := by omega
      simp only [hone, hcel, List.length_map, Cd.cd25, Tk.t25, base0, base1, base2, base3, Option.isNone_none, Option.isNone_some, Nat.reduceBEq, true_or, or_true, false_or, or_false, Nat.reduceLT, Nat.reduceMod, Nat.reducePow, rmaps, nsucc, List.flatten_cons, List.flatten_nil, Nat.reduceEqDiff, Nat.reduceLeDiff, Nat.reduceAdd, Nat.reduceMul, Nat.reduceSub, ↓reduceIte, reduceCtorEq, decide_true, decide_false]
      refine LWP.loop [28] (fun m f H' => ∃ i, m = l.length - i ∧ (i ≤ l.length) ∧ f.t 31 = .v (.int .i64 (i : Nat)) ∧ f.t 30 = .v (.int .i64 (l.length : Nat)) ∧ f.t 29 = .lst 2 (l.map acR) .unk ∧ f.t 8 = .ptr r 0 ∧ f.t 4 = .ptr AH.none.next 0 ∧ f.t 2 = .box [.v (.int .i64 c.hosts), ints c.place, ints c.verd] ∧ f.t 1 = .lst 2 (l.map acR) .unk ∧ f.ds = [] ∧ ∃ s, Valid c s ∧ runFrom c s (l.drop i) i = runFrom c (startS c) l 0 ∧ OwnR (AH.none.next + 1) H' r c s ∧ H'.own AH.none.next = some (.cells [.v (.slice none 0 0), .v (.int .i64 0), .v (.slice none 0 0), .v (.slice none 0 0)]) ∧ r < H'.next) ?_ ?_ (m := l.length - (0))
      · exact ⟨0, rfl, (by omega), rfl, rfl, rfl, by rw [hr]; rfl, rfl, rfl, rfl, rfl, by refine ⟨startS c, valid_start hk, rfl, ⟨p, h, aq, o, ?_⟩, ?_, ?_⟩ <;> first   | exact ⟨by simp [runL, caseL, stO, hr], x0.frame fun m hm => by have := hnm m hm; simp [show m ≠ H1.next by omega], fun m hm => by have := hnm m hm; simp; omega, by omega, by simp [hr]⟩   | (simp [show AH.none.next ≠ H1.next by omega, k0]; done)   | (show r < H1.next + 1; omega)⟩
      · rintro m f H' ⟨i, rfl, hi, f31, f30, f29, f8, f4, f2, f1, hds, ⟨s,hV,hrun,hR,hw,hx⟩⟩
        by_cases hlt : i < l.length
        · obtain ⟨p, h, aq, o, x⟩ := hR
          have hrb := x.rb
          have hbr := x.br
          simp only [runL, caseL, stO, List.cons_append, List.nil_append] at hrb
          have w1 : (r = H'.next) = False := eq_false (by omega)
          have w2 : (AH.none.next = H'.next) = False := eq_false (by omega)
          have hstep := runFrom_step (c := c) (s := s) hlt
          generalize ha : l.getD i default = a at hstep
          simp only [ltT hlt, List.length_map, inR hlt, Int.toNat_natCast, getD_map acR _ _ hlt, ha, acR, hrb, w1, f31, f30, f29, f8, f4, f2, f1, hds, Cd.cd25, Tk.t25, base0, base1, base2, base3, Option.isNone_none, Option.isNone_some, Nat.reduceBEq, true_or, or_true, false_or, or_false, Nat.reduceLT, Nat.reduceMod, Nat.reducePow, rmaps, nsucc, List.flatten_cons, List.flatten_nil, Nat.reduceEqDiff, Nat.reduceLeDiff, Nat.reduceAdd, Nat.reduceMul, Nat.reduceSub, ↓reduceIte, reduceCtorEq, decide_true, decide_false]
          have xs : ∀ Hx : AH, (∀ m, m < H'.next → Hx.own m = H'.own m) → OwnS Hx s p h aq o := fun Hx hk => x.st.frame fun m hm => hk m (x.nr m hm).2.2
          refine (actErr45 c s hV a).bgo' (Views.cons (FZ.caseV c).view (Views.cons (stV_view (xs _ fun m hm => by simp [show m ≠ H'.next by omega])) (Views.cons (FZ.acV a).view Views.nil))) (Ground.v _) ?_
          by_cases he : actE c s a = 0
          · have he' : (actE c s a != 0) = false := by simp [he]
            rw [if_pos he] at hstep
            simp only [he', acR, f31, f30, f29, f8, f4, f2, f1, hds, Cd.cd25, Tk.t25, base0, base1, base2, base3, Option.isNone_none, Option.isNone_some, Nat.reduceBEq, true_or, or_true, false_or, or_false, Nat.reduceLT, Nat.reduceMod, Nat.reducePow, rmaps, nsucc, List.flatten_cons, List.flatten_nil, Nat.reduceEqDiff, Nat.reduceLeDiff, Nat.reduceAdd, Nat.reduceMul, Nat.reduceSub, ↓reduceIte, reduceCtorEq, decide_true, decide_false]
            refine DoneR.go (act47 (B := AH.none.next + 1) hV a ⟨p, h, aq, o, by simp [w1, hrb, runL, caseL, stO], xs _ fun m hm => by simp [show m ≠ H'.next by omega], fun m hm => by have := x.nr m hm; simp; omega, by omega, by simp; omega⟩ he) fun H4 hF hR => ?_
            have k4 := hF.own AH.none.next (by omega)
            simp [w2, hw] at k4
            have hx4 := hF.next
            simp only [f31, f30, f29, f8, f4, f2, f1, hds, Cd.cd25, Tk.t25, base0, base1, base2, base3, Option.isNone_none, Option.isNone_some, Nat.reduceBEq, true_or, or_true, false_or, or_false, Nat.reduceLT, Nat.reduceMod, Nat.reducePow, rmaps, nsucc, List.flatten_cons, List.flatten_nil, Nat.reduceEqDiff, Nat.reduceLeDiff, Nat.reduceAdd, Nat.reduceMul, Nat.reduceSub, ↓reduceIte, reduceCtorEq, decide_true, decide_false]
            refine ⟨_, by omega, i + 1, rfl, by omega, ?_⟩
            (repeat' apply And.intro) <;> first | rfl | (rw [wrapS (by omega)]) | omega | assumption | (exact ⟨_, hV.act he, by rw [← hstep]; exact hrun, hR, k4, by simp at hx4; omega⟩)
          · have he' : (actE c s a != 0) = true := by simp [he]
            rw [if_neg he] at hstep
            rw [← hrun, hstep]
            simp only [he', hw, w2, f31, f30, f29, f8, f4, f2, f1, hds, Cd.cd25, Tk.t25, base0, base1, base2, base3, Option.isNone_none, Option.isNone_some, Nat.reduceBEq, true_or, or_true, false_or, or_false, Nat.reduceLT, Nat.reduceMod, Nat.reducePow, rmaps, nsucc, List.flatten_cons, List.flatten_nil, Nat.reduceEqDiff, Nat.reduceLeDiff, Nat.reduceAdd, Nat.reduceMul, Nat.reduceSub, ↓reduceIte, reduceCtorEq, decide_true, decide_false]
            exact fin_n3 rfl rfl
        · have hi' : i = l.length := by omega
          subst hi'
          obtain ⟨p, h, aq, o, x⟩ := hR
          have hrb := x.rb
          have hone := one_aq x.st.q
          have hcel := cells_aq x.st.q
          simp only [runL, caseL, stO, List.cons_append, List.nil_append] at hrb
          rw [List.drop_length] at hrun
          rw [← hrun]
          simp only [ltF hlt, hrb, hw, hone, hcel, List.length_map, f31, f30, f29, f8, f4, f2, f1, hds, Cd.cd25, Tk.t25, base0, base1, base2, base3, Option.isNone_none, Option.isNone_some, Nat.reduceBEq, true_or, or_true, false_or, or_false, Nat.reduceLT, Nat.reduceMod, Nat.reducePow, rmaps, nsucc, List.flatten_cons, List.flatten_nil, Nat.reduceEqDiff, Nat.reduceLeDiff, Nat.reduceAdd, Nat.reduceMul, Nat.reduceSub, ↓reduceIte, reduceCtorEq, decide_true, decide_false]
          exact fin_s3 (x.st.frame fun m hm => by have := (x.nr m hm).2; simp; omega) rfl rfl
  · have hc' : ((checkCase c).2 != 0) = true := by simp [hc]
    rw [if_pos hc]
    simp only [hc', Cd.cd25, Tk.t25, base0, base1, base2, base3, Option.isNone_none, Option.isNone_some, Nat.reduceBEq, true_or, or_true, false_or, or_false, Nat.reduceLT, Nat.reduceMod, Nat.reducePow, rmaps, nsucc, List.flatten_cons, List.flatten_nil, Nat.reduceEqDiff, Nat.reduceLeDiff, Nat.reduceAdd, Nat.reduceMul, Nat.reduceSub, ↓reduceIte, reduceCtorEq, decide_true, decide_false]
    exact fin_n3 rfl rfl
end Go.Proofs.Ytgmncggiblaciaa

/- Walks: the reference's runs. -/
namespace Go.Proofs.Ytgmncggiblaciaa
open Go Go.Proofs.Ytgmncggiblaciaa.Ab
set_option maxRecDepth 100000

/-- the answer of the reference's run -/
def runW (r : Stt × Nat × Int) : AV := .agg (stL r.1 ++ [.v (.int .i64 (r.2.1 : Nat)), .v (.int .i64 r.2.2)])
end Go.Proofs.Ytgmncggiblaciaa

/- Walks: what is over, what is worst, what is small. -/
namespace Go.Proofs.Ytgmncggiblaciaa
open Go Go.Proofs.Ytgmncggiblaciaa.Ab
set_option maxRecDepth 100000

theorem worstI_snoc (l : List Int) (x : Int) : worstI (l ++ [x]) = if x > worstI l then x else worstI l := by unfold worstI; rw [List.foldl_append]; rfl
theorem worstI_take {l : List Int} {i : Nat} (hi : i < l.length) : worstI (l.take (i + 1)) = if l.getD i 0 > worstI (l.take i) then l.getD i 0 else worstI (l.take i) := by
  rw [← worstI_snoc]; congr 1
  rw [List.take_add_one, List.getD_eq_getElem?_getD, List.getElem?_eq_getElem hi]; rfl

theorem if_max {x : Int} (h : 0 ≤ x) : (if x > worstI [] then x else worstI []) = x := by
  show (if x > 0 then x else 0) = x
  by_cases h' : x > 0
  · rw [if_pos h']
  · rw [if_neg h']; omega

theorem isOver18 (c : Case) (s : Stt) (hc : SmallC c) (hs : SmallS s) : FCall Try.prog 18 [caseV c, stV s] (· = .tup [.v (.bool (decide ((checkState c s).2 = 0) && overS s)), .v (.int .i64 (checkState c s).2)]) := by
  simp only [caseV, stV, stL]
  refine ACall.enter [] Cd.fn18 (by simp) ?_
  simp only [Cd.cd18, Tk.t18, base0, base1, base2, base3, Option.isNone_none, Option.isNone_some, Nat.reduceBEq, true_or, or_true, false_or, or_false, Nat.reduceLT, Nat.reduceMod, Nat.reducePow, rmaps, nsucc, List.flatten_cons, List.flatten_nil, Nat.reduceEqDiff, Nat.reduceLeDiff, Nat.reduceAdd, Nat.reduceMul, Nat.reduceSub, ↓reduceIte, reduceCtorEq, decide_true, decide_false]
  refine (stateErr44 c s hc hs).go (FZs.two (FZ.caseV c) (FZ.stV s)) ?_
  by_cases h : (checkState c s).2 = 0
  · have h' : ((checkState c s).2 != 0) = false := by simp [h]
    simp only [h', Cd.cd18, Tk.t18, base0, base1, base2, base3, Option.isNone_none, Option.isNone_some, Nat.reduceBEq, true_or, or_true, false_or, or_false, Nat.reduceLT, Nat.reduceMod, Nat.reducePow, rmaps, nsucc, List.flatten_cons, List.flatten_nil, Nat.reduceEqDiff, Nat.reduceLeDiff, Nat.reduceAdd, Nat.reduceMul, Nat.reduceSub, ↓reduceIte, reduceCtorEq, decide_true, decide_false]
    refine (containsFunc48 s.placed 49 [] (fun p => !p.tk) hs.p FZs.nil (fun x => notTaken49 x)).go (FZs.two (FZ.plsV _) (FZ.fn FZs.nil FZs.nil)) ?_
    simp only [Cd.cd18, Tk.t18, base0, base1, base2, base3, Option.isNone_none, Option.isNone_some, Nat.reduceBEq, true_or, or_true, false_or, or_false, Nat.reduceLT, Nat.reduceMod, Nat.reducePow, rmaps, nsucc, List.flatten_cons, List.flatten_nil, Nat.reduceEqDiff, Nat.reduceLeDiff, Nat.reduceAdd, Nat.reduceMul, Nat.reduceSub, ↓reduceIte, reduceCtorEq, decide_true, decide_false]
    refine fin_t2 ?_ (by rw [h])
    rw [h]
    simp only [decide_true, Bool.true_and, overS]
    congr 1
    induction s.placed with
    | nil => rfl
    | cons x l ih => simp only [List.any_cons, List.all_cons, Bool.not_or, Bool.not_not, ih]
  · have h' : ((checkState c s).2 != 0) = true := by simp [h]
    simp only [h', Cd.cd18, Tk.t18, base0, base1, base2, base3, Option.isNone_none, Option.isNone_some, Nat.reduceBEq, true_or, or_true, false_or, or_false, Nat.reduceLT, Nat.reduceMod, Nat.reducePow, rmaps, nsucc, List.flatten_cons, List.flatten_nil, Nat.reduceEqDiff, Nat.reduceLeDiff, Nat.reduceAdd, Nat.reduceMul, Nat.reduceSub, ↓reduceIte, reduceCtorEq, decide_true, decide_false]
    exact fin_t2 (by simp [h]) rfl

theorem max52 (l : List Int) (hb : l.length < 2 ^ 40) (h0 : 0 < l.length) (hp : ∀ x ∈ l, 0 ≤ x) : FCall Try.prog 52 [ints l] (· = .v (.int .i64 (worstI l))) := by
  simp only [ints]
  have e0 : (0 : Int) ≤ 0 ∧ (0 : Int) < (l.length : Int) := by omega
  have g0 := getD_ints l 0 h0
  have hx : 0 ≤ l.getD 0 0 := hp _ (by rw [List.getD_eq_getElem?_getD, List.getElem?_eq_getElem h0]; exact List.getElem_mem h0)
  have h1 := worstI_take h0
  have h2 : worstI (l.take 1) = l.getD 0 0 := by
    rw [h1, List.take_zero]; exact if_max hx
  refine ACall.enter [] Cd.fn52 (by simp) ?_
  simp only [List.length_map, show decide (((l.length : Nat) : Int) < 1) = false from decide_eq_false (by omega), e0, show Int.toNat 0 = 0 from rfl, g0, Cd.cd52, Tk.t52, base0, base1, base2, base3, Option.isNone_none, Option.isNone_some, Nat.reduceBEq, true_or, or_true, false_or, or_false, Nat.reduceLT, Nat.reduceMod, Nat.reducePow, rmaps, nsucc, List.flatten_cons, List.flatten_nil, Nat.reduceEqDiff, Nat.reduceLeDiff, Nat.reduceAdd, Nat.reduceMul, Nat.reduceSub, ↓reduceIte, reduceCtorEq, decide_true, decide_false]
  refine LWP.loop [] (fun m f H' => ∃ i, m = l.length - i ∧ (i ≤ l.length) ∧ (1 ≤ i) ∧ f.t 4 = .v (.int .i64 (i : Nat)) ∧ f.t 3 = .v (.int .i64 (worstI (l.take i))) ∧ f.t 0 = ints l ∧ f.ds = [] ∧ H' = AH.none) ?_ ?_ (m := l.length - (1))
  · exact ⟨1, rfl, (by omega), (by omega), rfl, by rw [h2]; rfl, rfl, rfl, rfl⟩
  · rintro m f H' ⟨i, rfl, hi, hi1, f4, f3, f0, hds, rfl⟩
    simp only [ints] at f0
    by_cases hlt : i < l.length
    · have e := worstI_take hlt
      have gg := getD_ints l i hlt
      simp only [ltT hlt, List.length_map, inR hlt, Int.toNat_natCast, gg, ← e, f4, f3, f0, hds, Cd.cd52, Tk.t52, base0, base1, base2, base3, Option.isNone_none, Option.isNone_some, Nat.reduceBEq, true_or, or_true, false_or, or_false, Nat.reduceLT, Nat.reduceMod, Nat.reducePow, rmaps, nsucc, List.flatten_cons, List.flatten_nil, Nat.reduceEqDiff, Nat.reduceLeDiff, Nat.reduceAdd, Nat.reduceMul, Nat.reduceSub, ↓reduceIte, reduceCtorEq, decide_true, decide_false]
      refine ⟨_, by omega, i + 1, rfl, by omega, by omega, ?_⟩
      (repeat' apply And.intro) <;> first | rfl | (rw [wrapS (by omega)]) | omega | assumption | (trivial)
    · have hi' : i = l.length := by omega
      subst hi'
      simp only [ltF hlt, List.length_map, f4, f3, f0, hds, Cd.cd52, Tk.t52, base0, base1, base2, base3, Option.isNone_none, Option.isNone_some, Nat.reduceBEq, true_or, or_true, false_or, or_false, Nat.reduceLT, Nat.reduceMod, Nat.reducePow, rmaps, nsucc, List.flatten_cons, List.flatten_nil, Nat.reduceEqDiff, Nat.reduceLeDiff, Nat.reduceAdd, Nat.reduceMul, Nat.reduceSub, ↓reduceIte, reduceCtorEq, decide_true, decide_false]
      exact fin_v (by rw [List.take_length])

theorem single39 : FCall Try.prog 39 [] (· = caseV ⟨1, [0], [1]⟩) := by
  refine ACall.enter [] Cd.fn39 (by simp) ?_
  simp only [Cd.cd39, Tk.t39, base0, base1, base2, base3, Option.isNone_none, Option.isNone_some, Nat.reduceBEq, true_or, or_true, false_or, or_false, Nat.reduceLT, Nat.reduceMod, Nat.reducePow, rmaps, nsucc, List.flatten_cons, List.flatten_nil, Nat.reduceEqDiff, Nat.reduceLeDiff, Nat.reduceAdd, Nat.reduceMul, Nat.reduceSub, ↓reduceIte, reduceCtorEq, decide_true, decide_false]
  exact ⟨_, _, rfl, Views.agg (Views.cons (FZ.v _).view (Views.cons (View.tip fun r hr => by simp at hr; subst hr; exact FZs.v1 _) (Views.cons (View.tip fun r hr => by simp at hr; subst hr; exact FZs.v1 _) Views.nil))), FZ.caseV ⟨1, [0], [1]⟩, rfl⟩
end Go.Proofs.Ytgmncggiblaciaa

/- Walks: what is small. -/
namespace Go.Proofs.Ytgmncggiblaciaa
open Go Go.Proofs.Ytgmncggiblaciaa.Ab
set_option maxRecDepth 100000

def smallB (c : Case) (s : Stt) : Bool := decide (c.place.length ≤ 9 ∧ c.verd.length ≤ 9 ∧ s.placed.length ≤ 9 ∧ s.hosts.length ≤ 9 ∧ s.net.length ≤ 15) && s.hosts.all fun x => decide (x.parts.length ≤ 9)
def fewB (s : Stt) : Bool := decide (s.placed.length ≤ 6 ∧ s.hosts.length ≤ 4 ∧ s.net.length ≤ 12) && s.hosts.all fun x => decide (x.parts.length ≤ 6)
theorem all_false {l : List Hs} {p : Hs → Bool} {i : Nat} (hi : i < l.length) (h : p (l.getD i default) = false) : l.all p = false := by
  rw [List.all_eq_false]; exact ⟨_, getD_mem hi, by rw [h]; simp⟩
theorem smallB_ok {c : Case} {s : Stt} (h : smallB c s = true) : SmallC c ∧ SmallS s := by
  simp only [smallB, Bool.and_eq_true, decide_eq_true_eq, List.all_eq_true] at h
  obtain ⟨⟨h1, h2, h3, h4, h5⟩, h6⟩ := h
  exact ⟨⟨by omega, by omega⟩, ⟨by omega, by omega, by omega, fun x hx => by have := h6 x hx; omega⟩⟩
set_option maxHeartbeats 1000000 in
theorem small24 (c : Case) (s : Stt) : FCall Try.prog 24 [caseV c, stV s] (· = .v (.bool (smallB c s))) := by
  simp only [caseV, stV]
  refine ACall.enter [] Cd.fn24 (by simp) ?_
  rcases (by omega : (9 < c.place.length) ∨ (c.place.length ≤ 9 ∧ 9 < c.verd.length) ∨ (c.place.length ≤ 9 ∧ c.verd.length ≤ 9 ∧ 9 < s.placed.length) ∨ (c.place.length ≤ 9 ∧ c.verd.length ≤ 9 ∧ s.placed.length ≤ 9 ∧ 9 < s.hosts.length) ∨ (c.place.length ≤ 9 ∧ c.verd.length ≤ 9 ∧ s.placed.length ≤ 9 ∧ s.hosts.length ≤ 9 ∧ 15 < s.net.length) ∨ (c.place.length ≤ 9 ∧ c.verd.length ≤ 9 ∧ s.placed.length ≤ 9 ∧ s.hosts.length ≤ 9 ∧ s.net.length ≤ 15)) with h0 | ⟨h0, h1⟩ | ⟨h0, h1, h2⟩ | ⟨h0, h1, h2, h3⟩ | ⟨h0, h1, h2, h3, h4⟩ | ⟨h0, h1, h2, h3, h4⟩
  · simp only [stL, plsV, hssV, pksV, ints, List.length_map, show decide (((c.place.length : Nat) : Int) > 9) = true from decide_eq_true (by omega), Cd.cd24, Tk.t24, base0, base1, base2, base3, Option.isNone_none, Option.isNone_some, Nat.reduceBEq, true_or, or_true, false_or, or_false, Nat.reduceLT, Nat.reduceMod, Nat.reducePow, rmaps, nsucc, List.flatten_cons, List.flatten_nil, Nat.reduceEqDiff, Nat.reduceLeDiff, Nat.reduceAdd, Nat.reduceMul, Nat.reduceSub, ↓reduceIte, reduceCtorEq, decide_true, decide_false]
    exact fin_v (by rw [smallB]; simp; omega)
  · simp only [stL, plsV, hssV, pksV, ints, List.length_map, show decide (((c.place.length : Nat) : Int) > 9) = false from decide_eq_false (by omega), show decide (((c.verd.length : Nat) : Int) > 9) = true from decide_eq_true (by omega), Cd.cd24, Tk.t24, base0, base1, base2, base3, Option.isNone_none, Option.isNone_some, Nat.reduceBEq, true_or, or_true, false_or, or_false, Nat.reduceLT, Nat.reduceMod, Nat.reducePow, rmaps, nsucc, List.flatten_cons, List.flatten_nil, Nat.reduceEqDiff, Nat.reduceLeDiff, Nat.reduceAdd, Nat.reduceMul, Nat.reduceSub, ↓reduceIte, reduceCtorEq, decide_true, decide_false]
    exact fin_v (by rw [smallB]; simp; omega)
  · simp only [stL, plsV, hssV, pksV, ints, List.length_map, show decide (((c.place.length : Nat) : Int) > 9) = false from decide_eq_false (by omega), show decide (((c.verd.length : Nat) : Int) > 9) = false from decide_eq_false (by omega), show decide (((s.placed.length : Nat) : Int) > 9) = true from decide_eq_true (by omega), Cd.cd24, Tk.t24, base0, base1, base2, base3, Option.isNone_none, Option.isNone_some, Nat.reduceBEq, true_or, or_true, false_or, or_false, Nat.reduceLT, Nat.reduceMod, Nat.reducePow, rmaps, nsucc, List.flatten_cons, List.flatten_nil, Nat.reduceEqDiff, Nat.reduceLeDiff, Nat.reduceAdd, Nat.reduceMul, Nat.reduceSub, ↓reduceIte, reduceCtorEq, decide_true, decide_false]
    exact fin_v (by rw [smallB]; simp; omega)
  · simp only [stL, plsV, hssV, pksV, ints, List.length_map, show decide (((c.place.length : Nat) : Int) > 9) = false from decide_eq_false (by omega), show decide (((c.verd.length : Nat) : Int) > 9) = false from decide_eq_false (by omega), show decide (((s.placed.length : Nat) : Int) > 9) = false from decide_eq_false (by omega), show decide (((s.hosts.length : Nat) : Int) > 9) = true from decide_eq_true (by omega), Cd.cd24, Tk.t24, base0, base1, base2, base3, Option.isNone_none, Option.isNone_some, Nat.reduceBEq, true_or, or_true, false_or, or_false, Nat.reduceLT, Nat.reduceMod, Nat.reducePow, rmaps, nsucc, List.flatten_cons, List.flatten_nil, Nat.reduceEqDiff, Nat.reduceLeDiff, Nat.reduceAdd, Nat.reduceMul, Nat.reduceSub, ↓reduceIte, reduceCtorEq, decide_true, decide_false]
    exact fin_v (by rw [smallB]; simp; omega)
  · simp only [stL, plsV, hssV, pksV, ints, List.length_map, show decide (((c.place.length : Nat) : Int) > 9) = false from decide_eq_false (by omega), show decide (((c.verd.length : Nat) : Int) > 9) = false from decide_eq_false (by omega), show decide (((s.placed.length : Nat) : Int) > 9) = false from decide_eq_false (by omega), show decide (((s.hosts.length : Nat) : Int) > 9) = false from decide_eq_false (by omega), show decide (((s.net.length : Nat) : Int) > 15) = true from decide_eq_true (by omega), Cd.cd24, Tk.t24, base0, base1, base2, base3, Option.isNone_none, Option.isNone_some, Nat.reduceBEq, true_or, or_true, false_or, or_false, Nat.reduceLT, Nat.reduceMod, Nat.reducePow, rmaps, nsucc, List.flatten_cons, List.flatten_nil, Nat.reduceEqDiff, Nat.reduceLeDiff, Nat.reduceAdd, Nat.reduceMul, Nat.reduceSub, ↓reduceIte, reduceCtorEq, decide_true, decide_false]
    exact fin_v (by rw [smallB]; simp; omega)
  · simp only [stL, plsV, hssV, pksV, ints, List.length_map, show decide (((c.place.length : Nat) : Int) > 9) = false from decide_eq_false (by omega), show decide (((c.verd.length : Nat) : Int) > 9) = false from decide_eq_false (by omega), show decide (((s.placed.length : Nat) : Int) > 9) = false from decide_eq_false (by omega), show decide (((s.hosts.length : Nat) : Int) > 9) = false from decide_eq_false (by omega), show decide (((s.net.length : Nat) : Int) > 15) = false from decide_eq_false (by omega), Cd.cd24, Tk.t24, base0, base1, base2, base3, Option.isNone_none, Option.isNone_some, Nat.reduceBEq, true_or, or_true, false_or, or_false, Nat.reduceLT, Nat.reduceMod, Nat.reducePow, rmaps, nsucc, List.flatten_cons, List.flatten_nil, Nat.reduceEqDiff, Nat.reduceLeDiff, Nat.reduceAdd, Nat.reduceMul, Nat.reduceSub, ↓reduceIte, reduceCtorEq, decide_true, decide_false]
    refine LWP.loop [] (fun m f H' => ∃ i, m = s.hosts.length - i ∧ (i ≤ s.hosts.length) ∧ ((s.hosts.take i).all (fun x => decide (x.parts.length ≤ 9)) = true) ∧ f.t 5 = .v (.int .i64 (i : Nat)) ∧ f.t 3 = .box (stL s) ∧ f.ds = [] ∧ H' = AH.none) ?_ ?_ (m := s.hosts.length - (0))
    · exact ⟨0, rfl, (by omega), (by simp), rfl, by simp [stL, plsV, hssV, pksV, upd], rfl, rfl⟩
    · rintro m f H' ⟨i, rfl, hi, hok, f5, f3, hds, rfl⟩
      by_cases hlt : i < s.hosts.length
      · by_cases hp : (s.hosts.getD i default).parts.length ≤ 9
        · simp only [stL, hssV, List.length_map, ltT hlt, inR hlt, Int.toNat_natCast, getD_map hsR _ _ hlt, hsR, ptsV, show decide ((((s.hosts.getD i default).parts.length : Nat) : Int) > 9) = false from decide_eq_false (by omega), f5, f3, hds, Cd.cd24, Tk.t24, base0, base1, base2, base3, Option.isNone_none, Option.isNone_some, Nat.reduceBEq, true_or, or_true, false_or, or_false, Nat.reduceLT, Nat.reduceMod, Nat.reducePow, rmaps, nsucc, List.flatten_cons, List.flatten_nil, Nat.reduceEqDiff, Nat.reduceLeDiff, Nat.reduceAdd, Nat.reduceMul, Nat.reduceSub, ↓reduceIte, reduceCtorEq, decide_true, decide_false]
          refine ⟨_, by omega, i + 1, rfl, by omega, by rw [take_succ_getD hlt, List.all_append, hok]; simpa using hp, ?_⟩
          (repeat' apply And.intro) <;> first | rfl | (rw [wrapS (by omega)]) | omega | assumption
        · simp only [stL, hssV, List.length_map, ltT hlt, inR hlt, Int.toNat_natCast, getD_map hsR _ _ hlt, hsR, ptsV, show decide ((((s.hosts.getD i default).parts.length : Nat) : Int) > 9) = true from decide_eq_true (by omega), f5, f3, hds, Cd.cd24, Tk.t24, base0, base1, base2, base3, Option.isNone_none, Option.isNone_some, Nat.reduceBEq, true_or, or_true, false_or, or_false, Nat.reduceLT, Nat.reduceMod, Nat.reducePow, rmaps, nsucc, List.flatten_cons, List.flatten_nil, Nat.reduceEqDiff, Nat.reduceLeDiff, Nat.reduceAdd, Nat.reduceMul, Nat.reduceSub, ↓reduceIte, reduceCtorEq, decide_true, decide_false]
          exact fin_v (by rw [smallB, all_false hlt (by simpa using hp)]; simp)
      · have hi' : i = s.hosts.length := by omega
        subst hi'
        rw [List.take_length] at hok
        simp only [stL, hssV, List.length_map, ltF hlt, f5, f3, hds, Cd.cd24, Tk.t24, base0, base1, base2, base3, Option.isNone_none, Option.isNone_some, Nat.reduceBEq, true_or, or_true, false_or, or_false, Nat.reduceLT, Nat.reduceMod, Nat.reducePow, rmaps, nsucc, List.flatten_cons, List.flatten_nil, Nat.reduceEqDiff, Nat.reduceLeDiff, Nat.reduceAdd, Nat.reduceMul, Nat.reduceSub, ↓reduceIte, reduceCtorEq, decide_true, decide_false]
        exact fin_v (by rw [smallB, hok]; simp [*])
end Go.Proofs.Ytgmncggiblaciaa

/- Walks: a state is the same as itself. -/
namespace Go.Proofs.Ytgmncggiblaciaa
open Go Go.Proofs.Ytgmncggiblaciaa.Ab
set_option maxRecDepth 100000

set_option maxHeartbeats 2000000 in
theorem same27 (s : Stt) (hs : SmallS s) : FCall Try.prog 27 [stV s, stV s] (· = .v (.bool true)) := by
  have hp := hs.p; have hh := hs.h; have hn := hs.n
  simp only [stV]
  refine ACall.enter [] Cd.fn27 (by simp) ?_
  simp only [stL, plsV, hssV, pksV, List.length_map, bne_self_eq_false, Cd.cd27, Tk.t27, base0, base1, base2, base3, Option.isNone_none, Option.isNone_some, Nat.reduceBEq, true_or, or_true, false_or, or_false, Nat.reduceLT, Nat.reduceMod, Nat.reducePow, rmaps, nsucc, List.flatten_cons, List.flatten_nil, Nat.reduceEqDiff, Nat.reduceLeDiff, Nat.reduceAdd, Nat.reduceMul, Nat.reduceSub, ↓reduceIte, reduceCtorEq, decide_true, decide_false]
  refine LWP.loop [] (fun m f H' => ∃ i, m = s.placed.length - i ∧ (i ≤ s.placed.length) ∧ f.t 5 = .v (.int .i64 (i : Nat)) ∧ f.t 3 = .box (stL s) ∧ f.t 2 = .box (stL s) ∧ f.ds = [] ∧ H' = AH.none) ?_ ?_ (m := s.placed.length - (0))
  · exact ⟨0, rfl, (by omega), rfl, by simp [stL, plsV, hssV, pksV, upd], by simp [stL, plsV, hssV, pksV, upd], rfl, rfl⟩
  · rintro m f H' ⟨i, rfl, hi, f5, f3, f2, hds, rfl⟩
    by_cases hlt : i < s.placed.length
    · simp only [stL, plsV, List.length_map, ltT hlt, inR hlt, Int.toNat_natCast, getD_map plR _ _ hlt, plR, f5, f3, f2, hds, Cd.cd27, Tk.t27, base0, base1, base2, base3, Option.isNone_none, Option.isNone_some, Nat.reduceBEq, true_or, or_true, false_or, or_false, Nat.reduceLT, Nat.reduceMod, Nat.reducePow, rmaps, nsucc, List.flatten_cons, List.flatten_nil, Nat.reduceEqDiff, Nat.reduceLeDiff, Nat.reduceAdd, Nat.reduceMul, Nat.reduceSub, ↓reduceIte, reduceCtorEq, decide_true, decide_false]
      refine ⟨_, by omega, i + 1, rfl, by omega, ?_⟩
      (repeat' apply And.intro) <;> first | rfl | (rw [wrapS (by omega)]) | omega | assumption
    have hi' : i = s.placed.length := by omega
    subst hi'
    simp only [stL, plsV, List.length_map, ltF hlt, f5, f3, f2, hds, Cd.cd27, Tk.t27, base0, base1, base2, base3, Option.isNone_none, Option.isNone_some, Nat.reduceBEq, true_or, or_true, false_or, or_false, Nat.reduceLT, Nat.reduceMod, Nat.reducePow, rmaps, nsucc, List.flatten_cons, List.flatten_nil, Nat.reduceEqDiff, Nat.reduceLeDiff, Nat.reduceAdd, Nat.reduceMul, Nat.reduceSub, ↓reduceIte, reduceCtorEq, decide_true, decide_false]
    refine LWP.loop [] (fun m f H' => ∃ i, m = s.net.length - i ∧ (i ≤ s.net.length) ∧ f.t 6 = .v (.int .i64 (i : Nat)) ∧ f.t 3 = .box (stL s) ∧ f.t 2 = .box (stL s) ∧ f.ds = [] ∧ H' = AH.none) ?_ ?_ (m := s.net.length - (0))
    · exact ⟨0, rfl, (by omega), (by first | rfl | exact f6), (by first | rfl | exact f3), (by first | rfl | exact f2), rfl, rfl⟩
    · rintro m f H' ⟨i, rfl, hi, f6, f3, f2, hds, rfl⟩
      by_cases hlt : i < s.net.length
      · simp only [stL, pksV, List.length_map, ltT hlt, inR hlt, Int.toNat_natCast, getD_map pkR _ _ hlt, pkR, f6, f3, f2, hds, Cd.cd27, Tk.t27, base0, base1, base2, base3, Option.isNone_none, Option.isNone_some, Nat.reduceBEq, true_or, or_true, false_or, or_false, Nat.reduceLT, Nat.reduceMod, Nat.reducePow, rmaps, nsucc, List.flatten_cons, List.flatten_nil, Nat.reduceEqDiff, Nat.reduceLeDiff, Nat.reduceAdd, Nat.reduceMul, Nat.reduceSub, ↓reduceIte, reduceCtorEq, decide_true, decide_false]
        refine ⟨_, by omega, i + 1, rfl, by omega, ?_⟩
        (repeat' apply And.intro) <;> first | rfl | (rw [wrapS (by omega)]) | omega | assumption
      have hi' : i = s.net.length := by omega
      subst hi'
      simp only [stL, pksV, List.length_map, ltF hlt, f6, f3, f2, hds, Cd.cd27, Tk.t27, base0, base1, base2, base3, Option.isNone_none, Option.isNone_some, Nat.reduceBEq, true_or, or_true, false_or, or_false, Nat.reduceLT, Nat.reduceMod, Nat.reducePow, rmaps, nsucc, List.flatten_cons, List.flatten_nil, Nat.reduceEqDiff, Nat.reduceLeDiff, Nat.reduceAdd, Nat.reduceMul, Nat.reduceSub, ↓reduceIte, reduceCtorEq, decide_true, decide_false]
      refine LWP.loop [] (fun m f H' => ∃ i, m = s.hosts.length - i ∧ (i ≤ s.hosts.length) ∧ f.t 7 = .v (.int .i64 (i : Nat)) ∧ f.t 3 = .box (stL s) ∧ f.t 2 = .box (stL s) ∧ f.ds = [] ∧ True) ?_ ?_ (m := s.hosts.length - (0))
      · exact ⟨0, rfl, (by omega), (by first | rfl | exact f7), (by first | rfl | exact f3), (by first | rfl | exact f2), rfl, trivial⟩
      · rintro m f H' ⟨i, rfl, hi, f7, f3, f2, hds, hH⟩
        by_cases hlt : i < s.hosts.length
        · have hq := hs.q' i
          obtain ⟨h9, hh9⟩ : ∃ h9, h9 = H'.next := ⟨_, rfl⟩
          simp only [stL, hssV, List.length_map, ltT hlt, inR hlt, Int.toNat_natCast, getD_map hsR _ _ hlt, hsR, nsucc, ptsV, bne_self_eq_false, f7, f3, f2, hds, Cd.cd27, Tk.t27, base0, base1, base2, base3, Option.isNone_none, Option.isNone_some, Nat.reduceBEq, true_or, or_true, false_or, or_false, Nat.reduceLT, Nat.reduceMod, Nat.reducePow, rmaps, nsucc, List.flatten_cons, List.flatten_nil, Nat.reduceEqDiff, Nat.reduceLeDiff, Nat.reduceAdd, Nat.reduceMul, Nat.reduceSub, ↓reduceIte, reduceCtorEq, decide_true, decide_false]
          refine LWP.loop [] (fun m f H' => ∃ j, m = (s.hosts.getD i default).parts.length - j ∧ (j ≤ (s.hosts.getD i default).parts.length) ∧ f.t 10 = .v (.int .i64 (j : Nat)) ∧ f.t 9 = .ptr (h9 + 1) 0 ∧ f.t 8 = .ptr h9 0 ∧ f.t 7 = .v (.int .i64 (i : Nat)) ∧ f.t 3 = .box (stL s) ∧ f.t 2 = .box (stL s) ∧ f.ds = [] ∧ H'.own h9 = some (.cells (hsR (s.hosts.getD i default))) ∧ H'.own (h9 + 1) = some (.cells (hsR (s.hosts.getD i default)))) ?_ ?_ (m := (s.hosts.getD i default).parts.length - (0))
          · exact ⟨0, rfl, (by omega), (by first | rfl | exact f10), by rw [hh9]; rfl, by rw [hh9]; rfl, by exact f7, by exact f3, by exact f2, rfl, ⟨by simp [hsR, ptsV, hh9], by simp [hsR, ptsV, hh9]⟩⟩
          · rintro m f H' ⟨j, rfl, hj, f10, f9, f8, f7, f3, f2, hds, ⟨e8,e9⟩⟩
            by_cases hlj : j < (s.hosts.getD i default).parts.length
            · simp only [e8, e9, hsR, ptsV, List.length_map, ltT hlj, inR hlj, Int.toNat_natCast, getD_map ptR _ _ hlj, ptR, f10, f9, f8, f7, f3, f2, hds, Cd.cd27, Tk.t27, base0, base1, base2, base3, Option.isNone_none, Option.isNone_some, Nat.reduceBEq, true_or, or_true, false_or, or_false, Nat.reduceLT, Nat.reduceMod, Nat.reducePow, rmaps, nsucc, List.flatten_cons, List.flatten_nil, Nat.reduceEqDiff, Nat.reduceLeDiff, Nat.reduceAdd, Nat.reduceMul, Nat.reduceSub, ↓reduceIte, reduceCtorEq, decide_true, decide_false]
              refine ⟨_, by omega, j + 1, rfl, by omega, ?_⟩
              (repeat' apply And.intro) <;> first | rfl | (rw [wrapS (by omega)]) | omega | assumption | (exact ⟨e8, e9⟩)
            · simp only [e8, e9, hsR, ptsV, List.length_map, ltF hlj, f10, f9, f8, f7, f3, f2, hds, Cd.cd27, Tk.t27, base0, base1, base2, base3, Option.isNone_none, Option.isNone_some, Nat.reduceBEq, true_or, or_true, false_or, or_false, Nat.reduceLT, Nat.reduceMod, Nat.reducePow, rmaps, nsucc, List.flatten_cons, List.flatten_nil, Nat.reduceEqDiff, Nat.reduceLeDiff, Nat.reduceAdd, Nat.reduceMul, Nat.reduceSub, ↓reduceIte, reduceCtorEq, decide_true, decide_false]
              refine ⟨_, by omega, i + 1, rfl, by omega, ?_⟩
              (repeat' apply And.intro) <;> first | rfl | (rw [wrapS (by omega)]) | omega | assumption
        have hi' : i = s.hosts.length := by omega
        subst hi'
        simp only [stL, hssV, List.length_map, ltF hlt, f7, f3, f2, hds, Cd.cd27, Tk.t27, base0, base1, base2, base3, Option.isNone_none, Option.isNone_some, Nat.reduceBEq, true_or, or_true, false_or, or_false, Nat.reduceLT, Nat.reduceMod, Nat.reducePow, rmaps, nsucc, List.flatten_cons, List.flatten_nil, Nat.reduceEqDiff, Nat.reduceLeDiff, Nat.reduceAdd, Nat.reduceMul, Nat.reduceSub, ↓reduceIte, reduceCtorEq, decide_true, decide_false]
        exact fin_v rfl
end Go.Proofs.Ytgmncggiblaciaa

/- Walks: a schedule. -/
namespace Go.Proofs.Ytgmncggiblaciaa
open Go Go.Proofs.Ytgmncggiblaciaa.Ab
set_option maxRecDepth 100000

theorem OwnX.has {B : Nat} {H : AH} {r : Nat} {c : List AV} {s : Stt} {p h : Nat} {aq : AV} {o : List OH} (x : OwnX B H r c s p h aq o) {n : Nat} (hn : NmS p h aq o n) : H.own n ≠ none := by
  rcases hn with rfl | rfl | hn | ⟨y, hy, hn⟩
  · rw [x.st.hp]; simp
  · rw [x.st.hh]; simp
  · rcases x.st.q with ⟨_, rfl | rfl⟩ | ⟨m, rest, rfl, e⟩
    · cases hn
    · cases hn
    · cases hn; rw [e]; simp
  · rcases x.st.m y hy with ⟨_, e | e⟩ | ⟨m, rest, e, e'⟩
    · rw [e] at hn; cases hn
    · rw [e] at hn; cases hn
    · rw [e] at hn; cases hn; rw [e']; simp

theorem RetR.go {P : Program} {m : FuncId} {args : List AV} {H : AH} {R : AH → Prop} {v : AV} {mu : List Nat} {Kt : Kont} {dst : Option Nat} {os : List COp} {f : AF} (h : ACall P m args H (fun out H' => out = .ret v ∧ R H'))
    (k : ∀ H', R H' → cops P mu Kt os (f.put dst v) H') : ACall P m args H (callK P mu Kt dst os f) :=
  h.mono fun out H' ⟨e, h1⟩ => by subst e; exact k H' h1

/-- a run under way, with the acts so far -/
structure Sched (B : Nat) (H : AH) (a b r : Nat) (c : Case) (l : List Ac) (s : Stt) : Prop where
  va : ∃ v, H.own a = some (.cells [v]) ∧ GrowE acR 2 H v l
  vb : H.own b = some (.cells [.ptr r 0])
  st : OwnR B (H.less (· == b)) r c s
  aB : a < B
  ab : a ≠ b
  bn : b < H.next
set_option maxHeartbeats 1000000 in
theorem step53 {B : Nat} {H : AH} {a b r : Nat} {c : Case} {l : List Ac} {s : Stt} (x : Sched B H a b r c l s) (hV : Valid c s) (hl : l.length ≤ 1000) (k n : Int) (ha : actE c s ⟨k, n⟩ = 0) :
    ACall Try.prog 53 [.v (.int .i64 k), .v (.int .i64 n), .ptr a 0, .ptr b 0] H (fun out H' => out = .ret (.tup []) ∧ H.next ≤ H'.next ∧ (∀ m, m < B → m ≠ a → H'.own m = H.own m) ∧ Sched B H' a b r c (l ++ [⟨k, n⟩]) (actS c s ⟨k, n⟩)) := by
  obtain ⟨v, h1, hG⟩ := x.va
  obtain ⟨p, h, aq, o, y⟩ := x.st
  have hbr := y.br
  have hvb := x.vb
  have haB := x.aB; have hab := x.ab; have hbn := x.bn
  have hnb : ∀ m, NmS p h aq o m → m ≠ b := fun m hm e => by
    have := y.has hm; subst e; simp [AH.less] at this
  have hrb : r ≠ b := fun e => by have := y.rb; subst e; simp [AH.less] at this
  have hlt : ∀ m, NmS p h aq o m → B ≤ m ∧ m < H.next := fun m hm => (y.nr m hm).2
  simp only [AH.less] at hbr
  have e1 : (a = H.next) = False := eq_false (by omega)
  have e2 : (b = H.next) = False := eq_false (by omega)
  have e3 : (H.next = a) = False := eq_false (by omega)
  have e4 : (b = a) = False := eq_false (Ne.symm hab)
  refine ACall.enter [] Cd.fn53 (by simp) ?_
  rcases hG with ⟨rfl, rfl⟩ | ⟨t, rfl, ht⟩
  · simp only [h1, hvb, e1, e2, e3, e4, show roomA 16 1 = true from rfl, Cd.cd53, Tk.t53, base0, base1, base2, base3, Option.isNone_none, Option.isNone_some, Nat.reduceBEq, true_or, or_true, false_or, or_false, Nat.reduceLT, Nat.reduceMod, Nat.reducePow, rmaps, nsucc, List.flatten_cons, List.flatten_nil, Nat.reduceEqDiff, Nat.reduceLeDiff, Nat.reduceAdd, Nat.reduceMul, Nat.reduceSub, ↓reduceIte, reduceCtorEq, decide_true, decide_false]
    refine RetR.go (R := fun H' => ∃ H5, (Fr B _ H5 ∧ OwnR B H5 r c (actS c s ⟨k, n⟩)) ∧ H' = H5.plus _ (· == b) ∧ ∀ m, (m == b) = true → _ → H5.own m = none) (((act47 (B := B) (r := r) (s := s) hV ⟨k, n⟩ ⟨p, h, aq, o, ?_, y.st.frame fun m hm => ?_, fun m hm => ?_, ?_, ?_⟩ ha).frame (· == b)).mono fun out H' ⟨H5, ⟨e, h1, h2⟩, h3, h4⟩ => ⟨e, H5, ⟨h1, h2⟩, h3, h4⟩) fun H4 hx => ?_
    · have := y.rb
      simp only [AH.less, beq_iff_eq, hrb, if_false] at this ⊢
      simp [show r ≠ a by omega, show r ≠ H.next by omega, this]
    · have := hlt m hm; have := hnb m hm
      simp [AH.less, this, show m ≠ a by omega, show m ≠ H.next by omega]
    · have := hlt m hm; have := y.nr m hm; simp [AH.less]; omega
    · exact hbr.1
    · simp [AH.less]; omega
    · obtain ⟨H5, ⟨hF, hR⟩, rfl, hno⟩ := hx
      have k4 := hF.own
      have kn := hF.next
      have kt := hF.tip
      simp only [AH.less] at k4 kn kt
      have hb5 := hno b (by simp) (by simp [e4, e2, hvb])
      simp only [Cd.cd53, Tk.t53, base0, base1, base2, base3, Option.isNone_none, Option.isNone_some, Nat.reduceBEq, true_or, or_true, false_or, or_false, Nat.reduceLT, Nat.reduceMod, Nat.reducePow, rmaps, nsucc, List.flatten_cons, List.flatten_nil, Nat.reduceEqDiff, Nat.reduceLeDiff, Nat.reduceAdd, Nat.reduceMul, Nat.reduceSub, ↓reduceIte, reduceCtorEq, decide_true, decide_false]
      refine ⟨by simp [AH.plus]; omega, fun m h1 h2 => ?_, ⟨⟨.lst 2 [[.v (.int .i64 k), .v (.int .i64 n)]] (.live (H.next + 1)), ?_, GrowE.live (by simp [acR]) (by simp [AH.plus, kt])⟩, ?_, ?_, haB, hab, ?_⟩⟩
      · by_cases e : m = b
        · subst e; simp [AH.plus, h2, e2]
        · have := k4 m h1
          simp only [AH.plus, beq_iff_eq, e, if_false]
          rw [this]; simp [h2, e, show m ≠ H.next by omega]
      · have := k4 a haB
        simp only [AH.plus, beq_iff_eq, hab, if_false]
        rw [this]; simp [hab]
      · simp [AH.plus, e4, e2, hvb]
      · obtain ⟨p', h', aq', o', z⟩ := hR
        have hz : ∀ m, NmS p' h' aq' o' m → m ≠ b := fun m hm e => z.has hm (by rw [e]; exact hb5)
        have hzr : r ≠ b := hrb
        refine ⟨p', h', aq', o', ?_, z.st.frame fun m hm => ?_, z.nr, z.br⟩
        · simp [AH.less, AH.plus, hzr]; exact z.rb
        · simp [AH.less, AH.plus, hz m hm]
      · simp [AH.plus]; omega
  · simp only [h1, hvb, e1, e2, e3, e4, ht, List.length_map, room1 (b := 16) (n := l.length) (by omega) (by omega), Cd.cd53, Tk.t53, base0, base1, base2, base3, Option.isNone_none, Option.isNone_some, Nat.reduceBEq, true_or, or_true, false_or, or_false, Nat.reduceLT, Nat.reduceMod, Nat.reducePow, rmaps, nsucc, List.flatten_cons, List.flatten_nil, Nat.reduceEqDiff, Nat.reduceLeDiff, Nat.reduceAdd, Nat.reduceMul, Nat.reduceSub, ↓reduceIte, reduceCtorEq, decide_true, decide_false]
    refine RetR.go (R := fun H' => ∃ H5, (Fr B _ H5 ∧ OwnR B H5 r c (actS c s ⟨k, n⟩)) ∧ H' = H5.plus _ (· == b) ∧ ∀ m, (m == b) = true → _ → H5.own m = none) (((act47 (B := B) (r := r) (s := s) hV ⟨k, n⟩ ⟨p, h, aq, o, ?_, y.st.frame fun m hm => ?_, fun m hm => ?_, ?_, ?_⟩ ha).frame (· == b)).mono fun out H' ⟨H5, ⟨e, h1, h2⟩, h3, h4⟩ => ⟨e, H5, ⟨h1, h2⟩, h3, h4⟩) fun H4 hx => ?_
    · have := y.rb
      simp only [AH.less, beq_iff_eq, hrb, if_false] at this ⊢
      simp [show r ≠ a by omega, show r ≠ H.next by omega, this]
    · have := hlt m hm; have := hnb m hm
      simp [AH.less, this, show m ≠ a by omega, show m ≠ H.next by omega]
    · have := hlt m hm; have := y.nr m hm; simp [AH.less]; omega
    · exact hbr.1
    · simp [AH.less]; omega
    · obtain ⟨H5, ⟨hF, hR⟩, rfl, hno⟩ := hx
      have k4 := hF.own
      have kn := hF.next
      have kt := hF.tip
      simp only [AH.less] at k4 kn kt
      have hb5 := hno b (by simp) (by simp [e4, e2, hvb])
      simp only [Cd.cd53, Tk.t53, base0, base1, base2, base3, Option.isNone_none, Option.isNone_some, Nat.reduceBEq, true_or, or_true, false_or, or_false, Nat.reduceLT, Nat.reduceMod, Nat.reducePow, rmaps, nsucc, List.flatten_cons, List.flatten_nil, Nat.reduceEqDiff, Nat.reduceLeDiff, Nat.reduceAdd, Nat.reduceMul, Nat.reduceSub, ↓reduceIte, reduceCtorEq, decide_true, decide_false]
      refine ⟨by simp [AH.plus]; omega, fun m h1 h2 => ?_, ⟨⟨.lst 2 (l.map acR ++ [[.v (.int .i64 k), .v (.int .i64 n)]]) (.live t), ?_, GrowE.live (by simp [acR]) (by simp [AH.plus, kt])⟩, ?_, ?_, haB, hab, ?_⟩⟩
      · by_cases e : m = b
        · subst e; simp [AH.plus, h2, e2]
        · have := k4 m h1
          simp only [AH.plus, beq_iff_eq, e, if_false]
          rw [this]; simp [h2, e, show m ≠ H.next by omega]
      · have := k4 a haB
        simp only [AH.plus, beq_iff_eq, hab, if_false]
        rw [this]; simp [hab]
      · simp [AH.plus, e4, e2, hvb]
      · obtain ⟨p', h', aq', o', z⟩ := hR
        have hz : ∀ m, NmS p' h' aq' o' m → m ≠ b := fun m hm e => z.has hm (by rw [e]; exact hb5)
        have hzr : r ≠ b := hrb
        refine ⟨p', h', aq', o', ?_, z.st.frame fun m hm => ?_, z.nr, z.br⟩
        · simp [AH.less, AH.plus, hzr]; exact z.rb
        · simp [AH.less, AH.plus, hz m hm]
      · simp [AH.plus]; omega
end Go.Proofs.Ytgmncggiblaciaa

/- Walks: a schedule to a verdict. -/
namespace Go.Proofs.Ytgmncggiblaciaa
open Go Go.Proofs.Ytgmncggiblaciaa.Ab
set_option maxRecDepth 100000

/-- what a schedule to a verdict is -/
def SchedR (c : Case) (v : Int) (out : AV) : Prop :=
  if (checkCase c).2 ≠ 0 then out = .tup [acsV [], .v (.int .i64 (checkCase c).2)] else
  if isVerdict v = false then out = .tup [acsV [], .v (.int .i64 3)] else
  if (v == 4 || v == worstI c.verd) = false then out = .tup [acsV [], .v (.int .i64 23)] else
  ∃ l s, out = .tup [acsV l, .v (.int .i64 0)] ∧ l.length ≤ 60 ∧ Reach c l s ∧ overS s = true ∧ s.v = v
theorem fin_r {H : AH} {a : AV} {l : List Ac} {y : Value} {R : AV → Prop} (hG : GrowE acR 2 H a l) (hr : R (.tup [acsV l, .v y])) : ∃ v v', AOut.ret (.tup [a, .v y]) = .ret v ∧ View H v v' ∧ FZ v' ∧ R v' :=
  ⟨_, _, rfl, Views.tup (Views.cons (hG.view FZs.acR) (Views.cons (FZ.v _).view Views.nil)), FZ.tup (FZs.two (FZ.acsV l) (FZ.v _)), hr⟩

theorem Sched.net {B : Nat} {H : AH} {a b r : Nat} {c : Case} {l : List Ac} {s : Stt} (x : Sched B H a b r c l s) (hn : 0 < s.net.length) :
    ∃ n p h o, H.own r = some (.cells [.v (.int .i64 c.hosts), ints c.place, ints c.verd, .sl 4 p 0 s.placed.length, .v (.int .i64 s.v), .sl 2 h 0 (List.length (α := OH) o), .sl 4 n 0 s.net.length]) := by
  obtain ⟨p, h, aq, o, y⟩ := x.st
  obtain ⟨n, rest, rfl, e⟩ := y.st.q.own hn
  have hrb : r ≠ b := fun e => by have := y.rb; subst e; simp [AH.less] at this
  have := y.rb
  simp only [AH.less, beq_iff_eq, hrb, if_false] at this
  exact ⟨n, p, h, o, by rw [this]; rfl⟩

set_option maxHeartbeats 2000000 in
theorem schedule28 (c : Case) (v : Int) : FCall Try.prog 28 [caseV c, .v (.int .i64 v)] (SchedR c v) := by
  simp only [caseV]
  refine ACall.enter [53] Cd.fn28 (by simp) ?_
  simp only [Cd.cd28, Tk.t28, base0, base1, base2, base3, Option.isNone_none, Option.isNone_some, Nat.reduceBEq, true_or, or_true, false_or, or_false, Nat.reduceLT, Nat.reduceMod, Nat.reducePow, rmaps, nsucc, List.flatten_cons, List.flatten_nil, Nat.reduceEqDiff, Nat.reduceLeDiff, Nat.reduceAdd, Nat.reduceMul, Nat.reduceSub, ↓reduceIte, reduceCtorEq, decide_true, decide_false]
  refine (caseErr41 c).go (FZs.one (FZ.caseV c)) ?_
  by_cases hc : (checkCase c).2 = 0
  rotate_left
  · have hc' : ((checkCase c).2 != 0) = true := by simp [hc]
    simp only [hc', Cd.cd28, Tk.t28, base0, base1, base2, base3, Option.isNone_none, Option.isNone_some, Nat.reduceBEq, true_or, or_true, false_or, or_false, Nat.reduceLT, Nat.reduceMod, Nat.reducePow, rmaps, nsucc, List.flatten_cons, List.flatten_nil, Nat.reduceEqDiff, Nat.reduceLeDiff, Nat.reduceAdd, Nat.reduceMul, Nat.reduceSub, ↓reduceIte, reduceCtorEq, decide_true, decide_false]
    exact fin_r (l := []) GrowE.nil (by unfold SchedR; rw [if_pos hc])
  have hc' : ((checkCase c).2 != 0) = false := by simp [hc]
  have hk := checkCase_ok.mp hc
  have hp1 := hk.p1; have hp6 := hk.p6; have hvl := hk.vl
  simp only [hc', Cd.cd28, Tk.t28, base0, base1, base2, base3, Option.isNone_none, Option.isNone_some, Nat.reduceBEq, true_or, or_true, false_or, or_false, Nat.reduceLT, Nat.reduceMod, Nat.reducePow, rmaps, nsucc, List.flatten_cons, List.flatten_nil, Nat.reduceEqDiff, Nat.reduceLeDiff, Nat.reduceAdd, Nat.reduceMul, Nat.reduceSub, ↓reduceIte, reduceCtorEq, decide_true, decide_false]
  refine (isVerdict51 v).go (FZs.v1 _) ?_
  cases hv : isVerdict v
  · simp only [hv, Cd.cd28, Tk.t28, base0, base1, base2, base3, Option.isNone_none, Option.isNone_some, Nat.reduceBEq, true_or, or_true, false_or, or_false, Nat.reduceLT, Nat.reduceMod, Nat.reducePow, rmaps, nsucc, List.flatten_cons, List.flatten_nil, Nat.reduceEqDiff, Nat.reduceLeDiff, Nat.reduceAdd, Nat.reduceMul, Nat.reduceSub, ↓reduceIte, reduceCtorEq, decide_true, decide_false]
    exact fin_r (l := []) GrowE.nil (by unfold SchedR; rw [if_neg (by simp [hc]), if_pos hv])
  simp only [hv, Cd.cd28, Tk.t28, base0, base1, base2, base3, Option.isNone_none, Option.isNone_some, Nat.reduceBEq, true_or, or_true, false_or, or_false, Nat.reduceLT, Nat.reduceMod, Nat.reducePow, rmaps, nsucc, List.flatten_cons, List.flatten_nil, Nat.reduceEqDiff, Nat.reduceLeDiff, Nat.reduceAdd, Nat.reduceMul, Nat.reduceSub, ↓reduceIte, reduceCtorEq, decide_true, decide_false]
  refine (max52 c.verd (by omega) (by omega) fun x hx => ?_).go (FZs.one (FZ.ints _)) ?_
  · obtain ⟨i, hi, rfl⟩ := List.getElem_of_mem hx
    have := (hk.pl i (by omega)).2.2.1
    rw [List.getD_eq_getElem?_getD, List.getElem?_eq_getElem hi] at this; exact this
  by_cases h4 : v = 4 ∧ worstI c.verd ≠ v
  · have g1 : (v == 4) = true := by simp [h4.1]
    have g2 : (worstI c.verd != v) = true := by simpa using h4.2
    simp only [g1, g2, ints, List.length_map, Cd.cd28, Tk.t28, base0, base1, base2, base3, Option.isNone_none, Option.isNone_some, Nat.reduceBEq, true_or, or_true, false_or, or_false, Nat.reduceLT, Nat.reduceMod, Nat.reducePow, rmaps, nsucc, List.flatten_cons, List.flatten_nil, Nat.reduceEqDiff, Nat.reduceLeDiff, Nat.reduceAdd, Nat.reduceMul, Nat.reduceSub, ↓reduceIte, reduceCtorEq, decide_true, decide_false]
    refine LWP.loop [] (fun m f H' => ∃ i, m = c.place.length - i ∧ (i ≤ c.place.length) ∧ f.t 36 = .v (.int .i64 (i : Nat)) ∧ f.t 35 = .v (.int .i64 (c.place.length : Nat)) ∧ f.t 7 = .ptr AH.none.next 0 ∧ f.ds = [] ∧ ∃ va s, H'.own AH.none.next = some (.cells [va]) ∧ GrowE acR 2 H' va ((List.range i).map fun j : Nat => (⟨7, j⟩ : Ac)) ∧ Reach c ((List.range i).map fun j : Nat => (⟨7, j⟩ : Ac)) s ∧ GivenTo c s i ∧ s.v ≤ 4 ∧ (0 < i → s.v = 4)) ?_ ?_ (m := c.place.length - (0))
    · exact ⟨0, rfl, (by omega), rfl, rfl, rfl, rfl, ⟨_, startS c, rfl, GrowE.nil, Reach.nil, givenTo_start, by simp [startS], fun h => by omega⟩⟩
    · rintro m f H' ⟨i, rfl, hi, f36, f35, f7, hds, ⟨va,s,hva,hG,hr,hg,hvv,hv0⟩⟩
      by_cases hlt : i < c.place.length
      · have hV := hr.valid hk
        obtain ⟨q1, q2⟩ := giveUp_step hV hlt hg
        have hr' := hr.snoc q1
        have hmap : ((List.range (i + 1)).map fun j : Nat => (⟨7, j⟩ : Ac)) = ((List.range i).map fun j : Nat => (⟨7, j⟩ : Ac)) ++ [⟨7, (i : Int)⟩] := by rw [List.range_succ, List.map_append]; rfl
        have hvn : (actS c s ⟨7, i⟩).v ≤ 4 ∧ (actS c s ⟨7, i⟩).v = 4 := by
          rw [act7 rfl]; simp only [takeS]; split <;> omega
        generalize hL : ((List.range i).map fun j : Nat => (⟨7, j⟩ : Ac)) = L at hG hr hr' hmap
        have hLl : L.length = i := by rw [← hL]; simp
        rcases hG with ⟨rfl, rfl⟩ | ⟨t, rfl, ht⟩
        · simp only [ltT hlt, hva, show roomA 16 1 = true from rfl, f36, f35, f7, hds, Cd.cd28, Tk.t28, base0, base1, base2, base3, Option.isNone_none, Option.isNone_some, Nat.reduceBEq, true_or, or_true, false_or, or_false, Nat.reduceLT, Nat.reduceMod, Nat.reducePow, rmaps, nsucc, List.flatten_cons, List.flatten_nil, Nat.reduceEqDiff, Nat.reduceLeDiff, Nat.reduceAdd, Nat.reduceMul, Nat.reduceSub, ↓reduceIte, reduceCtorEq, decide_true, decide_false]
          refine ⟨_, by omega, i + 1, rfl, by omega, ?_⟩
          (repeat' apply And.intro) <;> first | rfl | (rw [wrapS (by omega)]) | omega | assumption | (exact ⟨.lst 2 [[.v (.int .i64 7), .v (.int .i64 (i : Nat))]] (.live H'.next), _, by simp, by rw [hmap]; exact GrowE.live (by simp [acR]) (by simp), by rw [hmap]; exact hr', q2, hvn.1, fun _ => hvn.2⟩)
        · simp only [ltT hlt, hva, ht, List.length_map, room1 (b := 16) (n := L.length) (by omega) (by omega), f36, f35, f7, hds, Cd.cd28, Tk.t28, base0, base1, base2, base3, Option.isNone_none, Option.isNone_some, Nat.reduceBEq, true_or, or_true, false_or, or_false, Nat.reduceLT, Nat.reduceMod, Nat.reducePow, rmaps, nsucc, List.flatten_cons, List.flatten_nil, Nat.reduceEqDiff, Nat.reduceLeDiff, Nat.reduceAdd, Nat.reduceMul, Nat.reduceSub, ↓reduceIte, reduceCtorEq, decide_true, decide_false]
          refine ⟨_, by omega, i + 1, rfl, by omega, ?_⟩
          (repeat' apply And.intro) <;> first | rfl | (rw [wrapS (by omega)]) | omega | assumption | (exact ⟨.lst 2 (L.map acR ++ [[.v (.int .i64 7), .v (.int .i64 (i : Nat))]]) (.live t), _, by simp, by rw [hmap]; exact GrowE.live (by simp [acR]) (by simp), by rw [hmap]; exact hr', q2, hvn.1, fun _ => hvn.2⟩)
      · have hi' : i = c.place.length := by omega
        subst hi'
        simp only [ltF hlt, hva, f36, f35, f7, hds, Cd.cd28, Tk.t28, base0, base1, base2, base3, Option.isNone_none, Option.isNone_some, Nat.reduceBEq, true_or, or_true, false_or, or_false, Nat.reduceLT, Nat.reduceMod, Nat.reducePow, rmaps, nsucc, List.flatten_cons, List.flatten_nil, Nat.reduceEqDiff, Nat.reduceLeDiff, Nat.reduceAdd, Nat.reduceMul, Nat.reduceSub, ↓reduceIte, reduceCtorEq, decide_true, decide_false]
        refine fin_r hG ?_
        unfold SchedR
        rw [if_neg (by simp [hc]), if_neg (by simp [hv]), if_neg (by simp [h4.1])]
        exact ⟨_, s, rfl, by simp; omega, hr, given_over (hr.valid hk) hg, by rw [hv0 (by omega), h4.1]⟩
  · have g0 : (v == 4) = false ∨ ((v == 4) = true ∧ (worstI c.verd != v) = false) := by
      by_cases e : v = 4
      · exact .inr ⟨by simp [e], by
          have : worstI c.verd = v := Classical.byContradiction fun h => h4 ⟨e, h⟩
          simp [this]⟩
      · exact .inl (by simp [e])
    by_cases h5 : v = worstI c.verd
    rotate_left
    · have e : v ≠ 4 := fun e => h4 ⟨e, fun h => h5 h.symm⟩
      have g1 : (v == 4) = false := by simp [e]
      have g2 : (v != worstI c.verd) = true := by simpa using h5
      simp only [g1, g2, Cd.cd28, Tk.t28, base0, base1, base2, base3, Option.isNone_none, Option.isNone_some, Nat.reduceBEq, true_or, or_true, false_or, or_false, Nat.reduceLT, Nat.reduceMod, Nat.reducePow, rmaps, nsucc, List.flatten_cons, List.flatten_nil, Nat.reduceEqDiff, Nat.reduceLeDiff, Nat.reduceAdd, Nat.reduceMul, Nat.reduceSub, ↓reduceIte, reduceCtorEq, decide_true, decide_false]
      exact fin_r (l := []) GrowE.nil (by unfold SchedR; rw [if_neg (by simp [hc]), if_neg (by simp [hv]), if_pos (by simp [e, h5])])
    · have g2 : (v != worstI c.verd) = false := by simpa using h5
      rcases g0 with g0 | ⟨g0, g1⟩
      · simp only [g0, g2, Cd.cd28, Tk.t28, base0, base1, base2, base3, Option.isNone_none, Option.isNone_some, Nat.reduceBEq, true_or, or_true, false_or, or_false, Nat.reduceLT, Nat.reduceMod, Nat.reducePow, rmaps, nsucc, List.flatten_cons, List.flatten_nil, Nat.reduceEqDiff, Nat.reduceLeDiff, Nat.reduceAdd, Nat.reduceMul, Nat.reduceSub, ↓reduceIte, reduceCtorEq, decide_true, decide_false]
        refine DoneV.go' (start42 c hk _) fun cs H1 hF hO => ?_
        obtain ⟨p, h, aq, o, rfl, x0, hnm⟩ := hO
        obtain ⟨t1, n1, k1⟩ := hF
        simp only at t1 n1 k1 hnm
        have hone := one_aq x0.q
        have hcel := cells_aq x0.q
        have k0 := k1 AH.none.next (by omega)
        simp at k0
        simp only [stO]
        obtain ⟨r, hr⟩ : ∃ r, r = H1.next := ⟨_, rfl⟩
        simp only [hone, hcel, ints, List.length_map, Cd.cd28, Tk.t28, base0, base1, base2, base3, Option.isNone_none, Option.isNone_some, Nat.reduceBEq, true_or, or_true, false_or, or_false, Nat.reduceLT, Nat.reduceMod, Nat.reducePow, rmaps, nsucc, List.flatten_cons, List.flatten_nil, Nat.reduceEqDiff, Nat.reduceLeDiff, Nat.reduceAdd, Nat.reduceMul, Nat.reduceSub, ↓reduceIte, reduceCtorEq, decide_true, decide_false]
        refine LWP.loop [53] (fun m f H' => ∃ i, m = c.place.length - i ∧ (i ≤ c.place.length) ∧ f.t 58 = .v (.int .i64 (i : Nat)) ∧ f.t 57 = .v (.int .i64 (c.place.length : Nat)) ∧ f.t 11 = .fn (.func 53) [] [.ptr AH.none.next 0, .ptr (AH.none.next + 1) 0] ∧ f.t 10 = .ptr (AH.none.next + 1) 0 ∧ f.t 7 = .ptr AH.none.next 0 ∧ f.ds = [] ∧ ∃ l s, Sched (AH.none.next + 2) H' AH.none.next (AH.none.next + 1) r c l s ∧ Reach c l s ∧ Seq1 c s i ∧ l.length = 4 * i) ?_ ?_ (m := c.place.length - (0))
        · exact ⟨0, rfl, (by omega), rfl, rfl, rfl, rfl, rfl, rfl, by refine ⟨[], startS c, ⟨⟨_, ?_, GrowE.nil⟩, ?_, ⟨p, h, aq, o, ?_, x0.frame fun m hm => ?_, fun m hm => ?_, ?_, ?_⟩, ?_, ?_, ?_⟩, Reach.nil, seq1_start, rfl⟩ <;> first   | (simp [show AH.none.next ≠ H1.next by omega, k0]; done)   | (simp [hr]; done)   | (simp [AH.less, hr, runL, caseL, stO, ints, show H1.next ≠ AH.none.next + 1 by omega]; done)   | (have := hnm m hm; simp [AH.less, show m ≠ H1.next by omega, show m ≠ AH.none.next + 1 by omega]; done)   | (have := hnm m hm; simp [AH.less]; omega)   | omega   | (simp [AH.less]; omega)   | trace_state⟩
        · rintro m f H' ⟨i, rfl, hi, f58, f57, f11, f10, f7, hds, ⟨l,s,hS,hrc,hq,hll⟩⟩
          by_cases hlt : i < c.place.length
          · have hV := hrc.valid hk
            have hnl := hq.nl
            obtain ⟨a1, b1⟩ := step_ask hV hlt hq
            obtain ⟨a2, b2⟩ := step_create hV hlt hq
            obtain ⟨a3, b3⟩ := step_end hV hlt hq
            obtain ⟨a4, b4⟩ := step_taken hV hlt hq
            have r1 := hrc.snoc a1
            rw [b1] at r1
            have r2 := r1.snoc a2
            rw [b2] at r2
            have r3 := r2.snoc a3
            rw [b3] at r3
            have r4 := r3.snoc a4
            rw [b4] at r4
            simp only [ltT hlt, f58, f57, f11, f10, f7, hds, Cd.cd28, Tk.t28, base0, base1, base2, base3, Option.isNone_none, Option.isNone_some, Nat.reduceBEq, true_or, or_true, false_or, or_false, Nat.reduceLT, Nat.reduceMod, Nat.reducePow, rmaps, nsucc, List.flatten_cons, List.flatten_nil, Nat.reduceEqDiff, Nat.reduceLeDiff, Nat.reduceAdd, Nat.reduceMul, Nat.reduceSub, ↓reduceIte, reduceCtorEq, decide_true, decide_false]
            refine RetR.go (step53 hS hV (by omega) 0 i a1) fun H2 hS1 => ?_
            obtain ⟨_, _, hS1⟩ := hS1
            rw [b1] at hS1
            obtain ⟨n, p, h, o, e1⟩ := hS1.net (by simp [s1])
            have w1 : IntKind.i64.wrap (((s1 c s i).net.length : Nat) - 1) = (s.net.length : Nat) := by rw [wrapI (by simp [s1] <;> omega) (by simp [s1] <;> omega)]; simp [s1]
            simp only [hS1.vb, e1, w1, f58, f57, f11, f10, f7, hds, Cd.cd28, Tk.t28, base0, base1, base2, base3, Option.isNone_none, Option.isNone_some, Nat.reduceBEq, true_or, or_true, false_or, or_false, Nat.reduceLT, Nat.reduceMod, Nat.reducePow, rmaps, nsucc, List.flatten_cons, List.flatten_nil, Nat.reduceEqDiff, Nat.reduceLeDiff, Nat.reduceAdd, Nat.reduceMul, Nat.reduceSub, ↓reduceIte, reduceCtorEq, decide_true, decide_false]
            refine RetR.go (step53 hS1 (r1.valid hk) (by simp; omega) 1 (s.net.length : Nat) a2) fun H3 hS2 => ?_
            obtain ⟨_, _, hS2⟩ := hS2
            rw [b2] at hS2
            simp only [f58, f57, f11, f10, f7, hds, Cd.cd28, Tk.t28, base0, base1, base2, base3, Option.isNone_none, Option.isNone_some, Nat.reduceBEq, true_or, or_true, false_or, or_false, Nat.reduceLT, Nat.reduceMod, Nat.reducePow, rmaps, nsucc, List.flatten_cons, List.flatten_nil, Nat.reduceEqDiff, Nat.reduceLeDiff, Nat.reduceAdd, Nat.reduceMul, Nat.reduceSub, ↓reduceIte, reduceCtorEq, decide_true, decide_false]
            refine RetR.go (step53 hS2 (r2.valid hk) (by simp; omega) 4 i a3) fun H4 hS3 => ?_
            obtain ⟨_, _, hS3⟩ := hS3
            rw [b3] at hS3
            obtain ⟨n', p', h', o', e3⟩ := hS3.net (by simp [s3])
            have w3 : IntKind.i64.wrap (((s3 c s i).net.length : Nat) - 1) = (s.net.length : Nat) + 1 := by rw [wrapI (by simp [s3] <;> omega) (by simp [s3] <;> omega)]; simp [s3] <;> omega
            simp only [hS3.vb, e3, w3, f58, f57, f11, f10, f7, hds, Cd.cd28, Tk.t28, base0, base1, base2, base3, Option.isNone_none, Option.isNone_some, Nat.reduceBEq, true_or, or_true, false_or, or_false, Nat.reduceLT, Nat.reduceMod, Nat.reducePow, rmaps, nsucc, List.flatten_cons, List.flatten_nil, Nat.reduceEqDiff, Nat.reduceLeDiff, Nat.reduceAdd, Nat.reduceMul, Nat.reduceSub, ↓reduceIte, reduceCtorEq, decide_true, decide_false]
            refine RetR.go (step53 hS3 (r3.valid hk) (by simp; omega) 1 ((s.net.length : Nat) + 1) a4) fun H5 hS4 => ?_
            obtain ⟨_, _, hS4⟩ := hS4
            rw [b4] at hS4
            simp only [f58, f57, f11, f10, f7, hds, Cd.cd28, Tk.t28, base0, base1, base2, base3, Option.isNone_none, Option.isNone_some, Nat.reduceBEq, true_or, or_true, false_or, or_false, Nat.reduceLT, Nat.reduceMod, Nat.reducePow, rmaps, nsucc, List.flatten_cons, List.flatten_nil, Nat.reduceEqDiff, Nat.reduceLeDiff, Nat.reduceAdd, Nat.reduceMul, Nat.reduceSub, ↓reduceIte, reduceCtorEq, decide_true, decide_false]
            refine ⟨_, by omega, i + 1, rfl, by omega, ?_⟩
            (repeat' apply And.intro) <;> first | rfl | (rw [wrapS (by omega)]) | omega | assumption | (exact ⟨_, _, hS4, r4, seq1_step hV hlt hq, by simp; omega⟩)
          · have hi' : i = c.place.length := by omega
            subst hi'
            obtain ⟨va, e1, e2⟩ := hS.va
            simp only [ltF hlt, e1, f58, f57, f11, f10, f7, hds, Cd.cd28, Tk.t28, base0, base1, base2, base3, Option.isNone_none, Option.isNone_some, Nat.reduceBEq, true_or, or_true, false_or, or_false, Nat.reduceLT, Nat.reduceMod, Nat.reducePow, rmaps, nsucc, List.flatten_cons, List.flatten_nil, Nat.reduceEqDiff, Nat.reduceLeDiff, Nat.reduceAdd, Nat.reduceMul, Nat.reduceSub, ↓reduceIte, reduceCtorEq, decide_true, decide_false]
            refine fin_r e2 ?_
            unfold SchedR
            obtain ⟨o1, o2⟩ := seq1_over (hrc.valid hk) hq
            rw [if_neg (by simp [hc]), if_neg (by simp [hv]), if_neg (by simp [h5])]
            exact ⟨l, s, rfl, by omega, hrc, o1, by rw [o2, h5]⟩
      · simp only [g0, g1, g2, Cd.cd28, Tk.t28, base0, base1, base2, base3, Option.isNone_none, Option.isNone_some, Nat.reduceBEq, true_or, or_true, false_or, or_false, Nat.reduceLT, Nat.reduceMod, Nat.reducePow, rmaps, nsucc, List.flatten_cons, List.flatten_nil, Nat.reduceEqDiff, Nat.reduceLeDiff, Nat.reduceAdd, Nat.reduceMul, Nat.reduceSub, ↓reduceIte, reduceCtorEq, decide_true, decide_false]
        refine DoneV.go' (start42 c hk _) fun cs H1 hF hO => ?_
        obtain ⟨p, h, aq, o, rfl, x0, hnm⟩ := hO
        obtain ⟨t1, n1, k1⟩ := hF
        simp only at t1 n1 k1 hnm
        have hone := one_aq x0.q
        have hcel := cells_aq x0.q
        have k0 := k1 AH.none.next (by omega)
        simp at k0
        simp only [stO]
        obtain ⟨r, hr⟩ : ∃ r, r = H1.next := ⟨_, rfl⟩
        simp only [hone, hcel, ints, List.length_map, Cd.cd28, Tk.t28, base0, base1, base2, base3, Option.isNone_none, Option.isNone_some, Nat.reduceBEq, true_or, or_true, false_or, or_false, Nat.reduceLT, Nat.reduceMod, Nat.reducePow, rmaps, nsucc, List.flatten_cons, List.flatten_nil, Nat.reduceEqDiff, Nat.reduceLeDiff, Nat.reduceAdd, Nat.reduceMul, Nat.reduceSub, ↓reduceIte, reduceCtorEq, decide_true, decide_false]
        refine LWP.loop [53] (fun m f H' => ∃ i, m = c.place.length - i ∧ (i ≤ c.place.length) ∧ f.t 58 = .v (.int .i64 (i : Nat)) ∧ f.t 57 = .v (.int .i64 (c.place.length : Nat)) ∧ f.t 11 = .fn (.func 53) [] [.ptr AH.none.next 0, .ptr (AH.none.next + 1) 0] ∧ f.t 10 = .ptr (AH.none.next + 1) 0 ∧ f.t 7 = .ptr AH.none.next 0 ∧ f.ds = [] ∧ ∃ l s, Sched (AH.none.next + 2) H' AH.none.next (AH.none.next + 1) r c l s ∧ Reach c l s ∧ Seq1 c s i ∧ l.length = 4 * i) ?_ ?_ (m := c.place.length - (0))
        · exact ⟨0, rfl, (by omega), rfl, rfl, rfl, rfl, rfl, rfl, by refine ⟨[], startS c, ⟨⟨_, ?_, GrowE.nil⟩, ?_, ⟨p, h, aq, o, ?_, x0.frame fun m hm => ?_, fun m hm => ?_, ?_, ?_⟩, ?_, ?_, ?_⟩, Reach.nil, seq1_start, rfl⟩ <;> first   | (simp [show AH.none.next ≠ H1.next by omega, k0]; done)   | (simp [hr]; done)   | (simp [AH.less, hr, runL, caseL, stO, ints, show H1.next ≠ AH.none.next + 1 by omega]; done)   | (have := hnm m hm; simp [AH.less, show m ≠ H1.next by omega, show m ≠ AH.none.next + 1 by omega]; done)   | (have := hnm m hm; simp [AH.less]; omega)   | omega   | (simp [AH.less]; omega)   | trace_state⟩
        · rintro m f H' ⟨i, rfl, hi, f58, f57, f11, f10, f7, hds, ⟨l,s,hS,hrc,hq,hll⟩⟩
          by_cases hlt : i < c.place.length
          · have hV := hrc.valid hk
            have hnl := hq.nl
            obtain ⟨a1, b1⟩ := step_ask hV hlt hq
            obtain ⟨a2, b2⟩ := step_create hV hlt hq
            obtain ⟨a3, b3⟩ := step_end hV hlt hq
            obtain ⟨a4, b4⟩ := step_taken hV hlt hq
            have r1 := hrc.snoc a1
            rw [b1] at r1
            have r2 := r1.snoc a2
            rw [b2] at r2
            have r3 := r2.snoc a3
            rw [b3] at r3
            have r4 := r3.snoc a4
            rw [b4] at r4
            simp only [ltT hlt, f58, f57, f11, f10, f7, hds, Cd.cd28, Tk.t28, base0, base1, base2, base3, Option.isNone_none, Option.isNone_some, Nat.reduceBEq, true_or, or_true, false_or, or_false, Nat.reduceLT, Nat.reduceMod, Nat.reducePow, rmaps, nsucc, List.flatten_cons, List.flatten_nil, Nat.reduceEqDiff, Nat.reduceLeDiff, Nat.reduceAdd, Nat.reduceMul, Nat.reduceSub, ↓reduceIte, reduceCtorEq, decide_true, decide_false]
            refine RetR.go (step53 hS hV (by omega) 0 i a1) fun H2 hS1 => ?_
            obtain ⟨_, _, hS1⟩ := hS1
            rw [b1] at hS1
            obtain ⟨n, p, h, o, e1⟩ := hS1.net (by simp [s1])
            have w1 : IntKind.i64.wrap (((s1 c s i).net.length : Nat) - 1) = (s.net.length : Nat) := by rw [wrapI (by simp [s1] <;> omega) (by simp [s1] <;> omega)]; simp [s1]
            simp only [hS1.vb, e1, w1, f58, f57, f11, f10, f7, hds, Cd.cd28, Tk.t28, base0, base1, base2, base3, Option.isNone_none, Option.isNone_some, Nat.reduceBEq, true_or, or_true, false_or, or_false, Nat.reduceLT, Nat.reduceMod, Nat.reducePow, rmaps, nsucc, List.flatten_cons, List.flatten_nil, Nat.reduceEqDiff, Nat.reduceLeDiff, Nat.reduceAdd, Nat.reduceMul, Nat.reduceSub, ↓reduceIte, reduceCtorEq, decide_true, decide_false]
            refine RetR.go (step53 hS1 (r1.valid hk) (by simp; omega) 1 (s.net.length : Nat) a2) fun H3 hS2 => ?_
            obtain ⟨_, _, hS2⟩ := hS2
            rw [b2] at hS2
            simp only [f58, f57, f11, f10, f7, hds, Cd.cd28, Tk.t28, base0, base1, base2, base3, Option.isNone_none, Option.isNone_some, Nat.reduceBEq, true_or, or_true, false_or, or_false, Nat.reduceLT, Nat.reduceMod, Nat.reducePow, rmaps, nsucc, List.flatten_cons, List.flatten_nil, Nat.reduceEqDiff, Nat.reduceLeDiff, Nat.reduceAdd, Nat.reduceMul, Nat.reduceSub, ↓reduceIte, reduceCtorEq, decide_true, decide_false]
            refine RetR.go (step53 hS2 (r2.valid hk) (by simp; omega) 4 i a3) fun H4 hS3 => ?_
            obtain ⟨_, _, hS3⟩ := hS3
            rw [b3] at hS3
            obtain ⟨n', p', h', o', e3⟩ := hS3.net (by simp [s3])
            have w3 : IntKind.i64.wrap (((s3 c s i).net.length : Nat) - 1) = (s.net.length : Nat) + 1 := by rw [wrapI (by simp [s3] <;> omega) (by simp [s3] <;> omega)]; simp [s3] <;> omega
            simp only [hS3.vb, e3, w3, f58, f57, f11, f10, f7, hds, Cd.cd28, Tk.t28, base0, base1, base2, base3, Option.isNone_none, Option.isNone_some, Nat.reduceBEq, true_or, or_true, false_or, or_false, Nat.reduceLT, Nat.reduceMod, Nat.reducePow, rmaps, nsucc, List.flatten_cons, List.flatten_nil, Nat.reduceEqDiff, Nat.reduceLeDiff, Nat.reduceAdd, Nat.reduceMul, Nat.reduceSub, ↓reduceIte, reduceCtorEq, decide_true, decide_false]
            refine RetR.go (step53 hS3 (r3.valid hk) (by simp; omega) 1 ((s.net.length : Nat) + 1) a4) fun H5 hS4 => ?_
            obtain ⟨_, _, hS4⟩ := hS4
            rw [b4] at hS4
            simp only [f58, f57, f11, f10, f7, hds, Cd.cd28, Tk.t28, base0, base1, base2, base3, Option.isNone_none, Option.isNone_some, Nat.reduceBEq, true_or, or_true, false_or, or_false, Nat.reduceLT, Nat.reduceMod, Nat.reducePow, rmaps, nsucc, List.flatten_cons, List.flatten_nil, Nat.reduceEqDiff, Nat.reduceLeDiff, Nat.reduceAdd, Nat.reduceMul, Nat.reduceSub, ↓reduceIte, reduceCtorEq, decide_true, decide_false]
            refine ⟨_, by omega, i + 1, rfl, by omega, ?_⟩
            (repeat' apply And.intro) <;> first | rfl | (rw [wrapS (by omega)]) | omega | assumption | (exact ⟨_, _, hS4, r4, seq1_step hV hlt hq, by simp; omega⟩)
          · have hi' : i = c.place.length := by omega
            subst hi'
            obtain ⟨va, e1, e2⟩ := hS.va
            simp only [ltF hlt, e1, f58, f57, f11, f10, f7, hds, Cd.cd28, Tk.t28, base0, base1, base2, base3, Option.isNone_none, Option.isNone_some, Nat.reduceBEq, true_or, or_true, false_or, or_false, Nat.reduceLT, Nat.reduceMod, Nat.reducePow, rmaps, nsucc, List.flatten_cons, List.flatten_nil, Nat.reduceEqDiff, Nat.reduceLeDiff, Nat.reduceAdd, Nat.reduceMul, Nat.reduceSub, ↓reduceIte, reduceCtorEq, decide_true, decide_false]
            refine fin_r e2 ?_
            unfold SchedR
            obtain ⟨o1, o2⟩ := seq1_over (hrc.valid hk) hq
            rw [if_neg (by simp [hc]), if_neg (by simp [hv]), if_neg (by simp [h5])]
            exact ⟨l, s, rfl, by omega, hrc, o1, by rw [o2, h5]⟩
end Go.Proofs.Ytgmncggiblaciaa

/- Walks: the tests that hold the laws awake. -/
namespace Go.Proofs.Ytgmncggiblaciaa
open Go Go.Proofs.Ytgmncggiblaciaa.Ab
set_option maxRecDepth 100000

theorem VR.untip {g : G} {k : Nat} {rows : List (List AV)} {tip : Tip} {x : Value} (h : VR g (.lst k rows tip) x) : VR g (.lst k rows .unk) x := by
  cases h with
  | lst q1 q2 q3 q4 q5 q6 q7 q8 => exact .lst q1 q2 q3 q4 q5 q6 q7 trivial
theorem FCall.untip {P : Program} {m : FuncId} {a : AV} {k : Nat} {rows : List (List AV)} {tip : Tip} {R : AV → Prop} (h : FCall P m [a, .lst k rows .unk] R) : FCall P m [a, .lst k rows tip] R :=
  ⟨h.1, fun g xs w hw hx => h.2 g xs w hw ⟨hx.1, fun j hj => by
    have := hx.2 j hj
    match j, hj with
    | 0, _ => exact this
    | 1, _ => exact VR.untip this⟩⟩

def one : Case := ⟨1, [0], [1]⟩
def oneL : List Ac := [⟨0, 0⟩, ⟨1, 0⟩, ⟨4, 0⟩, ⟨1, 1⟩]
def oneS : Stt := (runOf one oneL).1
theorem one_run : runOf one oneL = (oneS, 4, 0) := by decide +kernel
theorem one_s : oneS.v = 1 ∧ oneS.net.length = 2 ∧ (checkState one oneS).2 = 0 ∧ overS oneS = true := by decide +kernel
theorem one_small : SmallS oneS := ((checkState_ok (c := one)).mp one_s.2.2.1).small
theorem one_ok : (checkCase one).2 = 0 := by decide +kernel
theorem one_v : isVerdict 3 = true ∧ isVerdict 1 = true ∧ worstI one.verd = 1 := by decide +kernel
theorem acRow_fz {l : List Ac} {r : List AV} (h : r ∈ l.map acR) : FZs r := by
  obtain ⟨x, _, rfl⟩ := List.mem_map.mp h; exact FZs.acR x
set_option maxHeartbeats 1000000 in
theorem awake23 : FCall Try.prog 23 [] (· = .v (.bool true)) := by
  refine ACall.enter [] Cd.fn23 (by simp) ?_
  simp only [Cd.cd23, Tk.t23, base0, base1, base2, base3, Option.isNone_none, Option.isNone_some, Nat.reduceBEq, true_or, or_true, false_or, or_false, Nat.reduceLT, Nat.reduceMod, Nat.reducePow, rmaps, nsucc, List.flatten_cons, List.flatten_nil, Nat.reduceEqDiff, Nat.reduceLeDiff, Nat.reduceAdd, Nat.reduceMul, Nat.reduceSub, ↓reduceIte, reduceCtorEq, decide_true, decide_false]
  refine (single39).go FZs.nil ?_
  simp only [Cd.cd23, Tk.t23, base0, base1, base2, base3, Option.isNone_none, Option.isNone_some, Nat.reduceBEq, true_or, or_true, false_or, or_false, Nat.reduceLT, Nat.reduceMod, Nat.reducePow, rmaps, nsucc, List.flatten_cons, List.flatten_nil, Nat.reduceEqDiff, Nat.reduceLeDiff, Nat.reduceAdd, Nat.reduceMul, Nat.reduceSub, ↓reduceIte, reduceCtorEq, decide_true, decide_false]
  refine (FCall.untip (runOf25 one oneL (by decide))).go (FZs.two (FZ.caseV _) (FZ.lst rfl fun r hr => acRow_fz (l := oneL) (by simpa [oneL, acR] using hr))) ?_
  rw [one_run]
  simp only [runV, stV, stL, plsV, hssV, pksV]
  simp only [Cd.cd23, Tk.t23, base0, base1, base2, base3, Option.isNone_none, Option.isNone_some, Nat.reduceBEq, true_or, or_true, false_or, or_false, Nat.reduceLT, Nat.reduceMod, Nat.reducePow, rmaps, nsucc, List.flatten_cons, List.flatten_nil, Nat.reduceEqDiff, Nat.reduceLeDiff, Nat.reduceAdd, Nat.reduceMul, Nat.reduceSub, ↓reduceIte, reduceCtorEq, decide_true, decide_false]
  refine single39.goQ FZs.nil ?_
  simp only [Cd.cd23, Tk.t23, base0, base1, base2, base3, Option.isNone_none, Option.isNone_some, Nat.reduceBEq, true_or, or_true, false_or, or_false, Nat.reduceLT, Nat.reduceMod, Nat.reducePow, rmaps, nsucc, List.flatten_cons, List.flatten_nil, Nat.reduceEqDiff, Nat.reduceLeDiff, Nat.reduceAdd, Nat.reduceMul, Nat.reduceSub, ↓reduceIte, reduceCtorEq, decide_true, decide_false]
  refine (isOver18 one oneS ⟨by decide, by decide⟩ one_small).go' (FZs.two (FZ.caseV _) (FZ.stV _)) ?_
  obtain ⟨e1, e2, e3, e4⟩ := one_s
  rw [e3, e4]
  simp only [Cd.cd23, Tk.t23, base0, base1, base2, base3, Option.isNone_none, Option.isNone_some, Nat.reduceBEq, true_or, or_true, false_or, or_false, Nat.reduceLT, Nat.reduceMod, Nat.reducePow, rmaps, nsucc, List.flatten_cons, List.flatten_nil, Nat.reduceEqDiff, Nat.reduceLeDiff, Nat.reduceAdd, Nat.reduceMul, Nat.reduceSub, ↓reduceIte, reduceCtorEq, decide_true, decide_false]
  refine single39.go FZs.nil ?_
  simp only [Cd.cd23, Tk.t23, base0, base1, base2, base3, Option.isNone_none, Option.isNone_some, Nat.reduceBEq, true_or, or_true, false_or, or_false, Nat.reduceLT, Nat.reduceMod, Nat.reducePow, rmaps, nsucc, List.flatten_cons, List.flatten_nil, Nat.reduceEqDiff, Nat.reduceLeDiff, Nat.reduceAdd, Nat.reduceMul, Nat.reduceSub, ↓reduceIte, reduceCtorEq, decide_true, decide_false]
  refine (schedule28 one 3).some (FZs.two (FZ.caseV _) (FZ.v _)) fun v hz hr => ?_
  unfold SchedR at hr
  obtain ⟨f1, f2, f3⟩ := one_v
  rw [if_neg (by simp [one_ok]), if_neg (by simp [f1]), if_pos (by rw [f3]; rfl)] at hr
  subst hr
  generalize oneS = s0 at e1 e2 ⊢
  simp (maxSteps := 2000000) only [acsV, e1, e2, List.length_map, Cd.cd23, Tk.t23, base0, base1, base2, base3, Option.isNone_none, Option.isNone_some, Nat.reduceBEq, true_or, or_true, false_or, or_false, Nat.reduceLT, Nat.reduceMod, Nat.reducePow, rmaps, nsucc, List.flatten_cons, List.flatten_nil, Nat.reduceEqDiff, Nat.reduceLeDiff, Nat.reduceAdd, Nat.reduceMul, Nat.reduceSub, ↓reduceIte, reduceCtorEq, decide_true, decide_false]
  exact fin_v rfl

end Go.Proofs.Ytgmncggiblaciaa

/- Walks: the laws on runs and schedules. -/
namespace Go.Proofs.Ytgmncggiblaciaa
open Go Go.Proofs.Ytgmncggiblaciaa.Ab
set_option maxRecDepth 100000

theorem nil_small : SmallS nilSt := ⟨by decide, by decide, by decide, fun x hx => by simp [nilSt] at hx⟩
end Go.Proofs.Ytgmncggiblaciaa

/- Walks: a useful act, a component that is tried. -/
namespace Go.Proofs.Ytgmncggiblaciaa
open Go Go.Proofs.Ytgmncggiblaciaa.Ab
set_option maxRecDepth 100000

def usefulK : List Int := [1, 4, 5, 0]
def UsefulR (l : List Ac) (out : AV) : Prop := (∃ a ∈ l, a.kind ∈ usefulK ∧ out = .tup [acV a, .v (.bool true)]) ∨ ((∀ a ∈ l, a.kind ∉ usefulK) ∧ out = .tup [acV ⟨0, 0⟩, .v (.bool false)])
end Go.Proofs.Ytgmncggiblaciaa

/- Walks: the law that hosts come to the same verdict. -/
namespace Go.Proofs.Ytgmncggiblaciaa
open Go Go.Proofs.Ytgmncggiblaciaa.Ab
set_option maxRecDepth 100000


theorem NewS.fc {m : FuncId} {args : List AV} {s : Stt} (h : ACall Try.prog m args AH.none (fun out H' => ∃ cs, out = .ret (.agg cs) ∧ NewS AH.none s cs H')) : FCall Try.prog m args (· = stV s) :=
  h.mono fun out H' hx => by
    obtain ⟨cs, rfl, hn⟩ := hx
    obtain ⟨p, h, aq, o, rfl, x, _⟩ := hn.ex
    exact ⟨_, _, rfl, stV_view x, FZ.stV _, rfl⟩
theorem CaseOk.small {c : Case} (h : CaseOk c) : SmallC c := ⟨by have := h.p6; omega, by have := h.p6; have := h.vl; omega⟩

end Go.Proofs.Ytgmncggiblaciaa

/- Walks: any state copied by the reference. -/
namespace Go.Proofs.Ytgmncggiblaciaa
open Go Go.Proofs.Ytgmncggiblaciaa.Ab
set_option maxRecDepth 100000

/-- a state whose hosts are being laid, one after the other; it may have no placed components and no hosts -/
structure OwnK (B : Nat) (H : AH) (s : Stt) (i : Nat) (ap ah aq : AV) (o : List OH) : Prop where
  hp : Arr plR 4 H ap s.placed
  ha : (o = [] ∧ ah = nilS) ∨ ∃ h, ah = .sl 2 h 0 o.length ∧ H.own h = some (.cells (flatE hsO o))
  eq : o.map OH.hs = s.hosts.take i
  q : Arr pkR 4 H aq s.net
  m : ∀ y ∈ o, Arr ptR 5 H y.a y.parts
  dp : ∀ n, nmA ap = some n → nmA ah ≠ some n
  dq : ∀ n, nmA aq = some n → nmA ah ≠ some n
  dm : ∀ y ∈ o, ∀ n, nmA y.a = some n → nmA ah ≠ some n
  lp : ∀ n, nmA ap = some n → B ≤ n ∧ n < H.next
  lh : ∀ n, nmA ah = some n → B ≤ n ∧ n < H.next
  lq : ∀ n, nmA aq = some n → B ≤ n ∧ n < H.next
  lm : ∀ y ∈ o, ∀ n, nmA y.a = some n → B ≤ n ∧ n < H.next

theorem OwnK.step {B : Nat} {H H2 : AH} {s : Stt} {i h' : Nat} {ap ah aq : AV} {o : List OH} {y : OH} (x : OwnK B H s i ap ah aq o) (hi : i < s.hosts.length) (hy : y.hs = s.hosts.getD i default) (hv : Arr ptR 5 H2 y.a y.parts)
    (hnv : ∀ n, nmA y.a = some n → H.next ≤ n ∧ n < H2.next ∧ n ≠ h') (hh : H2.own h' = some (.cells (flatE hsO (o ++ [y])))) (hn : H.next ≤ h' ∧ h' < H2.next)
    (hk : ∀ n, B ≤ n → n < H.next → nmA ah ≠ some n → H2.own n = H.own n) (hB : B ≤ H.next) : OwnK B H2 s (i + 1) ap (.sl 2 h' 0 (o.length + 1)) aq (o ++ [y]) := by
  refine ⟨x.hp.mono fun n hn' => hk n (x.lp n hn').1 (x.lp n hn').2 (x.dp n hn'), .inr ⟨h', by simp, hh⟩, ?_, x.q.mono fun n hn' => hk n (x.lq n hn').1 (x.lq n hn').2 (x.dq n hn'), fun z hz => ?_, fun n hn' => ?_, fun n hn' => ?_, fun z hz n hn' => ?_, fun n hn' => ?_, fun n hn' => ?_, fun n hn' => ?_, fun z hz n hn' => ?_⟩
  · rw [List.map_append, x.eq, take_succ_getD hi]; simp [hy]
  · rcases List.mem_append.mp hz with hz | hz
    · exact (x.m z hz).mono fun n hn' => hk n (x.lm z hz n hn').1 (x.lm z hz n hn').2 (x.dm z hz n hn')
    · simp only [List.mem_singleton] at hz; subst hz; exact hv
  · have h1 := x.lp n hn'
    exact fun e => by simp only [nmA, Option.some.injEq] at e; omega
  · have h1 := x.lq n hn'
    exact fun e => by simp only [nmA, Option.some.injEq] at e; omega
  · rcases List.mem_append.mp hz with hz | hz
    · have h1 := x.lm z hz n hn'
      exact fun e => by simp only [nmA, Option.some.injEq] at e; omega
    · simp only [List.mem_singleton] at hz; subst hz
      have h1 := hnv n hn'
      exact fun e => by simp only [nmA, Option.some.injEq] at e; omega
  · have := x.lp n hn'; omega
  · simp only [nmA, Option.some.injEq] at hn'; omega
  · have := x.lq n hn'; omega
  · rcases List.mem_append.mp hz with hz | hz
    · have := x.lm z hz n hn'; omega
    · simp only [List.mem_singleton] at hz; subst hz; have := hnv n hn'; omega

theorem OwnK.view {B : Nat} {H H2 : AH} {s : Stt} {ap ah aq : AV} {o : List OH} (x : OwnK B H s s.hosts.length ap ah aq o) (hk : ∀ n, B ≤ n → H2.own n = H.own n) : View H2 (.agg [ap, .v (.int .i64 s.v), ah, aq]) (stV s) := by
  have hp := x.hp.mono fun n hn => hk n (x.lp n hn).1
  have hq := x.q.mono fun n hn => hk n (x.lq n hn).1
  have hm : ∀ y ∈ o, Arr ptR 5 H2 y.a y.parts := fun y hy => (x.m y hy).mono fun n hn => hk n (x.lm y hy n hn).1
  have heq := x.eq
  rw [List.take_length] at heq
  refine Views.agg (Views.cons (hp.view plR_len FZs.plR) (Views.cons (FZ.v _).view (Views.cons ?_ (Views.cons (hq.view pkR_len FZs.pkR) Views.nil))))
  rcases x.ha with ⟨rfl, rfl⟩ | ⟨h, rfl, hh⟩
  · rw [← heq]; exact View.nil _
  · have hl : s.hosts.length = o.length := by rw [← heq, List.length_map]
    have hh2 : H2.own h = some (.cells (flatE hsO o)) := by rw [hk h (x.lh h rfl).1]; exact hh
    refine View.sl hh2 (by rw [flatE_len hsO_len]; omega) (by simp [hl]) (fun i hi => ?_) fun i j hi hj => ?_
    · exact (congrArg List.length (getDmap hsR s.hosts i (by omega))).trans rfl
    · have e1 : (flatE hsO o).getD (0 + i * 2 + j) .any = (hsO (o.getD i default)).getD j .any := by
        have := flatE_get hsO_len o i j [] hi hj
        rw [List.append_nil] at this; rw [Nat.zero_add]; exact this
      have e2 : s.hosts.getD i default = (o.getD i default).hs := by
        rw [← heq, List.getD_eq_getElem?_getD, List.getElem?_map, List.getElem?_eq_getElem hi, List.getD_eq_getElem?_getD, List.getElem?_eq_getElem hi]; rfl
      rw [e1, getDmap hsR s.hosts i (by omega), e2]
      have : j = 0 ∨ j = 1 := by omega
      rcases this with rfl | rfl
      · exact (FZ.v _).view
      · exact (hm _ (getD_mem hi)).view ptR_len FZs.ptR

set_option maxHeartbeats 2000000 in
theorem own17k (s : Stt) (H : AH) (hs : SmallS s) (R : AV) (hR : R = stV s) : ACall Try.prog 17 [stV s] H (fun out H' => ∃ v, out = .ret v ∧ View H' v R) := by
  have hsh := hs.h; have hsp := hs.p; have hsn := hs.n
  simp only [stV, stL]
  obtain ⟨n2, hn2⟩ : ∃ n2, n2 = H.next := ⟨_, rfl⟩
  have hcase : s.net = [] ∨ ((s.net.length = 0) = False ∧ s.net ≠ []) := by
    by_cases h : s.net = []
    · exact .inl h
    · exact .inr ⟨eq_false (by simpa using h), h⟩
  have hcasp : s.placed = [] ∨ ((s.placed.length = 0) = False ∧ s.placed ≠ []) := by
    by_cases h : s.placed = []
    · exact .inl h
    · exact .inr ⟨eq_false (by simpa using h), h⟩
  rcases hcasp with hp0 | ⟨hp0, hp0'⟩ <;> rcases hcase with hn0 | ⟨hn0, hn0'⟩
  all_goals
    refine ACall.enter [8, 14, 38, 41] Cd.fn17 (by simp) ?_
    simp only [plsV, pksV, hn0, hp0, List.length_map, show roomA 24 s.placed.length = true from room_of (by omega) (by omega), show roomA 32 s.net.length = true from room_of (by omega) (by omega), Cd.cd17, Tk.t17, base0, base1, base2, base3, Option.isNone_none, Option.isNone_some, Nat.reduceBEq, true_or, or_true, false_or, or_false, Nat.reduceLT, Nat.reduceMod, Nat.reducePow, rmaps, nsucc, List.flatten_cons, List.flatten_nil, Nat.reduceEqDiff, Nat.reduceLeDiff, Nat.reduceAdd, Nat.reduceMul, Nat.reduceSub, ↓reduceIte, reduceCtorEq, decide_true, decide_false]
    obtain ⟨aq, haq⟩ : ∃ aq, aq = if s.net = [] then AV.lst 4 [] .full else AV.sl 4 (if s.placed = [] then n2 + 2 else n2 + 3) 0 s.net.length := ⟨_, rfl⟩
    obtain ⟨ap, hap⟩ : ∃ ap, ap = if s.placed = [] then AV.lst 4 [] .full else AV.sl 4 (n2 + 2) 0 s.placed.length := ⟨_, rfl⟩
    refine LWP.loop [8, 14, 38, 41] (fun m f H' => ∃ i, m = s.hosts.length - i ∧ (i ≤ s.hosts.length) ∧ f.t 4 = .v (.int .i64 (i : Nat)) ∧ f.t 3 = .ptr (n2 + 1) 0 ∧ f.t 2 = .ptr n2 0 ∧ f.t 1 = .box (stL s) ∧ f.ds = [] ∧ ∃ o ah, OwnK (n2 + 2) H' s i ap ah aq o ∧ H'.own (n2 + 1) = some (.cells [ap, .v (.int .i64 s.v), ah, aq]) ∧ H'.own n2 = some (.cells [.v (.slice none 0 0), .v (.int .i64 0), .v (.slice none 0 0), .v (.slice none 0 0)]) ∧ H'.tip = H.tip ∧ n2 + 2 ≤ H'.next ∧ (∀ n, n < H.next → H'.own n = H.own n)) ?_ ?_ (m := s.hosts.length - (0))
    · exact ⟨0, rfl, (by omega), rfl, by rw [hn2]; rfl, by rw [hn2]; rfl, by simp [stL, plsV, pksV, upd, hn0, hp0], rfl, by refine ⟨[], nilS, ⟨?_, .inl ⟨rfl, rfl⟩, by simp, ?_, fun y hy => by simp at hy, fun n _ e => by simp [nilS, nmA] at e, fun n _ e => by simp [nilS, nmA] at e, fun y hy => by simp at hy, fun n hn => ?_, fun n hn => by simp [nilS, nmA] at hn, fun n hn => ?_, fun y hy => by simp at hy⟩, ?_, ?_, ?_, ?_, fun n hn => ?_⟩ <;> first   | (simp [hn2, flatE]; done)   | (simp [haq, hap, hn0, hp0, hn2, nilS]; done)   | (simp only [hp0, if_true] at hap; subst hap; exact .inl ⟨hp0, .inr rfl⟩)   | (rw [if_neg hp0'] at hap; subst hap; exact .inr ⟨_, [], rfl, by simp [hn2, flatE]⟩)   | (simp only [hn0, if_true] at haq; subst haq; exact .inl ⟨hn0, .inr rfl⟩)   | (rw [if_neg hn0', if_pos hp0] at haq; subst haq; exact .inr ⟨_, [], rfl, by simp [hn2, flatE]⟩)   | (rw [if_neg hn0', if_neg hp0'] at haq; subst haq; exact .inr ⟨_, [], rfl, by simp [hn2, flatE]⟩)   | (simp only [hp0, if_true] at hap; subst hap; cases hn; done)   | (simp only [hn0, if_true] at haq; subst haq; cases hn; done)   | (rw [if_neg hp0'] at hap; subst hap; cases hn; simp [hn2]; done)   | (rw [if_neg hp0'] at hap; subst hap; cases hn; simp [hn2]; omega)   | (rw [if_neg hn0', if_pos hp0] at haq; subst haq; cases hn; simp [hn2]; done)   | (rw [if_neg hn0', if_pos hp0] at haq; subst haq; cases hn; simp [hn2]; omega)   | (rw [if_neg hn0', if_neg hp0'] at haq; subst haq; cases hn; simp [hn2]; done)   | (rw [if_neg hn0', if_neg hp0'] at haq; subst haq; cases hn; simp [hn2]; omega)   | (simp only [hap, haq, if_pos hp0, if_pos hn0, hn2, nsucc, if_false, if_true, nilS]; done)   | (rw [if_pos hp0] at hap; rw [if_neg hn0', if_pos hp0] at haq; subst hap haq; simp [hn2, nilS]; done)   | (rw [if_neg hp0'] at hap; rw [if_pos hn0] at haq; subst hap haq; simp [hn2, nilS]; done)   | (rw [if_neg hp0'] at hap; rw [if_neg hn0', if_neg hp0'] at haq; subst hap haq; simp [hn2, nilS]; done)   | (simp [hn2, show n ≠ H.next by omega, show n ≠ H.next + 1 by omega, show n ≠ H.next + 2 by omega, show n ≠ H.next + 3 by omega]; done)   | (trace_state; sorry)⟩
    · rintro m f H' ⟨i, rfl, hi, f4, f3, f2, f1, hds, ⟨o,ah,hJ,hb3,hb2,ht,hx,hkk⟩⟩
      have hoi : o.length = i := by have := congrArg List.length hJ.eq; simp at this; omega
      by_cases hlt : i < s.hosts.length
      · have hpb := hs.q' i
        have hlt' := ltT hlt
        have hpc : (s.hosts.getD i default).parts = [] ∨ (((s.hosts.getD i default).parts.length = 0) = False ∧ (s.hosts.getD i default).parts ≠ []) := by
          by_cases h : (s.hosts.getD i default).parts = []
          · exact .inl h
          · exact .inr ⟨eq_false (by simpa using h), h⟩
        simp only [stL, hssV] at f1
        rcases hpc with hpe | ⟨hpl, hpl'⟩
        · rcases hJ.ha with ⟨rfl, rfl⟩ | ⟨h, rfl, hh⟩
          ·
            have g1 : (n2 + 1 = H'.next) = False := eq_false (by omega)
            have g2 : (n2 + 1 = H'.next + 1) = False := eq_false (by omega)
            have g3 : (n2 + 1 = n2) = False := eq_false (by omega)
            simp only [hb3, hlt', inR hlt, Int.toNat_natCast, getD_map hsR _ _ hlt, hsR, ptsV, List.length_map, g1, g2, g3, nilS, hpe, show roomA 32 1 = true from rfl, f4, f3, f2, f1, hds, Cd.cd17, Tk.t17, base0, base1, base2, base3, Option.isNone_none, Option.isNone_some, Nat.reduceBEq, true_or, or_true, false_or, or_false, Nat.reduceLT, Nat.reduceMod, Nat.reducePow, rmaps, nsucc, List.flatten_cons, List.flatten_nil, Nat.reduceEqDiff, Nat.reduceLeDiff, Nat.reduceAdd, Nat.reduceMul, Nat.reduceSub, ↓reduceIte, reduceCtorEq, decide_true, decide_false]
            refine ⟨fun n hn => by first | trivial | (simp at hn; subst hn; simp [show n2 + 1 ≠ H'.next by omega]), _, by omega, i + 1, rfl, by omega, by rw [wrapS (by omega)], rfl, [⟨(s.hosts.getD i default).lost, AV.lst 5 [] .full, (s.hosts.getD i default).parts⟩], .sl 2 H'.next 0 (1), ?_⟩
            refine ⟨hJ.step (hB := hx) (y := ⟨(s.hosts.getD i default).lost, AV.lst 5 [] .full, (s.hosts.getD i default).parts⟩) hlt rfl (.inl ⟨hpe, .inr rfl⟩) (fun n hn => by cases hn) (by simp [show H'.next ≠ n2 by omega, show H'.next ≠ n2 + 1 by omega, show H'.next + 1 ≠ n2 + 1 by omega, show n2 ≠ H'.next by omega, show n2 ≠ H'.next + 1 by omega, hsO, flatE]) ⟨by omega, by simp <;> omega⟩ (fun n e0 e1 e2 => by simp [show n ≠ n2 + 1 by omega, show n ≠ H'.next by omega]), ?_, ?_, ht, ?_, fun n hn => ?_⟩
            · simp
            · simp [show H'.next ≠ n2 by omega, show H'.next ≠ n2 + 1 by omega, show H'.next + 1 ≠ n2 + 1 by omega, show n2 ≠ H'.next by omega, show n2 ≠ H'.next + 1 by omega, hb2]
            · first | omega | (simp; omega)
            · simp [show n ≠ n2 + 1 by omega, show n ≠ H'.next by omega]; exact hkk n hn
          ·
            have g1 : (n2 + 1 = H'.next) = False := eq_false (by omega)
            have g2 : (n2 + 1 = H'.next + 1) = False := eq_false (by omega)
            have g3 : (n2 + 1 = n2) = False := eq_false (by omega)
            have hlh := hJ.lh h rfl
            have g4 : (n2 + 1 = h) = False := eq_false (by omega)
            have g5 : (h = H'.next) = False := eq_false (by omega)
            have g6 : (h = n2 + 1) = False := eq_false (by omega)
            have g7 : (h = H'.next + 1) = False := eq_false (by omega)
            have elen : o.length * 2 ≤ (flatE hsO o).length := by rw [flatE_len hsO_len]; omega
            have etk : List.take (o.length * 2) (flatE hsO o) = flatE hsO o := by rw [← flatE_len hsO_len, List.take_length]
            simp only [hb3, hlt', inR hlt, Int.toNat_natCast, getD_map hsR _ _ hlt, hsR, ptsV, List.length_map, g1, g2, g3, nilS, hpe, hh, elen, etk, room1 (b := 32) (n := o.length) (by omega) (by omega), g4, g5, g6, g7, f4, f3, f2, f1, hds, Cd.cd17, Tk.t17, base0, base1, base2, base3, Option.isNone_none, Option.isNone_some, Nat.reduceBEq, true_or, or_true, false_or, or_false, Nat.reduceLT, Nat.reduceMod, Nat.reducePow, rmaps, nsucc, List.flatten_cons, List.flatten_nil, Nat.reduceEqDiff, Nat.reduceLeDiff, Nat.reduceAdd, Nat.reduceMul, Nat.reduceSub, ↓reduceIte, reduceCtorEq, decide_true, decide_false]
            refine ⟨fun n hn => by first | trivial | (simp at hn; subst hn; simp [show n2 + 1 ≠ H'.next by omega]), _, by omega, i + 1, rfl, by omega, by rw [wrapS (by omega)], rfl, o ++ [⟨(s.hosts.getD i default).lost, AV.lst 5 [] .full, (s.hosts.getD i default).parts⟩], .sl 2 H'.next 0 (o.length + 1), ?_⟩
            refine ⟨hJ.step (hB := hx) (y := ⟨(s.hosts.getD i default).lost, AV.lst 5 [] .full, (s.hosts.getD i default).parts⟩) hlt rfl (.inl ⟨hpe, .inr rfl⟩) (fun n hn => by cases hn) (by simp [show H'.next ≠ n2 by omega, show H'.next ≠ n2 + 1 by omega, show H'.next + 1 ≠ n2 + 1 by omega, show n2 ≠ H'.next by omega, show n2 ≠ H'.next + 1 by omega, show H'.next ≠ h by omega, show H'.next + 1 ≠ h by omega, show n2 ≠ h by omega, hsO, flatE]) ⟨by omega, by simp <;> omega⟩ (fun n e0 e1 e2 => by simp [show n ≠ n2 + 1 by omega, show n ≠ H'.next by omega, show n ≠ h from fun e => e2 (by rw [e]; rfl)]), ?_, ?_, ht, ?_, fun n hn => ?_⟩
            · simp
            · simp [show H'.next ≠ n2 by omega, show H'.next ≠ n2 + 1 by omega, show H'.next + 1 ≠ n2 + 1 by omega, show n2 ≠ H'.next by omega, show n2 ≠ H'.next + 1 by omega, show H'.next ≠ h by omega, show H'.next + 1 ≠ h by omega, show n2 ≠ h by omega, hb2]
            · first | omega | (simp; omega)
            · simp [show n ≠ n2 + 1 by omega, show n ≠ H'.next by omega, show n ≠ h by omega]; exact hkk n hn
        · rcases hJ.ha with ⟨rfl, rfl⟩ | ⟨h, rfl, hh⟩
          ·
            have g1 : (n2 + 1 = H'.next) = False := eq_false (by omega)
            have g2 : (n2 + 1 = H'.next + 1) = False := eq_false (by omega)
            have g3 : (n2 + 1 = n2) = False := eq_false (by omega)
            simp only [hb3, hlt', inR hlt, Int.toNat_natCast, getD_map hsR _ _ hlt, hsR, ptsV, List.length_map, g1, g2, g3, nilS, hpl, show roomA 32 (s.hosts.getD i default).parts.length = true from room_of (by omega) (by omega), show roomA 32 1 = true from rfl, f4, f3, f2, f1, hds, Cd.cd17, Tk.t17, base0, base1, base2, base3, Option.isNone_none, Option.isNone_some, Nat.reduceBEq, true_or, or_true, false_or, or_false, Nat.reduceLT, Nat.reduceMod, Nat.reducePow, rmaps, nsucc, List.flatten_cons, List.flatten_nil, Nat.reduceEqDiff, Nat.reduceLeDiff, Nat.reduceAdd, Nat.reduceMul, Nat.reduceSub, ↓reduceIte, reduceCtorEq, decide_true, decide_false]
            refine ⟨fun n hn => by first | trivial | (simp at hn; subst hn; simp [show n2 + 1 ≠ H'.next by omega]), _, by omega, i + 1, rfl, by omega, by rw [wrapS (by omega)], rfl, [⟨(s.hosts.getD i default).lost, AV.sl 5 H'.next 0 (s.hosts.getD i default).parts.length, (s.hosts.getD i default).parts⟩], .sl 2 (H'.next + 1) 0 (1), ?_⟩
            refine ⟨hJ.step (hB := hx) (y := ⟨(s.hosts.getD i default).lost, AV.sl 5 H'.next 0 (s.hosts.getD i default).parts.length, (s.hosts.getD i default).parts⟩) hlt rfl (.inr ⟨H'.next, [], rfl, by simp [show H'.next ≠ n2 by omega, show H'.next ≠ n2 + 1 by omega, show H'.next + 1 ≠ n2 + 1 by omega, show n2 ≠ H'.next by omega, show n2 ≠ H'.next + 1 by omega, flatE]⟩) (fun n hn => by cases hn; exact ⟨Nat.le_refl _, by simp <;> omega, by omega⟩) (by simp [show H'.next ≠ n2 by omega, show H'.next ≠ n2 + 1 by omega, show H'.next + 1 ≠ n2 + 1 by omega, show n2 ≠ H'.next by omega, show n2 ≠ H'.next + 1 by omega, hsO, flatE]) ⟨by omega, by simp <;> omega⟩ (fun n e0 e1 e2 => by simp [show n ≠ n2 + 1 by omega, show n ≠ H'.next by omega, show n ≠ H'.next + 1 by omega]), ?_, ?_, ht, ?_, fun n hn => ?_⟩
            · simp
            · simp [show H'.next ≠ n2 by omega, show H'.next ≠ n2 + 1 by omega, show H'.next + 1 ≠ n2 + 1 by omega, show n2 ≠ H'.next by omega, show n2 ≠ H'.next + 1 by omega, hb2]
            · first | omega | (simp; omega)
            · simp [show n ≠ n2 + 1 by omega, show n ≠ H'.next by omega, show n ≠ H'.next + 1 by omega]; exact hkk n hn
          ·
            have g1 : (n2 + 1 = H'.next) = False := eq_false (by omega)
            have g2 : (n2 + 1 = H'.next + 1) = False := eq_false (by omega)
            have g3 : (n2 + 1 = n2) = False := eq_false (by omega)
            have hlh := hJ.lh h rfl
            have g4 : (n2 + 1 = h) = False := eq_false (by omega)
            have g5 : (h = H'.next) = False := eq_false (by omega)
            have g6 : (h = n2 + 1) = False := eq_false (by omega)
            have g7 : (h = H'.next + 1) = False := eq_false (by omega)
            have elen : o.length * 2 ≤ (flatE hsO o).length := by rw [flatE_len hsO_len]; omega
            have etk : List.take (o.length * 2) (flatE hsO o) = flatE hsO o := by rw [← flatE_len hsO_len, List.take_length]
            simp only [hb3, hlt', inR hlt, Int.toNat_natCast, getD_map hsR _ _ hlt, hsR, ptsV, List.length_map, g1, g2, g3, nilS, hpl, show roomA 32 (s.hosts.getD i default).parts.length = true from room_of (by omega) (by omega), hh, elen, etk, room1 (b := 32) (n := o.length) (by omega) (by omega), g4, g5, g6, g7, f4, f3, f2, f1, hds, Cd.cd17, Tk.t17, base0, base1, base2, base3, Option.isNone_none, Option.isNone_some, Nat.reduceBEq, true_or, or_true, false_or, or_false, Nat.reduceLT, Nat.reduceMod, Nat.reducePow, rmaps, nsucc, List.flatten_cons, List.flatten_nil, Nat.reduceEqDiff, Nat.reduceLeDiff, Nat.reduceAdd, Nat.reduceMul, Nat.reduceSub, ↓reduceIte, reduceCtorEq, decide_true, decide_false]
            refine ⟨fun n hn => by first | trivial | (simp at hn; subst hn; simp [show n2 + 1 ≠ H'.next by omega]), _, by omega, i + 1, rfl, by omega, by rw [wrapS (by omega)], rfl, o ++ [⟨(s.hosts.getD i default).lost, AV.sl 5 H'.next 0 (s.hosts.getD i default).parts.length, (s.hosts.getD i default).parts⟩], .sl 2 (H'.next + 1) 0 (o.length + 1), ?_⟩
            refine ⟨hJ.step (hB := hx) (y := ⟨(s.hosts.getD i default).lost, AV.sl 5 H'.next 0 (s.hosts.getD i default).parts.length, (s.hosts.getD i default).parts⟩) hlt rfl (.inr ⟨H'.next, [], rfl, by simp [show H'.next ≠ n2 by omega, show H'.next ≠ n2 + 1 by omega, show H'.next + 1 ≠ n2 + 1 by omega, show n2 ≠ H'.next by omega, show n2 ≠ H'.next + 1 by omega, show H'.next ≠ h by omega, show H'.next + 1 ≠ h by omega, show n2 ≠ h by omega, flatE]⟩) (fun n hn => by cases hn; exact ⟨Nat.le_refl _, by simp <;> omega, by omega⟩) (by simp [show H'.next ≠ n2 by omega, show H'.next ≠ n2 + 1 by omega, show H'.next + 1 ≠ n2 + 1 by omega, show n2 ≠ H'.next by omega, show n2 ≠ H'.next + 1 by omega, show H'.next ≠ h by omega, show H'.next + 1 ≠ h by omega, show n2 ≠ h by omega, hsO, flatE]) ⟨by omega, by simp <;> omega⟩ (fun n e0 e1 e2 => by simp [show n ≠ n2 + 1 by omega, show n ≠ H'.next by omega, show n ≠ H'.next + 1 by omega, show n ≠ h from fun e => e2 (by rw [e]; rfl)]), ?_, ?_, ht, ?_, fun n hn => ?_⟩
            · simp
            · simp [show H'.next ≠ n2 by omega, show H'.next ≠ n2 + 1 by omega, show H'.next + 1 ≠ n2 + 1 by omega, show n2 ≠ H'.next by omega, show n2 ≠ H'.next + 1 by omega, show H'.next ≠ h by omega, show H'.next + 1 ≠ h by omega, show n2 ≠ h by omega, hb2]
            · first | omega | (simp; omega)
            · simp [show n ≠ n2 + 1 by omega, show n ≠ H'.next by omega, show n ≠ H'.next + 1 by omega, show n ≠ h by omega]; exact hkk n hn
      · have hi' : i = s.hosts.length := by omega
        subst hi'
        have one1 : (AV.one ap) = true := by rw [hap]; split <;> rfl
        have oneh : (AV.one ah) = true := by rcases hJ.ha with ⟨_, rfl⟩ | ⟨h, rfl, _⟩ <;> rfl
        simp only [stL, hssV] at f1
        have one3 : (AV.one aq) = true := by rw [haq]; split <;> rfl
        have g3 : (n2 + 1 = n2) = False := eq_false (by omega)
        rcases hJ.ha with ⟨rfl, rfl⟩ | ⟨h, rfl, hh⟩
        all_goals
          by_cases hn : s.net = [] <;> by_cases hp : s.placed = []
          all_goals
            simp only [hn, hp, if_true, if_false] at haq hap
            subst haq hap
            simp only [List.length_map, ltF hlt, hb3, hb2, g3, nilS, f4, f3, f2, f1, hds, Cd.cd17, Tk.t17, base0, base1, base2, base3, Option.isNone_none, Option.isNone_some, Nat.reduceBEq, true_or, or_true, false_or, or_false, Nat.reduceLT, Nat.reduceMod, Nat.reducePow, rmaps, nsucc, List.flatten_cons, List.flatten_nil, Nat.reduceEqDiff, Nat.reduceLeDiff, Nat.reduceAdd, Nat.reduceMul, Nat.reduceSub, ↓reduceIte, reduceCtorEq, decide_true, decide_false]
            refine ⟨_, rfl, ?_⟩
            rw [hR]
            refine hJ.view (fun n hn => ?_)
            simp [show n ≠ n2 by omega]
theorem own17g {s : Stt} (hs : SmallS s) : FCall Try.prog 17 [stV s] (· = stV s) :=
  (own17k s AH.none hs _ rfl).mono fun out H' hx => by
    obtain ⟨v, rfl, hv⟩ := hx
    exact ⟨_, _, rfl, hv, FZ.stV _, rfl⟩
end Go.Proofs.Ytgmncggiblaciaa

/- Walks: the laws on cases and on acts. -/
namespace Go.Proofs.Ytgmncggiblaciaa
open Go Go.Proofs.Ytgmncggiblaciaa.Ab
set_option maxRecDepth 100000

set_option maxHeartbeats 4000000 in
theorem law9 (c : Case) (s : Stt) (a : Ac) : FCall Try.prog 9 [caseV c, stV s, acV a] (· = .v (.bool true)) := by
  simp only [caseV, stV, stL, plsV, hssV, pksV, acV, acR]
  refine ACall.enter [] Cd.fn9 (by simp) ?_
  simp only [Cd.cd9, Tk.t9, base0, base1, base2, base3, Option.isNone_none, Option.isNone_some, Nat.reduceBEq, true_or, or_true, false_or, or_false, Nat.reduceLT, Nat.reduceMod, Nat.reducePow, rmaps, nsucc, List.flatten_cons, List.flatten_nil, Nat.reduceEqDiff, Nat.reduceLeDiff, Nat.reduceAdd, Nat.reduceMul, Nat.reduceSub, ↓reduceIte, reduceCtorEq, decide_true, decide_false]
  refine awake23.go FZs.nil ?_
  simp only [Cd.cd9, Tk.t9, base0, base1, base2, base3, Option.isNone_none, Option.isNone_some, Nat.reduceBEq, true_or, or_true, false_or, or_false, Nat.reduceLT, Nat.reduceMod, Nat.reducePow, rmaps, nsucc, List.flatten_cons, List.flatten_nil, Nat.reduceEqDiff, Nat.reduceLeDiff, Nat.reduceAdd, Nat.reduceMul, Nat.reduceSub, ↓reduceIte, reduceCtorEq, decide_true, decide_false]
  refine (small24 c s).go (FZs.two (FZ.caseV c) (FZ.stV s)) ?_
  cases hsm : smallB c s
  · simp only [Cd.cd9, Tk.t9, base0, base1, base2, base3, Option.isNone_none, Option.isNone_some, Nat.reduceBEq, true_or, or_true, false_or, or_false, Nat.reduceLT, Nat.reduceMod, Nat.reducePow, rmaps, nsucc, List.flatten_cons, List.flatten_nil, Nat.reduceEqDiff, Nat.reduceLeDiff, Nat.reduceAdd, Nat.reduceMul, Nat.reduceSub, ↓reduceIte, reduceCtorEq, decide_true, decide_false]
    exact fin_v rfl
  obtain ⟨hc, hs⟩ := smallB_ok hsm
  have z0 : ((0 : Int) != 0) = false := rfl
  have z1 : ((0 : Int) == 0) = true := rfl
  simp only [Cd.cd9, Tk.t9, base0, base1, base2, base3, Option.isNone_none, Option.isNone_some, Nat.reduceBEq, true_or, or_true, false_or, or_false, Nat.reduceLT, Nat.reduceMod, Nat.reducePow, rmaps, nsucc, List.flatten_cons, List.flatten_nil, Nat.reduceEqDiff, Nat.reduceLeDiff, Nat.reduceAdd, Nat.reduceMul, Nat.reduceSub, ↓reduceIte, reduceCtorEq, decide_true, decide_false]
  first | refine FCall.go (ownCase13 c hc.p hc.v) (FZs.one (FZ.caseV c)) ?_ | refine FCall.go' (ownCase13 c hc.p hc.v) (FZs.one (FZ.caseV c)) ?_ | refine FCall.goQ (ownCase13 c hc.p hc.v) (FZs.one (FZ.caseV c)) ?_
  simp only [caseV]
  simp only [Cd.cd9, Tk.t9, base0, base1, base2, base3, Option.isNone_none, Option.isNone_some, Nat.reduceBEq, true_or, or_true, false_or, or_false, Nat.reduceLT, Nat.reduceMod, Nat.reducePow, rmaps, nsucc, List.flatten_cons, List.flatten_nil, Nat.reduceEqDiff, Nat.reduceLeDiff, Nat.reduceAdd, Nat.reduceMul, Nat.reduceSub, ↓reduceIte, reduceCtorEq, decide_true, decide_false]
  first | refine FCall.go (own17g hs) (FZs.one (FZ.stV s)) ?_ | refine FCall.go' (own17g hs) (FZs.one (FZ.stV s)) ?_ | refine FCall.goQ (own17g hs) (FZs.one (FZ.stV s)) ?_
  simp only [stV, stL, plsV, hssV, pksV]
  simp only [Cd.cd9, Tk.t9, base0, base1, base2, base3, Option.isNone_none, Option.isNone_some, Nat.reduceBEq, true_or, or_true, false_or, or_false, Nat.reduceLT, Nat.reduceMod, Nat.reducePow, rmaps, nsucc, List.flatten_cons, List.flatten_nil, Nat.reduceEqDiff, Nat.reduceLeDiff, Nat.reduceAdd, Nat.reduceMul, Nat.reduceSub, ↓reduceIte, reduceCtorEq, decide_true, decide_false]
  first | refine FCall.go (actsIn20 c s hc hs) (FZs.two (FZ.caseV c) (FZ.stV s)) ?_ | refine FCall.go' (actsIn20 c s hc hs) (FZs.two (FZ.caseV c) (FZ.stV s)) ?_ | refine FCall.goQ (actsIn20 c s hc hs) (FZs.two (FZ.caseV c) (FZ.stV s)) ?_
  by_cases he : (checkState c s).2 = 0
  · rw [if_pos he]
    have hV := checkState_ok.mp he
    simp only [acsV]
    simp only [z0, z1, Cd.cd9, Tk.t9, base0, base1, base2, base3, Option.isNone_none, Option.isNone_some, Nat.reduceBEq, true_or, or_true, false_or, or_false, Nat.reduceLT, Nat.reduceMod, Nat.reducePow, rmaps, nsucc, List.flatten_cons, List.flatten_nil, Nat.reduceEqDiff, Nat.reduceLeDiff, Nat.reduceAdd, Nat.reduceMul, Nat.reduceSub, ↓reduceIte, reduceCtorEq, decide_true, decide_false]
    first | refine FCall.go (ownCase13 c hc.p hc.v) (FZs.one (FZ.caseV c)) ?_ | refine FCall.go' (ownCase13 c hc.p hc.v) (FZs.one (FZ.caseV c)) ?_ | refine FCall.goQ (ownCase13 c hc.p hc.v) (FZs.one (FZ.caseV c)) ?_
    simp only [caseV]
    simp only [Cd.cd9, Tk.t9, base0, base1, base2, base3, Option.isNone_none, Option.isNone_some, Nat.reduceBEq, true_or, or_true, false_or, or_false, Nat.reduceLT, Nat.reduceMod, Nat.reducePow, rmaps, nsucc, List.flatten_cons, List.flatten_nil, Nat.reduceEqDiff, Nat.reduceLeDiff, Nat.reduceAdd, Nat.reduceMul, Nat.reduceSub, ↓reduceIte, reduceCtorEq, decide_true, decide_false]
    first | refine FCall.go (own17g hs) (FZs.one (FZ.stV s)) ?_ | refine FCall.go' (own17g hs) (FZs.one (FZ.stV s)) ?_ | refine FCall.goQ (own17g hs) (FZs.one (FZ.stV s)) ?_
    simp only [stV, stL, plsV, hssV, pksV]
    simp only [Cd.cd9, Tk.t9, base0, base1, base2, base3, Option.isNone_none, Option.isNone_some, Nat.reduceBEq, true_or, or_true, false_or, or_false, Nat.reduceLT, Nat.reduceMod, Nat.reducePow, rmaps, nsucc, List.flatten_cons, List.flatten_nil, Nat.reduceEqDiff, Nat.reduceLeDiff, Nat.reduceAdd, Nat.reduceMul, Nat.reduceSub, ↓reduceIte, reduceCtorEq, decide_true, decide_false]
    first | refine FCall.go (acted16 c s a hc hs) (FZs.three (FZ.caseV c) (FZ.stV s) (FZ.acV a)) ?_ | refine FCall.go' (acted16 c s a hc hs) (FZs.three (FZ.caseV c) (FZ.stV s) (FZ.acV a)) ?_ | refine FCall.goQ (acted16 c s a hc hs) (FZs.three (FZ.caseV c) (FZ.stV s) (FZ.acV a)) ?_
    obtain ⟨x, y, hxy, hx1, hx2⟩ : ∃ x y, (if (checkState c s).2 = 0 ∧ actE c s a = 0 then AV.tup [stV (actS c s a), .v (.int .i64 0)] else .tup [stV nilSt, .v (.int .i64 (if (checkState c s).2 = 0 then actE c s a else (checkState c s).2))]) = .tup [stV x, .v (.int .i64 y)] ∧ y = actE c s a ∧ x = if actE c s a = 0 then actS c s a else nilSt := by
      by_cases ha : actE c s a = 0
      · exact ⟨_, _, if_pos ⟨he, ha⟩, ha.symm, (if_pos ha).symm⟩
      · exact ⟨_, _, by rw [if_neg (by simp [ha]), if_pos he], rfl, (if_neg ha).symm⟩
    rw [hxy]
    simp only [stV, stL, plsV, hssV, pksV]
    simp only [Cd.cd9, Tk.t9, base0, base1, base2, base3, Option.isNone_none, Option.isNone_some, Nat.reduceBEq, true_or, or_true, false_or, or_false, Nat.reduceLT, Nat.reduceMod, Nat.reducePow, rmaps, nsucc, List.flatten_cons, List.flatten_nil, Nat.reduceEqDiff, Nat.reduceLeDiff, Nat.reduceAdd, Nat.reduceMul, Nat.reduceSub, ↓reduceIte, reduceCtorEq, decide_true, decide_false]
    refine (stateErr15 c s hc hs).go (FZs.two (FZ.caseV c) (FZ.stV s)) ?_
    simp only [he, z0, Cd.cd9, Tk.t9, base0, base1, base2, base3, Option.isNone_none, Option.isNone_some, Nat.reduceBEq, true_or, or_true, false_or, or_false, Nat.reduceLT, Nat.reduceMod, Nat.reducePow, rmaps, nsucc, List.flatten_cons, List.flatten_nil, Nat.reduceEqDiff, Nat.reduceLeDiff, Nat.reduceAdd, Nat.reduceMul, Nat.reduceSub, ↓reduceIte, reduceCtorEq, decide_true, decide_false]
    refine (acts36 c s hV).go (FZs.two (FZ.caseV c) (FZ.stV s)) ?_
    simp only [acsV]
    simp only [z0, bne_self_eq_false, Cd.cd9, Tk.t9, base0, base1, base2, base3, Option.isNone_none, Option.isNone_some, Nat.reduceBEq, true_or, or_true, false_or, or_false, Nat.reduceLT, Nat.reduceMod, Nat.reducePow, rmaps, nsucc, List.flatten_cons, List.flatten_nil, Nat.reduceEqDiff, Nat.reduceLeDiff, Nat.reduceAdd, Nat.reduceMul, Nat.reduceSub, ↓reduceIte, reduceCtorEq, decide_true, decide_false]
    have hal : (actsOf c s 12).length < 2 ^ 40 := by have := actsTo_le c s 12 8; unfold actsOf; omega
    generalize hl : actsOf c s 12 = l at hal
    refine LWP.loop [] (fun m f H' => ∃ i, m = l.length - i ∧ (i ≤ l.length) ∧ f.t 13 = .v (.int .i64 (i : Nat)) ∧ f.t 3 = .box [.v (.int .i64 c.hosts), ints c.place, ints c.verd] ∧ f.t 4 = .box (stL s) ∧ f.t 5 = .box [.v (.int .i64 a.kind), .v (.int .i64 a.n)] ∧ f.t 7 = .lst 2 (l.map acR) .unk ∧ f.t 12 = .lst 2 (l.map acR) .unk ∧ f.t 9 = .ptr AH.none.next 0 ∧ f.t 10 = .v (.int .i64 y) ∧ f.ds = [] ∧ H'.own AH.none.next = some (.cells (stL x))) ?_ ?_ (m := l.length - (0))
    · exact ⟨0, rfl, (by omega), rfl, rfl, rfl, rfl, rfl, rfl, rfl, rfl, rfl, by simp [stL, plsV, hssV, pksV]⟩
    · rintro m f H' ⟨i, rfl, hi, f13, f3, f4, f5, f7, f12, f9, f10, hds, hw⟩
      simp only [stL, plsV, hssV, pksV] at f4 hw
      by_cases hlt : i < l.length
      · simp only [ltT hlt, List.length_map, inR hlt, Int.toNat_natCast, getD_map acR _ _ hlt, acR, beq_self_eq_true, f13, f3, f4, f5, f7, f12, f9, f10, hds, Cd.cd9, Tk.t9, base0, base1, base2, base3, Option.isNone_none, Option.isNone_some, Nat.reduceBEq, true_or, or_true, false_or, or_false, Nat.reduceLT, Nat.reduceMod, Nat.reducePow, rmaps, nsucc, List.flatten_cons, List.flatten_nil, Nat.reduceEqDiff, Nat.reduceLeDiff, Nat.reduceAdd, Nat.reduceMul, Nat.reduceSub, ↓reduceIte, reduceCtorEq, decide_true, decide_false]
        refine ⟨_, by omega, i + 1, rfl, by omega, ?_⟩
        (repeat' apply And.intro) <;> first | rfl | (rw [wrapS (by omega)]) | omega | assumption | (exact (by simp [hw, stL, plsV, hssV, pksV]))
      · simp only [ltF hlt, List.length_map, f13, f3, f4, f5, f7, f12, f9, f10, hds, Cd.cd9, Tk.t9, base0, base1, base2, base3, Option.isNone_none, Option.isNone_some, Nat.reduceBEq, true_or, or_true, false_or, or_false, Nat.reduceLT, Nat.reduceMod, Nat.reducePow, rmaps, nsucc, List.flatten_cons, List.flatten_nil, Nat.reduceEqDiff, Nat.reduceLeDiff, Nat.reduceAdd, Nat.reduceMul, Nat.reduceSub, ↓reduceIte, reduceCtorEq, decide_true, decide_false]
        refine (actErr37 c s hV a).go (FZs.three (FZ.caseV c) (FZ.stV s) (FZ.acV a)) ?_
        by_cases ha : actE c s a = 0
        · rw [if_pos ha] at hx2
          subst hx2 hx1
          simp only [ha, z0, z1, hw, f13, f3, f4, f5, f7, f12, f9, f10, hds, Cd.cd9, Tk.t9, base0, base1, base2, base3, Option.isNone_none, Option.isNone_some, Nat.reduceBEq, true_or, or_true, false_or, or_false, Nat.reduceLT, Nat.reduceMod, Nat.reducePow, rmaps, nsucc, List.flatten_cons, List.flatten_nil, Nat.reduceEqDiff, Nat.reduceLeDiff, Nat.reduceAdd, Nat.reduceMul, Nat.reduceSub, ↓reduceIte, reduceCtorEq, decide_true, decide_false]
          first | refine FCall.go (act38f c s a hV ha) (FZs.three (FZ.caseV c) (FZ.stV s) (FZ.acV a)) ?_ | refine FCall.go' (act38f c s a hV ha) (FZs.three (FZ.caseV c) (FZ.stV s) (FZ.acV a)) ?_ | refine FCall.goQ (act38f c s a hV ha) (FZs.three (FZ.caseV c) (FZ.stV s) (FZ.acV a)) ?_
          simp only [stV, stL, plsV, hssV, pksV]
          simp only [ha, z0, z1, hw, f13, f3, f4, f5, f7, f12, f9, f10, hds, Cd.cd9, Tk.t9, base0, base1, base2, base3, Option.isNone_none, Option.isNone_some, Nat.reduceBEq, true_or, or_true, false_or, or_false, Nat.reduceLT, Nat.reduceMod, Nat.reducePow, rmaps, nsucc, List.flatten_cons, List.flatten_nil, Nat.reduceEqDiff, Nat.reduceLeDiff, Nat.reduceAdd, Nat.reduceMul, Nat.reduceSub, ↓reduceIte, reduceCtorEq, decide_true, decide_false]
          first | refine FCall.go (same27 _ (hV.act ha).small) (FZs.two (FZ.stV _) (FZ.stV _)) ?_ | refine FCall.go' (same27 _ (hV.act ha).small) (FZs.two (FZ.stV _) (FZ.stV _)) ?_ | refine FCall.goQ (same27 _ (hV.act ha).small) (FZs.two (FZ.stV _) (FZ.stV _)) ?_
          simp only [f13, f3, f4, f5, f7, f12, f9, f10, hds, Cd.cd9, Tk.t9, base0, base1, base2, base3, Option.isNone_none, Option.isNone_some, Nat.reduceBEq, true_or, or_true, false_or, or_false, Nat.reduceLT, Nat.reduceMod, Nat.reducePow, rmaps, nsucc, List.flatten_cons, List.flatten_nil, Nat.reduceEqDiff, Nat.reduceLeDiff, Nat.reduceAdd, Nat.reduceMul, Nat.reduceSub, ↓reduceIte, reduceCtorEq, decide_true, decide_false]
          exact fin_v rfl
        · rw [if_neg ha] at hx2
          subst hx2 hx1
          simp only [show (actE c s a != 0) = true from by simp [ha], beq_self_eq_true, hw, f13, f3, f4, f5, f7, f12, f9, f10, hds, Cd.cd9, Tk.t9, base0, base1, base2, base3, Option.isNone_none, Option.isNone_some, Nat.reduceBEq, true_or, or_true, false_or, or_false, Nat.reduceLT, Nat.reduceMod, Nat.reducePow, rmaps, nsucc, List.flatten_cons, List.flatten_nil, Nat.reduceEqDiff, Nat.reduceLeDiff, Nat.reduceAdd, Nat.reduceMul, Nat.reduceSub, ↓reduceIte, reduceCtorEq, decide_true, decide_false]
          refine (same27 nilSt nil_small).bgo (Views.cons (FZ.stV nilSt).view (Views.cons nil_view Views.nil)) (Ground.v _) ?_
          simp only [f13, f3, f4, f5, f7, f12, f9, f10, hds, Cd.cd9, Tk.t9, base0, base1, base2, base3, Option.isNone_none, Option.isNone_some, Nat.reduceBEq, true_or, or_true, false_or, or_false, Nat.reduceLT, Nat.reduceMod, Nat.reducePow, rmaps, nsucc, List.flatten_cons, List.flatten_nil, Nat.reduceEqDiff, Nat.reduceLeDiff, Nat.reduceAdd, Nat.reduceMul, Nat.reduceSub, ↓reduceIte, reduceCtorEq, decide_true, decide_false]
          exact fin_v rfl
  · rw [if_neg he]
    simp only [acsV]
    simp only [Cd.cd9, Tk.t9, base0, base1, base2, base3, Option.isNone_none, Option.isNone_some, Nat.reduceBEq, true_or, or_true, false_or, or_false, Nat.reduceLT, Nat.reduceMod, Nat.reducePow, rmaps, nsucc, List.flatten_cons, List.flatten_nil, Nat.reduceEqDiff, Nat.reduceLeDiff, Nat.reduceAdd, Nat.reduceMul, Nat.reduceSub, ↓reduceIte, reduceCtorEq, decide_true, decide_false]
    first | refine FCall.go (ownCase13 c hc.p hc.v) (FZs.one (FZ.caseV c)) ?_ | refine FCall.go' (ownCase13 c hc.p hc.v) (FZs.one (FZ.caseV c)) ?_ | refine FCall.goQ (ownCase13 c hc.p hc.v) (FZs.one (FZ.caseV c)) ?_
    simp only [caseV]
    simp only [Cd.cd9, Tk.t9, base0, base1, base2, base3, Option.isNone_none, Option.isNone_some, Nat.reduceBEq, true_or, or_true, false_or, or_false, Nat.reduceLT, Nat.reduceMod, Nat.reducePow, rmaps, nsucc, List.flatten_cons, List.flatten_nil, Nat.reduceEqDiff, Nat.reduceLeDiff, Nat.reduceAdd, Nat.reduceMul, Nat.reduceSub, ↓reduceIte, reduceCtorEq, decide_true, decide_false]
    first | refine FCall.go (own17g hs) (FZs.one (FZ.stV s)) ?_ | refine FCall.go' (own17g hs) (FZs.one (FZ.stV s)) ?_ | refine FCall.goQ (own17g hs) (FZs.one (FZ.stV s)) ?_
    simp only [stV, stL, plsV, hssV, pksV]
    simp only [Cd.cd9, Tk.t9, base0, base1, base2, base3, Option.isNone_none, Option.isNone_some, Nat.reduceBEq, true_or, or_true, false_or, or_false, Nat.reduceLT, Nat.reduceMod, Nat.reducePow, rmaps, nsucc, List.flatten_cons, List.flatten_nil, Nat.reduceEqDiff, Nat.reduceLeDiff, Nat.reduceAdd, Nat.reduceMul, Nat.reduceSub, ↓reduceIte, reduceCtorEq, decide_true, decide_false]
    first | refine FCall.go (acted16 c s a hc hs) (FZs.three (FZ.caseV c) (FZ.stV s) (FZ.acV a)) ?_ | refine FCall.go' (acted16 c s a hc hs) (FZs.three (FZ.caseV c) (FZ.stV s) (FZ.acV a)) ?_ | refine FCall.goQ (acted16 c s a hc hs) (FZs.three (FZ.caseV c) (FZ.stV s) (FZ.acV a)) ?_
    rw [if_neg (by simp [he]), if_neg he]
    simp only [stV, stL, plsV, hssV, pksV]
    simp only [Cd.cd9, Tk.t9, base0, base1, base2, base3, Option.isNone_none, Option.isNone_some, Nat.reduceBEq, true_or, or_true, false_or, or_false, Nat.reduceLT, Nat.reduceMod, Nat.reducePow, rmaps, nsucc, List.flatten_cons, List.flatten_nil, Nat.reduceEqDiff, Nat.reduceLeDiff, Nat.reduceAdd, Nat.reduceMul, Nat.reduceSub, ↓reduceIte, reduceCtorEq, decide_true, decide_false]
    refine (stateErr15 c s hc hs).go (FZs.two (FZ.caseV c) (FZ.stV s)) ?_
    simp only [show ((checkState c s).2 != 0) = true from by simp [he], beq_self_eq_true, z1, Cd.cd9, Tk.t9, base0, base1, base2, base3, Option.isNone_none, Option.isNone_some, Nat.reduceBEq, true_or, or_true, false_or, or_false, Nat.reduceLT, Nat.reduceMod, Nat.reducePow, rmaps, nsucc, List.flatten_cons, List.flatten_nil, Nat.reduceEqDiff, Nat.reduceLeDiff, Nat.reduceAdd, Nat.reduceMul, Nat.reduceSub, ↓reduceIte, reduceCtorEq, decide_true, decide_false]
    refine (same27 nilSt nil_small).bgo (Views.cons (FZ.stV nilSt).view (Views.cons nil_view Views.nil)) (Ground.v _) ?_
    simp only [Cd.cd9, Tk.t9, base0, base1, base2, base3, Option.isNone_none, Option.isNone_some, Nat.reduceBEq, true_or, or_true, false_or, or_false, Nat.reduceLT, Nat.reduceMod, Nat.reducePow, rmaps, nsucc, List.flatten_cons, List.flatten_nil, Nat.reduceEqDiff, Nat.reduceLeDiff, Nat.reduceAdd, Nat.reduceMul, Nat.reduceSub, ↓reduceIte, reduceCtorEq, decide_true, decide_false]
    exact fin_v rfl
end Go.Proofs.Ytgmncggiblaciaa

/- Readers of the arguments. -/
namespace Go.Proofs.Ytgmncggiblaciaa
open Go Go.Proofs.Ytgmncggiblaciaa.Ab
set_option maxRecDepth 100000

theorem rdI : Rd Try.prog 3 (fun n : Int => [.v (.int .i64 n)]) (fun n => IntKind.i64.min ≤ n ∧ n ≤ IntKind.i64.max) := Rd.int Try.underlying3
theorem rdB : Rd Try.prog 4 (fun b : Bool => [.v (.bool b)]) (fun _ => True) := Rd.bool Try.underlying4
theorem rdInts : Rd Try.prog 22 (fun l : List Int => [ints l]) (fun _ => True) :=
  (Rd.slice Try.underlying22 (by kernel_rfl) (by decide) rdI (fun _ => rfl)).map (fun l : List Int => l) (fun _ => rfl) (fun _ _ => trivial)
theorem rdCase : Rd Try.prog 24 (fun c : Case => [.v (.int .i64 c.hosts), ints c.place, ints c.verd]) (fun _ => True) :=
  (Rd.struct Try.underlying24 rfl (by kernel_rfl) (RdF.cons (s := 1) rfl (by kernel_rfl) rdI (RdF.cons (s := 1) rfl (by kernel_rfl) rdInts (RdF.cons (s := 1) rfl (by kernel_rfl) rdInts RdF.nil)))).map
    (fun p => (⟨p.1, p.2.1, p.2.2.1⟩ : Case)) (fun _ => rfl) (fun _ _ => trivial)
theorem rdAc : Rd Try.prog 39 acR (fun _ => True) :=
  (Rd.struct Try.underlying39 rfl (by kernel_rfl) (RdF.cons (s := 1) rfl (by kernel_rfl) rdI (RdF.cons (s := 1) rfl (by kernel_rfl) rdI RdF.nil))).map
    (fun p => (⟨p.1, p.2.1⟩ : Ac)) (fun _ => rfl) (fun _ _ => trivial)
theorem rdPl : Rd Try.prog 68 plR (fun _ => True) :=
  (Rd.struct Try.underlying68 rfl (by kernel_rfl) (RdF.cons (s := 1) rfl (by kernel_rfl) rdI (RdF.cons (s := 1) rfl (by kernel_rfl) rdB (RdF.cons (s := 1) rfl (by kernel_rfl) rdB (RdF.cons (s := 1) rfl (by kernel_rfl) rdI RdF.nil))))).map
    (fun p => (⟨p.1, p.2.1, p.2.2.1, p.2.2.2.1⟩ : Pl)) (fun _ => rfl) (fun _ _ => trivial)
theorem rdPls : Rd Try.prog 29 (fun l : List Pl => [plsV l]) (fun _ => True) :=
  (Rd.slice Try.underlying29 (by kernel_rfl) (by decide) rdPl (fun _ => rfl)).map (fun l : List Pl => l) (fun _ => rfl) (fun _ _ => trivial)
theorem rdPt : Rd Try.prog 90 ptR (fun _ => True) :=
  (Rd.struct Try.underlying90 rfl (by kernel_rfl) (RdF.cons (s := 1) rfl (by kernel_rfl) rdI (RdF.cons (s := 1) rfl (by kernel_rfl) rdB (RdF.cons (s := 1) rfl (by kernel_rfl) rdB (RdF.cons (s := 1) rfl (by kernel_rfl) rdI (RdF.cons (s := 1) rfl (by kernel_rfl) rdI RdF.nil)))))).map
    (fun p => (⟨p.1, p.2.1, p.2.2.1, p.2.2.2.1, p.2.2.2.2.1⟩ : Pt)) (fun _ => rfl) (fun _ _ => trivial)
theorem rdPts : Rd Try.prog 78 (fun l : List Pt => [ptsV l]) (fun _ => True) :=
  (Rd.slice Try.underlying78 (by kernel_rfl) (by decide) rdPt (fun _ => rfl)).map (fun l : List Pt => l) (fun _ => rfl) (fun _ _ => trivial)
theorem rdHs : Rd Try.prog 80 hsR (fun _ => True) :=
  (Rd.struct Try.underlying80 rfl (by kernel_rfl) (RdF.cons (s := 1) rfl (by kernel_rfl) rdB (RdF.cons (s := 1) rfl (by kernel_rfl) rdPts RdF.nil))).map
    (fun p => (⟨p.1, p.2.1⟩ : Hs)) (fun _ => rfl) (fun _ _ => trivial)
theorem rdHss : Rd Try.prog 30 (fun l : List Hs => [hssV l]) (fun _ => True) :=
  (Rd.slice Try.underlying30 (by kernel_rfl) (by decide) rdHs (fun _ => rfl)).map (fun l : List Hs => l) (fun _ => rfl) (fun _ _ => trivial)
theorem rdPk : Rd Try.prog 92 pkR (fun _ => True) :=
  (Rd.struct Try.underlying92 rfl (by kernel_rfl) (RdF.cons (s := 1) rfl (by kernel_rfl) rdI (RdF.cons (s := 1) rfl (by kernel_rfl) rdI (RdF.cons (s := 1) rfl (by kernel_rfl) rdI (RdF.cons (s := 1) rfl (by kernel_rfl) rdI RdF.nil))))).map
    (fun p => (⟨p.1, p.2.1, p.2.2.1, p.2.2.2.1⟩ : Pk)) (fun _ => rfl) (fun _ _ => trivial)
theorem rdPks : Rd Try.prog 31 (fun l : List Pk => [pksV l]) (fun _ => True) :=
  (Rd.slice Try.underlying31 (by kernel_rfl) (by decide) rdPk (fun _ => rfl)).map (fun l : List Pk => l) (fun _ => rfl) (fun _ _ => trivial)
theorem rdSt : Rd Try.prog 33 stL (fun _ => True) :=
  (Rd.struct Try.underlying33 rfl (by kernel_rfl) (RdF.cons (s := 1) rfl (by kernel_rfl) rdPls (RdF.cons (s := 1) rfl (by kernel_rfl) rdI (RdF.cons (s := 1) rfl (by kernel_rfl) rdHss (RdF.cons (s := 1) rfl (by kernel_rfl) rdPks RdF.nil))))).map
    (fun p => (⟨p.1, p.2.1, p.2.2.1, p.2.2.2.1⟩ : Stt)) (fun _ => rfl) (fun _ _ => trivial)
theorem own : ownKnob Try.prog.godebug = none := by kernel_rfl
theorem laidOut : laidOutB Try.prog = true := by kernel_rfl
end Go.Proofs.Ytgmncggiblaciaa

/- The law holds: for every input it returns true, and each argument reads behind the call as it read before. No condition. -/
namespace Go.Proofs.Ytgmncggiblaciaa
open Go Go.Proofs.Ytgmncggiblaciaa.Ab Go.ChangeShapes Go.WideShapes Go.ChangeAt Go.RowKit
set_option maxRecDepth 100000

set_option maxHeartbeats 800000 in
theorem lift9 (os : Os) (started : os.Started) (H : Type) (enc : TypeId × Value → H) :
    ReturnsInHanded {} Try.checked os 9 .any (Rows.hostsActsSpec.pre6 enc Try.prog Try.f9 Rows.hostsActsRow.domain false) (Rows.hostsActsSpec.post enc Try.prog Try.f9 false true false false) := by
  refine returnsInHanded_of_change (C := Try.checked) own started (by kernel_rfl) Try.func9
    (ChangeSpec.witness6 (enc := enc) (C := Try.checked) false ⟨#[], #[.agg #[.int .i64 0, .slice none 0 0, .slice none 0 0], .agg #[.slice none 0 0, .int .i64 0, .slice none 0 0, .slice none 0 0], .agg #[.int .i64 0, .int .i64 0]], []⟩ 8 (by kernel_rfl) (by kernel_rfl) (by kernel_rfl) (by kernel_rfl)) ?_
  intro W base args ds gs before hval0 hW _ _
  have hval : ∀ (j : Nat) t v, Try.f9.params[j]? = some t → args[j]? = some v → Value.okWide Try.prog W .any base t v := hval0
  have hW' := hW
  obtain ⟨p, q, hA0, hV, rfl, _, _⟩ := hW
  have hA : DataW.TrodAll enc Try.prog W 0 (fun _ => true) true Try.f9.params.toList args.toList ds p := hA0
  rw [Try.params9] at hA hval
  obtain ⟨v0, v1, v2, d0, d1, d2, p0, p1, p2, rfl, rfl, rfl, h0, h1, h2⟩ := trodAll_three hA
  obtain ⟨rfl, rfl⟩ := trodVars_none hV
  obtain ⟨x0, -, hx0⟩ := arg_struct rdCase Try.underlying24 (hval 0 24 v0 rfl rfl) h0
  obtain ⟨x1, -, hx1⟩ := arg_struct rdSt Try.underlying33 (hval 1 33 v1 rfl rfl) h1
  obtain ⟨x2, -, hx2⟩ := arg_struct rdAc Try.underlying39 (hval 2 39 v2 rfl rfl) h2
  clear hA0 hval0
  simp only [List.append_nil] at hW'
  have hlt : ∀ x ∈ p0 ++ p1 ++ p2, x.block < W.heap.size := fun x hx => by simpa using hW'.lt x hx
  refine ((law9 x0 x1 x2).true (xs := #[v0, v1, v2]) (W := W) ⟨rfl, fun j hj => ?_⟩).mono fun e W' ⟨he, hb⟩ => ?_
  · match j, hj with
    | 0, _ => exact hx0
    | 1, _ => exact hx1
    | 2, _ => exact hx2
  subst he
  have harg0 : DataW.Trod enc Try.prog W' 0 (fun b => decide (b < W.heap.size)) true 24 (v0) d0 p0 :=
    Below.trod laidOut (by kernel_rfl) (of_decide_eq_true (by kernel_rfl)) h0 hb (fun x hx => hlt x (List.mem_append.2 (.inl (List.mem_append.2 (.inl hx)))))
  have harg1 : DataW.Trod enc Try.prog W' 0 (fun b => decide (b < W.heap.size)) true 33 (v1) d1 p1 :=
    Below.trod laidOut (by kernel_rfl) (of_decide_eq_true (by kernel_rfl)) h1 hb (fun x hx => hlt x (List.mem_append.2 (.inl (List.mem_append.2 (.inr hx)))))
  have harg2 : DataW.Trod enc Try.prog W' 0 (fun b => decide (b < W.heap.size)) true 39 (v2) d2 p2 :=
    Below.trod laidOut (by kernel_rfl) (of_decide_eq_true (by kernel_rfl)) h2 hb (fun x hx => hlt x (List.mem_append.2 (.inr hx)))
  refine ⟨_, rfl, _, _, _, [], _, [], hW', ?_, (by have h := trodAll_mk3 harg0 harg1 harg2; rw [← List.append_assoc] at h; exact h), rfl, hb.frame _, fun h => by cases h⟩
  exact trodAll_mk1 (shut_bool Try.underlying4 _)

theorem hostsActs : Rows.HostsActsSaid :=
  OpenClaim.holds_of_wide 9 Try.f9 rfl rfl rfl rfl rfl rfl rfl ⟨rfl, rfl, rfl, rfl, rfl⟩ rfl rfl rfl rfl rfl (by kernel_rfl) Try.func9 (by kernel_rfl)
    (of_decide_eq_true (by kernel_rfl)) (by unfold Func.isWrapper; first | (rw [if_pos (by decide +kernel)]; kernel_rfl) | (rw [if_neg (by decide +kernel)]; exact ⟨rfl, rfl⟩))
    (fun os started H enc _ => lift9 os started H enc)
end Go.Proofs.Ytgmncggiblaciaa

/- Part 4 of a proof: hostsSame holds for every input; no condition. -/
import Derived.Test.YtgmncggiblaciaaProg
import Derived.KernelRfl
import Derived.Test.YtgmncggiblaciaaRows
import Derived.ProofKit
import Derived.Test.YtgmncggiblaciaaAb0
import Derived.Test.YtgmncggiblaciaaAb1
import Derived.Test.YtgmncggiblaciaaAb2
import Derived.Test.YtgmncggiblaciaaAb3
import Derived.Test.YtgmncggiblaciaaAb4
import Derived.Test.YtgmncggiblaciaaAb5
import Derived.Test.YtgmncggiblaciaaAb6
import Derived.Test.YtgmncggiblaciaaAb7
import Derived.Test.YtgmncggiblaciaaAb8
import Derived.Test.YtgmncggiblaciaaAb8a
import Derived.Test.YtgmncggiblaciaaAb8b
import Derived.Test.YtgmncggiblaciaaAb8c
import Derived.Test.YtgmncggiblaciaaAb8d
import Derived.Test.YtgmncggiblaciaaAb9
import Derived.Test.YtgmncggiblaciaaAb10
import Derived.Test.YtgmncggiblaciaaAb11
import Derived.Test.YtgmncggiblaciaaAb12
import Derived.Test.YtgmncggiblaciaaAb13
import Derived.Test.YtgmncggiblaciaaAb14
import Derived.Test.YtgmncggiblaciaaAb15
import Derived.Test.YtgmncggiblaciaaAb16
import Derived.Test.YtgmncggiblaciaaAb17
import Derived.Test.YtgmncggiblaciaaAb18
import Derived.Test.YtgmncggiblaciaaAb19
import Derived.Test.YtgmncggiblaciaaAb20
import Derived.Test.YtgmncggiblaciaaAb21
import Derived.Test.YtgmncggiblaciaaQc3
set_option linter.unusedSimpArgs false
set_option linter.unusedVariables false
/- Walks: a state of the reference's own. -/
namespace Go.Proofs.Ytgmncggiblaciaa
open Go Go.Proofs.Ytgmncggiblaciaa.Ab
set_option maxRecDepth 100000

/-- a state whose hosts are being laid, one after the other -/
structure OwnJ (B : Nat) (H : AH) (s : Stt) (i p : Nat) (ah aq : AV) (o : List OH) : Prop where
  hp : H.own p = some (.cells (flatE plR s.placed))
  ha : (o = [] ∧ ah = nilS) ∨ ∃ h, ah = .sl 2 h 0 o.length ∧ H.own h = some (.cells (flatE hsO o))
  eq : o.map OH.hs = s.hosts.take i
  q : Arr pkR 4 H aq s.net
  m : ∀ y ∈ o, Arr ptR 5 H y.a y.parts
  dp : nmA ah ≠ some p
  dq : ∀ n, nmA aq = some n → n ≠ p ∧ nmA ah ≠ some n
  dm : ∀ y ∈ o, ∀ n, nmA y.a = some n → n ≠ p ∧ nmA ah ≠ some n ∧ nmA aq ≠ some n
  dd : ∀ i j, i < o.length → j < o.length → i ≠ j → ∀ n, nmA (o.getD i default).a = some n → nmA (o.getD j default).a ≠ some n
  lp : B ≤ p ∧ p < H.next
  lh : ∀ n, nmA ah = some n → B ≤ n ∧ n < H.next
  lq : ∀ n, nmA aq = some n → B ≤ n ∧ n < H.next
  lm : ∀ y ∈ o, ∀ n, nmA y.a = some n → B ≤ n ∧ n < H.next

theorem getD_snoc {α : Type} [Inhabited α] {l : List α} {x : α} {j : Nat} : (l ++ [x]).getD j default = if j = l.length then x else l.getD j default := by
  by_cases e : j = l.length
  · subst e; simp [List.getD_eq_getElem?_getD]
  · rw [if_neg e]
    by_cases h : j < l.length
    · rw [List.getD_eq_getElem?_getD, List.getElem?_append_left h, ← List.getD_eq_getElem?_getD]
    · simp [List.getD_eq_getElem?_getD, List.getElem?_eq_none (show l.length ≤ j by omega), List.getElem?_eq_none (show (l ++ [x]).length ≤ j by simp; omega)]

theorem OwnJ.step {B : Nat} {H H2 : AH} {s : Stt} {i p h' : Nat} {ah aq : AV} {o : List OH} {y : OH} (x : OwnJ B H s i p ah aq o) (hi : i < s.hosts.length) (hy : y.hs = s.hosts.getD i default) (hv : Arr ptR 5 H2 y.a y.parts)
    (hnv : ∀ n, nmA y.a = some n → H.next ≤ n ∧ n < H2.next ∧ n ≠ h') (hh : H2.own h' = some (.cells (flatE hsO (o ++ [y])))) (hn : H.next ≤ h' ∧ h' < H2.next)
    (hk : ∀ n, B ≤ n → n < H.next → nmA ah ≠ some n → H2.own n = H.own n) : OwnJ B H2 s (i + 1) p (.sl 2 h' 0 (o.length + 1)) aq (o ++ [y]) := by
  have hlp := x.lp
  refine ⟨?_, .inr ⟨h', by simp, hh⟩, ?_, x.q.mono fun n hn' => ?_, fun z hz => ?_, fun e => ?_, fun n hn' => ?_, fun z hz n hn' => ?_, fun a b ha' hb' hab n hn' => ?_, by omega, fun n hn' => ?_, fun n hn' => ?_, fun z hz n hn' => ?_⟩
  · rw [hk p hlp.1 hlp.2 x.dp]; exact x.hp
  · rw [List.map_append, x.eq, take_succ_getD hi]; simp [hy]
  · exact hk n (x.lq n hn').1 (x.lq n hn').2 (x.dq n hn').2
  · rcases List.mem_append.mp hz with hz | hz
    · exact (x.m z hz).mono fun n hn' => hk n (x.lm z hz n hn').1 (x.lm z hz n hn').2 (x.dm z hz n hn').2.1
    · simp only [List.mem_singleton] at hz; subst hz; exact hv
  · simp only [nmA, Option.some.injEq] at e; omega
  · have h1 := x.lq n hn'
    exact ⟨(x.dq n hn').1, fun e => by simp only [nmA, Option.some.injEq] at e; omega⟩
  · rcases List.mem_append.mp hz with hz | hz
    · have h1 := x.lm z hz n hn'
      exact ⟨(x.dm z hz n hn').1, fun e => by simp only [nmA, Option.some.injEq] at e; omega, (x.dm z hz n hn').2.2⟩
    · simp only [List.mem_singleton] at hz; subst hz
      have h1 := hnv n hn'
      exact ⟨by omega, fun e => by simp only [nmA, Option.some.injEq] at e; omega, fun e => by have := x.lq n e; omega⟩
  · simp only [List.length_append, List.length_cons, List.length_nil] at ha' hb'
    rw [getD_snoc] at hn' ⊢
    by_cases e1 : a = o.length <;> by_cases e2 : b = o.length
    · omega
    · rw [if_pos e1] at hn'; rw [if_neg e2]
      have h1 := hnv n hn'
      intro e; have := x.lm _ (getD_mem (show b < o.length by omega)) n e; omega
    · rw [if_neg e1] at hn'; rw [if_pos e2]
      intro e
      have h1 := hnv n e; have := x.lm _ (getD_mem (show a < o.length by omega)) n hn'; omega
    · rw [if_neg e1] at hn'; rw [if_neg e2]; exact x.dd a b (by omega) (by omega) hab n hn'
  · simp only [nmA, Option.some.injEq] at hn'; omega
  · have := x.lq n hn'; omega
  · rcases List.mem_append.mp hz with hz | hz
    · have := x.lm z hz n hn'; omega
    · simp only [List.mem_singleton] at hz; subst hz; have := hnv n hn'; omega

theorem OwnJ.own {B : Nat} {H : AH} {s : Stt} {p : Nat} {ah aq : AV} {o : List OH} (x : OwnJ B H s s.hosts.length p ah aq o) (h0 : 0 < s.hosts.length) :
    ∃ h, ah = .sl 2 h 0 o.length ∧ OwnS H s p h aq o ∧ ∀ n, NmS p h aq o n → B ≤ n ∧ n < H.next := by
  have heq := x.eq
  rw [List.take_length] at heq
  rcases x.ha with ⟨rfl, _⟩ | ⟨h, rfl, hh⟩
  · rw [← heq] at h0; simp at h0
  · refine ⟨h, rfl, ⟨x.hp, hh, heq.symm, x.q, x.m, fun e => x.dp (by rw [e]; rfl), fun n hn => ⟨(x.dq n hn).1, fun e => (x.dq n hn).2 (by rw [e]; rfl)⟩, fun y hy n hn => ⟨(x.dm y hy n hn).1, fun e => (x.dm y hy n hn).2.1 (by rw [e]; rfl), (x.dm y hy n hn).2.2⟩, x.dd⟩, fun n hn => ?_⟩
    rcases hn with rfl | rfl | hn | ⟨y, hy, hn⟩
    · exact x.lp
    · exact x.lh n rfl
    · exact x.lq n hn
    · exact x.lm y hy n hn

set_option maxHeartbeats 2000000 in
theorem own17 (s : Stt) (H : AH) (hs : SmallS s) (h1 : 0 < s.placed.length) (h2 : 0 < s.hosts.length) : ACall Try.prog 17 [stV s] H (fun out H' => ∃ cs, out = .ret (.agg cs) ∧ NewS H s cs H') := by
  have hsh := hs.h; have hsp := hs.p; have hsn := hs.n
  have hl' : (s.placed.length = 0) = False := eq_false (by omega)
  simp only [stV, stL]
  obtain ⟨n2, hn2⟩ : ∃ n2, n2 = H.next := ⟨_, rfl⟩
  have hcase : s.net = [] ∨ ((s.net.length = 0) = False ∧ s.net ≠ []) := by
    by_cases h : s.net = []
    · exact .inl h
    · exact .inr ⟨eq_false (by simpa using h), h⟩
  rcases hcase with hn0 | ⟨hn0, hn0'⟩
  all_goals
    refine ACall.enter [8, 14, 38, 41] Cd.fn17 (by simp) ?_
    simp only [plsV, pksV, hn0, List.length_map, hl', show roomA 24 s.placed.length = true from room_of (by omega) (by omega), show roomA 32 s.net.length = true from room_of (by omega) (by omega), Cd.cd17, Tk.t17, base0, base1, base2, base3, Option.isNone_none, Option.isNone_some, Nat.reduceBEq, true_or, or_true, false_or, or_false, Nat.reduceLT, Nat.reduceMod, Nat.reducePow, rmaps, nsucc, List.flatten_cons, List.flatten_nil, Nat.reduceEqDiff, Nat.reduceLeDiff, Nat.reduceAdd, Nat.reduceMul, Nat.reduceSub, ↓reduceIte, reduceCtorEq, decide_true, decide_false]
    obtain ⟨aq, haq⟩ : ∃ aq, aq = if s.net = [] then AV.lst 4 [] .full else AV.sl 4 (n2 + 3) 0 s.net.length := ⟨_, rfl⟩
    refine LWP.loop [8, 14, 38, 41] (fun m f H' => ∃ i, m = s.hosts.length - i ∧ (i ≤ s.hosts.length) ∧ f.t 4 = .v (.int .i64 (i : Nat)) ∧ f.t 3 = .ptr (n2 + 1) 0 ∧ f.t 2 = .ptr n2 0 ∧ f.t 1 = .box (stL s) ∧ f.ds = [] ∧ ∃ o ah, OwnJ (n2 + 2) H' s i (n2 + 2) ah aq o ∧ H'.own (n2 + 1) = some (.cells [.sl 4 (n2 + 2) 0 s.placed.length, .v (.int .i64 s.v), ah, aq]) ∧ H'.own n2 = some (.cells [.v (.slice none 0 0), .v (.int .i64 0), .v (.slice none 0 0), .v (.slice none 0 0)]) ∧ H'.tip = H.tip ∧ n2 + 2 ≤ H'.next ∧ (∀ n, n < H.next → H'.own n = H.own n)) ?_ ?_ (m := s.hosts.length - (0))
    · exact ⟨0, rfl, (by omega), rfl, by rw [hn2]; rfl, by rw [hn2]; rfl, by simp [stL, plsV, pksV, upd, hn0], rfl, by refine ⟨[], nilS, ⟨?_, .inl ⟨rfl, rfl⟩, by simp, ?_, fun y hy => by simp at hy, fun e => by simp [nilS, nmA] at e, fun n hn => ?_, fun y hy => by simp at hy, fun i j h => by simp at h, ⟨Nat.le_refl _, ?_⟩, fun n hn => by simp [nilS, nmA] at hn, fun n hn => ?_, fun y hy => by simp at hy⟩, ?_, ?_, ?_, ?_, fun n hn => ?_⟩ <;> first   | (simp [hn2, flatE]; done)   | (simp [haq, hn0, hn2, nilS]; done)   | (simp [hn0]; exact .inl ⟨hn0, .inr (by rw [haq, if_pos hn0])⟩)   | (simp only [hn0, if_true] at haq; subst haq; exact .inl ⟨hn0, .inr rfl⟩)   | (rw [if_neg hn0'] at haq; subst haq; exact .inr ⟨_, [], rfl, by simp [hn2, flatE]⟩)   | (simp only [hn0, if_true] at haq; subst haq; cases hn)   | (rw [if_neg hn0'] at haq; subst haq; cases hn; first | omega | (simp [hn2, nilS, nmA]; done) | (simp [hn2, nilS, nmA]; omega))   | (rw [if_neg hn0'] at haq; subst haq; simp [hn2, nilS]; done)   | (simp only [hn2, nsucc, if_false, if_true]; done)   | (simp [hn2, show n ≠ H.next by omega, show n ≠ H.next + 1 by omega, show n ≠ H.next + 2 by omega, show n ≠ H.next + 3 by omega]; done)⟩
    · rintro m f H' ⟨i, rfl, hi, f4, f3, f2, f1, hds, ⟨o,ah,hJ,hb3,hb2,ht,hx,hkk⟩⟩
      have hoi : o.length = i := by have := congrArg List.length hJ.eq; simp at this; omega
      by_cases hlt : i < s.hosts.length
      · have hpb := hs.q' i
        have hlt' := ltT hlt
        have hpc : (s.hosts.getD i default).parts = [] ∨ (((s.hosts.getD i default).parts.length = 0) = False ∧ (s.hosts.getD i default).parts ≠ []) := by
          by_cases h : (s.hosts.getD i default).parts = []
          · exact .inl h
          · exact .inr ⟨eq_false (by simpa using h), h⟩
        simp only [stL, hssV] at f1
        rcases hpc with hpe | ⟨hpl, hpl'⟩
        · rcases hJ.ha with ⟨rfl, rfl⟩ | ⟨h, rfl, hh⟩
          ·
            have g1 : (n2 + 1 = H'.next) = False := eq_false (by omega)
            have g2 : (n2 + 1 = H'.next + 1) = False := eq_false (by omega)
            have g3 : (n2 + 1 = n2) = False := eq_false (by omega)
            simp only [hb3, hlt', inR hlt, Int.toNat_natCast, getD_map hsR _ _ hlt, hsR, ptsV, List.length_map, g1, g2, g3, nilS, hpe, show roomA 32 1 = true from rfl, f4, f3, f2, f1, hds, Cd.cd17, Tk.t17, base0, base1, base2, base3, Option.isNone_none, Option.isNone_some, Nat.reduceBEq, true_or, or_true, false_or, or_false, Nat.reduceLT, Nat.reduceMod, Nat.reducePow, rmaps, nsucc, List.flatten_cons, List.flatten_nil, Nat.reduceEqDiff, Nat.reduceLeDiff, Nat.reduceAdd, Nat.reduceMul, Nat.reduceSub, ↓reduceIte, reduceCtorEq, decide_true, decide_false]
            refine ⟨fun n hn => by first | trivial | (simp at hn; subst hn; simp [show n2 + 1 ≠ H'.next by omega]), _, by omega, i + 1, rfl, by omega, by rw [wrapS (by omega)], rfl, [⟨(s.hosts.getD i default).lost, AV.lst 5 [] .full, (s.hosts.getD i default).parts⟩], .sl 2 H'.next 0 (1), ?_⟩
            refine ⟨hJ.step (y := ⟨(s.hosts.getD i default).lost, AV.lst 5 [] .full, (s.hosts.getD i default).parts⟩) hlt rfl (.inl ⟨hpe, .inr rfl⟩) (fun n hn => by cases hn) (by simp [show H'.next ≠ n2 by omega, show H'.next ≠ n2 + 1 by omega, show H'.next + 1 ≠ n2 + 1 by omega, show n2 ≠ H'.next by omega, show n2 ≠ H'.next + 1 by omega, hsO, flatE]) ⟨by omega, by simp <;> omega⟩ (fun n e0 e1 e2 => by simp [show n ≠ n2 + 1 by omega, show n ≠ H'.next by omega]), ?_, ?_, ht, ?_, fun n hn => ?_⟩
            · simp
            · simp [show H'.next ≠ n2 by omega, show H'.next ≠ n2 + 1 by omega, show H'.next + 1 ≠ n2 + 1 by omega, show n2 ≠ H'.next by omega, show n2 ≠ H'.next + 1 by omega, hb2]
            · first | omega | (simp; omega)
            · simp [show n ≠ n2 + 1 by omega, show n ≠ H'.next by omega]; exact hkk n hn
          ·
            have g1 : (n2 + 1 = H'.next) = False := eq_false (by omega)
            have g2 : (n2 + 1 = H'.next + 1) = False := eq_false (by omega)
            have g3 : (n2 + 1 = n2) = False := eq_false (by omega)
            have hlh := hJ.lh h rfl
            have g4 : (n2 + 1 = h) = False := eq_false (by omega)
            have g5 : (h = H'.next) = False := eq_false (by omega)
            have g6 : (h = n2 + 1) = False := eq_false (by omega)
            have g7 : (h = H'.next + 1) = False := eq_false (by omega)
            have elen : o.length * 2 ≤ (flatE hsO o).length := by rw [flatE_len hsO_len]; omega
            have etk : List.take (o.length * 2) (flatE hsO o) = flatE hsO o := by rw [← flatE_len hsO_len, List.take_length]
            simp only [hb3, hlt', inR hlt, Int.toNat_natCast, getD_map hsR _ _ hlt, hsR, ptsV, List.length_map, g1, g2, g3, nilS, hpe, hh, elen, etk, room1 (b := 32) (n := o.length) (by omega) (by omega), g4, g5, g6, g7, f4, f3, f2, f1, hds, Cd.cd17, Tk.t17, base0, base1, base2, base3, Option.isNone_none, Option.isNone_some, Nat.reduceBEq, true_or, or_true, false_or, or_false, Nat.reduceLT, Nat.reduceMod, Nat.reducePow, rmaps, nsucc, List.flatten_cons, List.flatten_nil, Nat.reduceEqDiff, Nat.reduceLeDiff, Nat.reduceAdd, Nat.reduceMul, Nat.reduceSub, ↓reduceIte, reduceCtorEq, decide_true, decide_false]
            refine ⟨fun n hn => by first | trivial | (simp at hn; subst hn; simp [show n2 + 1 ≠ H'.next by omega]), _, by omega, i + 1, rfl, by omega, by rw [wrapS (by omega)], rfl, o ++ [⟨(s.hosts.getD i default).lost, AV.lst 5 [] .full, (s.hosts.getD i default).parts⟩], .sl 2 H'.next 0 (o.length + 1), ?_⟩
            refine ⟨hJ.step (y := ⟨(s.hosts.getD i default).lost, AV.lst 5 [] .full, (s.hosts.getD i default).parts⟩) hlt rfl (.inl ⟨hpe, .inr rfl⟩) (fun n hn => by cases hn) (by simp [show H'.next ≠ n2 by omega, show H'.next ≠ n2 + 1 by omega, show H'.next + 1 ≠ n2 + 1 by omega, show n2 ≠ H'.next by omega, show n2 ≠ H'.next + 1 by omega, show H'.next ≠ h by omega, show H'.next + 1 ≠ h by omega, show n2 ≠ h by omega, hsO, flatE]) ⟨by omega, by simp <;> omega⟩ (fun n e0 e1 e2 => by simp [show n ≠ n2 + 1 by omega, show n ≠ H'.next by omega, show n ≠ h from fun e => e2 (by rw [e]; rfl)]), ?_, ?_, ht, ?_, fun n hn => ?_⟩
            · simp
            · simp [show H'.next ≠ n2 by omega, show H'.next ≠ n2 + 1 by omega, show H'.next + 1 ≠ n2 + 1 by omega, show n2 ≠ H'.next by omega, show n2 ≠ H'.next + 1 by omega, show H'.next ≠ h by omega, show H'.next + 1 ≠ h by omega, show n2 ≠ h by omega, hb2]
            · first | omega | (simp; omega)
            · simp [show n ≠ n2 + 1 by omega, show n ≠ H'.next by omega, show n ≠ h by omega]; exact hkk n hn
        · rcases hJ.ha with ⟨rfl, rfl⟩ | ⟨h, rfl, hh⟩
          ·
            have g1 : (n2 + 1 = H'.next) = False := eq_false (by omega)
            have g2 : (n2 + 1 = H'.next + 1) = False := eq_false (by omega)
            have g3 : (n2 + 1 = n2) = False := eq_false (by omega)
            simp only [hb3, hlt', inR hlt, Int.toNat_natCast, getD_map hsR _ _ hlt, hsR, ptsV, List.length_map, g1, g2, g3, nilS, hpl, show roomA 32 (s.hosts.getD i default).parts.length = true from room_of (by omega) (by omega), show roomA 32 1 = true from rfl, f4, f3, f2, f1, hds, Cd.cd17, Tk.t17, base0, base1, base2, base3, Option.isNone_none, Option.isNone_some, Nat.reduceBEq, true_or, or_true, false_or, or_false, Nat.reduceLT, Nat.reduceMod, Nat.reducePow, rmaps, nsucc, List.flatten_cons, List.flatten_nil, Nat.reduceEqDiff, Nat.reduceLeDiff, Nat.reduceAdd, Nat.reduceMul, Nat.reduceSub, ↓reduceIte, reduceCtorEq, decide_true, decide_false]
            refine ⟨fun n hn => by first | trivial | (simp at hn; subst hn; simp [show n2 + 1 ≠ H'.next by omega]), _, by omega, i + 1, rfl, by omega, by rw [wrapS (by omega)], rfl, [⟨(s.hosts.getD i default).lost, AV.sl 5 H'.next 0 (s.hosts.getD i default).parts.length, (s.hosts.getD i default).parts⟩], .sl 2 (H'.next + 1) 0 (1), ?_⟩
            refine ⟨hJ.step (y := ⟨(s.hosts.getD i default).lost, AV.sl 5 H'.next 0 (s.hosts.getD i default).parts.length, (s.hosts.getD i default).parts⟩) hlt rfl (.inr ⟨H'.next, [], rfl, by simp [show H'.next ≠ n2 by omega, show H'.next ≠ n2 + 1 by omega, show H'.next + 1 ≠ n2 + 1 by omega, show n2 ≠ H'.next by omega, show n2 ≠ H'.next + 1 by omega, flatE]⟩) (fun n hn => by cases hn; exact ⟨Nat.le_refl _, by simp <;> omega, by omega⟩) (by simp [show H'.next ≠ n2 by omega, show H'.next ≠ n2 + 1 by omega, show H'.next + 1 ≠ n2 + 1 by omega, show n2 ≠ H'.next by omega, show n2 ≠ H'.next + 1 by omega, hsO, flatE]) ⟨by omega, by simp <;> omega⟩ (fun n e0 e1 e2 => by simp [show n ≠ n2 + 1 by omega, show n ≠ H'.next by omega, show n ≠ H'.next + 1 by omega]), ?_, ?_, ht, ?_, fun n hn => ?_⟩
            · simp
            · simp [show H'.next ≠ n2 by omega, show H'.next ≠ n2 + 1 by omega, show H'.next + 1 ≠ n2 + 1 by omega, show n2 ≠ H'.next by omega, show n2 ≠ H'.next + 1 by omega, hb2]
            · first | omega | (simp; omega)
            · simp [show n ≠ n2 + 1 by omega, show n ≠ H'.next by omega, show n ≠ H'.next + 1 by omega]; exact hkk n hn
          ·
            have g1 : (n2 + 1 = H'.next) = False := eq_false (by omega)
            have g2 : (n2 + 1 = H'.next + 1) = False := eq_false (by omega)
            have g3 : (n2 + 1 = n2) = False := eq_false (by omega)
            have hlh := hJ.lh h rfl
            have g4 : (n2 + 1 = h) = False := eq_false (by omega)
            have g5 : (h = H'.next) = False := eq_false (by omega)
            have g6 : (h = n2 + 1) = False := eq_false (by omega)
            have g7 : (h = H'.next + 1) = False := eq_false (by omega)
            have elen : o.length * 2 ≤ (flatE hsO o).length := by rw [flatE_len hsO_len]; omega
            have etk : List.take (o.length * 2) (flatE hsO o) = flatE hsO o := by rw [← flatE_len hsO_len, List.take_length]
            simp only [hb3, hlt', inR hlt, Int.toNat_natCast, getD_map hsR _ _ hlt, hsR, ptsV, List.length_map, g1, g2, g3, nilS, hpl, show roomA 32 (s.hosts.getD i default).parts.length = true from room_of (by omega) (by omega), hh, elen, etk, room1 (b := 32) (n := o.length) (by omega) (by omega), g4, g5, g6, g7, f4, f3, f2, f1, hds, Cd.cd17, Tk.t17, base0, base1, base2, base3, Option.isNone_none, Option.isNone_some, Nat.reduceBEq, true_or, or_true, false_or, or_false, Nat.reduceLT, Nat.reduceMod, Nat.reducePow, rmaps, nsucc, List.flatten_cons, List.flatten_nil, Nat.reduceEqDiff, Nat.reduceLeDiff, Nat.reduceAdd, Nat.reduceMul, Nat.reduceSub, ↓reduceIte, reduceCtorEq, decide_true, decide_false]
            refine ⟨fun n hn => by first | trivial | (simp at hn; subst hn; simp [show n2 + 1 ≠ H'.next by omega]), _, by omega, i + 1, rfl, by omega, by rw [wrapS (by omega)], rfl, o ++ [⟨(s.hosts.getD i default).lost, AV.sl 5 H'.next 0 (s.hosts.getD i default).parts.length, (s.hosts.getD i default).parts⟩], .sl 2 (H'.next + 1) 0 (o.length + 1), ?_⟩
            refine ⟨hJ.step (y := ⟨(s.hosts.getD i default).lost, AV.sl 5 H'.next 0 (s.hosts.getD i default).parts.length, (s.hosts.getD i default).parts⟩) hlt rfl (.inr ⟨H'.next, [], rfl, by simp [show H'.next ≠ n2 by omega, show H'.next ≠ n2 + 1 by omega, show H'.next + 1 ≠ n2 + 1 by omega, show n2 ≠ H'.next by omega, show n2 ≠ H'.next + 1 by omega, show H'.next ≠ h by omega, show H'.next + 1 ≠ h by omega, show n2 ≠ h by omega, flatE]⟩) (fun n hn => by cases hn; exact ⟨Nat.le_refl _, by simp <;> omega, by omega⟩) (by simp [show H'.next ≠ n2 by omega, show H'.next ≠ n2 + 1 by omega, show H'.next + 1 ≠ n2 + 1 by omega, show n2 ≠ H'.next by omega, show n2 ≠ H'.next + 1 by omega, show H'.next ≠ h by omega, show H'.next + 1 ≠ h by omega, show n2 ≠ h by omega, hsO, flatE]) ⟨by omega, by simp <;> omega⟩ (fun n e0 e1 e2 => by simp [show n ≠ n2 + 1 by omega, show n ≠ H'.next by omega, show n ≠ H'.next + 1 by omega, show n ≠ h from fun e => e2 (by rw [e]; rfl)]), ?_, ?_, ht, ?_, fun n hn => ?_⟩
            · simp
            · simp [show H'.next ≠ n2 by omega, show H'.next ≠ n2 + 1 by omega, show H'.next + 1 ≠ n2 + 1 by omega, show n2 ≠ H'.next by omega, show n2 ≠ H'.next + 1 by omega, show H'.next ≠ h by omega, show H'.next + 1 ≠ h by omega, show n2 ≠ h by omega, hb2]
            · first | omega | (simp; omega)
            · simp [show n ≠ n2 + 1 by omega, show n ≠ H'.next by omega, show n ≠ H'.next + 1 by omega, show n ≠ h by omega]; exact hkk n hn
      · have hi' : i = s.hosts.length := by omega
        subst hi'
        obtain ⟨h, rfl, hO, hnm⟩ := hJ.own h2
        simp only [stL, hssV] at f1
        have one3 : (AV.one aq) = true := by rw [haq]; split <;> rfl
        have g3 : (n2 + 1 = n2) = False := eq_false (by omega)
        have hol : o.length = s.hosts.length := hoi
        have hfin : ∀ v : List AV, v = stO s (n2 + 2) h aq o → ∀ H2 : AH, H2.tip = H'.tip → H'.next ≤ H2.next → (∀ n, n ≠ n2 → H2.own n = H'.own n) → ∃ cs, AOut.ret (.agg v) = .ret (.agg cs) ∧ NewS H s cs H2 := fun v hv H2 e1 e2 e3 =>
          ⟨v, rfl, ⟨_, _, _, _, hv, hO.frame fun n hn => e3 n (by have := hnm n hn; omega), fun n hn => by have := hnm n hn; omega⟩, by rw [e1]; exact ht, by omega, fun n hn => by rw [e3 n (by omega)]; exact hkk n hn⟩
        by_cases hn : s.net = []
        · rw [if_pos hn] at haq
          rw [haq] at hb3
          simp only [List.length_map, ltF hlt, hb3, hb2, g3, f4, f3, f2, f1, hds, Cd.cd17, Tk.t17, base0, base1, base2, base3, Option.isNone_none, Option.isNone_some, Nat.reduceBEq, true_or, or_true, false_or, or_false, Nat.reduceLT, Nat.reduceMod, Nat.reducePow, rmaps, nsucc, List.flatten_cons, List.flatten_nil, Nat.reduceEqDiff, Nat.reduceLeDiff, Nat.reduceAdd, Nat.reduceMul, Nat.reduceSub, ↓reduceIte, reduceCtorEq, decide_true, decide_false]
          exact hfin _ (by rw [stO, haq, hol]) _ rfl (Nat.le_refl _) fun n hn => by simp [hn]
        · rw [if_neg hn] at haq
          rw [haq] at hb3
          simp only [List.length_map, ltF hlt, hb3, hb2, g3, f4, f3, f2, f1, hds, Cd.cd17, Tk.t17, base0, base1, base2, base3, Option.isNone_none, Option.isNone_some, Nat.reduceBEq, true_or, or_true, false_or, or_false, Nat.reduceLT, Nat.reduceMod, Nat.reducePow, rmaps, nsucc, List.flatten_cons, List.flatten_nil, Nat.reduceEqDiff, Nat.reduceLeDiff, Nat.reduceAdd, Nat.reduceMul, Nat.reduceSub, ↓reduceIte, reduceCtorEq, decide_true, decide_false]
          exact hfin _ (by rw [stO, haq, hol]) _ rfl (Nat.le_refl _) fun n hn => by simp [hn]
end Go.Proofs.Ytgmncggiblaciaa

/- Walks: the reference's packets, and what is taken. -/
namespace Go.Proofs.Ytgmncggiblaciaa
open Go Go.Proofs.Ytgmncggiblaciaa.Ab
set_option maxRecDepth 100000

/-- a list of the call's own, with another one in its place -/
def NextA {α : Type} (enc : α → List AV) (k : Nat) (H : AH) (a : AV) (l : List α) (v : AV) (H' : AH) : Prop :=
  Arr enc k H' v l ∧ (nmA v = nmA a ∨ (nmA v = some H.next ∧ H.next < H'.next)) ∧ H'.tip = H.tip ∧ H.next ≤ H'.next ∧ ∀ m, m < H.next → nmA a ≠ some m → H'.own m = H.own m

end Go.Proofs.Ytgmncggiblaciaa

/- Walks: the reference takes, and delivers. -/
namespace Go.Proofs.Ytgmncggiblaciaa
open Go Go.Proofs.Ytgmncggiblaciaa.Ab
set_option maxRecDepth 100000

section
variable {H H' : AH} {s : Stt} {p h : Nat} {aq : AV} {o : List OH}
end

/-- a state by value, of the call's own -/
def OwnV (B : Nat) (H : AH) (cs : List AV) (s : Stt) : Prop := ∃ p h aq o, cs = stO s p h aq o ∧ OwnS H s p h aq o ∧ ∀ n, NmS p h aq o n → B ≤ n ∧ n < H.next
def DoneV (B : Nat) (H : AH) (s : Stt) (out : AOut) (H' : AH) : Prop := ∃ cs, out = .ret (.agg cs) ∧ Fr B H H' ∧ OwnV B H' cs s
theorem one_aq {H : AH} {aq : AV} {l : List Pk} (h : Arr pkR 4 H aq l) : AV.one aq = true := by
  rcases h with ⟨_, rfl | rfl⟩ | ⟨n, rest, rfl, _⟩ <;> rfl
theorem cells_aq {H : AH} {aq : AV} {l : List Pk} (h : Arr pkR 4 H aq l) : cellsA aq = some [aq] := by
  rcases h with ⟨_, rfl | rfl⟩ | ⟨n, rest, rfl, _⟩ <;> rfl

/-- what `take` leaves -/
def TakeX (H : AH) (s : Stt) (p h : Nat) (aq : AV) (o : List OH) (out : AOut) (H' : AH) : Prop := out = .ret (.agg (stO s p h aq o)) ∧ OwnS H' s p h aq o ∧ H'.tip = H.tip ∧ H.next ≤ H'.next ∧ ∀ m, m < H.next → m ≠ p → H'.own m = H.own m
end Go.Proofs.Ytgmncggiblaciaa

/- Walks: the reference delivers. -/
namespace Go.Proofs.Ytgmncggiblaciaa
open Go Go.Proofs.Ytgmncggiblaciaa.Ab
set_option maxRecDepth 100000

section
variable {B : Nat} {H H' : AH} {r : Nat} {c : List AV} {s : Stt} {p h : Nat} {aq : AV} {o : List OH}
theorem OwnX.cells (x : OwnX B H r [] s p h aq o) : H.own r = some (.cells [.sl 4 p 0 s.placed.length, .v (.int .i64 s.v), .sl 2 h 0 o.length, aq]) := x.rb
/-- a state by value gets a block -/
theorem OwnV.box {cs : List AV} (x : OwnV B H cs s) (hB : B ≤ H.next) (h1 : H.next < H'.next) (h2 : H'.own H.next = some (.cells cs)) (h3 : ∀ m, m < H.next → H'.own m = H.own m) : ∃ p h aq o, cs = stO s p h aq o ∧ OwnX B H' H.next [] s p h aq o := by
  obtain ⟨p, h, aq, o, rfl, x, hn⟩ := x
  exact ⟨p, h, aq, o, rfl, h2, x.frame fun n hm => h3 n (hn n hm).2, fun n hm => by have := hn n hm; omega, hB, h1⟩
end
theorem NextA.go {P : Program} {m : FuncId} {args : List AV} {H : AH} {a : AV} {l : List Pk} {mu : List Nat} {Kt : Kont} {dst : Option Nat} {os : List COp} {f : AF}
    (h : ACall P m args H (fun out H' => ∃ v, out = .ret v ∧ NextA pkR 4 H a l v H')) (h' : ∀ v H', NextA pkR 4 H a l v H' → cops P mu Kt os (f.put dst v) H') : ACall P m args H (callK P mu Kt dst os f) :=
  h.mono fun out H' hx => by
    obtain ⟨v, rfl, hn⟩ := hx
    exact h' v H' hn
theorem DoneV.go {P : Program} {m : FuncId} {args : List AV} {H : AH} {B : Nat} {s : Stt} {mu : List Nat} {Kt : Kont} {dst : Option Nat} {os : List COp} {f : AF}
    (h : ACall P m args H (DoneV B H s)) (h' : ∀ cs H', Fr B H H' → OwnV B H' cs s → cops P mu Kt os (f.put dst (.agg cs)) H') : ACall P m args H (callK P mu Kt dst os f) :=
  h.mono fun out H' hx => by
    obtain ⟨cs, rfl, h1, h2⟩ := hx
    exact h' cs H' h1 h2
theorem TakeX.go {P : Program} {m : FuncId} {args : List AV} {H : AH} {s : Stt} {p h : Nat} {aq : AV} {o : List OH} {mu : List Nat} {Kt : Kont} {dst : Option Nat} {os : List COp} {f : AF}
    (hc : ACall P m args H (TakeX H s p h aq o)) (h' : ∀ H', OwnS H' s p h aq o → H'.tip = H.tip → H.next ≤ H'.next → (∀ m, m < H.next → m ≠ p → H'.own m = H.own m) → cops P mu Kt os (f.put dst (.agg (stO s p h aq o))) H') : ACall P m args H (callK P mu Kt dst os f) :=
  hc.mono fun out H' hx => by
    obtain ⟨rfl, h1, h2, h3, h4⟩ := hx
    exact h' H' h1 h2 h3 h4
theorem ExR.go {P : Program} {m : FuncId} {args : List AV} {H : AH} {R : AV → AH → Prop} {mu : List Nat} {Kt : Kont} {dst : Option Nat} {os : List COp} {f : AF}
    (h : ACall P m args H (fun out H' => ∃ v, out = .ret v ∧ R v H')) (h' : ∀ v H', R v H' → cops P mu Kt os (f.put dst v) H') : ACall P m args H (callK P mu Kt dst os f) :=
  h.mono fun out H' hx => by
    obtain ⟨v, rfl, hn⟩ := hx
    exact h' v H' hn
end Go.Proofs.Ytgmncggiblaciaa

/- Walks: the reference's act. -/
namespace Go.Proofs.Ytgmncggiblaciaa
open Go Go.Proofs.Ytgmncggiblaciaa.Ab
set_option maxRecDepth 100000

theorem NewS.go {P : Program} {m : FuncId} {args : List AV} {H : AH} {s : Stt} {mu : List Nat} {Kt : Kont} {dst : Option Nat} {os : List COp} {f : AF}
    (h : ACall P m args H (fun out H' => ∃ cs, out = .ret (.agg cs) ∧ NewS H s cs H')) (h' : ∀ p h aq o H', NewS H s (stO s p h aq o) H' → OwnS H' s p h aq o → (∀ n, NmS p h aq o n → H.next ≤ n ∧ n < H'.next) → cops P mu Kt os (f.put dst (.agg (stO s p h aq o))) H') : ACall P m args H (callK P mu Kt dst os f) :=
  h.mono fun out H' hx => by
    obtain ⟨cs, rfl, hn⟩ := hx
    obtain ⟨p, h, aq, o, rfl, h1, h2⟩ := hn.ex
    exact h' p h aq o H' hn h1 h2
theorem NewS.go' {P : Program} {m : FuncId} {args : List AV} {H : AH} {s : Stt} {mu : List Nat} {Kt : Kont} {fm : AF} {dst : Option Nat} {ds : List DOp} {f : AF} {pd : List (Nat × Nat × ABlk)} {rd : List Nat}
    (h : ACall P m args H (fun out H' => ∃ cs, out = .ret (.agg cs) ∧ NewS H s cs H')) (h' : ∀ p h aq o H', NewS H s (stO s p h aq o) H' → OwnS H' s p h aq o → (∀ n, NmS p h aq o n → H.next ≤ n ∧ n < H'.next) → dops P mu Kt fm ds (f.put dst (.agg (stO s p h aq o))) H' pd rd) : ACall P m args H (dcallK P mu Kt fm dst ds f pd rd) :=
  h.mono fun out H' hx => by
    obtain ⟨cs, rfl, hn⟩ := hx
    obtain ⟨p, h, aq, o, rfl, h1, h2⟩ := hn.ex
    exact h' p h aq o H' hn h1 h2

theorem NextA.go' {P : Program} {m : FuncId} {args : List AV} {H : AH} {a : AV} {l : List Pk} {mu : List Nat} {Kt : Kont} {fm : AF} {dst : Option Nat} {ds : List DOp} {f : AF} {pd : List (Nat × Nat × ABlk)} {rd : List Nat}
    (h : ACall P m args H (fun out H' => ∃ v, out = .ret v ∧ NextA pkR 4 H a l v H')) (h' : ∀ v H', NextA pkR 4 H a l v H' → dops P mu Kt fm ds (f.put dst v) H' pd rd) : ACall P m args H (dcallK P mu Kt fm dst ds f pd rd) :=
  h.mono fun out H' hx => by
    obtain ⟨v, rfl, hn⟩ := hx
    exact h' v H' hn
section
variable {H : AH} {c : Case} {s : Stt} (hV : Valid c s) (a : Ac)
include hV
end
end Go.Proofs.Ytgmncggiblaciaa

/- Walks: the first state. -/
namespace Go.Proofs.Ytgmncggiblaciaa
open Go Go.Proofs.Ytgmncggiblaciaa.Ab
set_option maxRecDepth 100000

theorem zeros_flat {α : Type} [Inhabited α] {enc : α → List AV} {k : Nat} {z : List AV} {x : α} (hx : enc x = z) (hl : z.length = k) (hk : 0 < k) : ∀ n : Nat, (List.range (n * k)).map (fun i => z.getD (i % k) .any) = flatE enc (List.replicate n x)
  | 0 => by simp [flatE]
  | n + 1 => by
    rw [Nat.add_mul, Nat.one_mul, List.range_add, List.map_append, zeros_flat hx hl hk n, List.replicate_succ', flatE_append]
    congr 1
    simp only [flatE, List.map_cons, List.map_nil, List.flatten_cons, List.flatten_nil, List.append_nil, hx]
    apply List.ext_getElem
    · simp [hl]
    · intro i h1 h2
      simp only [List.length_map, List.length_range] at h1
      simp only [List.getElem_map, List.getElem_range]
      rw [Nat.add_comm, Nat.add_mul_mod_self_right, Nat.mod_eq_of_lt h1, List.getD_eq_getElem?_getD, List.getElem?_eq_getElem h2]; rfl

theorem start42 (c : Case) (hc : CaseOk c) (H : AH) : ACall Try.prog 42 [caseV c] H (DoneV H.next H (startS c)) := by
  have hp6 := hc.p6; have hh4 := hc.h4; have hh1 := hc.h1
  have m1 : ((c.place.length : Nat) : Int) ≤ 140737488355328 := by omega
  have m2 : ((24 : Nat) : Int) * ((c.place.length : Nat) : Int) ≤ 2 ^ 47 := by omega
  have m3 : c.hosts ≤ 140737488355328 := by omega
  have m4 : ((32 : Nat) : Int) * c.hosts ≤ 2 ^ 47 := by omega
  have m5 : 0 ≤ c.hosts := by omega
  have z1 := zeros_flat (enc := plR) (k := 4) (z := plR ⟨0, false, false, 0⟩) (x := ⟨0, false, false, 0⟩) rfl rfl (by decide) c.place.length
  have z2 := zeros_flat (enc := hsO) (k := 2) (z := hsO ⟨false, nilS, []⟩) (x := ⟨false, nilS, []⟩) rfl rfl (by decide) c.hosts.toNat
  simp only [plR, hsO, nilS] at z1 z2
  simp only [caseV]
  refine ACall.enter [] Cd.fn42 (by simp) ?_
  simp only [ints, List.length_map, m1, m2, m3, m4, m5, Int.toNat_natCast, Int.natCast_nonneg, z1, z2, nsucc, Cd.cd42, Tk.t42, base0, base1, base2, base3, Option.isNone_none, Option.isNone_some, Nat.reduceBEq, true_or, or_true, false_or, or_false, Nat.reduceLT, Nat.reduceMod, Nat.reducePow, rmaps, nsucc, List.flatten_cons, List.flatten_nil, Nat.reduceEqDiff, Nat.reduceLeDiff, Nat.reduceAdd, Nat.reduceMul, Nat.reduceSub, ↓reduceIte, reduceCtorEq, decide_true, decide_false]
  refine ⟨_, rfl, ⟨rfl, by simp <;> omega, fun m hm => by simp [show m ≠ H.next by omega, show m ≠ H.next + 1 by omega, show m ≠ H.next + 1 + 1 by omega]⟩, H.next + 1, H.next + 1 + 1, nilS, List.replicate c.hosts.toNat ⟨false, nilS, []⟩, ?_, ⟨?_, ?_, ?_, .inl ⟨rfl, .inl rfl⟩, fun y hy => ?_, by omega, fun n hn => by simp [nilS, nmA] at hn, fun y hy n hn => ?_, fun i j hi hj hij n hn => ?_⟩, fun n hn => ?_⟩
  · simp [stO, startS, nilS]
  · simp [startS, nsucc]
  · simp [nilS, nsucc]
  · simp [startS, OH.hs]
  · rw [List.eq_of_mem_replicate hy]; exact .inl ⟨rfl, .inl rfl⟩
  · rw [List.eq_of_mem_replicate hy] at hn; simp [nilS, nmA] at hn
  · have := List.eq_of_mem_replicate (getD_mem hi)
    rw [this] at hn; simp [nilS, nmA] at hn
  · rcases hn with rfl | rfl | hn | ⟨y, hy, hn⟩
    · exact ⟨by omega, by simp⟩
    · exact ⟨by omega, by simp⟩
    · simp [nilS, nmA] at hn
    · rw [List.eq_of_mem_replicate hy] at hn; simp [nilS, nmA] at hn

end Go.Proofs.Ytgmncggiblaciaa

/- Walks: a state after an act. -/
namespace Go.Proofs.Ytgmncggiblaciaa
open Go Go.Proofs.Ytgmncggiblaciaa.Ab
set_option maxRecDepth 100000

theorem stV_view {H : AH} {s : Stt} {p h : Nat} {aq : AV} {o : List OH} (x : OwnS H s p h aq o) : View H (.agg (stO s p h aq o)) (stV s) := x.view.agg
theorem fin_s {H : AH} {s : Stt} {p h : Nat} {aq : AV} {o : List OH} {y y' : Value} (x : OwnS H s p h aq o) (hy : y = y') : ∃ v v', AOut.ret (.tup [.agg (stO s p h aq o), .v y]) = .ret v ∧ View H v v' ∧ FZ v' ∧ v' = .tup [stV s, .v y'] := by
  subst hy; exact ⟨_, _, rfl, Views.tup (Views.cons (stV_view x) (Views.cons (FZ.v _).view Views.nil)), FZ.tup (FZs.two (FZ.stV _) (FZ.v _)), rfl⟩
def nilSt : Stt := ⟨[], 0, [], []⟩
theorem nil_view {H : AH} : View H (.agg [.v (.slice none 0 0), .v (.int .i64 0), .v (.slice none 0 0), .v (.slice none 0 0)]) (stV nilSt) :=
  Views.agg (Views.cons (View.nil _) (Views.cons (FZ.v _).view (Views.cons (View.nil _) (Views.cons (View.nil _) Views.nil))))
theorem fin_n {H : AH} {y y' : Value} (hy : y = y') : ∃ v v', AOut.ret (.tup [.agg [.v (.slice none 0 0), .v (.int .i64 0), .v (.slice none 0 0), .v (.slice none 0 0)], .v y]) = .ret v ∧ View H v v' ∧ FZ v' ∧ v' = .tup [stV nilSt, .v y'] := by
  subst hy; exact ⟨_, _, rfl, Views.tup (Views.cons nil_view (Views.cons (FZ.v _).view Views.nil)), FZ.tup (FZs.two (FZ.stV _) (FZ.v _)), rfl⟩
theorem DoneV.fc {P : Program} {m : FuncId} {args : List AV} {B : Nat} {s : Stt} (h : ACall P m args AH.none (DoneV B AH.none s)) : FCall P m args (· = stV s) :=
  h.mono fun out H' hx => by
    obtain ⟨cs, rfl, _, p, h, aq, o, rfl, x, _⟩ := hx
    exact ⟨_, _, rfl, stV_view x, FZ.stV _, rfl⟩
theorem startOf12 (c : Case) : FCall Try.prog 12 [caseV c] (· = .tup [stV (if (checkCase c).2 = 0 then startS c else nilSt), .v (.int .i64 (checkCase c).2)]) := by
  simp only [caseV]
  refine ACall.enter [] Cd.fn12 (by simp) ?_
  simp only [Cd.cd12, Tk.t12, base0, base1, base2, base3, Option.isNone_none, Option.isNone_some, Nat.reduceBEq, true_or, or_true, false_or, or_false, Nat.reduceLT, Nat.reduceMod, Nat.reducePow, rmaps, nsucc, List.flatten_cons, List.flatten_nil, Nat.reduceEqDiff, Nat.reduceLeDiff, Nat.reduceAdd, Nat.reduceMul, Nat.reduceSub, ↓reduceIte, reduceCtorEq, decide_true, decide_false]
  refine (caseErr41 c).go (FZs.one (FZ.caseV c)) ?_
  by_cases hc0 : (checkCase c).2 = 0
  · have h' : ((checkCase c).2 != 0) = false := by simp [hc0]
    rw [if_pos hc0]
    simp only [h', Cd.cd12, Tk.t12, base0, base1, base2, base3, Option.isNone_none, Option.isNone_some, Nat.reduceBEq, true_or, or_true, false_or, or_false, Nat.reduceLT, Nat.reduceMod, Nat.reducePow, rmaps, nsucc, List.flatten_cons, List.flatten_nil, Nat.reduceEqDiff, Nat.reduceLeDiff, Nat.reduceAdd, Nat.reduceMul, Nat.reduceSub, ↓reduceIte, reduceCtorEq, decide_true, decide_false]
    refine DoneV.go (start42 c (checkCase_ok.mp hc0) _) fun cs H1 hF hO => ?_
    obtain ⟨p, h, aq, o, rfl, x, hn⟩ := hO
    obtain ⟨z1, z2, z3⟩ := hF
    simp only at z1 z2 z3
    have h0 := z3 AH.none.next (by simp)
    simp at h0
    have hone := one_aq x.q
    have hcel := cells_aq x.q
    simp only [stO]
    simp only [h0, hone, hcel, Cd.cd12, Tk.t12, base0, base1, base2, base3, Option.isNone_none, Option.isNone_some, Nat.reduceBEq, true_or, or_true, false_or, or_false, Nat.reduceLT, Nat.reduceMod, Nat.reducePow, rmaps, nsucc, List.flatten_cons, List.flatten_nil, Nat.reduceEqDiff, Nat.reduceLeDiff, Nat.reduceAdd, Nat.reduceMul, Nat.reduceSub, ↓reduceIte, reduceCtorEq, decide_true, decide_false]
    exact fin_s (x.frame fun n h3 => by have := hn n h3; simp at this; simp; omega) (by rw [hc0])
  · have h' : ((checkCase c).2 != 0) = true := by simp [hc0]
    rw [if_neg hc0]
    simp only [h', Cd.cd12, Tk.t12, base0, base1, base2, base3, Option.isNone_none, Option.isNone_some, Nat.reduceBEq, true_or, or_true, false_or, or_false, Nat.reduceLT, Nat.reduceMod, Nat.reducePow, rmaps, nsucc, List.flatten_cons, List.flatten_nil, Nat.reduceEqDiff, Nat.reduceLeDiff, Nat.reduceAdd, Nat.reduceMul, Nat.reduceSub, ↓reduceIte, reduceCtorEq, decide_true, decide_false]
    exact fin_n rfl

theorem OwnX.out {B : Nat} {H : AH} {r : Nat} {c : List AV} {s : Stt} {p h : Nat} {aq : AV} {o : List OH} (x : OwnX B H r c s p h aq o) {H' : AH} (hk : ∀ m, NmS p h aq o m → H'.own m = H.own m) : OwnS H' s p h aq o := x.st.frame hk

theorem acted16 (c : Case) (s : Stt) (a : Ac) (hc : SmallC c) (hs : SmallS s) : FCall Try.prog 16 [caseV c, stV s, acV a] (· = if (checkState c s).2 = 0 ∧ actE c s a = 0 then .tup [stV (actS c s a), .v (.int .i64 0)] else .tup [stV nilSt, .v (.int .i64 (if (checkState c s).2 = 0 then actE c s a else (checkState c s).2))]) := by
  simp only [caseV, stV, stL, plsV, hssV, pksV, acV, acR]
  refine ACall.enter [27] Cd.fn16 (by simp) ?_
  simp only [Cd.cd16, Tk.t16, base0, base1, base2, base3, Option.isNone_none, Option.isNone_some, Nat.reduceBEq, true_or, or_true, false_or, or_false, Nat.reduceLT, Nat.reduceMod, Nat.reducePow, rmaps, nsucc, List.flatten_cons, List.flatten_nil, Nat.reduceEqDiff, Nat.reduceLeDiff, Nat.reduceAdd, Nat.reduceMul, Nat.reduceSub, ↓reduceIte, reduceCtorEq, decide_true, decide_false]
  refine (stateErr44 c s hc hs).go (FZs.two (FZ.caseV c) (FZ.stV s)) ?_
  by_cases h1 : (checkState c s).2 = 0
  · have h1' : ((checkState c s).2 == 0) = true := by simp [h1]
    have hV : Valid c s := checkState_ok.mp h1
    simp only [h1', Cd.cd16, Tk.t16, base0, base1, base2, base3, Option.isNone_none, Option.isNone_some, Nat.reduceBEq, true_or, or_true, false_or, or_false, Nat.reduceLT, Nat.reduceMod, Nat.reducePow, rmaps, nsucc, List.flatten_cons, List.flatten_nil, Nat.reduceEqDiff, Nat.reduceLeDiff, Nat.reduceAdd, Nat.reduceMul, Nat.reduceSub, ↓reduceIte, reduceCtorEq, decide_true, decide_false]
    refine (actErr45 c s hV a).go (FZs.three (FZ.caseV c) (FZ.stV s) (FZ.acV a)) ?_
    by_cases h2 : actE c s a = 0
    · have h2' : (actE c s a != 0) = false := by simp [h2]
      have hlp := hV.lp; have hlh := hV.lh; have hp1 := hV.ok.p1; have hh1 := hV.ok.h1
      rw [if_pos ⟨h1, h2⟩]
      simp only [h2', Cd.cd16, Tk.t16, base0, base1, base2, base3, Option.isNone_none, Option.isNone_some, Nat.reduceBEq, true_or, or_true, false_or, or_false, Nat.reduceLT, Nat.reduceMod, Nat.reducePow, rmaps, nsucc, List.flatten_cons, List.flatten_nil, Nat.reduceEqDiff, Nat.reduceLeDiff, Nat.reduceAdd, Nat.reduceMul, Nat.reduceSub, ↓reduceIte, reduceCtorEq, decide_true, decide_false]
      refine NewS.go' (own46 s _ hs (by omega) (by omega)) fun p h aq o H1 hN x0 hnm => ?_
      have hone := one_aq x0.q
      have hcel := cells_aq x0.q
      simp only [stO]
      simp only [hone, hcel, Cd.cd16, Tk.t16, base0, base1, base2, base3, Option.isNone_none, Option.isNone_some, Nat.reduceBEq, true_or, or_true, false_or, or_false, Nat.reduceLT, Nat.reduceMod, Nat.reducePow, rmaps, nsucc, List.flatten_cons, List.flatten_nil, Nat.reduceEqDiff, Nat.reduceLeDiff, Nat.reduceAdd, Nat.reduceMul, Nat.reduceSub, ↓reduceIte, reduceCtorEq, decide_true, decide_false]
      obtain ⟨_, t1, n1, k1⟩ := hN
      simp only at t1 n1 k1 hnm
      have k0 := k1 AH.none.next (by omega)
      simp at k0
      refine DoneR.go (act47 (B := AH.none.next + 1) hV a ⟨p, h, aq, o, by simp [runL, caseL, stO], x0.frame fun m hm => by have := hnm m hm; simp [show m ≠ H1.next by omega], fun m hm => by have := hnm m hm; simp; omega, by omega, by simp⟩ h2) fun H4 hF hR => ?_
      obtain ⟨p', h', aq', o', x⟩ := hR
      have k4 := hF.own AH.none.next (by omega)
      simp [show AH.none.next ≠ H1.next by omega, k0] at k4
      have hr4 := x.rb
      simp only [runL, caseL, stO, List.cons_append, List.nil_append] at hr4
      have hone := one_aq x.st.q
      have hcel := cells_aq x.st.q
      simp only [hr4, k4, hone, hcel, Cd.cd16, Tk.t16, base0, base1, base2, base3, Option.isNone_none, Option.isNone_some, Nat.reduceBEq, true_or, or_true, false_or, or_false, Nat.reduceLT, Nat.reduceMod, Nat.reducePow, rmaps, nsucc, List.flatten_cons, List.flatten_nil, Nat.reduceEqDiff, Nat.reduceLeDiff, Nat.reduceAdd, Nat.reduceMul, Nat.reduceSub, ↓reduceIte, reduceCtorEq, decide_true, decide_false]
      exact fin_s (x.st.frame fun n h3 => by have := (x.nr n h3).2; simp; omega) rfl
    · have h2' : (actE c s a != 0) = true := by simp [h2]
      rw [if_neg (by simp [h2]), if_pos h1]
      simp only [h2', Cd.cd16, Tk.t16, base0, base1, base2, base3, Option.isNone_none, Option.isNone_some, Nat.reduceBEq, true_or, or_true, false_or, or_false, Nat.reduceLT, Nat.reduceMod, Nat.reducePow, rmaps, nsucc, List.flatten_cons, List.flatten_nil, Nat.reduceEqDiff, Nat.reduceLeDiff, Nat.reduceAdd, Nat.reduceMul, Nat.reduceSub, ↓reduceIte, reduceCtorEq, decide_true, decide_false]
      exact fin_n rfl
  · have h1' : ((checkState c s).2 == 0) = false := by simp [h1]
    have h1'' : ((checkState c s).2 != 0) = true := by simp [h1]
    rw [if_neg (by simp [h1]), if_neg h1]
    simp only [h1', h1'', Cd.cd16, Tk.t16, base0, base1, base2, base3, Option.isNone_none, Option.isNone_some, Nat.reduceBEq, true_or, or_true, false_or, or_false, Nat.reduceLT, Nat.reduceMod, Nat.reducePow, rmaps, nsucc, List.flatten_cons, List.flatten_nil, Nat.reduceEqDiff, Nat.reduceLeDiff, Nat.reduceAdd, Nat.reduceMul, Nat.reduceSub, ↓reduceIte, reduceCtorEq, decide_true, decide_false]
    exact fin_n rfl
end Go.Proofs.Ytgmncggiblaciaa

/- Walks: runs. -/
namespace Go.Proofs.Ytgmncggiblaciaa
open Go Go.Proofs.Ytgmncggiblaciaa.Ab
set_option maxRecDepth 100000

/-- a run from a state on -/
def runFrom (c : Case) : Stt → List Ac → Nat → Stt × Nat × Int
  | s, [], k => (s, k, 0)
  | s, a :: l, k => if actE c s a = 0 then runFrom c (actS c s a) l (k + 1) else (nilSt, k, actE c s a)
def runOf (c : Case) (l : List Ac) : Stt × Nat × Int :=
  if (checkCase c).2 ≠ 0 then (nilSt, 0, (checkCase c).2) else if l.length > 60 then (nilSt, 0, 2) else runFrom c (startS c) l 0
theorem runFrom_step {c : Case} {s : Stt} {l : List Ac} {i : Nat} (hi : i < l.length) : runFrom c s (l.drop i) i = if actE c s (l.getD i default) = 0 then runFrom c (actS c s (l.getD i default)) (l.drop (i + 1)) (i + 1) else (nilSt, i, actE c s (l.getD i default)) := by
  rw [List.drop_eq_getElem_cons hi, List.getD_eq_getElem?_getD, List.getElem?_eq_getElem hi]; rfl
theorem fin_s3 {H : AH} {s : Stt} {p h : Nat} {aq : AV} {o : List OH} {y y' z z' : Value} (x : OwnS H s p h aq o) (hy : y = y') (hz : z = z') : ∃ v v', AOut.ret (.tup [.agg (stO s p h aq o), .v y, .v z]) = .ret v ∧ View H v v' ∧ FZ v' ∧ v' = .tup [stV s, .v y', .v z'] := by
  subst hy; subst hz; exact ⟨_, _, rfl, Views.tup (Views.cons (stV_view x) (Views.cons (FZ.v _).view (Views.cons (FZ.v _).view Views.nil))), FZ.tup (FZs.three (FZ.stV _) (FZ.v _) (FZ.v _)), rfl⟩
theorem fin_n3 {H : AH} {y y' z z' : Value} (hy : y = y') (hz : z = z') : ∃ v v', AOut.ret (.tup [.agg [.v (.slice none 0 0), .v (.int .i64 0), .v (.slice none 0 0), .v (.slice none 0 0)], .v y, .v z]) = .ret v ∧ View H v v' ∧ FZ v' ∧ v' = .tup [stV nilSt, .v y', .v z'] := by
  subst hy; subst hz; exact ⟨_, _, rfl, Views.tup (Views.cons nil_view (Views.cons (FZ.v _).view (Views.cons (FZ.v _).view Views.nil))), FZ.tup (FZs.three (FZ.stV _) (FZ.v _) (FZ.v _)), rfl⟩
/-- the answer of a run -/
def runV (r : Stt × Nat × Int) : AV := .tup [stV r.1, .v (.int .i64 (r.2.1 : Nat)), .v (.int .i64 r.2.2)]

theorem DoneV.go' {P : Program} {m : FuncId} {args : List AV} {H : AH} {B : Nat} {s : Stt} {mu : List Nat} {Kt : Kont} {fm : AF} {dst : Option Nat} {ds : List DOp} {f : AF} {pd : List (Nat × Nat × ABlk)} {rd : List Nat}
    (h : ACall P m args H (DoneV B H s)) (h' : ∀ cs H', Fr B H H' → OwnV B H' cs s → dops P mu Kt fm ds (f.put dst (.agg cs)) H' pd rd) : ACall P m args H (dcallK P mu Kt fm dst ds f pd rd) :=
  h.mono fun out H' hx => by
    obtain ⟨cs, rfl, h1, h2⟩ := hx
    exact h' cs H' h1 h2
set_option maxHeartbeats 1000000 in
theorem runOf25 (c : Case) (l : List Ac) (hb : l.length < 2 ^ 40) : FCall Try.prog 25 [caseV c, acsV l] (· = runV (runOf c l)) := by
  simp only [caseV, acsV]
  unfold runOf runV
  refine ACall.enter [28] Cd.fn25 (by simp) ?_
  simp only [Cd.cd25, Tk.t25, base0, base1, base2, base3, Option.isNone_none, Option.isNone_some, Nat.reduceBEq, true_or, or_true, false_or, or_false, Nat.reduceLT, Nat.reduceMod, Nat.reducePow, rmaps, nsucc, List.flatten_cons, List.flatten_nil, Nat.reduceEqDiff, Nat.reduceLeDiff, Nat.reduceAdd, Nat.reduceMul, Nat.reduceSub, ↓reduceIte, reduceCtorEq, decide_true, decide_false]
  refine (caseErr41 c).go (FZs.one (FZ.caseV c)) ?_
  by_cases hc : (checkCase c).2 = 0
  · have hc' : ((checkCase c).2 != 0) = false := by simp [hc]
    have hk := checkCase_ok.mp hc
    rw [if_neg (by simp [hc])]
    by_cases hl : l.length > 60
    · rw [if_pos hl]
      simp only [hc', List.length_map, show decide (((l.length : Nat) : Int) > 60) = true from decide_eq_true (by omega), Cd.cd25, Tk.t25, base0, base1, base2, base3, Option.isNone_none, Option.isNone_some, Nat.reduceBEq, true_or, or_true, false_or, or_false, Nat.reduceLT, Nat.reduceMod, Nat.reducePow, rmaps, nsucc, List.flatten_cons, List.flatten_nil, Nat.reduceEqDiff, Nat.reduceLeDiff, Nat.reduceAdd, Nat.reduceMul, Nat.reduceSub, ↓reduceIte, reduceCtorEq, decide_true, decide_false]
      exact fin_n3 rfl rfl
    · rw [if_neg hl]
      simp only [hc', List.length_map, show decide (((l.length : Nat) : Int) > 60) = false from decide_eq_false (by omega), Cd.cd25, Tk.t25, base0, base1, base2, base3, Option.isNone_none, Option.isNone_some, Nat.reduceBEq, true_or, or_true, false_or, or_false, Nat.reduceLT, Nat.reduceMod, Nat.reducePow, rmaps, nsucc, List.flatten_cons, List.flatten_nil, Nat.reduceEqDiff, Nat.reduceLeDiff, Nat.reduceAdd, Nat.reduceMul, Nat.reduceSub, ↓reduceIte, reduceCtorEq, decide_true, decide_false]
      refine DoneV.go' (start42 c hk _) fun cs H1 hF hO => ?_
      obtain ⟨p, h, aq, o, rfl, x0, hnm⟩ := hO
      obtain ⟨t1, n1, k1⟩ := hF
      simp only at t1 n1 k1 hnm
      have hone := one_aq x0.q
      have hcel := cells_aq x0.q
      have k0 := k1 AH.none.next (by omega)
      simp at k0
      simp only [stO]
      obtain ⟨r, hr⟩ : ∃ r, r = H1.next := ⟨_, rfl⟩
      have hr0 : AH.none.next ≠ r := by omega
      simp only [hone, hcel, List.length_map, Cd.cd25, Tk.t25, base0, base1, base2, base3, Option.isNone_none, Option.isNone_some, Nat.reduceBEq, true_or, or_true, false_or, or_false, Nat.reduceLT, Nat.reduceMod, Nat.reducePow, rmaps, nsucc, List.flatten_cons, List.flatten_nil, Nat.reduceEqDiff, Nat.reduceLeDiff, Nat.reduceAdd, Nat.reduceMul, Nat.reduceSub, ↓reduceIte, reduceCtorEq, decide_true, decide_false]
      refine LWP.loop [28] (fun m f H' => ∃ i, m = l.length - i ∧ (i ≤ l.length) ∧ f.t 31 = .v (.int .i64 (i : Nat)) ∧ f.t 30 = .v (.int .i64 (l.length : Nat)) ∧ f.t 29 = .lst 2 (l.map acR) .unk ∧ f.t 8 = .ptr r 0 ∧ f.t 4 = .ptr AH.none.next 0 ∧ f.t 2 = .box [.v (.int .i64 c.hosts), ints c.place, ints c.verd] ∧ f.t 1 = .lst 2 (l.map acR) .unk ∧ f.ds = [] ∧ ∃ s, Valid c s ∧ runFrom c s (l.drop i) i = runFrom c (startS c) l 0 ∧ OwnR (AH.none.next + 1) H' r c s ∧ H'.own AH.none.next = some (.cells [.v (.slice none 0 0), .v (.int .i64 0), .v (.slice none 0 0), .v (.slice none 0 0)]) ∧ r < H'.next) ?_ ?_ (m := l.length - (0))
      · exact ⟨0, rfl, (by omega), rfl, rfl, rfl, by rw [hr]; rfl, rfl, rfl, rfl, rfl, by refine ⟨startS c, valid_start hk, rfl, ⟨p, h, aq, o, ?_⟩, ?_, ?_⟩ <;> first   | exact ⟨by simp [runL, caseL, stO, hr], x0.frame fun m hm => by have := hnm m hm; simp [show m ≠ H1.next by omega], fun m hm => by have := hnm m hm; simp; omega, by omega, by simp [hr]⟩   | (simp [show AH.none.next ≠ H1.next by omega, k0]; done)   | (show r < H1.next + 1; omega)⟩
      · rintro m f H' ⟨i, rfl, hi, f31, f30, f29, f8, f4, f2, f1, hds, ⟨s,hV,hrun,hR,hw,hx⟩⟩
        by_cases hlt : i < l.length
        · obtain ⟨p, h, aq, o, x⟩ := hR
          have hrb := x.rb
          have hbr := x.br
          simp only [runL, caseL, stO, List.cons_append, List.nil_append] at hrb
          have w1 : (r = H'.next) = False := eq_false (by omega)
          have w2 : (AH.none.next = H'.next) = False := eq_false (by omega)
          have hstep := runFrom_step (c := c) (s := s) hlt
          generalize ha : l.getD i default = a at hstep
          simp only [ltT hlt, List.length_map, inR hlt, Int.toNat_natCast, getD_map acR _ _ hlt, ha, acR, hrb, w1, f31, f30, f29, f8, f4, f2, f1, hds, Cd.cd25, Tk.t25, base0, base1, base2, base3, Option.isNone_none, Option.isNone_some, Nat.reduceBEq, true_or, or_true, false_or, or_false, Nat.reduceLT, Nat.reduceMod, Nat.reducePow, rmaps, nsucc, List.flatten_cons, List.flatten_nil, Nat.reduceEqDiff, Nat.reduceLeDiff, Nat.reduceAdd, Nat.reduceMul, Nat.reduceSub, ↓reduceIte, reduceCtorEq, decide_true, decide_false]
          have xs : ∀ Hx : AH, (∀ m, m < H'.next → Hx.own m = H'.own m) → OwnS Hx s p h aq o := fun Hx hk => x.st.frame fun m hm => hk m (x.nr m hm).2.2
          refine (actErr45 c s hV a).bgo' (Views.cons (FZ.caseV c).view (Views.cons (stV_view (xs _ fun m hm => by simp [show m ≠ H'.next by omega])) (Views.cons (FZ.acV a).view Views.nil))) (Ground.v _) ?_
          by_cases he : actE c s a = 0
          · have he' : (actE c s a != 0) = false := by simp [he]
            rw [if_pos he] at hstep
            simp only [he', acR, f31, f30, f29, f8, f4, f2, f1, hds, Cd.cd25, Tk.t25, base0, base1, base2, base3, Option.isNone_none, Option.isNone_some, Nat.reduceBEq, true_or, or_true, false_or, or_false, Nat.reduceLT, Nat.reduceMod, Nat.reducePow, rmaps, nsucc, List.flatten_cons, List.flatten_nil, Nat.reduceEqDiff, Nat.reduceLeDiff, Nat.reduceAdd, Nat.reduceMul, Nat.reduceSub, ↓reduceIte, reduceCtorEq, decide_true, decide_false]
            refine DoneR.go (act47 (B := AH.none.next + 1) hV a ⟨p, h, aq, o, by simp [w1, hrb, runL, caseL, stO], xs _ fun m hm => by simp [show m ≠ H'.next by omega], fun m hm => by have := x.nr m hm; simp; omega, by omega, by simp; omega⟩ he) fun H4 hF hR => ?_
            have k4 := hF.own AH.none.next (by omega)
            simp [w2, hw] at k4
            have hx4 := hF.next
            simp only [f31, f30, f29, f8, f4, f2, f1, hds, Cd.cd25, Tk.t25, base0, base1, base2, base3, Option.isNone_none, Option.isNone_some, Nat.reduceBEq, true_or, or_true, false_or, or_false, Nat.reduceLT, Nat.reduceMod, Nat.reducePow, rmaps, nsucc, List.flatten_cons, List.flatten_nil, Nat.reduceEqDiff, Nat.reduceLeDiff, Nat.reduceAdd, Nat.reduceMul, Nat.reduceSub, ↓reduceIte, reduceCtorEq, decide_true, decide_false]
            refine ⟨_, by omega, i + 1, rfl, by omega, ?_⟩
            (repeat' apply And.intro) <;> first | rfl | (rw [wrapS (by omega)]) | omega | assumption | (exact ⟨_, hV.act he, by rw [← hstep]; exact hrun, hR, k4, by simp at hx4; omega⟩)
          · have he' : (actE c s a != 0) = true := by simp [he]
            rw [if_neg he] at hstep
            rw [← hrun, hstep]
            simp only [he', hw, w2, f31, f30, f29, f8, f4, f2, f1, hds, Cd.cd25, Tk.t25, base0, base1, base2, base3, Option.isNone_none, Option.isNone_some, Nat.reduceBEq, true_or, or_true, false_or, or_false, Nat.reduceLT, Nat.reduceMod, Nat.reducePow, rmaps, nsucc, List.flatten_cons, List.flatten_nil, Nat.reduceEqDiff, Nat.reduceLeDiff, Nat.reduceAdd, Nat.reduceMul, Nat.reduceSub, ↓reduceIte, reduceCtorEq, decide_true, decide_false]
            exact fin_n3 rfl rfl
        · have hi' : i = l.length := by omega
          subst hi'
          obtain ⟨p, h, aq, o, x⟩ := hR
          have hrb := x.rb
          have hone := one_aq x.st.q
          have hcel := cells_aq x.st.q
          simp only [runL, caseL, stO, List.cons_append, List.nil_append] at hrb
          rw [List.drop_length] at hrun
          rw [← hrun]
          simp only [ltF hlt, hrb, hw, hone, hcel, List.length_map, f31, f30, f29, f8, f4, f2, f1, hds, Cd.cd25, Tk.t25, base0, base1, base2, base3, Option.isNone_none, Option.isNone_some, Nat.reduceBEq, true_or, or_true, false_or, or_false, Nat.reduceLT, Nat.reduceMod, Nat.reducePow, rmaps, nsucc, List.flatten_cons, List.flatten_nil, Nat.reduceEqDiff, Nat.reduceLeDiff, Nat.reduceAdd, Nat.reduceMul, Nat.reduceSub, ↓reduceIte, reduceCtorEq, decide_true, decide_false]
          exact fin_s3 (x.st.frame fun m hm => by have := (x.nr m hm).2; simp; omega) rfl rfl
  · have hc' : ((checkCase c).2 != 0) = true := by simp [hc]
    rw [if_pos hc]
    simp only [hc', Cd.cd25, Tk.t25, base0, base1, base2, base3, Option.isNone_none, Option.isNone_some, Nat.reduceBEq, true_or, or_true, false_or, or_false, Nat.reduceLT, Nat.reduceMod, Nat.reducePow, rmaps, nsucc, List.flatten_cons, List.flatten_nil, Nat.reduceEqDiff, Nat.reduceLeDiff, Nat.reduceAdd, Nat.reduceMul, Nat.reduceSub, ↓reduceIte, reduceCtorEq, decide_true, decide_false]
    exact fin_n3 rfl rfl
end Go.Proofs.Ytgmncggiblaciaa

/- Walks: the reference's runs. -/
namespace Go.Proofs.Ytgmncggiblaciaa
open Go Go.Proofs.Ytgmncggiblaciaa.Ab
set_option maxRecDepth 100000

/-- the answer of the reference's run -/
def runW (r : Stt × Nat × Int) : AV := .agg (stL r.1 ++ [.v (.int .i64 (r.2.1 : Nat)), .v (.int .i64 r.2.2)])
end Go.Proofs.Ytgmncggiblaciaa

/- Walks: what is over, what is worst, what is small. -/
namespace Go.Proofs.Ytgmncggiblaciaa
open Go Go.Proofs.Ytgmncggiblaciaa.Ab
set_option maxRecDepth 100000

theorem worstI_snoc (l : List Int) (x : Int) : worstI (l ++ [x]) = if x > worstI l then x else worstI l := by unfold worstI; rw [List.foldl_append]; rfl
theorem worstI_take {l : List Int} {i : Nat} (hi : i < l.length) : worstI (l.take (i + 1)) = if l.getD i 0 > worstI (l.take i) then l.getD i 0 else worstI (l.take i) := by
  rw [← worstI_snoc]; congr 1
  rw [List.take_add_one, List.getD_eq_getElem?_getD, List.getElem?_eq_getElem hi]; rfl

theorem if_max {x : Int} (h : 0 ≤ x) : (if x > worstI [] then x else worstI []) = x := by
  show (if x > 0 then x else 0) = x
  by_cases h' : x > 0
  · rw [if_pos h']
  · rw [if_neg h']; omega

theorem isOver18 (c : Case) (s : Stt) (hc : SmallC c) (hs : SmallS s) : FCall Try.prog 18 [caseV c, stV s] (· = .tup [.v (.bool (decide ((checkState c s).2 = 0) && overS s)), .v (.int .i64 (checkState c s).2)]) := by
  simp only [caseV, stV, stL]
  refine ACall.enter [] Cd.fn18 (by simp) ?_
  simp only [Cd.cd18, Tk.t18, base0, base1, base2, base3, Option.isNone_none, Option.isNone_some, Nat.reduceBEq, true_or, or_true, false_or, or_false, Nat.reduceLT, Nat.reduceMod, Nat.reducePow, rmaps, nsucc, List.flatten_cons, List.flatten_nil, Nat.reduceEqDiff, Nat.reduceLeDiff, Nat.reduceAdd, Nat.reduceMul, Nat.reduceSub, ↓reduceIte, reduceCtorEq, decide_true, decide_false]
  refine (stateErr44 c s hc hs).go (FZs.two (FZ.caseV c) (FZ.stV s)) ?_
  by_cases h : (checkState c s).2 = 0
  · have h' : ((checkState c s).2 != 0) = false := by simp [h]
    simp only [h', Cd.cd18, Tk.t18, base0, base1, base2, base3, Option.isNone_none, Option.isNone_some, Nat.reduceBEq, true_or, or_true, false_or, or_false, Nat.reduceLT, Nat.reduceMod, Nat.reducePow, rmaps, nsucc, List.flatten_cons, List.flatten_nil, Nat.reduceEqDiff, Nat.reduceLeDiff, Nat.reduceAdd, Nat.reduceMul, Nat.reduceSub, ↓reduceIte, reduceCtorEq, decide_true, decide_false]
    refine (containsFunc48 s.placed 49 [] (fun p => !p.tk) hs.p FZs.nil (fun x => notTaken49 x)).go (FZs.two (FZ.plsV _) (FZ.fn FZs.nil FZs.nil)) ?_
    simp only [Cd.cd18, Tk.t18, base0, base1, base2, base3, Option.isNone_none, Option.isNone_some, Nat.reduceBEq, true_or, or_true, false_or, or_false, Nat.reduceLT, Nat.reduceMod, Nat.reducePow, rmaps, nsucc, List.flatten_cons, List.flatten_nil, Nat.reduceEqDiff, Nat.reduceLeDiff, Nat.reduceAdd, Nat.reduceMul, Nat.reduceSub, ↓reduceIte, reduceCtorEq, decide_true, decide_false]
    refine fin_t2 ?_ (by rw [h])
    rw [h]
    simp only [decide_true, Bool.true_and, overS]
    congr 1
    induction s.placed with
    | nil => rfl
    | cons x l ih => simp only [List.any_cons, List.all_cons, Bool.not_or, Bool.not_not, ih]
  · have h' : ((checkState c s).2 != 0) = true := by simp [h]
    simp only [h', Cd.cd18, Tk.t18, base0, base1, base2, base3, Option.isNone_none, Option.isNone_some, Nat.reduceBEq, true_or, or_true, false_or, or_false, Nat.reduceLT, Nat.reduceMod, Nat.reducePow, rmaps, nsucc, List.flatten_cons, List.flatten_nil, Nat.reduceEqDiff, Nat.reduceLeDiff, Nat.reduceAdd, Nat.reduceMul, Nat.reduceSub, ↓reduceIte, reduceCtorEq, decide_true, decide_false]
    exact fin_t2 (by simp [h]) rfl

theorem worst19 (l : List Int) (hb : l.length < 2 ^ 40) : FCall Try.prog 19 [ints l] (· = .v (.int .i64 (worstI l))) := by
  simp only [ints]
  refine ACall.enter [] Cd.fn19 (by simp) ?_
  simp only [Cd.cd19, Tk.t19, base0, base1, base2, base3, Option.isNone_none, Option.isNone_some, Nat.reduceBEq, true_or, or_true, false_or, or_false, Nat.reduceLT, Nat.reduceMod, Nat.reducePow, rmaps, nsucc, List.flatten_cons, List.flatten_nil, Nat.reduceEqDiff, Nat.reduceLeDiff, Nat.reduceAdd, Nat.reduceMul, Nat.reduceSub, ↓reduceIte, reduceCtorEq, decide_true, decide_false]
  refine LWP.loop [] (fun m f H' => ∃ i, m = l.length - i ∧ (i ≤ l.length) ∧ f.t 4 = .v (.int .i64 (i : Nat)) ∧ f.t 3 = .v (.int .i64 (worstI (l.take i))) ∧ f.t 0 = ints l ∧ f.ds = [] ∧ H' = AH.none) ?_ ?_ (m := l.length - (0))
  · exact ⟨0, rfl, (by omega), rfl, rfl, rfl, rfl, rfl⟩
  · rintro m f H' ⟨i, rfl, hi, f4, f3, f0, hds, rfl⟩
    simp only [ints] at f0
    by_cases hlt : i < l.length
    · have e := worstI_take hlt
      have gg := getD_ints l i hlt
      simp only [ltT hlt, List.length_map, inR hlt, Int.toNat_natCast, gg, ← e, f4, f3, f0, hds, Cd.cd19, Tk.t19, base0, base1, base2, base3, Option.isNone_none, Option.isNone_some, Nat.reduceBEq, true_or, or_true, false_or, or_false, Nat.reduceLT, Nat.reduceMod, Nat.reducePow, rmaps, nsucc, List.flatten_cons, List.flatten_nil, Nat.reduceEqDiff, Nat.reduceLeDiff, Nat.reduceAdd, Nat.reduceMul, Nat.reduceSub, ↓reduceIte, reduceCtorEq, decide_true, decide_false]
      refine ⟨_, by omega, i + 1, rfl, by omega, ?_⟩
      (repeat' apply And.intro) <;> first | rfl | (rw [wrapS (by omega)]) | omega | assumption | (trivial)
    · have hi' : i = l.length := by omega
      subst hi'
      simp only [ltF hlt, List.length_map, f4, f3, f0, hds, Cd.cd19, Tk.t19, base0, base1, base2, base3, Option.isNone_none, Option.isNone_some, Nat.reduceBEq, true_or, or_true, false_or, or_false, Nat.reduceLT, Nat.reduceMod, Nat.reducePow, rmaps, nsucc, List.flatten_cons, List.flatten_nil, Nat.reduceEqDiff, Nat.reduceLeDiff, Nat.reduceAdd, Nat.reduceMul, Nat.reduceSub, ↓reduceIte, reduceCtorEq, decide_true, decide_false]
      exact fin_v (by rw [List.take_length])
theorem max52 (l : List Int) (hb : l.length < 2 ^ 40) (h0 : 0 < l.length) (hp : ∀ x ∈ l, 0 ≤ x) : FCall Try.prog 52 [ints l] (· = .v (.int .i64 (worstI l))) := by
  simp only [ints]
  have e0 : (0 : Int) ≤ 0 ∧ (0 : Int) < (l.length : Int) := by omega
  have g0 := getD_ints l 0 h0
  have hx : 0 ≤ l.getD 0 0 := hp _ (by rw [List.getD_eq_getElem?_getD, List.getElem?_eq_getElem h0]; exact List.getElem_mem h0)
  have h1 := worstI_take h0
  have h2 : worstI (l.take 1) = l.getD 0 0 := by
    rw [h1, List.take_zero]; exact if_max hx
  refine ACall.enter [] Cd.fn52 (by simp) ?_
  simp only [List.length_map, show decide (((l.length : Nat) : Int) < 1) = false from decide_eq_false (by omega), e0, show Int.toNat 0 = 0 from rfl, g0, Cd.cd52, Tk.t52, base0, base1, base2, base3, Option.isNone_none, Option.isNone_some, Nat.reduceBEq, true_or, or_true, false_or, or_false, Nat.reduceLT, Nat.reduceMod, Nat.reducePow, rmaps, nsucc, List.flatten_cons, List.flatten_nil, Nat.reduceEqDiff, Nat.reduceLeDiff, Nat.reduceAdd, Nat.reduceMul, Nat.reduceSub, ↓reduceIte, reduceCtorEq, decide_true, decide_false]
  refine LWP.loop [] (fun m f H' => ∃ i, m = l.length - i ∧ (i ≤ l.length) ∧ (1 ≤ i) ∧ f.t 4 = .v (.int .i64 (i : Nat)) ∧ f.t 3 = .v (.int .i64 (worstI (l.take i))) ∧ f.t 0 = ints l ∧ f.ds = [] ∧ H' = AH.none) ?_ ?_ (m := l.length - (1))
  · exact ⟨1, rfl, (by omega), (by omega), rfl, by rw [h2]; rfl, rfl, rfl, rfl⟩
  · rintro m f H' ⟨i, rfl, hi, hi1, f4, f3, f0, hds, rfl⟩
    simp only [ints] at f0
    by_cases hlt : i < l.length
    · have e := worstI_take hlt
      have gg := getD_ints l i hlt
      simp only [ltT hlt, List.length_map, inR hlt, Int.toNat_natCast, gg, ← e, f4, f3, f0, hds, Cd.cd52, Tk.t52, base0, base1, base2, base3, Option.isNone_none, Option.isNone_some, Nat.reduceBEq, true_or, or_true, false_or, or_false, Nat.reduceLT, Nat.reduceMod, Nat.reducePow, rmaps, nsucc, List.flatten_cons, List.flatten_nil, Nat.reduceEqDiff, Nat.reduceLeDiff, Nat.reduceAdd, Nat.reduceMul, Nat.reduceSub, ↓reduceIte, reduceCtorEq, decide_true, decide_false]
      refine ⟨_, by omega, i + 1, rfl, by omega, by omega, ?_⟩
      (repeat' apply And.intro) <;> first | rfl | (rw [wrapS (by omega)]) | omega | assumption | (trivial)
    · have hi' : i = l.length := by omega
      subst hi'
      simp only [ltF hlt, List.length_map, f4, f3, f0, hds, Cd.cd52, Tk.t52, base0, base1, base2, base3, Option.isNone_none, Option.isNone_some, Nat.reduceBEq, true_or, or_true, false_or, or_false, Nat.reduceLT, Nat.reduceMod, Nat.reducePow, rmaps, nsucc, List.flatten_cons, List.flatten_nil, Nat.reduceEqDiff, Nat.reduceLeDiff, Nat.reduceAdd, Nat.reduceMul, Nat.reduceSub, ↓reduceIte, reduceCtorEq, decide_true, decide_false]
      exact fin_v (by rw [List.take_length])

theorem single39 : FCall Try.prog 39 [] (· = caseV ⟨1, [0], [1]⟩) := by
  refine ACall.enter [] Cd.fn39 (by simp) ?_
  simp only [Cd.cd39, Tk.t39, base0, base1, base2, base3, Option.isNone_none, Option.isNone_some, Nat.reduceBEq, true_or, or_true, false_or, or_false, Nat.reduceLT, Nat.reduceMod, Nat.reducePow, rmaps, nsucc, List.flatten_cons, List.flatten_nil, Nat.reduceEqDiff, Nat.reduceLeDiff, Nat.reduceAdd, Nat.reduceMul, Nat.reduceSub, ↓reduceIte, reduceCtorEq, decide_true, decide_false]
  exact ⟨_, _, rfl, Views.agg (Views.cons (FZ.v _).view (Views.cons (View.tip fun r hr => by simp at hr; subst hr; exact FZs.v1 _) (Views.cons (View.tip fun r hr => by simp at hr; subst hr; exact FZs.v1 _) Views.nil))), FZ.caseV ⟨1, [0], [1]⟩, rfl⟩
end Go.Proofs.Ytgmncggiblaciaa

/- Walks: what is small. -/
namespace Go.Proofs.Ytgmncggiblaciaa
open Go Go.Proofs.Ytgmncggiblaciaa.Ab
set_option maxRecDepth 100000

def smallB (c : Case) (s : Stt) : Bool := decide (c.place.length ≤ 9 ∧ c.verd.length ≤ 9 ∧ s.placed.length ≤ 9 ∧ s.hosts.length ≤ 9 ∧ s.net.length ≤ 15) && s.hosts.all fun x => decide (x.parts.length ≤ 9)
def fewB (s : Stt) : Bool := decide (s.placed.length ≤ 6 ∧ s.hosts.length ≤ 4 ∧ s.net.length ≤ 12) && s.hosts.all fun x => decide (x.parts.length ≤ 6)
theorem all_false {l : List Hs} {p : Hs → Bool} {i : Nat} (hi : i < l.length) (h : p (l.getD i default) = false) : l.all p = false := by
  rw [List.all_eq_false]; exact ⟨_, getD_mem hi, by rw [h]; simp⟩
theorem valid_few {c : Case} {s : Stt} (h : Valid c s) : fewB s = true := by
  have hlp := h.lp; have hlh := h.lh; have hln := h.ln; have hp6 := h.ok.p6; have hh4 := h.ok.h4
  simp only [fewB, Bool.and_eq_true, decide_eq_true_eq, List.all_eq_true]
  refine ⟨by omega, fun x hx => ?_⟩
  obtain ⟨i, hi, rfl⟩ := mem_getD hx
  exact Nat.le_trans (h.hs i hi).len hp6
set_option maxHeartbeats 1000000 in
theorem few14 (s : Stt) : FCall Try.prog 14 [stV s] (· = .v (.bool (fewB s))) := by
  simp only [stV]
  refine ACall.enter [] Cd.fn14 (by simp) ?_
  rcases (by omega : (6 < s.placed.length) ∨ (s.placed.length ≤ 6 ∧ 4 < s.hosts.length) ∨ (s.placed.length ≤ 6 ∧ s.hosts.length ≤ 4 ∧ 12 < s.net.length) ∨ (s.placed.length ≤ 6 ∧ s.hosts.length ≤ 4 ∧ s.net.length ≤ 12)) with h0 | ⟨h0, h1⟩ | ⟨h0, h1, h2⟩ | ⟨h0, h1, h2⟩
  · simp only [stL, plsV, hssV, pksV, ints, List.length_map, show decide (((s.placed.length : Nat) : Int) > 6) = true from decide_eq_true (by omega), Cd.cd14, Tk.t14, base0, base1, base2, base3, Option.isNone_none, Option.isNone_some, Nat.reduceBEq, true_or, or_true, false_or, or_false, Nat.reduceLT, Nat.reduceMod, Nat.reducePow, rmaps, nsucc, List.flatten_cons, List.flatten_nil, Nat.reduceEqDiff, Nat.reduceLeDiff, Nat.reduceAdd, Nat.reduceMul, Nat.reduceSub, ↓reduceIte, reduceCtorEq, decide_true, decide_false]
    exact fin_v (by rw [fewB]; simp; omega)
  · simp only [stL, plsV, hssV, pksV, ints, List.length_map, show decide (((s.placed.length : Nat) : Int) > 6) = false from decide_eq_false (by omega), show decide (((s.hosts.length : Nat) : Int) > 4) = true from decide_eq_true (by omega), Cd.cd14, Tk.t14, base0, base1, base2, base3, Option.isNone_none, Option.isNone_some, Nat.reduceBEq, true_or, or_true, false_or, or_false, Nat.reduceLT, Nat.reduceMod, Nat.reducePow, rmaps, nsucc, List.flatten_cons, List.flatten_nil, Nat.reduceEqDiff, Nat.reduceLeDiff, Nat.reduceAdd, Nat.reduceMul, Nat.reduceSub, ↓reduceIte, reduceCtorEq, decide_true, decide_false]
    exact fin_v (by rw [fewB]; simp; omega)
  · simp only [stL, plsV, hssV, pksV, ints, List.length_map, show decide (((s.placed.length : Nat) : Int) > 6) = false from decide_eq_false (by omega), show decide (((s.hosts.length : Nat) : Int) > 4) = false from decide_eq_false (by omega), show decide (((s.net.length : Nat) : Int) > 12) = true from decide_eq_true (by omega), Cd.cd14, Tk.t14, base0, base1, base2, base3, Option.isNone_none, Option.isNone_some, Nat.reduceBEq, true_or, or_true, false_or, or_false, Nat.reduceLT, Nat.reduceMod, Nat.reducePow, rmaps, nsucc, List.flatten_cons, List.flatten_nil, Nat.reduceEqDiff, Nat.reduceLeDiff, Nat.reduceAdd, Nat.reduceMul, Nat.reduceSub, ↓reduceIte, reduceCtorEq, decide_true, decide_false]
    exact fin_v (by rw [fewB]; simp; omega)
  · simp only [stL, plsV, hssV, pksV, ints, List.length_map, show decide (((s.placed.length : Nat) : Int) > 6) = false from decide_eq_false (by omega), show decide (((s.hosts.length : Nat) : Int) > 4) = false from decide_eq_false (by omega), show decide (((s.net.length : Nat) : Int) > 12) = false from decide_eq_false (by omega), Cd.cd14, Tk.t14, base0, base1, base2, base3, Option.isNone_none, Option.isNone_some, Nat.reduceBEq, true_or, or_true, false_or, or_false, Nat.reduceLT, Nat.reduceMod, Nat.reducePow, rmaps, nsucc, List.flatten_cons, List.flatten_nil, Nat.reduceEqDiff, Nat.reduceLeDiff, Nat.reduceAdd, Nat.reduceMul, Nat.reduceSub, ↓reduceIte, reduceCtorEq, decide_true, decide_false]
    refine LWP.loop [] (fun m f H' => ∃ i, m = s.hosts.length - i ∧ (i ≤ s.hosts.length) ∧ ((s.hosts.take i).all (fun x => decide (x.parts.length ≤ 6)) = true) ∧ f.t 3 = .v (.int .i64 (i : Nat)) ∧ f.t 1 = .box (stL s) ∧ f.ds = [] ∧ H' = AH.none) ?_ ?_ (m := s.hosts.length - (0))
    · exact ⟨0, rfl, (by omega), (by simp), rfl, by simp [stL, plsV, hssV, pksV, upd], rfl, rfl⟩
    · rintro m f H' ⟨i, rfl, hi, hok, f3, f1, hds, rfl⟩
      by_cases hlt : i < s.hosts.length
      · by_cases hp : (s.hosts.getD i default).parts.length ≤ 6
        · simp only [stL, hssV, List.length_map, ltT hlt, inR hlt, Int.toNat_natCast, getD_map hsR _ _ hlt, hsR, ptsV, show decide ((((s.hosts.getD i default).parts.length : Nat) : Int) > 6) = false from decide_eq_false (by omega), f3, f1, hds, Cd.cd14, Tk.t14, base0, base1, base2, base3, Option.isNone_none, Option.isNone_some, Nat.reduceBEq, true_or, or_true, false_or, or_false, Nat.reduceLT, Nat.reduceMod, Nat.reducePow, rmaps, nsucc, List.flatten_cons, List.flatten_nil, Nat.reduceEqDiff, Nat.reduceLeDiff, Nat.reduceAdd, Nat.reduceMul, Nat.reduceSub, ↓reduceIte, reduceCtorEq, decide_true, decide_false]
          refine ⟨_, by omega, i + 1, rfl, by omega, by rw [take_succ_getD hlt, List.all_append, hok]; simpa using hp, ?_⟩
          (repeat' apply And.intro) <;> first | rfl | (rw [wrapS (by omega)]) | omega | assumption
        · simp only [stL, hssV, List.length_map, ltT hlt, inR hlt, Int.toNat_natCast, getD_map hsR _ _ hlt, hsR, ptsV, show decide ((((s.hosts.getD i default).parts.length : Nat) : Int) > 6) = true from decide_eq_true (by omega), f3, f1, hds, Cd.cd14, Tk.t14, base0, base1, base2, base3, Option.isNone_none, Option.isNone_some, Nat.reduceBEq, true_or, or_true, false_or, or_false, Nat.reduceLT, Nat.reduceMod, Nat.reducePow, rmaps, nsucc, List.flatten_cons, List.flatten_nil, Nat.reduceEqDiff, Nat.reduceLeDiff, Nat.reduceAdd, Nat.reduceMul, Nat.reduceSub, ↓reduceIte, reduceCtorEq, decide_true, decide_false]
          exact fin_v (by rw [fewB, all_false hlt (by simpa using hp)]; simp)
      · have hi' : i = s.hosts.length := by omega
        subst hi'
        rw [List.take_length] at hok
        simp only [stL, hssV, List.length_map, ltF hlt, f3, f1, hds, Cd.cd14, Tk.t14, base0, base1, base2, base3, Option.isNone_none, Option.isNone_some, Nat.reduceBEq, true_or, or_true, false_or, or_false, Nat.reduceLT, Nat.reduceMod, Nat.reducePow, rmaps, nsucc, List.flatten_cons, List.flatten_nil, Nat.reduceEqDiff, Nat.reduceLeDiff, Nat.reduceAdd, Nat.reduceMul, Nat.reduceSub, ↓reduceIte, reduceCtorEq, decide_true, decide_false]
        exact fin_v (by rw [fewB, hok]; simp [*])
end Go.Proofs.Ytgmncggiblaciaa

/- Walks: a schedule. -/
namespace Go.Proofs.Ytgmncggiblaciaa
open Go Go.Proofs.Ytgmncggiblaciaa.Ab
set_option maxRecDepth 100000

theorem OwnX.has {B : Nat} {H : AH} {r : Nat} {c : List AV} {s : Stt} {p h : Nat} {aq : AV} {o : List OH} (x : OwnX B H r c s p h aq o) {n : Nat} (hn : NmS p h aq o n) : H.own n ≠ none := by
  rcases hn with rfl | rfl | hn | ⟨y, hy, hn⟩
  · rw [x.st.hp]; simp
  · rw [x.st.hh]; simp
  · rcases x.st.q with ⟨_, rfl | rfl⟩ | ⟨m, rest, rfl, e⟩
    · cases hn
    · cases hn
    · cases hn; rw [e]; simp
  · rcases x.st.m y hy with ⟨_, e | e⟩ | ⟨m, rest, e, e'⟩
    · rw [e] at hn; cases hn
    · rw [e] at hn; cases hn
    · rw [e] at hn; cases hn; rw [e']; simp

theorem RetR.go {P : Program} {m : FuncId} {args : List AV} {H : AH} {R : AH → Prop} {v : AV} {mu : List Nat} {Kt : Kont} {dst : Option Nat} {os : List COp} {f : AF} (h : ACall P m args H (fun out H' => out = .ret v ∧ R H'))
    (k : ∀ H', R H' → cops P mu Kt os (f.put dst v) H') : ACall P m args H (callK P mu Kt dst os f) :=
  h.mono fun out H' ⟨e, h1⟩ => by subst e; exact k H' h1

/-- a run under way, with the acts so far -/
structure Sched (B : Nat) (H : AH) (a b r : Nat) (c : Case) (l : List Ac) (s : Stt) : Prop where
  va : ∃ v, H.own a = some (.cells [v]) ∧ GrowE acR 2 H v l
  vb : H.own b = some (.cells [.ptr r 0])
  st : OwnR B (H.less (· == b)) r c s
  aB : a < B
  ab : a ≠ b
  bn : b < H.next
set_option maxHeartbeats 1000000 in
theorem step53 {B : Nat} {H : AH} {a b r : Nat} {c : Case} {l : List Ac} {s : Stt} (x : Sched B H a b r c l s) (hV : Valid c s) (hl : l.length ≤ 1000) (k n : Int) (ha : actE c s ⟨k, n⟩ = 0) :
    ACall Try.prog 53 [.v (.int .i64 k), .v (.int .i64 n), .ptr a 0, .ptr b 0] H (fun out H' => out = .ret (.tup []) ∧ H.next ≤ H'.next ∧ (∀ m, m < B → m ≠ a → H'.own m = H.own m) ∧ Sched B H' a b r c (l ++ [⟨k, n⟩]) (actS c s ⟨k, n⟩)) := by
  obtain ⟨v, h1, hG⟩ := x.va
  obtain ⟨p, h, aq, o, y⟩ := x.st
  have hbr := y.br
  have hvb := x.vb
  have haB := x.aB; have hab := x.ab; have hbn := x.bn
  have hnb : ∀ m, NmS p h aq o m → m ≠ b := fun m hm e => by
    have := y.has hm; subst e; simp [AH.less] at this
  have hrb : r ≠ b := fun e => by have := y.rb; subst e; simp [AH.less] at this
  have hlt : ∀ m, NmS p h aq o m → B ≤ m ∧ m < H.next := fun m hm => (y.nr m hm).2
  simp only [AH.less] at hbr
  have e1 : (a = H.next) = False := eq_false (by omega)
  have e2 : (b = H.next) = False := eq_false (by omega)
  have e3 : (H.next = a) = False := eq_false (by omega)
  have e4 : (b = a) = False := eq_false (Ne.symm hab)
  refine ACall.enter [] Cd.fn53 (by simp) ?_
  rcases hG with ⟨rfl, rfl⟩ | ⟨t, rfl, ht⟩
  · simp only [h1, hvb, e1, e2, e3, e4, show roomA 16 1 = true from rfl, Cd.cd53, Tk.t53, base0, base1, base2, base3, Option.isNone_none, Option.isNone_some, Nat.reduceBEq, true_or, or_true, false_or, or_false, Nat.reduceLT, Nat.reduceMod, Nat.reducePow, rmaps, nsucc, List.flatten_cons, List.flatten_nil, Nat.reduceEqDiff, Nat.reduceLeDiff, Nat.reduceAdd, Nat.reduceMul, Nat.reduceSub, ↓reduceIte, reduceCtorEq, decide_true, decide_false]
    refine RetR.go (R := fun H' => ∃ H5, (Fr B _ H5 ∧ OwnR B H5 r c (actS c s ⟨k, n⟩)) ∧ H' = H5.plus _ (· == b) ∧ ∀ m, (m == b) = true → _ → H5.own m = none) (((act47 (B := B) (r := r) (s := s) hV ⟨k, n⟩ ⟨p, h, aq, o, ?_, y.st.frame fun m hm => ?_, fun m hm => ?_, ?_, ?_⟩ ha).frame (· == b)).mono fun out H' ⟨H5, ⟨e, h1, h2⟩, h3, h4⟩ => ⟨e, H5, ⟨h1, h2⟩, h3, h4⟩) fun H4 hx => ?_
    · have := y.rb
      simp only [AH.less, beq_iff_eq, hrb, if_false] at this ⊢
      simp [show r ≠ a by omega, show r ≠ H.next by omega, this]
    · have := hlt m hm; have := hnb m hm
      simp [AH.less, this, show m ≠ a by omega, show m ≠ H.next by omega]
    · have := hlt m hm; have := y.nr m hm; simp [AH.less]; omega
    · exact hbr.1
    · simp [AH.less]; omega
    · obtain ⟨H5, ⟨hF, hR⟩, rfl, hno⟩ := hx
      have k4 := hF.own
      have kn := hF.next
      have kt := hF.tip
      simp only [AH.less] at k4 kn kt
      have hb5 := hno b (by simp) (by simp [e4, e2, hvb])
      simp only [Cd.cd53, Tk.t53, base0, base1, base2, base3, Option.isNone_none, Option.isNone_some, Nat.reduceBEq, true_or, or_true, false_or, or_false, Nat.reduceLT, Nat.reduceMod, Nat.reducePow, rmaps, nsucc, List.flatten_cons, List.flatten_nil, Nat.reduceEqDiff, Nat.reduceLeDiff, Nat.reduceAdd, Nat.reduceMul, Nat.reduceSub, ↓reduceIte, reduceCtorEq, decide_true, decide_false]
      refine ⟨by simp [AH.plus]; omega, fun m h1 h2 => ?_, ⟨⟨.lst 2 [[.v (.int .i64 k), .v (.int .i64 n)]] (.live (H.next + 1)), ?_, GrowE.live (by simp [acR]) (by simp [AH.plus, kt])⟩, ?_, ?_, haB, hab, ?_⟩⟩
      · by_cases e : m = b
        · subst e; simp [AH.plus, h2, e2]
        · have := k4 m h1
          simp only [AH.plus, beq_iff_eq, e, if_false]
          rw [this]; simp [h2, e, show m ≠ H.next by omega]
      · have := k4 a haB
        simp only [AH.plus, beq_iff_eq, hab, if_false]
        rw [this]; simp [hab]
      · simp [AH.plus, e4, e2, hvb]
      · obtain ⟨p', h', aq', o', z⟩ := hR
        have hz : ∀ m, NmS p' h' aq' o' m → m ≠ b := fun m hm e => z.has hm (by rw [e]; exact hb5)
        have hzr : r ≠ b := hrb
        refine ⟨p', h', aq', o', ?_, z.st.frame fun m hm => ?_, z.nr, z.br⟩
        · simp [AH.less, AH.plus, hzr]; exact z.rb
        · simp [AH.less, AH.plus, hz m hm]
      · simp [AH.plus]; omega
  · simp only [h1, hvb, e1, e2, e3, e4, ht, List.length_map, room1 (b := 16) (n := l.length) (by omega) (by omega), Cd.cd53, Tk.t53, base0, base1, base2, base3, Option.isNone_none, Option.isNone_some, Nat.reduceBEq, true_or, or_true, false_or, or_false, Nat.reduceLT, Nat.reduceMod, Nat.reducePow, rmaps, nsucc, List.flatten_cons, List.flatten_nil, Nat.reduceEqDiff, Nat.reduceLeDiff, Nat.reduceAdd, Nat.reduceMul, Nat.reduceSub, ↓reduceIte, reduceCtorEq, decide_true, decide_false]
    refine RetR.go (R := fun H' => ∃ H5, (Fr B _ H5 ∧ OwnR B H5 r c (actS c s ⟨k, n⟩)) ∧ H' = H5.plus _ (· == b) ∧ ∀ m, (m == b) = true → _ → H5.own m = none) (((act47 (B := B) (r := r) (s := s) hV ⟨k, n⟩ ⟨p, h, aq, o, ?_, y.st.frame fun m hm => ?_, fun m hm => ?_, ?_, ?_⟩ ha).frame (· == b)).mono fun out H' ⟨H5, ⟨e, h1, h2⟩, h3, h4⟩ => ⟨e, H5, ⟨h1, h2⟩, h3, h4⟩) fun H4 hx => ?_
    · have := y.rb
      simp only [AH.less, beq_iff_eq, hrb, if_false] at this ⊢
      simp [show r ≠ a by omega, show r ≠ H.next by omega, this]
    · have := hlt m hm; have := hnb m hm
      simp [AH.less, this, show m ≠ a by omega, show m ≠ H.next by omega]
    · have := hlt m hm; have := y.nr m hm; simp [AH.less]; omega
    · exact hbr.1
    · simp [AH.less]; omega
    · obtain ⟨H5, ⟨hF, hR⟩, rfl, hno⟩ := hx
      have k4 := hF.own
      have kn := hF.next
      have kt := hF.tip
      simp only [AH.less] at k4 kn kt
      have hb5 := hno b (by simp) (by simp [e4, e2, hvb])
      simp only [Cd.cd53, Tk.t53, base0, base1, base2, base3, Option.isNone_none, Option.isNone_some, Nat.reduceBEq, true_or, or_true, false_or, or_false, Nat.reduceLT, Nat.reduceMod, Nat.reducePow, rmaps, nsucc, List.flatten_cons, List.flatten_nil, Nat.reduceEqDiff, Nat.reduceLeDiff, Nat.reduceAdd, Nat.reduceMul, Nat.reduceSub, ↓reduceIte, reduceCtorEq, decide_true, decide_false]
      refine ⟨by simp [AH.plus]; omega, fun m h1 h2 => ?_, ⟨⟨.lst 2 (l.map acR ++ [[.v (.int .i64 k), .v (.int .i64 n)]]) (.live t), ?_, GrowE.live (by simp [acR]) (by simp [AH.plus, kt])⟩, ?_, ?_, haB, hab, ?_⟩⟩
      · by_cases e : m = b
        · subst e; simp [AH.plus, h2, e2]
        · have := k4 m h1
          simp only [AH.plus, beq_iff_eq, e, if_false]
          rw [this]; simp [h2, e, show m ≠ H.next by omega]
      · have := k4 a haB
        simp only [AH.plus, beq_iff_eq, hab, if_false]
        rw [this]; simp [hab]
      · simp [AH.plus, e4, e2, hvb]
      · obtain ⟨p', h', aq', o', z⟩ := hR
        have hz : ∀ m, NmS p' h' aq' o' m → m ≠ b := fun m hm e => z.has hm (by rw [e]; exact hb5)
        have hzr : r ≠ b := hrb
        refine ⟨p', h', aq', o', ?_, z.st.frame fun m hm => ?_, z.nr, z.br⟩
        · simp [AH.less, AH.plus, hzr]; exact z.rb
        · simp [AH.less, AH.plus, hz m hm]
      · simp [AH.plus]; omega
end Go.Proofs.Ytgmncggiblaciaa

/- Walks: a schedule to a verdict. -/
namespace Go.Proofs.Ytgmncggiblaciaa
open Go Go.Proofs.Ytgmncggiblaciaa.Ab
set_option maxRecDepth 100000

theorem runFrom_snoc {c : Case} {a : Ac} : ∀ {l : List Ac} {s s' : Stt} {k : Nat}, runFrom c s l k = (s', k + l.length, 0) → actE c s' a = 0 → runFrom c s (l ++ [a]) k = (actS c s' a, k + (l.length + 1), 0)
  | [], s, s', k, h, ha => by
    simp only [runFrom, Prod.mk.injEq] at h
    obtain ⟨rfl, _⟩ := h
    simp [runFrom, ha]
  | x :: l, s, s', k, h, ha => by
    simp only [runFrom, List.cons_append] at h ⊢
    by_cases hx : actE c s x = 0
    · rw [if_pos hx] at h ⊢
      have h' : runFrom c (actS c s x) l (k + 1) = (s', k + 1 + l.length, 0) := by rw [h]; simp; omega
      rw [runFrom_snoc h' ha]; simp
      omega
    · rw [if_neg hx] at h; simp at h
theorem reach_run {c : Case} {l : List Ac} {s : Stt} (h : Reach c l s) : runFrom c (startS c) l 0 = (s, l.length, 0) := by
  induction h with
  | nil => rfl
  | @snoc l s a h ha ih =>
    have h1 : runFrom c (startS c) l 0 = (s, 0 + l.length, 0) := by rw [ih]; simp
    rw [runFrom_snoc h1 ha]; simp

/-- what a schedule to a verdict is -/
def SchedR (c : Case) (v : Int) (out : AV) : Prop :=
  if (checkCase c).2 ≠ 0 then out = .tup [acsV [], .v (.int .i64 (checkCase c).2)] else
  if isVerdict v = false then out = .tup [acsV [], .v (.int .i64 3)] else
  if (v == 4 || v == worstI c.verd) = false then out = .tup [acsV [], .v (.int .i64 23)] else
  ∃ l s, out = .tup [acsV l, .v (.int .i64 0)] ∧ l.length ≤ 60 ∧ Reach c l s ∧ overS s = true ∧ s.v = v
theorem fin_r {H : AH} {a : AV} {l : List Ac} {y : Value} {R : AV → Prop} (hG : GrowE acR 2 H a l) (hr : R (.tup [acsV l, .v y])) : ∃ v v', AOut.ret (.tup [a, .v y]) = .ret v ∧ View H v v' ∧ FZ v' ∧ R v' :=
  ⟨_, _, rfl, Views.tup (Views.cons (hG.view FZs.acR) (Views.cons (FZ.v _).view Views.nil)), FZ.tup (FZs.two (FZ.acsV l) (FZ.v _)), hr⟩

theorem Sched.net {B : Nat} {H : AH} {a b r : Nat} {c : Case} {l : List Ac} {s : Stt} (x : Sched B H a b r c l s) (hn : 0 < s.net.length) :
    ∃ n p h o, H.own r = some (.cells [.v (.int .i64 c.hosts), ints c.place, ints c.verd, .sl 4 p 0 s.placed.length, .v (.int .i64 s.v), .sl 2 h 0 (List.length (α := OH) o), .sl 4 n 0 s.net.length]) := by
  obtain ⟨p, h, aq, o, y⟩ := x.st
  obtain ⟨n, rest, rfl, e⟩ := y.st.q.own hn
  have hrb : r ≠ b := fun e => by have := y.rb; subst e; simp [AH.less] at this
  have := y.rb
  simp only [AH.less, beq_iff_eq, hrb, if_false] at this
  exact ⟨n, p, h, o, by rw [this]; rfl⟩

set_option maxHeartbeats 2000000 in
theorem schedule28 (c : Case) (v : Int) : FCall Try.prog 28 [caseV c, .v (.int .i64 v)] (SchedR c v) := by
  simp only [caseV]
  refine ACall.enter [53] Cd.fn28 (by simp) ?_
  simp only [Cd.cd28, Tk.t28, base0, base1, base2, base3, Option.isNone_none, Option.isNone_some, Nat.reduceBEq, true_or, or_true, false_or, or_false, Nat.reduceLT, Nat.reduceMod, Nat.reducePow, rmaps, nsucc, List.flatten_cons, List.flatten_nil, Nat.reduceEqDiff, Nat.reduceLeDiff, Nat.reduceAdd, Nat.reduceMul, Nat.reduceSub, ↓reduceIte, reduceCtorEq, decide_true, decide_false]
  refine (caseErr41 c).go (FZs.one (FZ.caseV c)) ?_
  by_cases hc : (checkCase c).2 = 0
  rotate_left
  · have hc' : ((checkCase c).2 != 0) = true := by simp [hc]
    simp only [hc', Cd.cd28, Tk.t28, base0, base1, base2, base3, Option.isNone_none, Option.isNone_some, Nat.reduceBEq, true_or, or_true, false_or, or_false, Nat.reduceLT, Nat.reduceMod, Nat.reducePow, rmaps, nsucc, List.flatten_cons, List.flatten_nil, Nat.reduceEqDiff, Nat.reduceLeDiff, Nat.reduceAdd, Nat.reduceMul, Nat.reduceSub, ↓reduceIte, reduceCtorEq, decide_true, decide_false]
    exact fin_r (l := []) GrowE.nil (by unfold SchedR; rw [if_pos hc])
  have hc' : ((checkCase c).2 != 0) = false := by simp [hc]
  have hk := checkCase_ok.mp hc
  have hp1 := hk.p1; have hp6 := hk.p6; have hvl := hk.vl
  simp only [hc', Cd.cd28, Tk.t28, base0, base1, base2, base3, Option.isNone_none, Option.isNone_some, Nat.reduceBEq, true_or, or_true, false_or, or_false, Nat.reduceLT, Nat.reduceMod, Nat.reducePow, rmaps, nsucc, List.flatten_cons, List.flatten_nil, Nat.reduceEqDiff, Nat.reduceLeDiff, Nat.reduceAdd, Nat.reduceMul, Nat.reduceSub, ↓reduceIte, reduceCtorEq, decide_true, decide_false]
  refine (isVerdict51 v).go (FZs.v1 _) ?_
  cases hv : isVerdict v
  · simp only [hv, Cd.cd28, Tk.t28, base0, base1, base2, base3, Option.isNone_none, Option.isNone_some, Nat.reduceBEq, true_or, or_true, false_or, or_false, Nat.reduceLT, Nat.reduceMod, Nat.reducePow, rmaps, nsucc, List.flatten_cons, List.flatten_nil, Nat.reduceEqDiff, Nat.reduceLeDiff, Nat.reduceAdd, Nat.reduceMul, Nat.reduceSub, ↓reduceIte, reduceCtorEq, decide_true, decide_false]
    exact fin_r (l := []) GrowE.nil (by unfold SchedR; rw [if_neg (by simp [hc]), if_pos hv])
  simp only [hv, Cd.cd28, Tk.t28, base0, base1, base2, base3, Option.isNone_none, Option.isNone_some, Nat.reduceBEq, true_or, or_true, false_or, or_false, Nat.reduceLT, Nat.reduceMod, Nat.reducePow, rmaps, nsucc, List.flatten_cons, List.flatten_nil, Nat.reduceEqDiff, Nat.reduceLeDiff, Nat.reduceAdd, Nat.reduceMul, Nat.reduceSub, ↓reduceIte, reduceCtorEq, decide_true, decide_false]
  refine (max52 c.verd (by omega) (by omega) fun x hx => ?_).go (FZs.one (FZ.ints _)) ?_
  · obtain ⟨i, hi, rfl⟩ := List.getElem_of_mem hx
    have := (hk.pl i (by omega)).2.2.1
    rw [List.getD_eq_getElem?_getD, List.getElem?_eq_getElem hi] at this; exact this
  by_cases h4 : v = 4 ∧ worstI c.verd ≠ v
  · have g1 : (v == 4) = true := by simp [h4.1]
    have g2 : (worstI c.verd != v) = true := by simpa using h4.2
    simp only [g1, g2, ints, List.length_map, Cd.cd28, Tk.t28, base0, base1, base2, base3, Option.isNone_none, Option.isNone_some, Nat.reduceBEq, true_or, or_true, false_or, or_false, Nat.reduceLT, Nat.reduceMod, Nat.reducePow, rmaps, nsucc, List.flatten_cons, List.flatten_nil, Nat.reduceEqDiff, Nat.reduceLeDiff, Nat.reduceAdd, Nat.reduceMul, Nat.reduceSub, ↓reduceIte, reduceCtorEq, decide_true, decide_false]
    refine LWP.loop [] (fun m f H' => ∃ i, m = c.place.length - i ∧ (i ≤ c.place.length) ∧ f.t 36 = .v (.int .i64 (i : Nat)) ∧ f.t 35 = .v (.int .i64 (c.place.length : Nat)) ∧ f.t 7 = .ptr AH.none.next 0 ∧ f.ds = [] ∧ ∃ va s, H'.own AH.none.next = some (.cells [va]) ∧ GrowE acR 2 H' va ((List.range i).map fun j : Nat => (⟨7, j⟩ : Ac)) ∧ Reach c ((List.range i).map fun j : Nat => (⟨7, j⟩ : Ac)) s ∧ GivenTo c s i ∧ s.v ≤ 4 ∧ (0 < i → s.v = 4)) ?_ ?_ (m := c.place.length - (0))
    · exact ⟨0, rfl, (by omega), rfl, rfl, rfl, rfl, ⟨_, startS c, rfl, GrowE.nil, Reach.nil, givenTo_start, by simp [startS], fun h => by omega⟩⟩
    · rintro m f H' ⟨i, rfl, hi, f36, f35, f7, hds, ⟨va,s,hva,hG,hr,hg,hvv,hv0⟩⟩
      by_cases hlt : i < c.place.length
      · have hV := hr.valid hk
        obtain ⟨q1, q2⟩ := giveUp_step hV hlt hg
        have hr' := hr.snoc q1
        have hmap : ((List.range (i + 1)).map fun j : Nat => (⟨7, j⟩ : Ac)) = ((List.range i).map fun j : Nat => (⟨7, j⟩ : Ac)) ++ [⟨7, (i : Int)⟩] := by rw [List.range_succ, List.map_append]; rfl
        have hvn : (actS c s ⟨7, i⟩).v ≤ 4 ∧ (actS c s ⟨7, i⟩).v = 4 := by
          rw [act7 rfl]; simp only [takeS]; split <;> omega
        generalize hL : ((List.range i).map fun j : Nat => (⟨7, j⟩ : Ac)) = L at hG hr hr' hmap
        have hLl : L.length = i := by rw [← hL]; simp
        rcases hG with ⟨rfl, rfl⟩ | ⟨t, rfl, ht⟩
        · simp only [ltT hlt, hva, show roomA 16 1 = true from rfl, f36, f35, f7, hds, Cd.cd28, Tk.t28, base0, base1, base2, base3, Option.isNone_none, Option.isNone_some, Nat.reduceBEq, true_or, or_true, false_or, or_false, Nat.reduceLT, Nat.reduceMod, Nat.reducePow, rmaps, nsucc, List.flatten_cons, List.flatten_nil, Nat.reduceEqDiff, Nat.reduceLeDiff, Nat.reduceAdd, Nat.reduceMul, Nat.reduceSub, ↓reduceIte, reduceCtorEq, decide_true, decide_false]
          refine ⟨_, by omega, i + 1, rfl, by omega, ?_⟩
          (repeat' apply And.intro) <;> first | rfl | (rw [wrapS (by omega)]) | omega | assumption | (exact ⟨.lst 2 [[.v (.int .i64 7), .v (.int .i64 (i : Nat))]] (.live H'.next), _, by simp, by rw [hmap]; exact GrowE.live (by simp [acR]) (by simp), by rw [hmap]; exact hr', q2, hvn.1, fun _ => hvn.2⟩)
        · simp only [ltT hlt, hva, ht, List.length_map, room1 (b := 16) (n := L.length) (by omega) (by omega), f36, f35, f7, hds, Cd.cd28, Tk.t28, base0, base1, base2, base3, Option.isNone_none, Option.isNone_some, Nat.reduceBEq, true_or, or_true, false_or, or_false, Nat.reduceLT, Nat.reduceMod, Nat.reducePow, rmaps, nsucc, List.flatten_cons, List.flatten_nil, Nat.reduceEqDiff, Nat.reduceLeDiff, Nat.reduceAdd, Nat.reduceMul, Nat.reduceSub, ↓reduceIte, reduceCtorEq, decide_true, decide_false]
          refine ⟨_, by omega, i + 1, rfl, by omega, ?_⟩
          (repeat' apply And.intro) <;> first | rfl | (rw [wrapS (by omega)]) | omega | assumption | (exact ⟨.lst 2 (L.map acR ++ [[.v (.int .i64 7), .v (.int .i64 (i : Nat))]]) (.live t), _, by simp, by rw [hmap]; exact GrowE.live (by simp [acR]) (by simp), by rw [hmap]; exact hr', q2, hvn.1, fun _ => hvn.2⟩)
      · have hi' : i = c.place.length := by omega
        subst hi'
        simp only [ltF hlt, hva, f36, f35, f7, hds, Cd.cd28, Tk.t28, base0, base1, base2, base3, Option.isNone_none, Option.isNone_some, Nat.reduceBEq, true_or, or_true, false_or, or_false, Nat.reduceLT, Nat.reduceMod, Nat.reducePow, rmaps, nsucc, List.flatten_cons, List.flatten_nil, Nat.reduceEqDiff, Nat.reduceLeDiff, Nat.reduceAdd, Nat.reduceMul, Nat.reduceSub, ↓reduceIte, reduceCtorEq, decide_true, decide_false]
        refine fin_r hG ?_
        unfold SchedR
        rw [if_neg (by simp [hc]), if_neg (by simp [hv]), if_neg (by simp [h4.1])]
        exact ⟨_, s, rfl, by simp; omega, hr, given_over (hr.valid hk) hg, by rw [hv0 (by omega), h4.1]⟩
  · have g0 : (v == 4) = false ∨ ((v == 4) = true ∧ (worstI c.verd != v) = false) := by
      by_cases e : v = 4
      · exact .inr ⟨by simp [e], by
          have : worstI c.verd = v := Classical.byContradiction fun h => h4 ⟨e, h⟩
          simp [this]⟩
      · exact .inl (by simp [e])
    by_cases h5 : v = worstI c.verd
    rotate_left
    · have e : v ≠ 4 := fun e => h4 ⟨e, fun h => h5 h.symm⟩
      have g1 : (v == 4) = false := by simp [e]
      have g2 : (v != worstI c.verd) = true := by simpa using h5
      simp only [g1, g2, Cd.cd28, Tk.t28, base0, base1, base2, base3, Option.isNone_none, Option.isNone_some, Nat.reduceBEq, true_or, or_true, false_or, or_false, Nat.reduceLT, Nat.reduceMod, Nat.reducePow, rmaps, nsucc, List.flatten_cons, List.flatten_nil, Nat.reduceEqDiff, Nat.reduceLeDiff, Nat.reduceAdd, Nat.reduceMul, Nat.reduceSub, ↓reduceIte, reduceCtorEq, decide_true, decide_false]
      exact fin_r (l := []) GrowE.nil (by unfold SchedR; rw [if_neg (by simp [hc]), if_neg (by simp [hv]), if_pos (by simp [e, h5])])
    · have g2 : (v != worstI c.verd) = false := by simpa using h5
      rcases g0 with g0 | ⟨g0, g1⟩
      · simp only [g0, g2, Cd.cd28, Tk.t28, base0, base1, base2, base3, Option.isNone_none, Option.isNone_some, Nat.reduceBEq, true_or, or_true, false_or, or_false, Nat.reduceLT, Nat.reduceMod, Nat.reducePow, rmaps, nsucc, List.flatten_cons, List.flatten_nil, Nat.reduceEqDiff, Nat.reduceLeDiff, Nat.reduceAdd, Nat.reduceMul, Nat.reduceSub, ↓reduceIte, reduceCtorEq, decide_true, decide_false]
        refine DoneV.go' (start42 c hk _) fun cs H1 hF hO => ?_
        obtain ⟨p, h, aq, o, rfl, x0, hnm⟩ := hO
        obtain ⟨t1, n1, k1⟩ := hF
        simp only at t1 n1 k1 hnm
        have hone := one_aq x0.q
        have hcel := cells_aq x0.q
        have k0 := k1 AH.none.next (by omega)
        simp at k0
        simp only [stO]
        obtain ⟨r, hr⟩ : ∃ r, r = H1.next := ⟨_, rfl⟩
        simp only [hone, hcel, ints, List.length_map, Cd.cd28, Tk.t28, base0, base1, base2, base3, Option.isNone_none, Option.isNone_some, Nat.reduceBEq, true_or, or_true, false_or, or_false, Nat.reduceLT, Nat.reduceMod, Nat.reducePow, rmaps, nsucc, List.flatten_cons, List.flatten_nil, Nat.reduceEqDiff, Nat.reduceLeDiff, Nat.reduceAdd, Nat.reduceMul, Nat.reduceSub, ↓reduceIte, reduceCtorEq, decide_true, decide_false]
        refine LWP.loop [53] (fun m f H' => ∃ i, m = c.place.length - i ∧ (i ≤ c.place.length) ∧ f.t 58 = .v (.int .i64 (i : Nat)) ∧ f.t 57 = .v (.int .i64 (c.place.length : Nat)) ∧ f.t 11 = .fn (.func 53) [] [.ptr AH.none.next 0, .ptr (AH.none.next + 1) 0] ∧ f.t 10 = .ptr (AH.none.next + 1) 0 ∧ f.t 7 = .ptr AH.none.next 0 ∧ f.ds = [] ∧ ∃ l s, Sched (AH.none.next + 2) H' AH.none.next (AH.none.next + 1) r c l s ∧ Reach c l s ∧ Seq1 c s i ∧ l.length = 4 * i) ?_ ?_ (m := c.place.length - (0))
        · exact ⟨0, rfl, (by omega), rfl, rfl, rfl, rfl, rfl, rfl, by refine ⟨[], startS c, ⟨⟨_, ?_, GrowE.nil⟩, ?_, ⟨p, h, aq, o, ?_, x0.frame fun m hm => ?_, fun m hm => ?_, ?_, ?_⟩, ?_, ?_, ?_⟩, Reach.nil, seq1_start, rfl⟩ <;> first   | (simp [show AH.none.next ≠ H1.next by omega, k0]; done)   | (simp [hr]; done)   | (simp [AH.less, hr, runL, caseL, stO, ints, show H1.next ≠ AH.none.next + 1 by omega]; done)   | (have := hnm m hm; simp [AH.less, show m ≠ H1.next by omega, show m ≠ AH.none.next + 1 by omega]; done)   | (have := hnm m hm; simp [AH.less]; omega)   | omega   | (simp [AH.less]; omega)   | trace_state⟩
        · rintro m f H' ⟨i, rfl, hi, f58, f57, f11, f10, f7, hds, ⟨l,s,hS,hrc,hq,hll⟩⟩
          by_cases hlt : i < c.place.length
          · have hV := hrc.valid hk
            have hnl := hq.nl
            obtain ⟨a1, b1⟩ := step_ask hV hlt hq
            obtain ⟨a2, b2⟩ := step_create hV hlt hq
            obtain ⟨a3, b3⟩ := step_end hV hlt hq
            obtain ⟨a4, b4⟩ := step_taken hV hlt hq
            have r1 := hrc.snoc a1
            rw [b1] at r1
            have r2 := r1.snoc a2
            rw [b2] at r2
            have r3 := r2.snoc a3
            rw [b3] at r3
            have r4 := r3.snoc a4
            rw [b4] at r4
            simp only [ltT hlt, f58, f57, f11, f10, f7, hds, Cd.cd28, Tk.t28, base0, base1, base2, base3, Option.isNone_none, Option.isNone_some, Nat.reduceBEq, true_or, or_true, false_or, or_false, Nat.reduceLT, Nat.reduceMod, Nat.reducePow, rmaps, nsucc, List.flatten_cons, List.flatten_nil, Nat.reduceEqDiff, Nat.reduceLeDiff, Nat.reduceAdd, Nat.reduceMul, Nat.reduceSub, ↓reduceIte, reduceCtorEq, decide_true, decide_false]
            refine RetR.go (step53 hS hV (by omega) 0 i a1) fun H2 hS1 => ?_
            obtain ⟨_, _, hS1⟩ := hS1
            rw [b1] at hS1
            obtain ⟨n, p, h, o, e1⟩ := hS1.net (by simp [s1])
            have w1 : IntKind.i64.wrap (((s1 c s i).net.length : Nat) - 1) = (s.net.length : Nat) := by rw [wrapI (by simp [s1] <;> omega) (by simp [s1] <;> omega)]; simp [s1]
            simp only [hS1.vb, e1, w1, f58, f57, f11, f10, f7, hds, Cd.cd28, Tk.t28, base0, base1, base2, base3, Option.isNone_none, Option.isNone_some, Nat.reduceBEq, true_or, or_true, false_or, or_false, Nat.reduceLT, Nat.reduceMod, Nat.reducePow, rmaps, nsucc, List.flatten_cons, List.flatten_nil, Nat.reduceEqDiff, Nat.reduceLeDiff, Nat.reduceAdd, Nat.reduceMul, Nat.reduceSub, ↓reduceIte, reduceCtorEq, decide_true, decide_false]
            refine RetR.go (step53 hS1 (r1.valid hk) (by simp; omega) 1 (s.net.length : Nat) a2) fun H3 hS2 => ?_
            obtain ⟨_, _, hS2⟩ := hS2
            rw [b2] at hS2
            simp only [f58, f57, f11, f10, f7, hds, Cd.cd28, Tk.t28, base0, base1, base2, base3, Option.isNone_none, Option.isNone_some, Nat.reduceBEq, true_or, or_true, false_or, or_false, Nat.reduceLT, Nat.reduceMod, Nat.reducePow, rmaps, nsucc, List.flatten_cons, List.flatten_nil, Nat.reduceEqDiff, Nat.reduceLeDiff, Nat.reduceAdd, Nat.reduceMul, Nat.reduceSub, ↓reduceIte, reduceCtorEq, decide_true, decide_false]
            refine RetR.go (step53 hS2 (r2.valid hk) (by simp; omega) 4 i a3) fun H4 hS3 => ?_
            obtain ⟨_, _, hS3⟩ := hS3
            rw [b3] at hS3
            obtain ⟨n', p', h', o', e3⟩ := hS3.net (by simp [s3])
            have w3 : IntKind.i64.wrap (((s3 c s i).net.length : Nat) - 1) = (s.net.length : Nat) + 1 := by rw [wrapI (by simp [s3] <;> omega) (by simp [s3] <;> omega)]; simp [s3] <;> omega
            simp only [hS3.vb, e3, w3, f58, f57, f11, f10, f7, hds, Cd.cd28, Tk.t28, base0, base1, base2, base3, Option.isNone_none, Option.isNone_some, Nat.reduceBEq, true_or, or_true, false_or, or_false, Nat.reduceLT, Nat.reduceMod, Nat.reducePow, rmaps, nsucc, List.flatten_cons, List.flatten_nil, Nat.reduceEqDiff, Nat.reduceLeDiff, Nat.reduceAdd, Nat.reduceMul, Nat.reduceSub, ↓reduceIte, reduceCtorEq, decide_true, decide_false]
            refine RetR.go (step53 hS3 (r3.valid hk) (by simp; omega) 1 ((s.net.length : Nat) + 1) a4) fun H5 hS4 => ?_
            obtain ⟨_, _, hS4⟩ := hS4
            rw [b4] at hS4
            simp only [f58, f57, f11, f10, f7, hds, Cd.cd28, Tk.t28, base0, base1, base2, base3, Option.isNone_none, Option.isNone_some, Nat.reduceBEq, true_or, or_true, false_or, or_false, Nat.reduceLT, Nat.reduceMod, Nat.reducePow, rmaps, nsucc, List.flatten_cons, List.flatten_nil, Nat.reduceEqDiff, Nat.reduceLeDiff, Nat.reduceAdd, Nat.reduceMul, Nat.reduceSub, ↓reduceIte, reduceCtorEq, decide_true, decide_false]
            refine ⟨_, by omega, i + 1, rfl, by omega, ?_⟩
            (repeat' apply And.intro) <;> first | rfl | (rw [wrapS (by omega)]) | omega | assumption | (exact ⟨_, _, hS4, r4, seq1_step hV hlt hq, by simp; omega⟩)
          · have hi' : i = c.place.length := by omega
            subst hi'
            obtain ⟨va, e1, e2⟩ := hS.va
            simp only [ltF hlt, e1, f58, f57, f11, f10, f7, hds, Cd.cd28, Tk.t28, base0, base1, base2, base3, Option.isNone_none, Option.isNone_some, Nat.reduceBEq, true_or, or_true, false_or, or_false, Nat.reduceLT, Nat.reduceMod, Nat.reducePow, rmaps, nsucc, List.flatten_cons, List.flatten_nil, Nat.reduceEqDiff, Nat.reduceLeDiff, Nat.reduceAdd, Nat.reduceMul, Nat.reduceSub, ↓reduceIte, reduceCtorEq, decide_true, decide_false]
            refine fin_r e2 ?_
            unfold SchedR
            obtain ⟨o1, o2⟩ := seq1_over (hrc.valid hk) hq
            rw [if_neg (by simp [hc]), if_neg (by simp [hv]), if_neg (by simp [h5])]
            exact ⟨l, s, rfl, by omega, hrc, o1, by rw [o2, h5]⟩
      · simp only [g0, g1, g2, Cd.cd28, Tk.t28, base0, base1, base2, base3, Option.isNone_none, Option.isNone_some, Nat.reduceBEq, true_or, or_true, false_or, or_false, Nat.reduceLT, Nat.reduceMod, Nat.reducePow, rmaps, nsucc, List.flatten_cons, List.flatten_nil, Nat.reduceEqDiff, Nat.reduceLeDiff, Nat.reduceAdd, Nat.reduceMul, Nat.reduceSub, ↓reduceIte, reduceCtorEq, decide_true, decide_false]
        refine DoneV.go' (start42 c hk _) fun cs H1 hF hO => ?_
        obtain ⟨p, h, aq, o, rfl, x0, hnm⟩ := hO
        obtain ⟨t1, n1, k1⟩ := hF
        simp only at t1 n1 k1 hnm
        have hone := one_aq x0.q
        have hcel := cells_aq x0.q
        have k0 := k1 AH.none.next (by omega)
        simp at k0
        simp only [stO]
        obtain ⟨r, hr⟩ : ∃ r, r = H1.next := ⟨_, rfl⟩
        simp only [hone, hcel, ints, List.length_map, Cd.cd28, Tk.t28, base0, base1, base2, base3, Option.isNone_none, Option.isNone_some, Nat.reduceBEq, true_or, or_true, false_or, or_false, Nat.reduceLT, Nat.reduceMod, Nat.reducePow, rmaps, nsucc, List.flatten_cons, List.flatten_nil, Nat.reduceEqDiff, Nat.reduceLeDiff, Nat.reduceAdd, Nat.reduceMul, Nat.reduceSub, ↓reduceIte, reduceCtorEq, decide_true, decide_false]
        refine LWP.loop [53] (fun m f H' => ∃ i, m = c.place.length - i ∧ (i ≤ c.place.length) ∧ f.t 58 = .v (.int .i64 (i : Nat)) ∧ f.t 57 = .v (.int .i64 (c.place.length : Nat)) ∧ f.t 11 = .fn (.func 53) [] [.ptr AH.none.next 0, .ptr (AH.none.next + 1) 0] ∧ f.t 10 = .ptr (AH.none.next + 1) 0 ∧ f.t 7 = .ptr AH.none.next 0 ∧ f.ds = [] ∧ ∃ l s, Sched (AH.none.next + 2) H' AH.none.next (AH.none.next + 1) r c l s ∧ Reach c l s ∧ Seq1 c s i ∧ l.length = 4 * i) ?_ ?_ (m := c.place.length - (0))
        · exact ⟨0, rfl, (by omega), rfl, rfl, rfl, rfl, rfl, rfl, by refine ⟨[], startS c, ⟨⟨_, ?_, GrowE.nil⟩, ?_, ⟨p, h, aq, o, ?_, x0.frame fun m hm => ?_, fun m hm => ?_, ?_, ?_⟩, ?_, ?_, ?_⟩, Reach.nil, seq1_start, rfl⟩ <;> first   | (simp [show AH.none.next ≠ H1.next by omega, k0]; done)   | (simp [hr]; done)   | (simp [AH.less, hr, runL, caseL, stO, ints, show H1.next ≠ AH.none.next + 1 by omega]; done)   | (have := hnm m hm; simp [AH.less, show m ≠ H1.next by omega, show m ≠ AH.none.next + 1 by omega]; done)   | (have := hnm m hm; simp [AH.less]; omega)   | omega   | (simp [AH.less]; omega)   | trace_state⟩
        · rintro m f H' ⟨i, rfl, hi, f58, f57, f11, f10, f7, hds, ⟨l,s,hS,hrc,hq,hll⟩⟩
          by_cases hlt : i < c.place.length
          · have hV := hrc.valid hk
            have hnl := hq.nl
            obtain ⟨a1, b1⟩ := step_ask hV hlt hq
            obtain ⟨a2, b2⟩ := step_create hV hlt hq
            obtain ⟨a3, b3⟩ := step_end hV hlt hq
            obtain ⟨a4, b4⟩ := step_taken hV hlt hq
            have r1 := hrc.snoc a1
            rw [b1] at r1
            have r2 := r1.snoc a2
            rw [b2] at r2
            have r3 := r2.snoc a3
            rw [b3] at r3
            have r4 := r3.snoc a4
            rw [b4] at r4
            simp only [ltT hlt, f58, f57, f11, f10, f7, hds, Cd.cd28, Tk.t28, base0, base1, base2, base3, Option.isNone_none, Option.isNone_some, Nat.reduceBEq, true_or, or_true, false_or, or_false, Nat.reduceLT, Nat.reduceMod, Nat.reducePow, rmaps, nsucc, List.flatten_cons, List.flatten_nil, Nat.reduceEqDiff, Nat.reduceLeDiff, Nat.reduceAdd, Nat.reduceMul, Nat.reduceSub, ↓reduceIte, reduceCtorEq, decide_true, decide_false]
            refine RetR.go (step53 hS hV (by omega) 0 i a1) fun H2 hS1 => ?_
            obtain ⟨_, _, hS1⟩ := hS1
            rw [b1] at hS1
            obtain ⟨n, p, h, o, e1⟩ := hS1.net (by simp [s1])
            have w1 : IntKind.i64.wrap (((s1 c s i).net.length : Nat) - 1) = (s.net.length : Nat) := by rw [wrapI (by simp [s1] <;> omega) (by simp [s1] <;> omega)]; simp [s1]
            simp only [hS1.vb, e1, w1, f58, f57, f11, f10, f7, hds, Cd.cd28, Tk.t28, base0, base1, base2, base3, Option.isNone_none, Option.isNone_some, Nat.reduceBEq, true_or, or_true, false_or, or_false, Nat.reduceLT, Nat.reduceMod, Nat.reducePow, rmaps, nsucc, List.flatten_cons, List.flatten_nil, Nat.reduceEqDiff, Nat.reduceLeDiff, Nat.reduceAdd, Nat.reduceMul, Nat.reduceSub, ↓reduceIte, reduceCtorEq, decide_true, decide_false]
            refine RetR.go (step53 hS1 (r1.valid hk) (by simp; omega) 1 (s.net.length : Nat) a2) fun H3 hS2 => ?_
            obtain ⟨_, _, hS2⟩ := hS2
            rw [b2] at hS2
            simp only [f58, f57, f11, f10, f7, hds, Cd.cd28, Tk.t28, base0, base1, base2, base3, Option.isNone_none, Option.isNone_some, Nat.reduceBEq, true_or, or_true, false_or, or_false, Nat.reduceLT, Nat.reduceMod, Nat.reducePow, rmaps, nsucc, List.flatten_cons, List.flatten_nil, Nat.reduceEqDiff, Nat.reduceLeDiff, Nat.reduceAdd, Nat.reduceMul, Nat.reduceSub, ↓reduceIte, reduceCtorEq, decide_true, decide_false]
            refine RetR.go (step53 hS2 (r2.valid hk) (by simp; omega) 4 i a3) fun H4 hS3 => ?_
            obtain ⟨_, _, hS3⟩ := hS3
            rw [b3] at hS3
            obtain ⟨n', p', h', o', e3⟩ := hS3.net (by simp [s3])
            have w3 : IntKind.i64.wrap (((s3 c s i).net.length : Nat) - 1) = (s.net.length : Nat) + 1 := by rw [wrapI (by simp [s3] <;> omega) (by simp [s3] <;> omega)]; simp [s3] <;> omega
            simp only [hS3.vb, e3, w3, f58, f57, f11, f10, f7, hds, Cd.cd28, Tk.t28, base0, base1, base2, base3, Option.isNone_none, Option.isNone_some, Nat.reduceBEq, true_or, or_true, false_or, or_false, Nat.reduceLT, Nat.reduceMod, Nat.reducePow, rmaps, nsucc, List.flatten_cons, List.flatten_nil, Nat.reduceEqDiff, Nat.reduceLeDiff, Nat.reduceAdd, Nat.reduceMul, Nat.reduceSub, ↓reduceIte, reduceCtorEq, decide_true, decide_false]
            refine RetR.go (step53 hS3 (r3.valid hk) (by simp; omega) 1 ((s.net.length : Nat) + 1) a4) fun H5 hS4 => ?_
            obtain ⟨_, _, hS4⟩ := hS4
            rw [b4] at hS4
            simp only [f58, f57, f11, f10, f7, hds, Cd.cd28, Tk.t28, base0, base1, base2, base3, Option.isNone_none, Option.isNone_some, Nat.reduceBEq, true_or, or_true, false_or, or_false, Nat.reduceLT, Nat.reduceMod, Nat.reducePow, rmaps, nsucc, List.flatten_cons, List.flatten_nil, Nat.reduceEqDiff, Nat.reduceLeDiff, Nat.reduceAdd, Nat.reduceMul, Nat.reduceSub, ↓reduceIte, reduceCtorEq, decide_true, decide_false]
            refine ⟨_, by omega, i + 1, rfl, by omega, ?_⟩
            (repeat' apply And.intro) <;> first | rfl | (rw [wrapS (by omega)]) | omega | assumption | (exact ⟨_, _, hS4, r4, seq1_step hV hlt hq, by simp; omega⟩)
          · have hi' : i = c.place.length := by omega
            subst hi'
            obtain ⟨va, e1, e2⟩ := hS.va
            simp only [ltF hlt, e1, f58, f57, f11, f10, f7, hds, Cd.cd28, Tk.t28, base0, base1, base2, base3, Option.isNone_none, Option.isNone_some, Nat.reduceBEq, true_or, or_true, false_or, or_false, Nat.reduceLT, Nat.reduceMod, Nat.reducePow, rmaps, nsucc, List.flatten_cons, List.flatten_nil, Nat.reduceEqDiff, Nat.reduceLeDiff, Nat.reduceAdd, Nat.reduceMul, Nat.reduceSub, ↓reduceIte, reduceCtorEq, decide_true, decide_false]
            refine fin_r e2 ?_
            unfold SchedR
            obtain ⟨o1, o2⟩ := seq1_over (hrc.valid hk) hq
            rw [if_neg (by simp [hc]), if_neg (by simp [hv]), if_neg (by simp [h5])]
            exact ⟨l, s, rfl, by omega, hrc, o1, by rw [o2, h5]⟩
end Go.Proofs.Ytgmncggiblaciaa

/- Walks: the tests that hold the laws awake. -/
namespace Go.Proofs.Ytgmncggiblaciaa
open Go Go.Proofs.Ytgmncggiblaciaa.Ab
set_option maxRecDepth 100000

def one : Case := ⟨1, [0], [1]⟩
def oneL : List Ac := [⟨0, 0⟩, ⟨1, 0⟩, ⟨4, 0⟩, ⟨1, 1⟩]
def oneS : Stt := (runOf one oneL).1
theorem one_ok : (checkCase one).2 = 0 := by decide +kernel
theorem one_v : isVerdict 3 = true ∧ isVerdict 1 = true ∧ worstI one.verd = 1 := by decide +kernel
theorem runOf_reach {c : Case} {l : List Ac} {s : Stt} (hc : (checkCase c).2 = 0) (hl : l.length ≤ 60) (h : Reach c l s) : runOf c l = (s, l.length, 0) := by
  unfold runOf; rw [if_neg (by simp [hc]), if_neg (by omega), reach_run h]

set_option maxHeartbeats 1000000 in
theorem hostsAwake10 : FCall Try.prog 10 [] (· = .v (.bool true)) := by
  refine ACall.enter [] Cd.fn10 (by simp) ?_
  simp only [Cd.cd10, Tk.t10, base0, base1, base2, base3, Option.isNone_none, Option.isNone_some, Nat.reduceBEq, true_or, or_true, false_or, or_false, Nat.reduceLT, Nat.reduceMod, Nat.reducePow, rmaps, nsucc, List.flatten_cons, List.flatten_nil, Nat.reduceEqDiff, Nat.reduceLeDiff, Nat.reduceAdd, Nat.reduceMul, Nat.reduceSub, ↓reduceIte, reduceCtorEq, decide_true, decide_false]
  refine single39.go FZs.nil ?_
  simp only [Cd.cd10, Tk.t10, base0, base1, base2, base3, Option.isNone_none, Option.isNone_some, Nat.reduceBEq, true_or, or_true, false_or, or_false, Nat.reduceLT, Nat.reduceMod, Nat.reducePow, rmaps, nsucc, List.flatten_cons, List.flatten_nil, Nat.reduceEqDiff, Nat.reduceLeDiff, Nat.reduceAdd, Nat.reduceMul, Nat.reduceSub, ↓reduceIte, reduceCtorEq, decide_true, decide_false]
  refine (schedule28 one 1).some (FZs.two (FZ.caseV _) (FZ.v _)) fun v hz hr => ?_
  unfold SchedR at hr
  obtain ⟨f1, f2, f3⟩ := one_v
  rw [if_neg (by simp [one_ok]), if_neg (by simp [f2]), if_neg (by rw [f3]; decide)] at hr
  obtain ⟨l, s, rfl, hl, hre, ho, hv⟩ := hr
  simp only [Cd.cd10, Tk.t10, base0, base1, base2, base3, Option.isNone_none, Option.isNone_some, Nat.reduceBEq, true_or, or_true, false_or, or_false, Nat.reduceLT, Nat.reduceMod, Nat.reducePow, rmaps, nsucc, List.flatten_cons, List.flatten_nil, Nat.reduceEqDiff, Nat.reduceLeDiff, Nat.reduceAdd, Nat.reduceMul, Nat.reduceSub, ↓reduceIte, reduceCtorEq, decide_true, decide_false]
  refine single39.go FZs.nil ?_
  simp only [acsV, Cd.cd10, Tk.t10, base0, base1, base2, base3, Option.isNone_none, Option.isNone_some, Nat.reduceBEq, true_or, or_true, false_or, or_false, Nat.reduceLT, Nat.reduceMod, Nat.reducePow, rmaps, nsucc, List.flatten_cons, List.flatten_nil, Nat.reduceEqDiff, Nat.reduceLeDiff, Nat.reduceAdd, Nat.reduceMul, Nat.reduceSub, ↓reduceIte, reduceCtorEq, decide_true, decide_false]
  refine (runOf25 one l (by omega)).go (FZs.two (FZ.caseV _) (FZ.acsV _)) ?_
  rw [runOf_reach one_ok hl hre]
  simp only [runV, stV, stL, plsV, hssV, pksV]
  simp only [acsV, hv, List.length_map, Cd.cd10, Tk.t10, base0, base1, base2, base3, Option.isNone_none, Option.isNone_some, Nat.reduceBEq, true_or, or_true, false_or, or_false, Nat.reduceLT, Nat.reduceMod, Nat.reducePow, rmaps, nsucc, List.flatten_cons, List.flatten_nil, Nat.reduceEqDiff, Nat.reduceLeDiff, Nat.reduceAdd, Nat.reduceMul, Nat.reduceSub, ↓reduceIte, reduceCtorEq, decide_true, decide_false]
  exact fin_v (by simp)
end Go.Proofs.Ytgmncggiblaciaa

/- Walks: a useful act, a component that is tried. -/
namespace Go.Proofs.Ytgmncggiblaciaa
open Go Go.Proofs.Ytgmncggiblaciaa.Ab
set_option maxRecDepth 100000

def usefulK : List Int := [1, 4, 5, 0]
def UsefulR (l : List Ac) (out : AV) : Prop := (∃ a ∈ l, a.kind ∈ usefulK ∧ out = .tup [acV a, .v (.bool true)]) ∨ ((∀ a ∈ l, a.kind ∉ usefulK) ∧ out = .tup [acV ⟨0, 0⟩, .v (.bool false)])
set_option maxHeartbeats 1000000 in
theorem useful21 (l : List Ac) (hb : l.length < 2 ^ 40) : FCall Try.prog 21 [acsV l] (UsefulR l) := by
  simp only [acsV]
  refine ACall.enter [] Cd.fn21 (by simp) ?_
  simp only [Cd.cd21, Tk.t21, base0, base1, base2, base3, Option.isNone_none, Option.isNone_some, Nat.reduceBEq, true_or, or_true, false_or, or_false, Nat.reduceLT, Nat.reduceMod, Nat.reducePow, rmaps, nsucc, List.flatten_cons, List.flatten_nil, Nat.reduceEqDiff, Nat.reduceLeDiff, Nat.reduceAdd, Nat.reduceMul, Nat.reduceSub, ↓reduceIte, reduceCtorEq, decide_true, decide_false]
  refine LWP.loop [] (fun m f H' => ∃ i, m = 4 - i ∧ (i ≤ 4) ∧ (∀ j, j < i → ∀ a ∈ l, a.kind ≠ usefulK.getD j 0) ∧ f.t 5 = .v (.int .i64 (i : Nat)) ∧ f.t 4 = .lst 1 [[.v (.int .i64 1)], [.v (.int .i64 4)], [.v (.int .i64 5)], [.v (.int .i64 0)]] .full ∧ f.t 2 = .ptr AH.none.next 0 ∧ f.t 0 = .lst 2 (l.map acR) .unk ∧ f.ds = [] ∧ H'.own AH.none.next = some (.cells [.v (.int .i64 0), .v (.int .i64 0)])) ?_ ?_ (m := 4 - (0))
  · exact ⟨0, rfl, (by omega), (fun j hj => by omega), rfl, rfl, rfl, rfl, rfl, rfl⟩
  · rintro m f H' ⟨i, rfl, hi, hno, f5, f4, f2, f0, hds, hH⟩
    by_cases hlt : i < 4
    · simp only [List.length_cons, List.length_nil, Nat.zero_add, Nat.reduceAdd, show decide (((i : Nat) : Int) < ((4 : Nat) : Int)) = true from decide_eq_true (by omega), f5, f4, f2, f0, hds, Cd.cd21, Tk.t21, base0, base1, base2, base3, Option.isNone_none, Option.isNone_some, Nat.reduceBEq, true_or, or_true, false_or, or_false, Nat.reduceLT, Nat.reduceMod, Nat.reducePow, rmaps, nsucc, List.flatten_cons, List.flatten_nil, Nat.reduceEqDiff, Nat.reduceLeDiff, Nat.reduceAdd, Nat.reduceMul, Nat.reduceSub, ↓reduceIte, reduceCtorEq, decide_true, decide_false]
      refine LWP.loop [] (fun m f H' => ∃ k, m = l.length - k ∧ (k ≤ l.length) ∧ (∀ j, j < k → (l.getD j default).kind ≠ usefulK.getD i 0) ∧ f.t 6 = .v (.int .i64 (k : Nat)) ∧ f.t 5 = .v (.int .i64 (i : Nat)) ∧ f.t 4 = .lst 1 [[.v (.int .i64 1)], [.v (.int .i64 4)], [.v (.int .i64 5)], [.v (.int .i64 0)]] .full ∧ f.t 2 = .ptr AH.none.next 0 ∧ f.t 0 = .lst 2 (l.map acR) .unk ∧ f.ds = [] ∧ H'.own AH.none.next = some (.cells [.v (.int .i64 0), .v (.int .i64 0)])) ?_ ?_ (m := l.length - (0))
      · exact ⟨0, rfl, (by omega), (fun j hj => by omega), (by first | rfl | exact f6), (by first | rfl | exact f5), (by first | rfl | exact f4), (by first | rfl | exact f2), (by first | rfl | exact f0), rfl, hH⟩
      · rintro m f H' ⟨k, rfl, hk, hno2, f6, f5, f4, f2, f0, hds, hH⟩
        by_cases hkl : k < l.length
        · have e4 : (0 : Int) ≤ (i : Int) ∧ (i : Int) < ((4 : Nat) : Int) := by omega
          have eg : ([[AV.v (.int .i64 1)], [.v (.int .i64 4)], [.v (.int .i64 5)], [.v (.int .i64 0)]] : List (List AV)).getD i [] = [.v (.int .i64 (usefulK.getD i 0))] := by
            have : i = 0 ∨ i = 1 ∨ i = 2 ∨ i = 3 := by omega
            rcases this with rfl | rfl | rfl | rfl <;> rfl
          cases he : ((l.getD k default).kind == usefulK.getD i 0)
          · have hno3 : ∀ j, j < k + 1 → (l.getD j default).kind ≠ usefulK.getD i 0 := fun j hj => by
              rcases Nat.lt_succ_iff_lt_or_eq.mp hj with h | h
              · exact hno2 j h
              · subst h; simpa using he
            simp only [ltT hkl, List.length_map, inR hkl, Int.toNat_natCast, getD_map acR _ _ hkl, acR, e4, eg, he, List.length_cons, List.length_nil, Nat.zero_add, Nat.reduceAdd, f6, f5, f4, f2, f0, hds, Cd.cd21, Tk.t21, base0, base1, base2, base3, Option.isNone_none, Option.isNone_some, Nat.reduceBEq, true_or, or_true, false_or, or_false, Nat.reduceLT, Nat.reduceMod, Nat.reducePow, rmaps, nsucc, List.flatten_cons, List.flatten_nil, Nat.reduceEqDiff, Nat.reduceLeDiff, Nat.reduceAdd, Nat.reduceMul, Nat.reduceSub, ↓reduceIte, reduceCtorEq, decide_true, decide_false]
            refine ⟨_, by omega, k + 1, rfl, by omega, hno3, ?_⟩
            (repeat' apply And.intro) <;> first | rfl | (rw [wrapS (by omega)]) | omega | assumption | (exact hH)
          · simp only [ltT hkl, List.length_map, inR hkl, Int.toNat_natCast, getD_map acR _ _ hkl, acR, e4, eg, he, List.length_cons, List.length_nil, Nat.zero_add, Nat.reduceAdd, hH, f6, f5, f4, f2, f0, hds, Cd.cd21, Tk.t21, base0, base1, base2, base3, Option.isNone_none, Option.isNone_some, Nat.reduceBEq, true_or, or_true, false_or, or_false, Nat.reduceLT, Nat.reduceMod, Nat.reducePow, rmaps, nsucc, List.flatten_cons, List.flatten_nil, Nat.reduceEqDiff, Nat.reduceLeDiff, Nat.reduceAdd, Nat.reduceMul, Nat.reduceSub, ↓reduceIte, reduceCtorEq, decide_true, decide_false]
            refine ⟨_, .tup [acV (l.getD k default), .v (.bool true)], rfl, FZ.view ?_, FZ.tup (FZs.two (FZ.acV _) (FZ.v _)), .inl ⟨_, getD_mem hkl, ?_, rfl⟩⟩
            · exact FZ.tup (FZs.two (FZ.acV (l.getD k default)) (FZ.v _))
            · rw [show (l.getD k default).kind = usefulK.getD i 0 by simpa using he]
              have : i = 0 ∨ i = 1 ∨ i = 2 ∨ i = 3 := by omega
              rcases this with rfl | rfl | rfl | rfl <;> decide
        · simp only [ltF hkl, List.length_map, f6, f5, f4, f2, f0, hds, Cd.cd21, Tk.t21, base0, base1, base2, base3, Option.isNone_none, Option.isNone_some, Nat.reduceBEq, true_or, or_true, false_or, or_false, Nat.reduceLT, Nat.reduceMod, Nat.reducePow, rmaps, nsucc, List.flatten_cons, List.flatten_nil, Nat.reduceEqDiff, Nat.reduceLeDiff, Nat.reduceAdd, Nat.reduceMul, Nat.reduceSub, ↓reduceIte, reduceCtorEq, decide_true, decide_false]
          have hno3 : ∀ j, j < i + 1 → ∀ a ∈ l, a.kind ≠ usefulK.getD j 0 := fun j hj a ha => by
            rcases Nat.lt_succ_iff_lt_or_eq.mp hj with h | h
            · exact hno j h a ha
            · subst h
              obtain ⟨q, hq, rfl⟩ := mem_getD ha
              exact hno2 q (by omega)
          refine ⟨_, by omega, i + 1, rfl, by omega, hno3, ?_⟩
          (repeat' apply And.intro) <;> first | rfl | (rw [wrapS (by omega)]) | omega | assumption | (exact hH)
    · have hi4 : i = 4 := by omega
      subst hi4
      simp only [List.length_cons, List.length_nil, Nat.zero_add, Nat.reduceAdd, show decide (((4 : Nat) : Int) < ((4 : Nat) : Int)) = false from rfl, hH, f5, f4, f2, f0, hds, Cd.cd21, Tk.t21, base0, base1, base2, base3, Option.isNone_none, Option.isNone_some, Nat.reduceBEq, true_or, or_true, false_or, or_false, Nat.reduceLT, Nat.reduceMod, Nat.reducePow, rmaps, nsucc, List.flatten_cons, List.flatten_nil, Nat.reduceEqDiff, Nat.reduceLeDiff, Nat.reduceAdd, Nat.reduceMul, Nat.reduceSub, ↓reduceIte, reduceCtorEq, decide_true, decide_false]
      refine ⟨_, .tup [acV ⟨0, 0⟩, .v (.bool false)], rfl, FZ.view ?_, FZ.tup (FZs.two (FZ.acV _) (FZ.v _)), .inr ⟨fun a ha hk => ?_, rfl⟩⟩
      · exact FZ.tup (FZs.two (FZ.acV ⟨0, 0⟩) (FZ.v _))
      · have h0 := hno 0 (by omega) a ha
        have h1 := hno 1 (by omega) a ha
        have h2 := hno 2 (by omega) a ha
        have h3 := hno 3 (by omega) a ha
        simp [usefulK] at hk h0 h1 h2 h3
        omega

set_option maxHeartbeats 1000000 in
theorem isTried22 (c : Case) (s : Stt) (hb : s.placed.length < 2 ^ 40) (ho : overS s = false) (ht : ∀ i, i < s.placed.length → (s.placed.getD i default).tk = false → (s.placed.getD i default).tr = 3) : FCall Try.prog 22 [caseV c, stV s] (· = .v (.bool true)) := by
  simp only [caseV, stV]
  refine ACall.enter [] Cd.fn22 (by simp) ?_
  simp only [stL, plsV, hssV, pksV, Cd.cd22, Tk.t22, base0, base1, base2, base3, Option.isNone_none, Option.isNone_some, Nat.reduceBEq, true_or, or_true, false_or, or_false, Nat.reduceLT, Nat.reduceMod, Nat.reducePow, rmaps, nsucc, List.flatten_cons, List.flatten_nil, Nat.reduceEqDiff, Nat.reduceLeDiff, Nat.reduceAdd, Nat.reduceMul, Nat.reduceSub, ↓reduceIte, reduceCtorEq, decide_true, decide_false]
  refine LWP.loop [] (fun m f H' => ∃ i, m = s.placed.length - i ∧ (i ≤ s.placed.length) ∧ (∀ j, j < i → (s.placed.getD j default).tk = true) ∧ f.t 5 = .v (.int .i64 (i : Nat)) ∧ f.t 3 = .box (stL s) ∧ f.t 2 = .box [.v (.int .i64 c.hosts), ints c.place, ints c.verd] ∧ f.ds = [] ∧ H' = AH.none) ?_ ?_ (m := s.placed.length - (0))
  · exact ⟨0, rfl, (by omega), (fun j hj => by omega), rfl, by simp [stL, plsV, hssV, pksV, upd], rfl, rfl, rfl⟩
  · rintro m f H' ⟨i, rfl, hi, hno, f5, f3, f2, hds, rfl⟩
    by_cases hlt : i < s.placed.length
    · cases hk : (s.placed.getD i default).tk
      · have h3 := ht i hlt hk
        simp only [stL, plsV, List.length_map, ltT hlt, inR hlt, Int.toNat_natCast, getD_map plR _ _ hlt, plR, hk, h3, f5, f3, f2, hds, Cd.cd22, Tk.t22, base0, base1, base2, base3, Option.isNone_none, Option.isNone_some, Nat.reduceBEq, true_or, or_true, false_or, or_false, Nat.reduceLT, Nat.reduceMod, Nat.reducePow, rmaps, nsucc, List.flatten_cons, List.flatten_nil, Nat.reduceEqDiff, Nat.reduceLeDiff, Nat.reduceAdd, Nat.reduceMul, Nat.reduceSub, ↓reduceIte, reduceCtorEq, decide_true, decide_false]
        exact fin_v rfl
      · have hno3 : ∀ j, j < i + 1 → (s.placed.getD j default).tk = true := fun j hj => by
          rcases Nat.lt_succ_iff_lt_or_eq.mp hj with h | h
          · exact hno j h
          · subst h; exact hk
        simp only [stL, plsV, List.length_map, ltT hlt, inR hlt, Int.toNat_natCast, getD_map plR _ _ hlt, plR, hk, f5, f3, f2, hds, Cd.cd22, Tk.t22, base0, base1, base2, base3, Option.isNone_none, Option.isNone_some, Nat.reduceBEq, true_or, or_true, false_or, or_false, Nat.reduceLT, Nat.reduceMod, Nat.reducePow, rmaps, nsucc, List.flatten_cons, List.flatten_nil, Nat.reduceEqDiff, Nat.reduceLeDiff, Nat.reduceAdd, Nat.reduceMul, Nat.reduceSub, ↓reduceIte, reduceCtorEq, decide_true, decide_false]
        refine ⟨_, by omega, i + 1, rfl, by omega, hno3, ?_⟩
        (repeat' apply And.intro) <;> first | rfl | (rw [wrapS (by omega)]) | omega | assumption
    · exfalso
      have : overS s = true := by
        unfold overS; rw [List.all_eq_true]
        intro p hp
        obtain ⟨j, hj, rfl⟩ := mem_getD hp
        exact hno j (by omega)
      rw [ho] at this; cases this
end Go.Proofs.Ytgmncggiblaciaa

/- Walks: the law that hosts come to the same verdict. -/
namespace Go.Proofs.Ytgmncggiblaciaa
open Go Go.Proofs.Ytgmncggiblaciaa.Ab
set_option maxRecDepth 100000


theorem NewS.fc {m : FuncId} {args : List AV} {s : Stt} (h : ACall Try.prog m args AH.none (fun out H' => ∃ cs, out = .ret (.agg cs) ∧ NewS AH.none s cs H')) : FCall Try.prog m args (· = stV s) :=
  h.mono fun out H' hx => by
    obtain ⟨cs, rfl, hn⟩ := hx
    obtain ⟨p, h, aq, o, rfl, x, _⟩ := hn.ex
    exact ⟨_, _, rfl, stV_view x, FZ.stV _, rfl⟩
theorem own17f {c : Case} {s : Stt} (h : Valid c s) : FCall Try.prog 17 [stV s] (· = stV s) :=
  NewS.fc (own17 s AH.none h.small (by have := h.lp; have := h.ok.p1; omega) (by have := h.lh; have := h.ok.h1; omega))
theorem CaseOk.small {c : Case} (h : CaseOk c) : SmallC c := ⟨by have := h.p6; omega, by have := h.p6; have := h.vl; omega⟩

theorem mem_actsOf {c : Case} {s : Stt} {a : Ac} (h : a ∈ actsOf c s 12) : (0 ≤ a.kind ∧ a.kind ≤ 7) ∧ isPossible c s a = true := by
  simp only [actsOf, actsK, List.mem_flatMap, List.mem_range, List.mem_filter, List.mem_map] at h
  obtain ⟨k, hk, ⟨n, hn, rfl⟩, hp⟩ := h
  exact ⟨by simp only; omega, hp⟩
theorem actsOf_mem {c : Case} {s : Stt} {k n : Nat} (hk : k < 8) (hn : n < 12) (hp : isPossible c s ⟨k, n⟩ = true) : (⟨k, n⟩ : Ac) ∈ actsOf c s 12 := by
  simp only [actsOf, actsK, List.mem_flatMap, List.mem_range, List.mem_filter, List.mem_map]
  exact ⟨k, hk, ⟨n, hn, rfl⟩, hp⟩

set_option maxHeartbeats 4000000 in
theorem law3 (c : Case) (l : List Ac) : FCall Try.prog 3 [caseV c, acsV l] (· = .v (.bool true)) := by
  simp only [caseV, acsV]
  refine ACall.enter [] Cd.fn3 (by simp) ?_
  simp only [Cd.cd3, Tk.t3, base0, base1, base2, base3, Option.isNone_none, Option.isNone_some, Nat.reduceBEq, true_or, or_true, false_or, or_false, Nat.reduceLT, Nat.reduceMod, Nat.reducePow, rmaps, nsucc, List.flatten_cons, List.flatten_nil, Nat.reduceEqDiff, Nat.reduceLeDiff, Nat.reduceAdd, Nat.reduceMul, Nat.reduceSub, ↓reduceIte, reduceCtorEq, decide_true, decide_false]
  refine hostsAwake10.go FZs.nil ?_
  simp only [Cd.cd3, Tk.t3, base0, base1, base2, base3, Option.isNone_none, Option.isNone_some, Nat.reduceBEq, true_or, or_true, false_or, or_false, Nat.reduceLT, Nat.reduceMod, Nat.reducePow, rmaps, nsucc, List.flatten_cons, List.flatten_nil, Nat.reduceEqDiff, Nat.reduceLeDiff, Nat.reduceAdd, Nat.reduceMul, Nat.reduceSub, ↓reduceIte, reduceCtorEq, decide_true, decide_false]
  refine (checkCase11 c).go (FZs.one (FZ.caseV c)) ?_
  by_cases h1 : (checkCase c).2 = 0
  rotate_left
  · simp only [show ((checkCase c).2 != 0) = true from by simp [h1], Cd.cd3, Tk.t3, base0, base1, base2, base3, Option.isNone_none, Option.isNone_some, Nat.reduceBEq, true_or, or_true, false_or, or_false, Nat.reduceLT, Nat.reduceMod, Nat.reducePow, rmaps, nsucc, List.flatten_cons, List.flatten_nil, Nat.reduceEqDiff, Nat.reduceLeDiff, Nat.reduceAdd, Nat.reduceMul, Nat.reduceSub, ↓reduceIte, reduceCtorEq, decide_true, decide_false]
    exact fin_v rfl
  have h1' : ((checkCase c).2 != 0) = false := by simp [h1]
  have hk := checkCase_ok.mp h1
  by_cases hl : 60 < l.length
  · simp only [h1', List.length_map, show decide (((l.length : Nat) : Int) > 60) = true from decide_eq_true (by omega), Cd.cd3, Tk.t3, base0, base1, base2, base3, Option.isNone_none, Option.isNone_some, Nat.reduceBEq, true_or, or_true, false_or, or_false, Nat.reduceLT, Nat.reduceMod, Nat.reducePow, rmaps, nsucc, List.flatten_cons, List.flatten_nil, Nat.reduceEqDiff, Nat.reduceLeDiff, Nat.reduceAdd, Nat.reduceMul, Nat.reduceSub, ↓reduceIte, reduceCtorEq, decide_true, decide_false]
    exact fin_v rfl
  simp only [h1', List.length_map, show decide (((l.length : Nat) : Int) > 60) = false from decide_eq_false (by omega), Cd.cd3, Tk.t3, base0, base1, base2, base3, Option.isNone_none, Option.isNone_some, Nat.reduceBEq, true_or, or_true, false_or, or_false, Nat.reduceLT, Nat.reduceMod, Nat.reducePow, rmaps, nsucc, List.flatten_cons, List.flatten_nil, Nat.reduceEqDiff, Nat.reduceLeDiff, Nat.reduceAdd, Nat.reduceMul, Nat.reduceSub, ↓reduceIte, reduceCtorEq, decide_true, decide_false]
  first | refine FCall.go (ownCase13 c hk.small.p hk.small.v) (FZs.one (FZ.caseV c)) ?_ | refine FCall.go' (ownCase13 c hk.small.p hk.small.v) (FZs.one (FZ.caseV c)) ?_ | refine FCall.goQ (ownCase13 c hk.small.p hk.small.v) (FZs.one (FZ.caseV c)) ?_
  simp only [caseV]
  simp only [Cd.cd3, Tk.t3, base0, base1, base2, base3, Option.isNone_none, Option.isNone_some, Nat.reduceBEq, true_or, or_true, false_or, or_false, Nat.reduceLT, Nat.reduceMod, Nat.reducePow, rmaps, nsucc, List.flatten_cons, List.flatten_nil, Nat.reduceEqDiff, Nat.reduceLeDiff, Nat.reduceAdd, Nat.reduceMul, Nat.reduceSub, ↓reduceIte, reduceCtorEq, decide_true, decide_false]
  refine (startOf12 c).go (FZs.one (FZ.caseV c)) ?_
  rw [if_pos h1, h1]
  simp only [stV, stL, plsV, hssV, pksV]
  simp only [Cd.cd3, Tk.t3, base0, base1, base2, base3, Option.isNone_none, Option.isNone_some, Nat.reduceBEq, true_or, or_true, false_or, or_false, Nat.reduceLT, Nat.reduceMod, Nat.reducePow, rmaps, nsucc, List.flatten_cons, List.flatten_nil, Nat.reduceEqDiff, Nat.reduceLeDiff, Nat.reduceAdd, Nat.reduceMul, Nat.reduceSub, ↓reduceIte, reduceCtorEq, decide_true, decide_false]
  refine LWP.loop [] (fun m f H' => ∃ i, m = l.length - i ∧ (i ≤ l.length) ∧ f.t 10 = .v (.int .i64 (i : Nat)) ∧ f.t 7 = .ptr AH.none.next 0 ∧ f.t 2 = .box [.v (.int .i64 c.hosts), ints c.place, ints c.verd] ∧ f.t 1 = .lst 2 (l.map acR) .unk ∧ f.ds = [] ∧ ∃ s g, Valid c s ∧ Honest c s ∧ f.t 9 = .v (.bool g) ∧ H'.own AH.none.next = some (.cells (stL s)) ∧ AH.none.next < H'.next) ?_ ?_ (m := l.length - (0))
  · exact ⟨0, rfl, (by omega), rfl, rfl, rfl, rfl, rfl, ⟨startS c, false, valid_start hk, honest_start, rfl, by simp [stL, plsV, hssV, pksV], by simp⟩⟩
  · rintro m f H' ⟨i, rfl, hi, f10, f7, f2, f1, hds, ⟨s,g,hV,ho,f9,hw,hx⟩⟩
    simp only [stL, plsV, hssV, pksV] at hw
    have w1 : (AH.none.next = H'.next) = False := eq_false (by omega)
    have w2 : (H'.next = AH.none.next) = False := eq_false (by omega)
    by_cases hlt : i < l.length
    · generalize ha : l.getD i default = a
      cases h7 : (a.kind == 7)
      rotate_left
      · simp only [ltT hlt, List.length_map, inR hlt, Int.toNat_natCast, getD_map acR _ _ hlt, ha, acR, h7, f10, f7, f2, f1, hds, Cd.cd3, Tk.t3, base0, base1, base2, base3, Option.isNone_none, Option.isNone_some, Nat.reduceBEq, true_or, or_true, false_or, or_false, Nat.reduceLT, Nat.reduceMod, Nat.reducePow, rmaps, nsucc, List.flatten_cons, List.flatten_nil, Nat.reduceEqDiff, Nat.reduceLeDiff, Nat.reduceAdd, Nat.reduceMul, Nat.reduceSub, ↓reduceIte, reduceCtorEq, decide_true, decide_false]
        exact fin_v rfl
      simp only [ltT hlt, List.length_map, inR hlt, Int.toNat_natCast, getD_map acR _ _ hlt, ha, acR, h7, hw, f10, f7, f2, f1, hds, Cd.cd3, Tk.t3, base0, base1, base2, base3, Option.isNone_none, Option.isNone_some, Nat.reduceBEq, true_or, or_true, false_or, or_false, Nat.reduceLT, Nat.reduceMod, Nat.reducePow, rmaps, nsucc, List.flatten_cons, List.flatten_nil, Nat.reduceEqDiff, Nat.reduceLeDiff, Nat.reduceAdd, Nat.reduceMul, Nat.reduceSub, ↓reduceIte, reduceCtorEq, decide_true, decide_false]
      refine (few14 s).go (FZs.one (FZ.stV s)) ?_
      rw [valid_few hV]
      simp only [hw, f10, f7, f2, f1, hds, Cd.cd3, Tk.t3, base0, base1, base2, base3, Option.isNone_none, Option.isNone_some, Nat.reduceBEq, true_or, or_true, false_or, or_false, Nat.reduceLT, Nat.reduceMod, Nat.reducePow, rmaps, nsucc, List.flatten_cons, List.flatten_nil, Nat.reduceEqDiff, Nat.reduceLeDiff, Nat.reduceAdd, Nat.reduceMul, Nat.reduceSub, ↓reduceIte, reduceCtorEq, decide_true, decide_false]
      refine (stateErr15 c s hk.small hV.small).go (FZs.two (FZ.caseV c) (FZ.stV s)) ?_
      rw [checkState_ok.mpr hV]
      have z0 : ((0 : Int) != 0) = false := rfl
      simp only [z0, hw, List.length_map, inR hlt, Int.toNat_natCast, getD_map acR _ _ hlt, ha, acR, f10, f7, f2, f1, hds, Cd.cd3, Tk.t3, base0, base1, base2, base3, Option.isNone_none, Option.isNone_some, Nat.reduceBEq, true_or, or_true, false_or, or_false, Nat.reduceLT, Nat.reduceMod, Nat.reducePow, rmaps, nsucc, List.flatten_cons, List.flatten_nil, Nat.reduceEqDiff, Nat.reduceLeDiff, Nat.reduceAdd, Nat.reduceMul, Nat.reduceSub, ↓reduceIte, reduceCtorEq, decide_true, decide_false]
      first | refine FCall.go (ownCase13 c hk.small.p hk.small.v) (FZs.one (FZ.caseV c)) ?_ | refine FCall.go' (ownCase13 c hk.small.p hk.small.v) (FZs.one (FZ.caseV c)) ?_ | refine FCall.goQ (ownCase13 c hk.small.p hk.small.v) (FZs.one (FZ.caseV c)) ?_
      simp only [caseV]
      simp only [f10, f7, f2, f1, hds, Cd.cd3, Tk.t3, base0, base1, base2, base3, Option.isNone_none, Option.isNone_some, Nat.reduceBEq, true_or, or_true, false_or, or_false, Nat.reduceLT, Nat.reduceMod, Nat.reducePow, rmaps, nsucc, List.flatten_cons, List.flatten_nil, Nat.reduceEqDiff, Nat.reduceLeDiff, Nat.reduceAdd, Nat.reduceMul, Nat.reduceSub, ↓reduceIte, reduceCtorEq, decide_true, decide_false]
      first | refine FCall.go (own17f hV) (FZs.one (FZ.stV s)) ?_ | refine FCall.go' (own17f hV) (FZs.one (FZ.stV s)) ?_ | refine FCall.goQ (own17f hV) (FZs.one (FZ.stV s)) ?_
      simp only [stV, stL, plsV, hssV, pksV]
      simp only [f10, f7, f2, f1, hds, Cd.cd3, Tk.t3, base0, base1, base2, base3, Option.isNone_none, Option.isNone_some, Nat.reduceBEq, true_or, or_true, false_or, or_false, Nat.reduceLT, Nat.reduceMod, Nat.reducePow, rmaps, nsucc, List.flatten_cons, List.flatten_nil, Nat.reduceEqDiff, Nat.reduceLeDiff, Nat.reduceAdd, Nat.reduceMul, Nat.reduceSub, ↓reduceIte, reduceCtorEq, decide_true, decide_false]
      first | refine FCall.go (acted16 c s a hk.small hV.small) (FZs.three (FZ.caseV c) (FZ.stV s) (FZ.acV a)) ?_ | refine FCall.go' (acted16 c s a hk.small hV.small) (FZs.three (FZ.caseV c) (FZ.stV s) (FZ.acV a)) ?_ | refine FCall.goQ (acted16 c s a hk.small hV.small) (FZs.three (FZ.caseV c) (FZ.stV s) (FZ.acV a)) ?_
      by_cases he : actE c s a = 0
      · rw [if_pos ⟨checkState_ok.mpr hV, he⟩]
        have hho := (PStep.act hV he)
        rw [h7] at hho
        have hho := hho.honest ho
        simp only [stV, stL, plsV, hssV, pksV]
        cases g
        · simp only [f9, w1, w2, hw, List.length_map, inR hlt, Int.toNat_natCast, getD_map acR _ _ hlt, ha, acR, f10, f7, f2, f1, hds, Cd.cd3, Tk.t3, base0, base1, base2, base3, Option.isNone_none, Option.isNone_some, Nat.reduceBEq, true_or, or_true, false_or, or_false, Nat.reduceLT, Nat.reduceMod, Nat.reducePow, rmaps, nsucc, List.flatten_cons, List.flatten_nil, Nat.reduceEqDiff, Nat.reduceLeDiff, Nat.reduceAdd, Nat.reduceMul, Nat.reduceSub, ↓reduceIte, reduceCtorEq, decide_true, decide_false]
          refine ⟨fun n hn => by simp at hn; subst hn; simp [w2], _, by omega, i + 1, rfl, by omega, by rw [wrapS (by omega)], actS c s a, _, hV.act he, hho, rfl, rfl, by omega⟩
        · simp only [f9, w1, w2, hw, List.length_map, inR hlt, Int.toNat_natCast, getD_map acR _ _ hlt, ha, acR, f10, f7, f2, f1, hds, Cd.cd3, Tk.t3, base0, base1, base2, base3, Option.isNone_none, Option.isNone_some, Nat.reduceBEq, true_or, or_true, false_or, or_false, Nat.reduceLT, Nat.reduceMod, Nat.reducePow, rmaps, nsucc, List.flatten_cons, List.flatten_nil, Nat.reduceEqDiff, Nat.reduceLeDiff, Nat.reduceAdd, Nat.reduceMul, Nat.reduceSub, ↓reduceIte, reduceCtorEq, decide_true, decide_false]
          refine ⟨fun n hn => by simp at hn; subst hn; simp [w2], _, by omega, i + 1, rfl, by omega, by rw [wrapS (by omega)], actS c s a, _, hV.act he, hho, rfl, rfl, by omega⟩
      · rw [if_neg (by simp [he]), if_pos (checkState_ok.mpr hV)]
        have he' : (actE c s a == 0) = false := by simp [he]
        simp only [stV, stL, plsV, hssV, pksV]
        simp only [w1, w2, hw, he', f10, f7, f2, f1, hds, Cd.cd3, Tk.t3, base0, base1, base2, base3, Option.isNone_none, Option.isNone_some, Nat.reduceBEq, true_or, or_true, false_or, or_false, Nat.reduceLT, Nat.reduceMod, Nat.reducePow, rmaps, nsucc, List.flatten_cons, List.flatten_nil, Nat.reduceEqDiff, Nat.reduceLeDiff, Nat.reduceAdd, Nat.reduceMul, Nat.reduceSub, ↓reduceIte, reduceCtorEq, decide_true, decide_false]
        refine ⟨_, by omega, i + 1, rfl, by omega, ?_⟩
        (repeat' apply And.intro) <;> first | rfl | (rw [wrapS (by omega)]) | omega | assumption | (exact ⟨s, g, hV, ho, f9, by simp [w1, hw, stL, plsV, hssV, pksV], by omega⟩)
    · simp only [ltF hlt, List.length_map, f10, f7, f2, f1, hds, Cd.cd3, Tk.t3, base0, base1, base2, base3, Option.isNone_none, Option.isNone_some, Nat.reduceBEq, true_or, or_true, false_or, or_false, Nat.reduceLT, Nat.reduceMod, Nat.reducePow, rmaps, nsucc, List.flatten_cons, List.flatten_nil, Nat.reduceEqDiff, Nat.reduceLeDiff, Nat.reduceAdd, Nat.reduceMul, Nat.reduceSub, ↓reduceIte, reduceCtorEq, decide_true, decide_false]
      refine LWP.loop [] (fun m f H' => ∃ j, m = 400 - j ∧ (j ≤ 400) ∧ f.t 13 = .v (.int .i64 (j : Nat)) ∧ f.t 7 = .ptr AH.none.next 0 ∧ f.t 2 = .box [.v (.int .i64 c.hosts), ints c.place, ints c.verd] ∧ f.ds = [] ∧ ∃ s g, Valid c s ∧ Honest c s ∧ f.t 9 = .v (.bool g) ∧ H'.own AH.none.next = some (.cells (stL s)) ∧ AH.none.next < H'.next ∧ pot s + (j : Int) ≤ 300) ?_ ?_ (m := 400 - (0))
      · exact ⟨0, rfl, (by omega), (by first | rfl | exact f13), (by first | rfl | exact f7), (by first | rfl | exact f2), rfl, ⟨s, g, hV, ho, f9, by simp [hw, stL, plsV, hssV, pksV], hx, by have := (pot_bound hV).2; simp; omega⟩⟩
      · rintro m f H' ⟨j, rfl, hj, f13, f7, f2, hds, ⟨s,g,hV,ho,f9,hw,hx,hpt⟩⟩
        simp only [stL, plsV, hssV, pksV] at hw
        have w1 : (AH.none.next = H'.next) = False := eq_false (by omega)
        have w2 : (H'.next = AH.none.next) = False := eq_false (by omega)
        have w3 : (AH.none.next = H'.next + 1) = False := eq_false (by omega)
        have w4 : (H'.next + 1 = AH.none.next) = False := eq_false (by omega)
        have hp0 := (pot_bound hV).1
        have z0 : ((0 : Int) != 0) = false := rfl
        simp only [show decide (((j : Nat) : Int) < 400) = true from decide_eq_true (by omega), hw, f13, f7, f2, hds, Cd.cd3, Tk.t3, base0, base1, base2, base3, Option.isNone_none, Option.isNone_some, Nat.reduceBEq, true_or, or_true, false_or, or_false, Nat.reduceLT, Nat.reduceMod, Nat.reducePow, rmaps, nsucc, List.flatten_cons, List.flatten_nil, Nat.reduceEqDiff, Nat.reduceLeDiff, Nat.reduceAdd, Nat.reduceMul, Nat.reduceSub, ↓reduceIte, reduceCtorEq, decide_true, decide_false]
        refine (few14 s).go (FZs.one (FZ.stV s)) ?_
        rw [valid_few hV]
        simp only [hw, f13, f7, f2, hds, Cd.cd3, Tk.t3, base0, base1, base2, base3, Option.isNone_none, Option.isNone_some, Nat.reduceBEq, true_or, or_true, false_or, or_false, Nat.reduceLT, Nat.reduceMod, Nat.reducePow, rmaps, nsucc, List.flatten_cons, List.flatten_nil, Nat.reduceEqDiff, Nat.reduceLeDiff, Nat.reduceAdd, Nat.reduceMul, Nat.reduceSub, ↓reduceIte, reduceCtorEq, decide_true, decide_false]
        refine (stateErr15 c s hk.small hV.small).go (FZs.two (FZ.caseV c) (FZ.stV s)) ?_
        rw [checkState_ok.mpr hV]
        simp only [z0, hw, f13, f7, f2, hds, Cd.cd3, Tk.t3, base0, base1, base2, base3, Option.isNone_none, Option.isNone_some, Nat.reduceBEq, true_or, or_true, false_or, or_false, Nat.reduceLT, Nat.reduceMod, Nat.reducePow, rmaps, nsucc, List.flatten_cons, List.flatten_nil, Nat.reduceEqDiff, Nat.reduceLeDiff, Nat.reduceAdd, Nat.reduceMul, Nat.reduceSub, ↓reduceIte, reduceCtorEq, decide_true, decide_false]
        first | refine FCall.go (ownCase13 c hk.small.p hk.small.v) (FZs.one (FZ.caseV c)) ?_ | refine FCall.go' (ownCase13 c hk.small.p hk.small.v) (FZs.one (FZ.caseV c)) ?_ | refine FCall.goQ (ownCase13 c hk.small.p hk.small.v) (FZs.one (FZ.caseV c)) ?_
        simp only [caseV]
        simp only [f13, f7, f2, hds, Cd.cd3, Tk.t3, base0, base1, base2, base3, Option.isNone_none, Option.isNone_some, Nat.reduceBEq, true_or, or_true, false_or, or_false, Nat.reduceLT, Nat.reduceMod, Nat.reducePow, rmaps, nsucc, List.flatten_cons, List.flatten_nil, Nat.reduceEqDiff, Nat.reduceLeDiff, Nat.reduceAdd, Nat.reduceMul, Nat.reduceSub, ↓reduceIte, reduceCtorEq, decide_true, decide_false]
        first | refine FCall.go (own17f hV) (FZs.one (FZ.stV s)) ?_ | refine FCall.go' (own17f hV) (FZs.one (FZ.stV s)) ?_ | refine FCall.goQ (own17f hV) (FZs.one (FZ.stV s)) ?_
        simp only [stV, stL, plsV, hssV, pksV]
        simp only [f13, f7, f2, hds, Cd.cd3, Tk.t3, base0, base1, base2, base3, Option.isNone_none, Option.isNone_some, Nat.reduceBEq, true_or, or_true, false_or, or_false, Nat.reduceLT, Nat.reduceMod, Nat.reducePow, rmaps, nsucc, List.flatten_cons, List.flatten_nil, Nat.reduceEqDiff, Nat.reduceLeDiff, Nat.reduceAdd, Nat.reduceMul, Nat.reduceSub, ↓reduceIte, reduceCtorEq, decide_true, decide_false]
        first | refine FCall.go (isOver18 c s hk.small hV.small) (FZs.two (FZ.caseV c) (FZ.stV s)) ?_ | refine FCall.go' (isOver18 c s hk.small hV.small) (FZs.two (FZ.caseV c) (FZ.stV s)) ?_ | refine FCall.goQ (isOver18 c s hk.small hV.small) (FZs.two (FZ.caseV c) (FZ.stV s)) ?_
        rw [checkState_ok.mpr hV]
        cases hov : overS s
        rotate_left
        · simp only [z0, hw, decide_true, Bool.and_true, Bool.true_and, f13, f7, f2, hds, Cd.cd3, Tk.t3, base0, base1, base2, base3, Option.isNone_none, Option.isNone_some, Nat.reduceBEq, true_or, or_true, false_or, or_false, Nat.reduceLT, Nat.reduceMod, Nat.reducePow, rmaps, nsucc, List.flatten_cons, List.flatten_nil, Nat.reduceEqDiff, Nat.reduceLeDiff, Nat.reduceAdd, Nat.reduceMul, Nat.reduceSub, ↓reduceIte, reduceCtorEq, decide_true, decide_false]
          first | refine FCall.go (worst19 c.verd hk.small.v) (FZs.one (FZ.ints _)) ?_ | refine FCall.go' (worst19 c.verd hk.small.v) (FZs.one (FZ.ints _)) ?_ | refine FCall.goQ (worst19 c.verd hk.small.v) (FZs.one (FZ.ints _)) ?_
          simp only [honest_v hV ho hov, beq_self_eq_true, f13, f7, f2, hds, Cd.cd3, Tk.t3, base0, base1, base2, base3, Option.isNone_none, Option.isNone_some, Nat.reduceBEq, true_or, or_true, false_or, or_false, Nat.reduceLT, Nat.reduceMod, Nat.reducePow, rmaps, nsucc, List.flatten_cons, List.flatten_nil, Nat.reduceEqDiff, Nat.reduceLeDiff, Nat.reduceAdd, Nat.reduceMul, Nat.reduceSub, ↓reduceIte, reduceCtorEq, decide_true, decide_false]
          exact fin_v rfl
        · simp only [z0, hw, decide_true, Bool.and_false, Bool.true_and, f13, f7, f2, hds, Cd.cd3, Tk.t3, base0, base1, base2, base3, Option.isNone_none, Option.isNone_some, Nat.reduceBEq, true_or, or_true, false_or, or_false, Nat.reduceLT, Nat.reduceMod, Nat.reducePow, rmaps, nsucc, List.flatten_cons, List.flatten_nil, Nat.reduceEqDiff, Nat.reduceLeDiff, Nat.reduceAdd, Nat.reduceMul, Nat.reduceSub, ↓reduceIte, reduceCtorEq, decide_true, decide_false]
          first | refine FCall.go (ownCase13 c hk.small.p hk.small.v) (FZs.one (FZ.caseV c)) ?_ | refine FCall.go' (ownCase13 c hk.small.p hk.small.v) (FZs.one (FZ.caseV c)) ?_ | refine FCall.goQ (ownCase13 c hk.small.p hk.small.v) (FZs.one (FZ.caseV c)) ?_
          simp only [caseV]
          simp only [f13, f7, f2, hds, Cd.cd3, Tk.t3, base0, base1, base2, base3, Option.isNone_none, Option.isNone_some, Nat.reduceBEq, true_or, or_true, false_or, or_false, Nat.reduceLT, Nat.reduceMod, Nat.reducePow, rmaps, nsucc, List.flatten_cons, List.flatten_nil, Nat.reduceEqDiff, Nat.reduceLeDiff, Nat.reduceAdd, Nat.reduceMul, Nat.reduceSub, ↓reduceIte, reduceCtorEq, decide_true, decide_false]
          first | refine FCall.go (own17f hV) (FZs.one (FZ.stV s)) ?_ | refine FCall.go' (own17f hV) (FZs.one (FZ.stV s)) ?_ | refine FCall.goQ (own17f hV) (FZs.one (FZ.stV s)) ?_
          simp only [stV, stL, plsV, hssV, pksV]
          simp only [f13, f7, f2, hds, Cd.cd3, Tk.t3, base0, base1, base2, base3, Option.isNone_none, Option.isNone_some, Nat.reduceBEq, true_or, or_true, false_or, or_false, Nat.reduceLT, Nat.reduceMod, Nat.reducePow, rmaps, nsucc, List.flatten_cons, List.flatten_nil, Nat.reduceEqDiff, Nat.reduceLeDiff, Nat.reduceAdd, Nat.reduceMul, Nat.reduceSub, ↓reduceIte, reduceCtorEq, decide_true, decide_false]
          first | refine FCall.go (actsIn20 c s hk.small hV.small) (FZs.two (FZ.caseV c) (FZ.stV s)) ?_ | refine FCall.go' (actsIn20 c s hk.small hV.small) (FZs.two (FZ.caseV c) (FZ.stV s)) ?_ | refine FCall.goQ (actsIn20 c s hk.small hV.small) (FZs.two (FZ.caseV c) (FZ.stV s)) ?_
          rw [if_pos (checkState_ok.mpr hV)]
          simp only [acsV]
          simp only [z0, f13, f7, f2, hds, Cd.cd3, Tk.t3, base0, base1, base2, base3, Option.isNone_none, Option.isNone_some, Nat.reduceBEq, true_or, or_true, false_or, or_false, Nat.reduceLT, Nat.reduceMod, Nat.reducePow, rmaps, nsucc, List.flatten_cons, List.flatten_nil, Nat.reduceEqDiff, Nat.reduceLeDiff, Nat.reduceAdd, Nat.reduceMul, Nat.reduceSub, ↓reduceIte, reduceCtorEq, decide_true, decide_false]
          have hal : (actsOf c s 12).length < 2 ^ 40 := by have := actsTo_le c s 12 8; unfold actsOf; omega
          refine (useful21 (actsOf c s 12) hal).some (FZs.one (FZ.acsV _)) fun out hz hr => ?_
          rcases hr with ⟨a, ha, hak, rfl⟩ | ⟨hno, rfl⟩
          · obtain ⟨hak1, hak2⟩ := mem_actsOf ha
            have he : actE c s a = 0 := actE_ok.mpr ⟨hak1, hak2⟩
            have hkk : a.kind = 0 ∨ a.kind = 1 ∨ a.kind = 4 ∨ a.kind = 5 := by simp [usefulK] at hak; omega
            have h7 : (a.kind == 7) = false := by rw [beq_eq_false_iff_ne]; omega
            have hho := PStep.act hV he
            rw [h7] at hho
            have hho := hho.honest ho
            have hpd := pot_act hV he hkk
            simp only [acV, acR]
            simp only [z0, hw, w1, w2, w3, w4, nsucc, f13, f7, f2, hds, Cd.cd3, Tk.t3, base0, base1, base2, base3, Option.isNone_none, Option.isNone_some, Nat.reduceBEq, true_or, or_true, false_or, or_false, Nat.reduceLT, Nat.reduceMod, Nat.reducePow, rmaps, nsucc, List.flatten_cons, List.flatten_nil, Nat.reduceEqDiff, Nat.reduceLeDiff, Nat.reduceAdd, Nat.reduceMul, Nat.reduceSub, ↓reduceIte, reduceCtorEq, decide_true, decide_false]
            first | refine FCall.go (ownCase13 c hk.small.p hk.small.v) (FZs.one (FZ.caseV c)) ?_ | refine FCall.go' (ownCase13 c hk.small.p hk.small.v) (FZs.one (FZ.caseV c)) ?_ | refine FCall.goQ (ownCase13 c hk.small.p hk.small.v) (FZs.one (FZ.caseV c)) ?_
            simp only [caseV]
            simp only [f13, f7, f2, hds, Cd.cd3, Tk.t3, base0, base1, base2, base3, Option.isNone_none, Option.isNone_some, Nat.reduceBEq, true_or, or_true, false_or, or_false, Nat.reduceLT, Nat.reduceMod, Nat.reducePow, rmaps, nsucc, List.flatten_cons, List.flatten_nil, Nat.reduceEqDiff, Nat.reduceLeDiff, Nat.reduceAdd, Nat.reduceMul, Nat.reduceSub, ↓reduceIte, reduceCtorEq, decide_true, decide_false]
            first | refine FCall.go (own17f hV) (FZs.one (FZ.stV s)) ?_ | refine FCall.go' (own17f hV) (FZs.one (FZ.stV s)) ?_ | refine FCall.goQ (own17f hV) (FZs.one (FZ.stV s)) ?_
            simp only [stV, stL, plsV, hssV, pksV]
            simp only [f13, f7, f2, hds, Cd.cd3, Tk.t3, base0, base1, base2, base3, Option.isNone_none, Option.isNone_some, Nat.reduceBEq, true_or, or_true, false_or, or_false, Nat.reduceLT, Nat.reduceMod, Nat.reducePow, rmaps, nsucc, List.flatten_cons, List.flatten_nil, Nat.reduceEqDiff, Nat.reduceLeDiff, Nat.reduceAdd, Nat.reduceMul, Nat.reduceSub, ↓reduceIte, reduceCtorEq, decide_true, decide_false]
            first | refine FCall.go (acted16 c s a hk.small hV.small) (FZs.three (FZ.caseV c) (FZ.stV s) (FZ.acV a)) ?_ | refine FCall.go' (acted16 c s a hk.small hV.small) (FZs.three (FZ.caseV c) (FZ.stV s) (FZ.acV a)) ?_ | refine FCall.goQ (acted16 c s a hk.small hV.small) (FZs.three (FZ.caseV c) (FZ.stV s) (FZ.acV a)) ?_
            rw [if_pos ⟨checkState_ok.mpr hV, he⟩]
            simp only [stV, stL, plsV, hssV, pksV]
            simp only [z0, hw, w1, w2, w3, w4, nsucc, f13, f7, f2, hds, Cd.cd3, Tk.t3, base0, base1, base2, base3, Option.isNone_none, Option.isNone_some, Nat.reduceBEq, true_or, or_true, false_or, or_false, Nat.reduceLT, Nat.reduceMod, Nat.reducePow, rmaps, nsucc, List.flatten_cons, List.flatten_nil, Nat.reduceEqDiff, Nat.reduceLeDiff, Nat.reduceAdd, Nat.reduceMul, Nat.reduceSub, ↓reduceIte, reduceCtorEq, decide_true, decide_false]

            refine ⟨_, by omega, j + 1, rfl, by omega, ?_⟩
            (repeat' apply And.intro) <;> first | rfl | (rw [wrapS (by omega)]) | omega | assumption | (exact ⟨actS c s a, g, hV.act he, hho, f9, rfl, by omega, by omega⟩)
          · have htr : ∀ i, i < s.placed.length → (s.placed.getD i default).tk = false → (s.placed.getD i default).tr = 3 := fun i hi ht => by
              refine stuck_tried hV hi ht ?_
              cases hp : isPossible c s ⟨0, i⟩
              · rfl
              · have hlp := hV.lp; have hp6 := hk.p6
                exact absurd (show (0 : Int) ∈ usefulK by decide) (hno _ (actsOf_mem (k := 0) (n := i) (by omega) (by omega) hp))
            simp only [acV, acR]
            cases g
            · simp only [z0, f9, hw, w1, w2, w3, w4, nsucc, f13, f7, f2, hds, Cd.cd3, Tk.t3, base0, base1, base2, base3, Option.isNone_none, Option.isNone_some, Nat.reduceBEq, true_or, or_true, false_or, or_false, Nat.reduceLT, Nat.reduceMod, Nat.reducePow, rmaps, nsucc, List.flatten_cons, List.flatten_nil, Nat.reduceEqDiff, Nat.reduceLeDiff, Nat.reduceAdd, Nat.reduceMul, Nat.reduceSub, ↓reduceIte, reduceCtorEq, decide_true, decide_false]
              refine (isTried22 c s hV.small.p hov htr).go (FZs.two (FZ.caseV c) (FZ.stV s)) ?_
              simp only [f9, f13, f7, f2, hds, Cd.cd3, Tk.t3, base0, base1, base2, base3, Option.isNone_none, Option.isNone_some, Nat.reduceBEq, true_or, or_true, false_or, or_false, Nat.reduceLT, Nat.reduceMod, Nat.reducePow, rmaps, nsucc, List.flatten_cons, List.flatten_nil, Nat.reduceEqDiff, Nat.reduceLeDiff, Nat.reduceAdd, Nat.reduceMul, Nat.reduceSub, ↓reduceIte, reduceCtorEq, decide_true, decide_false]
              exact fin_v rfl
            · simp only [z0, f9, hw, w1, w2, w3, w4, nsucc, f13, f7, f2, hds, Cd.cd3, Tk.t3, base0, base1, base2, base3, Option.isNone_none, Option.isNone_some, Nat.reduceBEq, true_or, or_true, false_or, or_false, Nat.reduceLT, Nat.reduceMod, Nat.reducePow, rmaps, nsucc, List.flatten_cons, List.flatten_nil, Nat.reduceEqDiff, Nat.reduceLeDiff, Nat.reduceAdd, Nat.reduceMul, Nat.reduceSub, ↓reduceIte, reduceCtorEq, decide_true, decide_false]
              exact fin_v rfl
end Go.Proofs.Ytgmncggiblaciaa

/- Walks: any state copied by the reference. -/
namespace Go.Proofs.Ytgmncggiblaciaa
open Go Go.Proofs.Ytgmncggiblaciaa.Ab
set_option maxRecDepth 100000

/-- a state whose hosts are being laid, one after the other; it may have no placed components and no hosts -/
structure OwnK (B : Nat) (H : AH) (s : Stt) (i : Nat) (ap ah aq : AV) (o : List OH) : Prop where
  hp : Arr plR 4 H ap s.placed
  ha : (o = [] ∧ ah = nilS) ∨ ∃ h, ah = .sl 2 h 0 o.length ∧ H.own h = some (.cells (flatE hsO o))
  eq : o.map OH.hs = s.hosts.take i
  q : Arr pkR 4 H aq s.net
  m : ∀ y ∈ o, Arr ptR 5 H y.a y.parts
  dp : ∀ n, nmA ap = some n → nmA ah ≠ some n
  dq : ∀ n, nmA aq = some n → nmA ah ≠ some n
  dm : ∀ y ∈ o, ∀ n, nmA y.a = some n → nmA ah ≠ some n
  lp : ∀ n, nmA ap = some n → B ≤ n ∧ n < H.next
  lh : ∀ n, nmA ah = some n → B ≤ n ∧ n < H.next
  lq : ∀ n, nmA aq = some n → B ≤ n ∧ n < H.next
  lm : ∀ y ∈ o, ∀ n, nmA y.a = some n → B ≤ n ∧ n < H.next

theorem OwnK.step {B : Nat} {H H2 : AH} {s : Stt} {i h' : Nat} {ap ah aq : AV} {o : List OH} {y : OH} (x : OwnK B H s i ap ah aq o) (hi : i < s.hosts.length) (hy : y.hs = s.hosts.getD i default) (hv : Arr ptR 5 H2 y.a y.parts)
    (hnv : ∀ n, nmA y.a = some n → H.next ≤ n ∧ n < H2.next ∧ n ≠ h') (hh : H2.own h' = some (.cells (flatE hsO (o ++ [y])))) (hn : H.next ≤ h' ∧ h' < H2.next)
    (hk : ∀ n, B ≤ n → n < H.next → nmA ah ≠ some n → H2.own n = H.own n) (hB : B ≤ H.next) : OwnK B H2 s (i + 1) ap (.sl 2 h' 0 (o.length + 1)) aq (o ++ [y]) := by
  refine ⟨x.hp.mono fun n hn' => hk n (x.lp n hn').1 (x.lp n hn').2 (x.dp n hn'), .inr ⟨h', by simp, hh⟩, ?_, x.q.mono fun n hn' => hk n (x.lq n hn').1 (x.lq n hn').2 (x.dq n hn'), fun z hz => ?_, fun n hn' => ?_, fun n hn' => ?_, fun z hz n hn' => ?_, fun n hn' => ?_, fun n hn' => ?_, fun n hn' => ?_, fun z hz n hn' => ?_⟩
  · rw [List.map_append, x.eq, take_succ_getD hi]; simp [hy]
  · rcases List.mem_append.mp hz with hz | hz
    · exact (x.m z hz).mono fun n hn' => hk n (x.lm z hz n hn').1 (x.lm z hz n hn').2 (x.dm z hz n hn')
    · simp only [List.mem_singleton] at hz; subst hz; exact hv
  · have h1 := x.lp n hn'
    exact fun e => by simp only [nmA, Option.some.injEq] at e; omega
  · have h1 := x.lq n hn'
    exact fun e => by simp only [nmA, Option.some.injEq] at e; omega
  · rcases List.mem_append.mp hz with hz | hz
    · have h1 := x.lm z hz n hn'
      exact fun e => by simp only [nmA, Option.some.injEq] at e; omega
    · simp only [List.mem_singleton] at hz; subst hz
      have h1 := hnv n hn'
      exact fun e => by simp only [nmA, Option.some.injEq] at e; omega
  · have := x.lp n hn'; omega
  · simp only [nmA, Option.some.injEq] at hn'; omega
  · have := x.lq n hn'; omega
  · rcases List.mem_append.mp hz with hz | hz
    · have := x.lm z hz n hn'; omega
    · simp only [List.mem_singleton] at hz; subst hz; have := hnv n hn'; omega

theorem OwnK.view {B : Nat} {H H2 : AH} {s : Stt} {ap ah aq : AV} {o : List OH} (x : OwnK B H s s.hosts.length ap ah aq o) (hk : ∀ n, B ≤ n → H2.own n = H.own n) : View H2 (.agg [ap, .v (.int .i64 s.v), ah, aq]) (stV s) := by
  have hp := x.hp.mono fun n hn => hk n (x.lp n hn).1
  have hq := x.q.mono fun n hn => hk n (x.lq n hn).1
  have hm : ∀ y ∈ o, Arr ptR 5 H2 y.a y.parts := fun y hy => (x.m y hy).mono fun n hn => hk n (x.lm y hy n hn).1
  have heq := x.eq
  rw [List.take_length] at heq
  refine Views.agg (Views.cons (hp.view plR_len FZs.plR) (Views.cons (FZ.v _).view (Views.cons ?_ (Views.cons (hq.view pkR_len FZs.pkR) Views.nil))))
  rcases x.ha with ⟨rfl, rfl⟩ | ⟨h, rfl, hh⟩
  · rw [← heq]; exact View.nil _
  · have hl : s.hosts.length = o.length := by rw [← heq, List.length_map]
    have hh2 : H2.own h = some (.cells (flatE hsO o)) := by rw [hk h (x.lh h rfl).1]; exact hh
    refine View.sl hh2 (by rw [flatE_len hsO_len]; omega) (by simp [hl]) (fun i hi => ?_) fun i j hi hj => ?_
    · exact (congrArg List.length (getDmap hsR s.hosts i (by omega))).trans rfl
    · have e1 : (flatE hsO o).getD (0 + i * 2 + j) .any = (hsO (o.getD i default)).getD j .any := by
        have := flatE_get hsO_len o i j [] hi hj
        rw [List.append_nil] at this; rw [Nat.zero_add]; exact this
      have e2 : s.hosts.getD i default = (o.getD i default).hs := by
        rw [← heq, List.getD_eq_getElem?_getD, List.getElem?_map, List.getElem?_eq_getElem hi, List.getD_eq_getElem?_getD, List.getElem?_eq_getElem hi]; rfl
      rw [e1, getDmap hsR s.hosts i (by omega), e2]
      have : j = 0 ∨ j = 1 := by omega
      rcases this with rfl | rfl
      · exact (FZ.v _).view
      · exact (hm _ (getD_mem hi)).view ptR_len FZs.ptR

end Go.Proofs.Ytgmncggiblaciaa

/- Readers of the arguments. -/
namespace Go.Proofs.Ytgmncggiblaciaa
open Go Go.Proofs.Ytgmncggiblaciaa.Ab
set_option maxRecDepth 100000

theorem rdI : Rd Try.prog 3 (fun n : Int => [.v (.int .i64 n)]) (fun n => IntKind.i64.min ≤ n ∧ n ≤ IntKind.i64.max) := Rd.int Try.underlying3
theorem rdInts : Rd Try.prog 22 (fun l : List Int => [ints l]) (fun _ => True) :=
  (Rd.slice Try.underlying22 (by kernel_rfl) (by decide) rdI (fun _ => rfl)).map (fun l : List Int => l) (fun _ => rfl) (fun _ _ => trivial)
theorem rdCase : Rd Try.prog 24 (fun c : Case => [.v (.int .i64 c.hosts), ints c.place, ints c.verd]) (fun _ => True) :=
  (Rd.struct Try.underlying24 rfl (by kernel_rfl) (RdF.cons (s := 1) rfl (by kernel_rfl) rdI (RdF.cons (s := 1) rfl (by kernel_rfl) rdInts (RdF.cons (s := 1) rfl (by kernel_rfl) rdInts RdF.nil)))).map
    (fun p => (⟨p.1, p.2.1, p.2.2.1⟩ : Case)) (fun _ => rfl) (fun _ _ => trivial)
theorem rdAc : Rd Try.prog 39 acR (fun _ => True) :=
  (Rd.struct Try.underlying39 rfl (by kernel_rfl) (RdF.cons (s := 1) rfl (by kernel_rfl) rdI (RdF.cons (s := 1) rfl (by kernel_rfl) rdI RdF.nil))).map
    (fun p => (⟨p.1, p.2.1⟩ : Ac)) (fun _ => rfl) (fun _ _ => trivial)
theorem rdAcs : Rd Try.prog 25 (fun l : List Ac => [acsV l]) (fun _ => True) :=
  (Rd.slice Try.underlying25 (by kernel_rfl) (by decide) rdAc (fun _ => rfl)).map (fun l : List Ac => l) (fun _ => rfl) (fun _ _ => trivial)
theorem own : ownKnob Try.prog.godebug = none := by kernel_rfl
theorem laidOut : laidOutB Try.prog = true := by kernel_rfl
end Go.Proofs.Ytgmncggiblaciaa

/- The law holds: for every input it returns true, and each argument reads behind the call as it read before. No condition. -/
namespace Go.Proofs.Ytgmncggiblaciaa
open Go Go.Proofs.Ytgmncggiblaciaa.Ab Go.ChangeShapes Go.WideShapes Go.ChangeAt Go.RowKit
set_option maxRecDepth 100000

set_option maxHeartbeats 800000 in
theorem lift3 (os : Os) (started : os.Started) (H : Type) (enc : TypeId × Value → H) :
    ReturnsInHanded {} Try.checked os 3 .any (Rows.hostsSameSpec.pre6 enc Try.prog Try.f3 Rows.hostsSameRow.domain false) (Rows.hostsSameSpec.post enc Try.prog Try.f3 false true false false) := by
  refine returnsInHanded_of_change (C := Try.checked) own started (by kernel_rfl) Try.func3
    (ChangeSpec.witness6 (enc := enc) (C := Try.checked) false ⟨#[], #[.agg #[.int .i64 0, .slice none 0 0, .slice none 0 0], .slice none 0 0], []⟩ 8 (by kernel_rfl) (by kernel_rfl) (by kernel_rfl) (by kernel_rfl)) ?_
  intro W base args ds gs before hval0 hW _ _
  have hval : ∀ (j : Nat) t v, Try.f3.params[j]? = some t → args[j]? = some v → Value.okWide Try.prog W .any base t v := hval0
  have hW' := hW
  obtain ⟨p, q, hA0, hV, rfl, _, _⟩ := hW
  have hA : DataW.TrodAll enc Try.prog W 0 (fun _ => true) true Try.f3.params.toList args.toList ds p := hA0
  rw [Try.params3] at hA hval
  obtain ⟨v0, v1, d0, d1, p0, p1, rfl, rfl, rfl, h0, h1⟩ := trodAll_two hA
  obtain ⟨rfl, rfl⟩ := trodVars_none hV
  obtain ⟨x0, -, hx0⟩ := arg_struct rdCase Try.underlying24 (hval 0 24 v0 rfl rfl) h0
  obtain ⟨a1, len1, cap1, rfl⟩ := okWide_slice Try.underlying25 (hval 1 25 v1 rfl rfl)
  obtain ⟨x1, -, hx1⟩ := arg_one rdAcs h1 rfl
  clear hA0 hval0
  simp only [List.append_nil] at hW'
  have hlt : ∀ x ∈ p0 ++ p1, x.block < W.heap.size := fun x hx => by simpa using hW'.lt x hx
  refine ((law3 x0 x1).true (xs := #[v0, .slice a1 len1 cap1]) (W := W) ⟨rfl, fun j hj => ?_⟩).mono fun e W' ⟨he, hb⟩ => ?_
  · match j, hj with
    | 0, _ => exact hx0
    | 1, _ => exact hx1
  subst he
  have harg0 : DataW.Trod enc Try.prog W' 0 (fun b => decide (b < W.heap.size)) true 24 (v0) d0 p0 :=
    Below.trod laidOut (by kernel_rfl) (of_decide_eq_true (by kernel_rfl)) h0 hb (fun x hx => hlt x (List.mem_append.2 (.inl hx)))
  have harg1 : DataW.Trod enc Try.prog W' 0 (fun b => decide (b < W.heap.size)) true 25 (.slice a1 len1 cap1) d1 p1 :=
    Below.trod laidOut (by kernel_rfl) (of_decide_eq_true (by kernel_rfl)) h1 hb (fun x hx => hlt x (List.mem_append.2 (.inr hx)))
  refine ⟨_, rfl, _, _, _, [], _, [], hW', ?_, trodAll_mk2 harg0 harg1, rfl, hb.frame _, fun h => by cases h⟩
  exact trodAll_mk1 (shut_bool Try.underlying4 _)

theorem hostsSame : Rows.HostsSameSaid :=
  OpenClaim.holds_of_wide 3 Try.f3 rfl rfl rfl rfl rfl rfl rfl ⟨rfl, rfl, rfl, rfl, rfl⟩ rfl rfl rfl rfl rfl (by kernel_rfl) Try.func3 (by kernel_rfl)
    (of_decide_eq_true (by kernel_rfl)) (by unfold Func.isWrapper; first | (rw [if_pos (by decide +kernel)]; kernel_rfl) | (rw [if_neg (by decide +kernel)]; exact ⟨rfl, rfl⟩))
    (fun os started H enc _ => lift3 os started H enc)
end Go.Proofs.Ytgmncggiblaciaa

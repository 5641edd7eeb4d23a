/- Part 3 of a proof: conformRelations holds for every input; no condition. -/
import Derived.Test.YtchpcjmgifnmdaaDoorProg
import Derived.KernelRfl
import Derived.DeepKeys3
import Derived.Test.YtchpcjmgifnmdaaDoorCards
import Derived.Test.YtchpcjmgifnmdaaDoorTie
import Derived.ProofKit
import Derived.OpenShut
import Derived.SizedLaws
import Derived.Deep.DeepHandedRow
import Derived.Lib.LaidTab
import Derived.Test.YtchpcjmgifnmdaaDoorGl
import Derived.Test.YtchpcjmgifnmdaaDoorAb0
import Derived.Test.YtchpcjmgifnmdaaDoorAb1
import Derived.Test.YtchpcjmgifnmdaaDoorAb2
import Derived.Test.YtchpcjmgifnmdaaDoorAb3
import Derived.Test.YtchpcjmgifnmdaaDoorAb4
import Derived.Test.YtchpcjmgifnmdaaDoorAb5
import Derived.Test.YtchpcjmgifnmdaaDoorAb6
import Derived.Test.YtchpcjmgifnmdaaDoorAb7
import Derived.Test.YtchpcjmgifnmdaaDoorAb8
import Derived.Test.YtchpcjmgifnmdaaDoorAb8a
import Derived.Test.YtchpcjmgifnmdaaDoorAb8b
import Derived.Test.YtchpcjmgifnmdaaDoorAb8c
import Derived.Test.YtchpcjmgifnmdaaDoorAb8m
import Derived.Test.YtchpcjmgifnmdaaDoorAb8d
import Derived.Test.YtchpcjmgifnmdaaDoorAb9
import Derived.Test.YtchpcjmgifnmdaaDoorAb10
import Derived.Test.YtchpcjmgifnmdaaDoorAb11
import Derived.Test.YtchpcjmgifnmdaaDoorAb12
import Derived.Test.YtchpcjmgifnmdaaDoorAb13
import Derived.Test.YtchpcjmgifnmdaaDoorAb14
import Derived.Test.YtchpcjmgifnmdaaDoorAb15
import Derived.Test.YtchpcjmgifnmdaaDoorAb16
import Derived.Test.YtchpcjmgifnmdaaDoorAb17
import Derived.Test.YtchpcjmgifnmdaaDoorAb18
import Derived.Test.YtchpcjmgifnmdaaDoorAb19
import Derived.Test.YtchpcjmgifnmdaaDoorAb20
import Derived.Test.YtchpcjmgifnmdaaDoorAb23
import Derived.Test.YtchpcjmgifnmdaaDoorQf2
set_option linter.unusedSimpArgs false
set_option linter.unusedVariables false
set_option linter.defProp false
/- Walks: the reference's closed sets. -/
namespace Go.Proofs.YtchpcjmgifnmdaaDoor
open Go Go.Proofs.YtchpcjmgifnmdaaDoor.Ab
set_option maxRecDepth 100000
set_option linter.unusedSimpArgs false

structure WL (x : Re) (set r : List Int) : Prop where
  nd : r.Nodup
  lt : ∀ b ∈ r, 0 ≤ b ∧ b < x.st
  cc : ∀ b ∈ set ++ r, (Go.Proofs.YtchpcjmgifnmdaaDoor.cl x (maskL set)).testBit b.toNat = true
theorem nodup_i : ∀ (n : Nat) (l : List Int), l.Nodup → (∀ x ∈ l, 0 ≤ x ∧ x < (n : Int)) → l.length ≤ n
  | 0, l, _, h => by
    cases l with
    | nil => exact Nat.le_refl _
    | cons x l => have := h x (by simp); omega
  | n + 1, l, hn, h => by
    by_cases hm : (n : Int) ∈ l
    · have h1 := List.length_erase_of_mem hm
      have h2 := nodup_i n (l.erase n) (hn.erase _) fun x hx => by
        have h3 := (hn.mem_erase_iff).mp hx
        have := h x h3.2
        have := h3.1
        omega
      have : 0 < l.length := List.length_pos_of_mem hm
      omega
    · have := nodup_i n l hn fun x hx => by
        have h1 := h x hx
        have : x ≠ n := fun e => hm (e ▸ hx)
        omega
      omega
theorem WL.len {x : Re} (hx : Ok x) {set r : List Int} (h : WL x set r) : r.length ≤ 10 := by
  have := hx.st
  exact nodup_i 10 r h.nd fun b hb => by have := h.lt b hb; omega
theorem set_lt {x : Re} (hx : Ok x) {set : List Int} (hs : ∀ a ∈ set, 0 ≤ a ∧ a < x.st) : maskL set < 2 ^ nst x := maskL_lt fun a ha => by
  have := hs a ha
  have := hx.st
  unfold nst; omega
theorem WL.start {x : Re} (hx : Ok x) {set : List Int} (hs : ∀ a ∈ set, 0 ≤ a ∧ a < x.st) : WL x set [] :=
  ⟨List.nodup_nil, fun _ h => by simp at h, fun b hb => by
    rw [List.append_nil] at hb
    refine (cl_bit hx (set_lt hx hs)).mpr ⟨b.toNat, ?_, .refl⟩
    rw [maskL_bit fun a ha => (hs a ha).1, Int.toNat_of_nonneg (hs b hb).1]; exact hb⟩
theorem WL.add {x : Re} (hx : Ok x) {set r : List Int} (hs : ∀ a ∈ set, 0 ≤ a ∧ a < x.st) (h : WL x set r) {m : Mv} (hm : m ∈ x.mv) (hk : m.kd = 2) (hf : m.fr ∈ set ++ r) (hn : m.to ∉ set ++ r) : WL x set (r ++ [m.to]) := by
  have hmo := hx.mv m hm
  refine ⟨?_, fun b hb => ?_, fun b hb => ?_⟩
  · rw [List.nodup_append]
    refine ⟨h.nd, by simp, fun a ha b hb => ?_⟩
    simp only [List.mem_singleton] at hb
    subst hb
    intro e; subst e; exact hn (List.mem_append.mpr (.inr ha))
  · rcases List.mem_append.mp hb with hb | hb
    · exact h.lt b hb
    · simp only [List.mem_singleton] at hb; subst hb; exact hmo.to
  · rw [← List.append_assoc] at hb
    rcases List.mem_append.mp hb with hb | hb
    · exact h.cc b hb
    · simp only [List.mem_singleton] at hb; subst hb
      obtain ⟨a, ha, hr⟩ := (cl_bit hx (set_lt hx hs)).mp (h.cc _ hf)
      refine (cl_bit hx (set_lt hx hs)).mpr ⟨a, ha, .step hr (silM_bit.mpr ⟨m, hm, hk, ?_, rfl⟩)⟩
      exact (Int.toNat_of_nonneg hmo.fr.1).symm
theorem WL.all {x : Re} (hx : Ok x) {set r : List Int} (hs : ∀ a ∈ set, 0 ≤ a ∧ a < x.st) (h : WL x set r) (hc : ∀ a ∈ set ++ r, ∀ m ∈ x.mv, m.kd = 2 → m.fr = a → m.to ∈ set ++ r) (s : Nat) : (cl x (maskL set)).testBit s = decide ((s : Int) ∈ set ++ r) := by
  rw [Bool.eq_iff_iff, decide_eq_true_eq]
  constructor
  · intro hb
    obtain ⟨a, ha, hr⟩ := (cl_bit hx (set_lt hx hs)).mp hb
    rw [maskL_bit fun a ha => (hs a ha).1] at ha
    induction hr with
    | refl => exact List.mem_append.mpr (.inl ha)
    | @step b c hr hsb ih =>
      obtain ⟨m, hm, h1, h2, h3⟩ := silM_bit.mp hsb
      have := hc b (ih ((cl_bit hx (set_lt hx hs)).mpr ⟨a, (maskL_bit fun a ha => (hs a ha).1).mpr ha, hr⟩)) m hm h1 h2
      rw [← h3, Int.toNat_of_nonneg (hx.mv m hm).to.1]; exact this
  · intro hm
    have := h.cc _ hm
    rwa [Int.toNat_natCast] at this
theorem GrowN.go {P : Program} {m : FuncId} {args : List AV} {H : AH} {α : Type} {enc : α → List AV} {k : Nat} {l : List α} {mu : List Nat} {Kt : Kont} {dst : Option Nat} {os : List COp} {f : AF}
    (h : ACall P m args H (fun out H' => ∃ v, out = .ret v ∧ GrowN enc k H.next H' v l ∧ Kp H H')) (h' : ∀ v H', GrowN enc k H.next H' v l → Kp H H' → cops P mu Kt os (f.put dst v) H') : ACall P m args H (callK P mu Kt dst os f) :=
  h.mono fun out H' hx => by
    obtain ⟨v, rfl, h1, h2⟩ := hx
    exact h' v H' h1 h2
theorem Kp.go {P : Program} {m : FuncId} {args : List AV} {H : AH} {v : AV} {mu : List Nat} {Kt : Kont} {dst : Option Nat} {os : List COp} {f : AF} (h : ACall P m args H (fun out H' => out = .ret v ∧ Kp H H')) (h' : ∀ H', Kp H H' → cops P mu Kt os (f.put dst v) H') : ACall P m args H (callK P mu Kt dst os f) :=
  h.mono fun out H' hx => by
    obtain ⟨rfl, h1⟩ := hx
    exact h' H' h1
theorem mkF (n : Nat) : List.map (fun i => [AV.v (.bool false)].getD (i % 1) .any) (List.range (n * 1)) = flC (List.replicate n false) := by
  unfold flC
  rw [List.map_replicate, Nat.mul_one]
  apply List.ext_getElem
  · simp
  · intro i h1 h2
    simp [Nat.mod_one]
theorem setF {fl : List Bool} {s : Nat} (hs : s < fl.length) : List.take s (flC fl) ++ AV.v (.bool true) :: List.drop (s + 1) (flC fl) = flC (fl.set s true) := by
  unfold flC
  rw [List.map_set, List.set_eq_take_append_cons_drop, if_pos (by simpa using hs)]
theorem getD_set (fl : List Bool) (s t : Nat) (hs : s < fl.length) : (fl.set s true).getD t false = (decide (t = s) || fl.getD t false) := by
  rw [List.getD_eq_getElem?_getD, List.getD_eq_getElem?_getD, List.getElem?_set]
  by_cases h : s = t
  · subst h; simp [hs]
  · simp [h, show ¬ t = s from fun e => h e.symm]
theorem asc_bits {x : Re} (hx : Ok x) {l : Nat} (hl : l < 2 ^ nst x) {fl : List Bool} (hf : fl.length = nst x) (h : ∀ s, s < nst x → fl.getD s false = l.testBit s) : asc fl = bitsI l := by
  unfold asc bitsI
  rw [bitsN_of_lt (nst x) hx.n.1 l hl, hf]
  congr 1
  apply List.filter_congr
  intro s hs
  exact h s (List.mem_range.mp hs)
set_option maxHeartbeats 2000000 in
theorem closed35 (x : Re) (hx : Ok x) (set : List Int) (hs : ∀ a ∈ set, 0 ≤ a ∧ a < x.st) (hl : set.length ≤ 1000) : FCall Tryd.prog 35 [reV x, ints set] (· = setV (cl x (maskL set))) := by
  have hst := hx.st
  have hlen := hx.len
  have en : x.st.toNat = nst x := rfl
  simp only [reV, reL, mvsV]
  refine ACall.enter [] Cd.fn35 (by simp) ?_
  simp only [show (0 ≤ x.st ∧ x.st ≤ 140737488355328 ∧ ((1 : Nat) : Int) * x.st ≤ 2 ^ 47) = True from by simp; omega, en, mkF, Cd.cd35, Tk.t35, base0, base1, base2, base3, Option.isNone_none, Option.isNone_some, Nat.reduceBEq, true_or, or_true, false_or, or_false, Nat.reduceLT, Nat.reduceMod, Nat.reducePow, rmaps, nsucc, List.flatten_cons, List.flatten_nil, Nat.reduceEqDiff, Nat.reduceLeDiff, Nat.reduceAdd, Nat.reduceMul, Nat.reduceSub, ↓reduceIte, reduceCtorEq, decide_true, decide_false]
  refine GrowN.go (ownInts30 set _ (by omega)) fun v H1 hg hk => ?_
  have ho := hk.ow 0 (by show 0 < 0 + 1; omega)
  have hnx := hk.nx
  have hn1 : 0 < H1.next := Nat.lt_of_lt_of_le (by show 0 < 0 + 1; omega) hnx
  have hgN : GrowN intR 1 1 H1 v set := hg
  simp only [AH.none, if_true] at ho
  clear hg hk hnx
  simp only [Cd.cd35, Tk.t35, base0, base1, base2, base3, Option.isNone_none, Option.isNone_some, Nat.reduceBEq, true_or, or_true, false_or, or_false, Nat.reduceLT, Nat.reduceMod, Nat.reducePow, rmaps, nsucc, List.flatten_cons, List.flatten_nil, Nat.reduceEqDiff, Nat.reduceLeDiff, Nat.reduceAdd, Nat.reduceMul, Nat.reduceSub, ↓reduceIte, reduceCtorEq, decide_true, decide_false]
  refine LWP.loop [] (fun m f H' => ∃ i a r fl, m = set.length + 10 - i ∧ (i ≤ set.length + r.length) ∧ (WL x set r) ∧ (fl.length = nst x) ∧ (∀ s, s < nst x → fl.getD s false = decide ((s : Int) ∈ (set ++ r).take i)) ∧ (∀ j, j < i → ∀ m ∈ x.mv, m.kd = 2 → m.fr = (set ++ r).getD j default → m.to ∈ set ++ r) ∧ (GrowN intR 1 1 H' a (set ++ r)) ∧ f.t 2 = .box [.v (.int .i64 x.st), .v (.int .i64 x.s0), .v (.int .i64 x.inp), .v (.int .i64 x.out), .lst 4 (x.mv.map mvR) .unk] ∧ f.t 5 = .sl 1 0 0 (nst x) ∧ f.t 6 = a ∧ f.t 7 = .v (.int .i64 (i : Nat)) ∧ f.ds = [] ∧ (H'.own 0 = some (.cells (flC fl)) ∧ 0 < H'.next)) ?_ ?_ (m := set.length + 10 - (0))
  · exact ⟨0, v, [], List.replicate (nst x) false, rfl, (by omega), (WL.start hx hs), (by simp), (fun s hs => by simp [List.getD_eq_getElem?_getD, List.getElem?_replicate, hs]), (fun j hj => by omega), (by rw [List.append_nil]; exact hgN), rfl, rfl, rfl, rfl, rfl, ⟨ho, hn1⟩⟩
  · rintro m f H' ⟨i, a, r, fl, rfl, hi, hw, hfl, hfv, hcl, hg, f2, f5, f6, f7, hds, hH⟩
    have hrl := hw.len hx
    obtain ⟨hH, hH2⟩ := hH
    by_cases hlt : i < (set ++ r).length
    · have hmem : (set ++ r).getD i default ∈ set ++ r := getD_mem hlt
      have hbr : 0 ≤ (set ++ r).getD i default ∧ (set ++ r).getD i default < x.st := by
        rcases List.mem_append.mp hmem with h | h
        · exact hs _ h
        · exact hw.lt _ h
      obtain ⟨bn, hbn⟩ : ∃ bn : Nat, (set ++ r).getD i default = (bn : Int) := ⟨_, (Int.toNat_of_nonneg hbr.1).symm⟩
      have hbl : bn < nst x := by unfold nst; omega
      rw [hbn] at hmem
      rcases hg with ⟨h0, _⟩ | ⟨t, t1, t2, rfl, t4⟩
      · rw [h0] at hlt; simp at hlt
      simp only [List.length_map, ltT hlt, inR hlt, Int.toNat_natCast, getD_map intR (set ++ r) i hlt, intR, hbn, inR hbl, hH, flC_len, hfl, Nat.mul_one, show (bn + 1 ≤ nst x) = True from by simp; omega, setF (show bn < fl.length by omega), f2, f5, f6, f7, hds, Cd.cd35, Tk.t35, base0, base1, base2, base3, Option.isNone_none, Option.isNone_some, Nat.reduceBEq, true_or, or_true, false_or, or_false, Nat.reduceLT, Nat.reduceMod, Nat.reducePow, rmaps, nsucc, List.flatten_cons, List.flatten_nil, Nat.reduceEqDiff, Nat.reduceLeDiff, Nat.reduceAdd, Nat.reduceMul, Nat.reduceSub, ↓reduceIte, reduceCtorEq, decide_true, decide_false]
      refine LWP.loop [] (fun m f H' => ∃ k a' r', m = x.mv.length - k ∧ (k ≤ x.mv.length) ∧ (WL x set r') ∧ (∃ q, r' = r ++ q) ∧ (∀ j, j < k → (x.mv.getD j default).kd = 2 → (x.mv.getD j default).fr = (bn : Int) → (x.mv.getD j default).to ∈ set ++ r') ∧ (GrowN intR 1 1 H' a' (set ++ r')) ∧ f.t 2 = .box [.v (.int .i64 x.st), .v (.int .i64 x.s0), .v (.int .i64 x.inp), .v (.int .i64 x.out), .lst 4 (x.mv.map mvR) .unk] ∧ f.t 5 = .sl 1 0 0 (nst x) ∧ f.t 6 = a' ∧ f.t 7 = .v (.int .i64 (i : Nat)) ∧ f.t 8 = .v (.int .i64 (k : Nat)) ∧ f.ds = [] ∧ (H'.own 0 = some (.cells (flC (fl.set bn true))) ∧ 0 < H'.next)) ?_ ?_ (m := x.mv.length - (0))
      · exact ⟨0, .lst 1 ((set ++ r).map intR) (.live t), r, rfl, (by omega), (hw), (⟨[], by simp⟩), (fun j hj => by omega), (.inr ⟨t, t1, t2, rfl, t4⟩), (by first | rfl | exact f2), (by first | rfl | exact f5), (by first | rfl | exact f6), (by first | rfl | exact f7), (by first | rfl | exact f8), rfl, ⟨by simp, hH2⟩⟩
      · rintro m f H' ⟨k, a', r', rfl, hki, hw', hpre, hck, hg, f2, f5, f6, f7, f8, hds, hH⟩
        have hrl' := hw'.len hx
        obtain ⟨hH, hH2⟩ := hH
        obtain ⟨q, hq⟩ := hpre
        have hlt' : i < (set ++ r').length := by rw [hq]; simp at hlt ⊢; omega
        have hLi : (set ++ r').getD i default = (bn : Int) := by
          rw [hq, ← List.append_assoc, getD_append_left _ _ _ hlt, hbn]
        have hcalls : ∀ l : List Int, l.length ≤ 1010 → l.length < 2 ^ 40 := fun l h => by omega
        rcases hg with ⟨h0, _⟩ | ⟨t, t1, t2, rfl, t4⟩
        · rw [h0] at hlt'; simp at hlt'
        by_cases hklt : k < x.mv.length
        · have hgm := getD_map mvR x.mv k hklt
          have hmm := getD_mem (l := x.mv) hklt
          generalize hm : x.mv.getD k default = mk at hgm hmm
          have hmo := hx.mv mk hmm
          by_cases e1 : mk.fr = (bn : Int)
          · by_cases e2 : mk.kd = 2
            · simp only [List.length_map, ltT hklt, inR hklt, inR hlt', Int.toNat_natCast, hgm, mvR, getD_map intR (set ++ r') i hlt', intR, hLi, show (mk.fr == (bn : Int)) = true from beq_iff_eq.mpr e1, show (mk.kd == 2) = true from beq_iff_eq.mpr e2, f2, f5, f6, f7, f8, hds, Cd.cd35, Tk.t35, base0, base1, base2, base3, Option.isNone_none, Option.isNone_some, Nat.reduceBEq, true_or, or_true, false_or, or_false, Nat.reduceLT, Nat.reduceMod, Nat.reducePow, rmaps, nsucc, List.flatten_cons, List.flatten_nil, Nat.reduceEqDiff, Nat.reduceLeDiff, Nat.reduceAdd, Nat.reduceMul, Nat.reduceSub, ↓reduceIte, reduceCtorEq, decide_true, decide_false]
              refine (has76 (set ++ r') mk.to (hcalls _ (by simp; omega))).bgo' (Views.cons (View.tip fun rr hr => by
                obtain ⟨y, _, rfl⟩ := List.mem_map.mp hr
                exact FZs.v1 _) (Views.cons (FZ.v _).view Views.nil)) (Ground.v _) ?_
              by_cases hin : mk.to ∈ set ++ r'
              · simp only [decide_eq_true hin, f2, f5, f6, f7, f8, hds, Cd.cd35, Tk.t35, base0, base1, base2, base3, Option.isNone_none, Option.isNone_some, Nat.reduceBEq, true_or, or_true, false_or, or_false, Nat.reduceLT, Nat.reduceMod, Nat.reducePow, rmaps, nsucc, List.flatten_cons, List.flatten_nil, Nat.reduceEqDiff, Nat.reduceLeDiff, Nat.reduceAdd, Nat.reduceMul, Nat.reduceSub, ↓reduceIte, reduceCtorEq, decide_true, decide_false]
                exact ⟨_, by omega, k + 1, _, r', rfl, by omega, hw', ⟨q, hq⟩, allS hck (fun _ _ => by rw [hm]; exact hin), .inr ⟨t, t1, t2, rfl, t4⟩, rfl, by rw [wrapS (by omega)], hH, hH2⟩
              · have hr : roomA 8 ((set ++ r').length + 1) = true := room_of (by simp; omega) (by simp; omega)
                simp only [decide_eq_false hin, List.length_map, inR hklt, Int.toNat_natCast, hgm, mvR, t4, hr, f2, f5, f6, f7, f8, hds, Cd.cd35, Tk.t35, base0, base1, base2, base3, Option.isNone_none, Option.isNone_some, Nat.reduceBEq, true_or, or_true, false_or, or_false, Nat.reduceLT, Nat.reduceMod, Nat.reducePow, rmaps, nsucc, List.flatten_cons, List.flatten_nil, Nat.reduceEqDiff, Nat.reduceLeDiff, Nat.reduceAdd, Nat.reduceMul, Nat.reduceSub, ↓reduceIte, reduceCtorEq, decide_true, decide_false]
                refine ⟨_, by omega, k + 1, _, r' ++ [mk.to], rfl, by omega, hw'.add hx hs hmm e2 (by rw [e1, ← hLi]; exact getD_mem hlt') hin, ⟨q ++ [mk.to], by rw [hq, List.append_assoc]⟩, allS (fun j hj h1 h2 => ?_) (fun _ _ => by rw [hm]; simp), .inr ⟨t, t1, t2, by rw [← List.append_assoc]; simp [intR], by rw [← List.append_assoc]; simp; omega⟩, rfl, by rw [wrapS (by omega)], hH, hH2⟩
                rw [← List.append_assoc]
                exact List.mem_append.mpr (.inl (hck j hj h1 h2))
            · simp only [List.length_map, ltT hklt, inR hklt, inR hlt', Int.toNat_natCast, hgm, mvR, getD_map intR (set ++ r') i hlt', intR, hLi, show (mk.fr == (bn : Int)) = true from beq_iff_eq.mpr e1, show (mk.kd == 2) = false from beq_eq_false_iff_ne.mpr e2, f2, f5, f6, f7, f8, hds, Cd.cd35, Tk.t35, base0, base1, base2, base3, Option.isNone_none, Option.isNone_some, Nat.reduceBEq, true_or, or_true, false_or, or_false, Nat.reduceLT, Nat.reduceMod, Nat.reducePow, rmaps, nsucc, List.flatten_cons, List.flatten_nil, Nat.reduceEqDiff, Nat.reduceLeDiff, Nat.reduceAdd, Nat.reduceMul, Nat.reduceSub, ↓reduceIte, reduceCtorEq, decide_true, decide_false]
              exact ⟨_, by omega, k + 1, _, r', rfl, by omega, hw', ⟨q, hq⟩, allS hck (fun h _ => by rw [hm] at h; exact absurd h e2), .inr ⟨t, t1, t2, rfl, t4⟩, rfl, by rw [wrapS (by omega)], hH, hH2⟩
          · simp only [List.length_map, ltT hklt, inR hklt, inR hlt', Int.toNat_natCast, hgm, mvR, getD_map intR (set ++ r') i hlt', intR, hLi, show (mk.fr == (bn : Int)) = false from beq_eq_false_iff_ne.mpr e1, f2, f5, f6, f7, f8, hds, Cd.cd35, Tk.t35, base0, base1, base2, base3, Option.isNone_none, Option.isNone_some, Nat.reduceBEq, true_or, or_true, false_or, or_false, Nat.reduceLT, Nat.reduceMod, Nat.reducePow, rmaps, nsucc, List.flatten_cons, List.flatten_nil, Nat.reduceEqDiff, Nat.reduceLeDiff, Nat.reduceAdd, Nat.reduceMul, Nat.reduceSub, ↓reduceIte, reduceCtorEq, decide_true, decide_false]
            exact ⟨_, by omega, k + 1, _, r', rfl, by omega, hw', ⟨q, hq⟩, allS hck (fun _ h => by rw [hm] at h; exact absurd h e1), .inr ⟨t, t1, t2, rfl, t4⟩, rfl, by rw [wrapS (by omega)], hH, hH2⟩
        · have hk' : k = x.mv.length := by omega
          simp only [List.length_map, ltF hklt, f2, f5, f6, f7, f8, hds, Cd.cd35, Tk.t35, base0, base1, base2, base3, Option.isNone_none, Option.isNone_some, Nat.reduceBEq, true_or, or_true, false_or, or_false, Nat.reduceLT, Nat.reduceMod, Nat.reducePow, rmaps, nsucc, List.flatten_cons, List.flatten_nil, Nat.reduceEqDiff, Nat.reduceLeDiff, Nat.reduceAdd, Nat.reduceMul, Nat.reduceSub, ↓reduceIte, reduceCtorEq, decide_true, decide_false]
          have hrs : set ++ r' = (set ++ r) ++ q := by rw [hq, List.append_assoc]
          refine ⟨_, by simp at hlt'; omega, i + 1, _, r', fl.set bn true, rfl, by simp at hlt'; omega, hw', by simp [hfl], fun s hs => ?_, fun j hj m hm h1 h2 => ?_, .inr ⟨t, t1, t2, rfl, t4⟩, rfl, by rw [wrapS (by simp at hlt'; omega)], hH, hH2⟩
          · have hge : (set ++ r)[i] = (bn : Int) := by rw [← hbn, List.getD_eq_getElem?_getD, List.getElem?_eq_getElem hlt]; rfl
            have etk : ((set ++ r) ++ q).take (i + 1) = (set ++ r).take i ++ [(bn : Int)] := by
              rw [List.take_append_of_le_length (by omega), List.take_add_one, List.getElem?_eq_getElem hlt, hge]; rfl
            rw [getD_set _ _ _ (by omega), hfv s hs, hrs, etk, Bool.eq_iff_iff]
            simp only [Bool.or_eq_true, decide_eq_true_eq, List.mem_append (s := (set ++ r).take i), List.mem_singleton]
            constructor
            · rintro (rfl | h)
              · exact .inr rfl
              · exact .inl h
            · rintro (h | h)
              · exact .inr h
              · exact .inl (by omega)
          · by_cases hji : j < i
            · rw [hrs, getD_append_left _ _ _ (by omega)] at h2
              have := hcl j hji m hm h1 h2
              rw [hrs]; exact List.mem_append.mpr (.inl this)
            · have : j = i := by omega
              subst this
              rw [hLi] at h2
              obtain ⟨jj, hjj, rfl⟩ := mem_getD hm
              exact hck jj (by omega) h1 h2
    · have hi' : i = (set ++ r).length := by simp at hlt ⊢; omega
      have hC := hw.all hx hs fun a ha m hm h1 h2 => by
        obtain ⟨j, hj, rfl⟩ := mem_getD ha
        exact hcl j (by omega) m hm h1 h2
      have hasc : asc fl = bitsI (cl x (maskL set)) := asc_bits hx (cl_lt hx (set_lt hx hs)) hfl fun s hs' => by
        rw [hC s, hfv s hs', hi', List.take_length]
      have hn10 := hx.n
      have fin : ACall Tryd.prog 81 [.sl 1 0 0 (nst x)] H' (fun out H2 => out = .ret (setV (cl x (maskL set))) ∧ Kp H' H2) := by
        have := asc81 H' 0 fl (by omega) hH hH2
        rw [hfl, hasc] at this; exact this
      rcases hg with ⟨h0, rfl | rfl⟩ | ⟨t, t1, t2, rfl, t4⟩
      · have : i = 0 := by rw [hi', h0]; rfl
        subst this
        simp only [nilS, show decide (((0 : Nat) : Int) < 0) = false from rfl, f2, f5, f6, f7, hds, Cd.cd35, Tk.t35, base0, base1, base2, base3, Option.isNone_none, Option.isNone_some, Nat.reduceBEq, true_or, or_true, false_or, or_false, Nat.reduceLT, Nat.reduceMod, Nat.reducePow, rmaps, nsucc, List.flatten_cons, List.flatten_nil, Nat.reduceEqDiff, Nat.reduceLeDiff, Nat.reduceAdd, Nat.reduceMul, Nat.reduceSub, ↓reduceIte, reduceCtorEq, decide_true, decide_false]
        refine Kp.go fin fun H2 _ => ?_
        simp only [f2, f5, f6, f7, hds, Cd.cd35, Tk.t35, base0, base1, base2, base3, Option.isNone_none, Option.isNone_some, Nat.reduceBEq, true_or, or_true, false_or, or_false, Nat.reduceLT, Nat.reduceMod, Nat.reducePow, rmaps, nsucc, List.flatten_cons, List.flatten_nil, Nat.reduceEqDiff, Nat.reduceLeDiff, Nat.reduceAdd, Nat.reduceMul, Nat.reduceSub, ↓reduceIte, reduceCtorEq, decide_true, decide_false]
        exact ⟨_, _, rfl, (FZ.setV _).view, FZ.setV _, rfl⟩
      · have : i = 0 := by rw [hi', h0]; rfl
        subst this
        simp only [show decide (((0 : Nat) : Int) < ((0 : Nat) : Int)) = false from rfl, f2, f5, f6, f7, hds, Cd.cd35, Tk.t35, base0, base1, base2, base3, Option.isNone_none, Option.isNone_some, Nat.reduceBEq, true_or, or_true, false_or, or_false, Nat.reduceLT, Nat.reduceMod, Nat.reducePow, rmaps, nsucc, List.flatten_cons, List.flatten_nil, Nat.reduceEqDiff, Nat.reduceLeDiff, Nat.reduceAdd, Nat.reduceMul, Nat.reduceSub, ↓reduceIte, reduceCtorEq, decide_true, decide_false]
        refine Kp.go fin fun H2 _ => ?_
        simp only [f2, f5, f6, f7, hds, Cd.cd35, Tk.t35, base0, base1, base2, base3, Option.isNone_none, Option.isNone_some, Nat.reduceBEq, true_or, or_true, false_or, or_false, Nat.reduceLT, Nat.reduceMod, Nat.reducePow, rmaps, nsucc, List.flatten_cons, List.flatten_nil, Nat.reduceEqDiff, Nat.reduceLeDiff, Nat.reduceAdd, Nat.reduceMul, Nat.reduceSub, ↓reduceIte, reduceCtorEq, decide_true, decide_false]
        exact ⟨_, _, rfl, (FZ.setV _).view, FZ.setV _, rfl⟩
      · simp only [List.length_map, ltF hlt, f2, f5, f6, f7, hds, Cd.cd35, Tk.t35, base0, base1, base2, base3, Option.isNone_none, Option.isNone_some, Nat.reduceBEq, true_or, or_true, false_or, or_false, Nat.reduceLT, Nat.reduceMod, Nat.reducePow, rmaps, nsucc, List.flatten_cons, List.flatten_nil, Nat.reduceEqDiff, Nat.reduceLeDiff, Nat.reduceAdd, Nat.reduceMul, Nat.reduceSub, ↓reduceIte, reduceCtorEq, decide_true, decide_false]
        refine Kp.go fin fun H2 _ => ?_
        simp only [f2, f5, f6, f7, hds, Cd.cd35, Tk.t35, base0, base1, base2, base3, Option.isNone_none, Option.isNone_some, Nat.reduceBEq, true_or, or_true, false_or, or_false, Nat.reduceLT, Nat.reduceMod, Nat.reducePow, rmaps, nsucc, List.flatten_cons, List.flatten_nil, Nat.reduceEqDiff, Nat.reduceLeDiff, Nat.reduceAdd, Nat.reduceMul, Nat.reduceSub, ↓reduceIte, reduceCtorEq, decide_true, decide_false]
        exact ⟨_, _, rfl, (FZ.setV _).view, FZ.setV _, rfl⟩
end Go.Proofs.YtchpcjmgifnmdaaDoor

/- Walks: the reference's sets after events. -/
namespace Go.Proofs.YtchpcjmgifnmdaaDoor
open Go Go.Proofs.YtchpcjmgifnmdaaDoor.Ab
set_option maxRecDepth 100000
set_option linter.unusedSimpArgs false

def okMv (x : Re) (l e : Nat) (m : Mv) : Bool := decide (m.kd ≠ 2) && l.testBit m.fr.toNat && decide (evM x m = (e : Int))
def flA (x : Re) (l e s : Nat) : Bool := decide (e = silc x) && quietM x s && l.testBit s
def flM (x : Re) (l e k s : Nat) : Bool := flA x l e s || (x.mv.take k).any fun m => okMv x l e m && decide (m.to.toNat = s)
theorem flM_succ (x : Re) (l e s : Nat) {k : Nat} (h : k < x.mv.length) : flM x l e (k + 1) s = (flM x l e k s || (okMv x l e (x.mv.getD k default) && decide ((x.mv.getD k default).to.toNat = s))) := by
  unfold flM
  have : x.mv.take (k + 1) = x.mv.take k ++ [x.mv.getD k default] := by
    rw [List.take_add_one, List.getElem?_eq_getElem h, List.getD_eq_getElem?_getD, List.getElem?_eq_getElem h]; rfl
  rw [this, List.any_append, List.any_cons, List.any_nil, Bool.or_false, Bool.or_assoc]
theorem flM_all {x : Re} (hx : Ok x) {l e : Nat} (hl : l < 2 ^ nst x) (he : e ≤ silc x) (s : Nat) : flM x l e x.mv.length s = (rawA x l e).testBit s := by
  rw [Bool.eq_iff_iff, rawA_bit hx hl he]
  unfold flM flA okMv
  rw [List.take_length]
  simp only [Bool.or_eq_true, Bool.and_eq_true, decide_eq_true_eq, List.any_eq_true]
  constructor
  · rintro (⟨⟨h1, h2⟩, h3⟩ | ⟨m, hm, ⟨⟨h1, h2⟩, h3⟩, h4⟩)
    · exact .inl ⟨h1, h2, h3⟩
    · exact .inr ⟨m, hm, h1, h2, h3, h4⟩
  · rintro (⟨h1, h2, h3⟩ | ⟨m, hm, h1, h2, h3, h4⟩)
    · exact .inl ⟨⟨h1, h2⟩, h3⟩
    · exact .inr ⟨m, hm, ⟨⟨h1, h2⟩, h3⟩, h4⟩
theorem mem_bitsI {l : Nat} (h : l < 1024) {a : Int} (ha : 0 ≤ a) : decide (a ∈ bitsI l) = l.testBit a.toNat := by
  rw [Bool.eq_iff_iff, decide_eq_true_eq, ← bitsN_mem h]
  unfold bitsI
  rw [List.mem_map]
  constructor
  · rintro ⟨b, hb, rfl⟩; simpa using hb
  · intro hb; exact ⟨_, hb, Int.toNat_of_nonneg ha⟩
theorem quietR_eq {x : Re} (hx : Ok x) (a : Nat) : quietR x (a : Int) = quietM x a := (quietM_iff hx).symm
def flI (x : Re) (l e i s : Nat) : Bool := decide (e = silc x) && quietM x s && decide (s ∈ (bitsN l).take i)
theorem Kp.go' {P : Program} {m : FuncId} {args : List AV} {H : AH} {v : AV} {mu : List Nat} {Kt : Kont} {fm : AF} {dst : Option Nat} {ds : List DOp} {f : AF} {pd : List (Nat × Nat × ABlk)} {rd : List Nat} (h : ACall P m args H (fun out H' => out = .ret v ∧ Kp H H')) (h' : ∀ H', Kp H H' → dops P mu Kt fm ds (f.put dst v) H' pd rd) : ACall P m args H (dcallK P mu Kt fm dst ds f pd rd) :=
  h.mono fun out H' hx => by
    obtain ⟨rfl, h1⟩ := hx
    exact h' H' h1
set_option maxHeartbeats 2000000 in
theorem after64 (x : Re) (hx : Ok x) (l e : Nat) (hl : l < 2 ^ nst x) (he : e ≤ silc x) : FCall Tryd.prog 64 [reV x, setV l, .v (.int .i64 (e : Nat))] (· = setV (aft x l e)) := by
  have hst := hx.st
  have hlen := hx.len
  have hl' := hx.pw hl
  have hbl := bitsN_len l
  have en : x.st.toNat = nst x := rfl
  have hinp := hx.inp
  have hout := hx.out
  simp only [reV, reL, mvsV, setV, ints]
  refine ACall.enter [] Cd.fn64 (by simp) ?_
  simp only [show (0 ≤ x.st ∧ x.st ≤ 140737488355328 ∧ ((1 : Nat) : Int) * x.st ≤ 2 ^ 47) = True from by simp; omega, en, mkF, Cd.cd64, Tk.t64, base0, base1, base2, base3, Option.isNone_none, Option.isNone_some, Nat.reduceBEq, true_or, or_true, false_or, or_false, Nat.reduceLT, Nat.reduceMod, Nat.reducePow, rmaps, nsucc, List.flatten_cons, List.flatten_nil, Nat.reduceEqDiff, Nat.reduceLeDiff, Nat.reduceAdd, Nat.reduceMul, Nat.reduceSub, ↓reduceIte, reduceCtorEq, decide_true, decide_false]
  refine LWP.loop [] (fun m f H' => ∃ i fl, m = (bitsN l).length - i ∧ (i ≤ (bitsN l).length) ∧ (fl.length = nst x) ∧ (∀ s, s < nst x → fl.getD s false = flI x l e i s) ∧ f.t 1 = .lst 1 ((bitsI l).map fun x => [.v (.int .i64 x)]) .unk ∧ f.t 2 = .v (.int .i64 (e : Nat)) ∧ f.t 3 = .box [.v (.int .i64 x.st), .v (.int .i64 x.s0), .v (.int .i64 x.inp), .v (.int .i64 x.out), .lst 4 (x.mv.map mvR) .unk] ∧ f.t 7 = .sl 1 0 0 (nst x) ∧ f.t 8 = .v (.int .i64 (i : Nat)) ∧ f.ds = [] ∧ (H'.own 0 = some (.cells (flC fl)) ∧ 0 < H'.next)) ?_ ?_ (m := (bitsN l).length - (0))
  · exact ⟨0, List.replicate (nst x) false, rfl, (by omega), (by simp), (fun s hs => by simp [flI, List.getD_eq_getElem?_getD, List.getElem?_replicate, hs]), rfl, rfl, rfl, rfl, rfl, rfl, ⟨by simp [AH.none], by simp [AH.none]⟩⟩
  · rintro m f H' ⟨i, fl, rfl, hi, hfl, hfv, f1, f2, f3, f7, f8, hds, hH⟩
    obtain ⟨hH, hH2⟩ := hH
    by_cases hlt : i < (bitsN l).length
    · have hbl1 := bits_n hx hl (bitsN_bit (bits_at hlt))
      have htk : (bitsN l).take (i + 1) = (bitsN l).take i ++ [(bitsN l).getD i 0] := by
        rw [List.take_add_one, List.getElem?_eq_getElem hlt, List.getD_eq_getElem?_getD, List.getElem?_eq_getElem hlt]; rfl
      simp only [List.length_map, bitsI_len, ltT hlt, f1, f2, f3, f7, f8, hds, Cd.cd64, Tk.t64, base0, base1, base2, base3, Option.isNone_none, Option.isNone_some, Nat.reduceBEq, true_or, or_true, false_or, or_false, Nat.reduceLT, Nat.reduceMod, Nat.reducePow, rmaps, nsucc, List.flatten_cons, List.flatten_nil, Nat.reduceEqDiff, Nat.reduceLeDiff, Nat.reduceAdd, Nat.reduceMul, Nat.reduceSub, ↓reduceIte, reduceCtorEq, decide_true, decide_false]
      first | refine FCall.go (silence41 x) (FZs.one (FZ.reV x)) ?_ | refine FCall.go' (silence41 x) (FZs.one (FZ.reV x)) ?_ | refine FCall.goQ (silence41 x) (FZs.one (FZ.reV x)) ?_
      by_cases hes : e = silc x
      · have hq := quiet104 x (((bitsN l).getD i 0 : Nat) : Int) (by omega)
        rw [quietR_eq hx] at hq
        simp only [silc_eq hx, eqU, decide_eq_true hes, List.length_map, bitsI_len, inR hlt, Int.toNat_natCast, getD_bits hlt, f1, f2, f3, f7, f8, hds, Cd.cd64, Tk.t64, base0, base1, base2, base3, Option.isNone_none, Option.isNone_some, Nat.reduceBEq, true_or, or_true, false_or, or_false, Nat.reduceLT, Nat.reduceMod, Nat.reducePow, rmaps, nsucc, List.flatten_cons, List.flatten_nil, Nat.reduceEqDiff, Nat.reduceLeDiff, Nat.reduceAdd, Nat.reduceMul, Nat.reduceSub, ↓reduceIte, reduceCtorEq, decide_true, decide_false]
        first | refine FCall.go hq (FZs.two (FZ.reV x) (FZ.v _)) ?_ | refine FCall.go' hq (FZs.two (FZ.reV x) (FZ.v _)) ?_ | refine FCall.goQ hq (FZs.two (FZ.reV x) (FZ.v _)) ?_
        cases hqv : quietM x ((bitsN l).getD i 0)
        · simp only [f1, f2, f3, f7, f8, hds, Cd.cd64, Tk.t64, base0, base1, base2, base3, Option.isNone_none, Option.isNone_some, Nat.reduceBEq, true_or, or_true, false_or, or_false, Nat.reduceLT, Nat.reduceMod, Nat.reducePow, rmaps, nsucc, List.flatten_cons, List.flatten_nil, Nat.reduceEqDiff, Nat.reduceLeDiff, Nat.reduceAdd, Nat.reduceMul, Nat.reduceSub, ↓reduceIte, reduceCtorEq, decide_true, decide_false]
          refine ⟨_, by omega, i + 1, fl, rfl, by omega, hfl, fun s hs => ?_, by rw [wrapS (by omega)], hH, hH2⟩
          rw [hfv s hs, flI, flI, htk]
          by_cases hse : s = (bitsN l).getD i 0
          · rw [hse, hqv]; simp
          · simp only [List.mem_append, List.mem_singleton, hse, or_false]
        · simp only [List.length_map, bitsI_len, inR hlt, Int.toNat_natCast, getD_bits hlt, inR hbl1, hH, flC_len, hfl, Nat.mul_one, show ((bitsN l).getD i 0 + 1 ≤ nst x) = True from by simp only [eq_iff_iff, iff_true]; omega, setF (show (bitsN l).getD i 0 < fl.length by omega), f1, f2, f3, f7, f8, hds, Cd.cd64, Tk.t64, base0, base1, base2, base3, Option.isNone_none, Option.isNone_some, Nat.reduceBEq, true_or, or_true, false_or, or_false, Nat.reduceLT, Nat.reduceMod, Nat.reducePow, rmaps, nsucc, List.flatten_cons, List.flatten_nil, Nat.reduceEqDiff, Nat.reduceLeDiff, Nat.reduceAdd, Nat.reduceMul, Nat.reduceSub, ↓reduceIte, reduceCtorEq, decide_true, decide_false]
          refine ⟨_, by omega, i + 1, fl.set ((bitsN l).getD i 0) true, rfl, by omega, by simp [hfl], fun s hs => ?_, by rw [wrapS (by omega)], by simp, hH2⟩
          rw [getD_set _ _ _ (by omega), hfv s hs, flI, flI, htk, decide_eq_true hes]
          by_cases hse : s = (bitsN l).getD i 0
          · rw [hse, hqv]; simp
          · simp only [List.mem_append, List.mem_singleton, hse, or_false, decide_false, Bool.false_or]
      · simp only [silc_eq hx, eqU, decide_eq_false hes, f1, f2, f3, f7, f8, hds, Cd.cd64, Tk.t64, base0, base1, base2, base3, Option.isNone_none, Option.isNone_some, Nat.reduceBEq, true_or, or_true, false_or, or_false, Nat.reduceLT, Nat.reduceMod, Nat.reducePow, rmaps, nsucc, List.flatten_cons, List.flatten_nil, Nat.reduceEqDiff, Nat.reduceLeDiff, Nat.reduceAdd, Nat.reduceMul, Nat.reduceSub, ↓reduceIte, reduceCtorEq, decide_true, decide_false]
        refine ⟨_, by omega, i + 1, fl, rfl, by omega, hfl, fun s hs => ?_, by rw [wrapS (by omega)], hH, hH2⟩
        rw [hfv s hs, flI, flI, decide_eq_false hes]; rfl
    · have hi' : i = (bitsN l).length := by omega
      have hf0 : ∀ s, s < nst x → fl.getD s false = flM x l e 0 s := fun s hs => by
        rw [hfv s hs, flI, hi', List.take_length]
        unfold flM flA
        have : decide (s ∈ bitsN l) = l.testBit s := by rw [Bool.eq_iff_iff, decide_eq_true_eq, bitsN_mem hl']
        rw [this]; simp
      simp only [List.length_map, bitsI_len, ltF hlt, f1, f2, f3, f7, f8, hds, Cd.cd64, Tk.t64, base0, base1, base2, base3, Option.isNone_none, Option.isNone_some, Nat.reduceBEq, true_or, or_true, false_or, or_false, Nat.reduceLT, Nat.reduceMod, Nat.reducePow, rmaps, nsucc, List.flatten_cons, List.flatten_nil, Nat.reduceEqDiff, Nat.reduceLeDiff, Nat.reduceAdd, Nat.reduceMul, Nat.reduceSub, ↓reduceIte, reduceCtorEq, decide_true, decide_false]
      refine LWP.loop [] (fun m f H' => ∃ k fl, m = x.mv.length - k ∧ (k ≤ x.mv.length) ∧ (fl.length = nst x) ∧ (∀ s, s < nst x → fl.getD s false = flM x l e k s) ∧ f.t 1 = .lst 1 ((bitsI l).map fun x => [.v (.int .i64 x)]) .unk ∧ f.t 2 = .v (.int .i64 (e : Nat)) ∧ f.t 3 = .box [.v (.int .i64 x.st), .v (.int .i64 x.s0), .v (.int .i64 x.inp), .v (.int .i64 x.out), .lst 4 (x.mv.map mvR) .unk] ∧ f.t 7 = .sl 1 0 0 (nst x) ∧ f.t 9 = .v (.int .i64 (k : Nat)) ∧ f.ds = [] ∧ (H'.own 0 = some (.cells (flC fl)) ∧ 0 < H'.next)) ?_ ?_ (m := x.mv.length - (0))
      · exact ⟨0, fl, rfl, (by omega), (hfl), (hf0), f1, f2, f3, f7, (by first | rfl | exact f9), rfl, ⟨hH, hH2⟩⟩
      · rintro m f H' ⟨k, fl, rfl, hki, hfl, hfv, f1, f2, f3, f7, f9, hds, hH⟩
        obtain ⟨hH, hH2⟩ := hH
        by_cases hklt : k < x.mv.length
        · have hgm := getD_map mvR x.mv k hklt
          have hmm := getD_mem (l := x.mv) hklt
          have hsu := fun s => flM_succ x l e s hklt
          generalize hm : x.mv.getD k default = mk at hgm hmm hsu
          have hmo := hx.mv mk hmm
          have hto : mk.to.toNat < nst x := by have := hmo.to; unfold nst; omega
          obtain ⟨tn, htn⟩ : ∃ tn : Nat, mk.to = (tn : Int) := ⟨_, (Int.toNat_of_nonneg hmo.to.1).symm⟩
          have htl : tn < nst x := by rw [htn] at hto; simpa using hto
          have hne : (0 = H'.next) = False := by simp; omega
          have hno : okMv x l e mk = false → ∀ s, s < nst x → fl.getD s false = flM x l e (k + 1) s := fun h s hs => by rw [hsu s, h, hfv s hs]; simp
          have hyes : okMv x l e mk = true → ∀ s, s < nst x → (fl.set tn true).getD s false = flM x l e (k + 1) s := fun h s hs => by
            rw [hsu s, h, getD_set _ _ _ (by omega), hfv s hs, htn, Int.toNat_natCast, Bool.true_and, Bool.or_comm]
            congr 1
            rw [Bool.eq_iff_iff]; simp; exact eq_comm
          have hhas := mem_bitsI hl' hmo.fr.1
          simp only [List.length_map, ltT hklt, inR hklt, Int.toNat_natCast, hgm, mvR, f1, f2, f3, f7, f9, hds, Cd.cd64, Tk.t64, base0, base1, base2, base3, Option.isNone_none, Option.isNone_some, Nat.reduceBEq, true_or, or_true, false_or, or_false, Nat.reduceLT, Nat.reduceMod, Nat.reducePow, rmaps, nsucc, List.flatten_cons, List.flatten_nil, Nat.reduceEqDiff, Nat.reduceLeDiff, Nat.reduceAdd, Nat.reduceMul, Nat.reduceSub, ↓reduceIte, reduceCtorEq, decide_true, decide_false]
          first | refine FCall.go (has76 (bitsI l) mk.fr (by rw [bitsI_len]; omega)) (FZs.two (FZ.ints _) (FZ.v _)) ?_ | refine FCall.go' (has76 (bitsI l) mk.fr (by rw [bitsI_len]; omega)) (FZs.two (FZ.ints _) (FZ.v _)) ?_ | refine FCall.goQ (has76 (bitsI l) mk.fr (by rw [bitsI_len]; omega)) (FZs.two (FZ.ints _) (FZ.v _)) ?_
          rw [hhas]
          cases hb : l.testBit mk.fr.toNat
          · simp only [f1, f2, f3, f7, f9, hds, Cd.cd64, Tk.t64, base0, base1, base2, base3, Option.isNone_none, Option.isNone_some, Nat.reduceBEq, true_or, or_true, false_or, or_false, Nat.reduceLT, Nat.reduceMod, Nat.reducePow, rmaps, nsucc, List.flatten_cons, List.flatten_nil, Nat.reduceEqDiff, Nat.reduceLeDiff, Nat.reduceAdd, Nat.reduceMul, Nat.reduceSub, ↓reduceIte, reduceCtorEq, decide_true, decide_false]
            exact ⟨_, by omega, k + 1, fl, rfl, by omega, hfl, hno (by simp [okMv, hb]), by rw [wrapS (by omega)], by simp only [hne, if_false]; exact hH, by simp⟩
          · by_cases k0 : mk.kd = 0
            · have hev : evM x mk = mk.lb := by unfold evM; rw [if_pos k0]
              by_cases el : mk.lb = (e : Int)
              · simp only [show (mk.kd == 0) = true from beq_iff_eq.mpr k0, show (mk.lb == (e : Int)) = true from beq_iff_eq.mpr el, htn, inR htl, Int.toNat_natCast, hne, hH, flC_len, hfl, Nat.mul_one, show (tn + 1 ≤ nst x) = True from by simp only [eq_iff_iff, iff_true]; omega, setF (show tn < fl.length by omega), f1, f2, f3, f7, f9, hds, Cd.cd64, Tk.t64, base0, base1, base2, base3, Option.isNone_none, Option.isNone_some, Nat.reduceBEq, true_or, or_true, false_or, or_false, Nat.reduceLT, Nat.reduceMod, Nat.reducePow, rmaps, nsucc, List.flatten_cons, List.flatten_nil, Nat.reduceEqDiff, Nat.reduceLeDiff, Nat.reduceAdd, Nat.reduceMul, Nat.reduceSub, ↓reduceIte, reduceCtorEq, decide_true, decide_false]
                exact ⟨_, by omega, k + 1, fl.set tn true, rfl, by omega, by simp [hfl], hyes (by simp [okMv, hb, k0, hev, el]), by rw [wrapS (by omega)], by simp [hne], by simp⟩
              · simp only [show (mk.kd == 0) = true from beq_iff_eq.mpr k0, show (mk.lb == (e : Int)) = false from beq_eq_false_iff_ne.mpr el, show (mk.kd == 1) = false from beq_eq_false_iff_ne.mpr (by omega), f1, f2, f3, f7, f9, hds, Cd.cd64, Tk.t64, base0, base1, base2, base3, Option.isNone_none, Option.isNone_some, Nat.reduceBEq, true_or, or_true, false_or, or_false, Nat.reduceLT, Nat.reduceMod, Nat.reducePow, rmaps, nsucc, List.flatten_cons, List.flatten_nil, Nat.reduceEqDiff, Nat.reduceLeDiff, Nat.reduceAdd, Nat.reduceMul, Nat.reduceSub, ↓reduceIte, reduceCtorEq, decide_true, decide_false]
                exact ⟨_, by omega, k + 1, fl, rfl, by omega, hfl, hno (by simp [okMv, hev, el]), by rw [wrapS (by omega)], by simp only [hne, if_false]; exact hH, by simp⟩
            · by_cases k1 : mk.kd = 1
              · have hlb := hmo.lb
                unfold labels at hlb
                rw [if_neg k0, if_pos k1] at hlb
                have hev : evM x mk = x.inp + mk.lb := by unfold evM; rw [if_neg k0]
                have hw : IntKind.i64.wrap (x.inp + mk.lb) = x.inp + mk.lb := wrapI (by omega) (by omega)
                by_cases el : x.inp + mk.lb = (e : Int)
                · simp only [show (mk.kd == 0) = false from beq_eq_false_iff_ne.mpr k0, show (mk.kd == 1) = true from beq_iff_eq.mpr k1, hw, show (x.inp + mk.lb == (e : Int)) = true from beq_iff_eq.mpr el, htn, inR htl, Int.toNat_natCast, hne, hH, flC_len, hfl, Nat.mul_one, show (tn + 1 ≤ nst x) = True from by simp only [eq_iff_iff, iff_true]; omega, setF (show tn < fl.length by omega), f1, f2, f3, f7, f9, hds, Cd.cd64, Tk.t64, base0, base1, base2, base3, Option.isNone_none, Option.isNone_some, Nat.reduceBEq, true_or, or_true, false_or, or_false, Nat.reduceLT, Nat.reduceMod, Nat.reducePow, rmaps, nsucc, List.flatten_cons, List.flatten_nil, Nat.reduceEqDiff, Nat.reduceLeDiff, Nat.reduceAdd, Nat.reduceMul, Nat.reduceSub, ↓reduceIte, reduceCtorEq, decide_true, decide_false]
                  exact ⟨_, by omega, k + 1, fl.set tn true, rfl, by omega, by simp [hfl], hyes (by simp [okMv, hb, k1, hev, el]), by rw [wrapS (by omega)], by simp [hne], by simp⟩
                · simp only [show (mk.kd == 0) = false from beq_eq_false_iff_ne.mpr k0, show (mk.kd == 1) = true from beq_iff_eq.mpr k1, hw, show (x.inp + mk.lb == (e : Int)) = false from beq_eq_false_iff_ne.mpr el, f1, f2, f3, f7, f9, hds, Cd.cd64, Tk.t64, base0, base1, base2, base3, Option.isNone_none, Option.isNone_some, Nat.reduceBEq, true_or, or_true, false_or, or_false, Nat.reduceLT, Nat.reduceMod, Nat.reducePow, rmaps, nsucc, List.flatten_cons, List.flatten_nil, Nat.reduceEqDiff, Nat.reduceLeDiff, Nat.reduceAdd, Nat.reduceMul, Nat.reduceSub, ↓reduceIte, reduceCtorEq, decide_true, decide_false]
                  exact ⟨_, by omega, k + 1, fl, rfl, by omega, hfl, hno (by simp [okMv, hev, el]), by rw [wrapS (by omega)], by simp only [hne, if_false]; exact hH, by simp⟩
              · have k2 : mk.kd = 2 := by rcases hmo.kd with h | h | h <;> omega
                simp only [show (mk.kd == 0) = false from beq_eq_false_iff_ne.mpr k0, show (mk.kd == 1) = false from beq_eq_false_iff_ne.mpr k1, f1, f2, f3, f7, f9, hds, Cd.cd64, Tk.t64, base0, base1, base2, base3, Option.isNone_none, Option.isNone_some, Nat.reduceBEq, true_or, or_true, false_or, or_false, Nat.reduceLT, Nat.reduceMod, Nat.reducePow, rmaps, nsucc, List.flatten_cons, List.flatten_nil, Nat.reduceEqDiff, Nat.reduceLeDiff, Nat.reduceAdd, Nat.reduceMul, Nat.reduceSub, ↓reduceIte, reduceCtorEq, decide_true, decide_false]
                exact ⟨_, by omega, k + 1, fl, rfl, by omega, hfl, hno (by simp [okMv, k2]), by rw [wrapS (by omega)], by simp only [hne, if_false]; exact hH, by simp⟩
        · have hk' : k = x.mv.length := by omega
          have hraw := rawA_lt hx hl e
          have hasc : asc fl = bitsI (rawA x l e) := asc_bits hx hraw hfl fun s hs => by rw [hfv s hs, hk', flM_all hx hl he]
          have hn10 := hx.n
          have fin : ACall Tryd.prog 81 [.sl 1 0 0 (nst x)] H' (fun out H2 => out = .ret (ints (bitsI (rawA x l e))) ∧ Kp H' H2) := by
            have := asc81 H' 0 fl (by omega) hH hH2
            rw [hfl, hasc] at this; exact this
          have hcl := closed35 x hx (bitsI (rawA x l e)) (fun a ha => by
            have h1 := bitsI_mem ha
            have := bits_n hx hraw h1.2.2
            unfold nst at this; omega) (by rw [bitsI_len]; have := bitsN_len (rawA x l e); omega)
          rw [maskL_bits (hx.pw hraw)] at hcl
          simp only [List.length_map, ltF hklt, f1, f2, f3, f7, f9, hds, Cd.cd64, Tk.t64, base0, base1, base2, base3, Option.isNone_none, Option.isNone_some, Nat.reduceBEq, true_or, or_true, false_or, or_false, Nat.reduceLT, Nat.reduceMod, Nat.reducePow, rmaps, nsucc, List.flatten_cons, List.flatten_nil, Nat.reduceEqDiff, Nat.reduceLeDiff, Nat.reduceAdd, Nat.reduceMul, Nat.reduceSub, ↓reduceIte, reduceCtorEq, decide_true, decide_false]
          refine Kp.go' fin fun H2 _ => ?_
          simp only [f1, f2, f3, f7, f9, hds, Cd.cd64, Tk.t64, base0, base1, base2, base3, Option.isNone_none, Option.isNone_some, Nat.reduceBEq, true_or, or_true, false_or, or_false, Nat.reduceLT, Nat.reduceMod, Nat.reducePow, rmaps, nsucc, List.flatten_cons, List.flatten_nil, Nat.reduceEqDiff, Nat.reduceLeDiff, Nat.reduceAdd, Nat.reduceMul, Nat.reduceSub, ↓reduceIte, reduceCtorEq, decide_true, decide_false]
          refine hcl.go' (FZs.two (FZ.reV x) (FZ.ints _)) ?_
          simp only [f1, f2, f3, f7, f9, hds, Cd.cd64, Tk.t64, base0, base1, base2, base3, Option.isNone_none, Option.isNone_some, Nat.reduceBEq, true_or, or_true, false_or, or_false, Nat.reduceLT, Nat.reduceMod, Nat.reducePow, rmaps, nsucc, List.flatten_cons, List.flatten_nil, Nat.reduceEqDiff, Nat.reduceLeDiff, Nat.reduceAdd, Nat.reduceMul, Nat.reduceSub, ↓reduceIte, reduceCtorEq, decide_true, decide_false]
          exact ⟨_, _, rfl, (FZ.setV _).view, FZ.setV _, rfl⟩
end Go.Proofs.YtchpcjmgifnmdaaDoor

/- Walks: the reference's traces; copies. -/
namespace Go.Proofs.YtchpcjmgifnmdaaDoor
open Go Go.Proofs.YtchpcjmgifnmdaaDoor.Ab
set_option maxRecDepth 100000
set_option linter.unusedSimpArgs false

theorem ACall.args {P : Program} {m : FuncId} {H : AH} {R : AOut → AH → Prop} {a a' : List AV} (h : ACall P m a H R) (hv : ∀ g xs, VRs g a' xs → VRs g a xs) : ACall P m a' H R := ⟨h.1, fun g xs w hw hx => h.2 g xs w hw (hv g xs hx)⟩
theorem vr_unk {g : G} {k : Nat} {rows : List (List AV)} {tip : Tip} {x : Value} (h : VR g (.lst k rows tip) x) : VR g (.lst k rows .unk) x := by
  cases h with
  | lst q1 q2 q3 q4 q5 q6 q7 q8 => exact .lst q1 q2 q3 q4 q5 q6 q7 trivial
/-- a list whose room is known, where nothing is asked of it -/
theorem vrs_unk2 {a : AV} {k : Nat} {rows : List (List AV)} {tip : Tip} : ∀ g xs, VRs g [a, .lst k rows tip] xs → VRs g [a, .lst k rows .unk] xs := fun g xs h => ⟨h.1, fun j hj => by
  match j, hj with
  | 0, _ => exact h.2 0 (by simp)
  | 1, _ => exact vr_unk (h.2 1 (by simp))⟩
theorem init63 (x : Re) (hx : Ok x) : FCall Tryd.prog 63 [reV x] (· = setV (fstM x)) := by
  have h0 := hx.s0
  have hcl := closed35 x hx [x.s0] (fun a ha => by simp at ha; omega) (by simp)
  have hm : maskL [x.s0] = 2 ^ x.s0.toNat := by simp [maskL]
  rw [hm] at hcl
  have hc : FCall Tryd.prog 35 [reV x, .lst 1 [[.v (.int .i64 x.s0)]] .full] (· = setV (fstM x)) := ACall.args hcl vrs_unk2
  have hz : FZ (.lst 1 [[.v (.int .i64 x.s0)]] .full) := FZ.intL (l := [x.s0]) (tip := .full) rfl
  simp only [reV, reL, mvsV]
  refine ACall.enter [] Cd.fn63 (by simp) ?_
  simp only [Cd.cd63, Tk.t63, base0, base1, base2, base3, Option.isNone_none, Option.isNone_some, Nat.reduceBEq, true_or, or_true, false_or, or_false, Nat.reduceLT, Nat.reduceMod, Nat.reducePow, rmaps, nsucc, List.flatten_cons, List.flatten_nil, Nat.reduceEqDiff, Nat.reduceLeDiff, Nat.reduceAdd, Nat.reduceMul, Nat.reduceSub, ↓reduceIte, reduceCtorEq, decide_true, decide_false]
  first | refine FCall.go hc (FZs.two (FZ.reV x) hz) ?_ | refine FCall.go' hc (FZs.two (FZ.reV x) hz) ?_ | refine FCall.goQ hc (FZs.two (FZ.reV x) hz) ?_
  simp only [Cd.cd63, Tk.t63, base0, base1, base2, base3, Option.isNone_none, Option.isNone_some, Nat.reduceBEq, true_or, or_true, false_or, or_false, Nat.reduceLT, Nat.reduceMod, Nat.reducePow, rmaps, nsucc, List.flatten_cons, List.flatten_nil, Nat.reduceEqDiff, Nat.reduceLeDiff, Nat.reduceAdd, Nat.reduceMul, Nat.reduceSub, ↓reduceIte, reduceCtorEq, decide_true, decide_false]
  exact ⟨_, _, rfl, (FZ.setV _).view, FZ.setV _, rfl⟩
def shownP (x : Re) (l k : Nat) : List Int := ((List.range k).filter fun e => shw x l e).map fun e : Nat => (e : Int)
def shownL (x : Re) (l : Nat) : List Int := shownP x l (silc x + 1)
theorem silc_le {x : Re} (hx : Ok x) : silc x ≤ 8 ∧ x.inp.toNat ≤ silc x := by
  have := hx.inp; have := hx.out; unfold silc; omega
theorem setV_pos {x : Re} (hx : Ok x) {l : Nat} (hl : l < 2 ^ nst x) : decide (((bitsN l).length : Int) > 0) = decide (l ≠ 0) := by
  have h := bitsN_nil (hx.pw hl)
  by_cases h0 : l = 0
  · rw [h.mpr h0]; simp [h0]
  · have : 0 < (bitsN l).length := List.length_pos_iff.mpr fun e => h0 (h.mp e)
    simp [h0]; omega
theorem own18 (x : Re) (hl : x.mv.length * 32 ≤ 140737488355328) : FCall Tryd.prog 18 [reV x] (· = reV x) := by
  simp only [reV, reL, mvsV]
  by_cases h0 : x.mv = []
  · refine ACall.enter [1] Cd.fn18 (by simp) ?_
    simp only [h0, Cd.cd18, Tk.t18, base0, base1, base2, base3, Option.isNone_none, Option.isNone_some, Nat.reduceBEq, true_or, or_true, false_or, or_false, Nat.reduceLT, Nat.reduceMod, Nat.reducePow, rmaps, nsucc, List.flatten_cons, List.flatten_nil, Nat.reduceEqDiff, Nat.reduceLeDiff, Nat.reduceAdd, Nat.reduceMul, Nat.reduceSub, ↓reduceIte, reduceCtorEq, decide_true, decide_false]
    have hz : FZ (reV x) := FZ.reV x
    simp only [reV, reL, mvsV, h0, List.map_nil] at hz
    exact ⟨_, _, rfl, Views.agg (Views.cons (FZ.v _).view (Views.cons (FZ.v _).view (Views.cons (FZ.v _).view (Views.cons (FZ.v _).view (Views.cons (View.tip fun r hr => by simp at hr) Views.nil))))), hz, rfl⟩
  · have hl0 : 0 < x.mv.length := List.length_pos_iff.mpr h0
    have hl' : (x.mv.length = 0) = False := by simp; exact h0
    have hr : roomA 32 x.mv.length = true := room_of (by omega) (by omega)
    refine ACall.enter [1] Cd.fn18 (by simp) ?_
    simp only [List.length_map, hl0, hl', hr, Cd.cd18, Tk.t18, base0, base1, base2, base3, Option.isNone_none, Option.isNone_some, Nat.reduceBEq, true_or, or_true, false_or, or_false, Nat.reduceLT, Nat.reduceMod, Nat.reducePow, rmaps, nsucc, List.flatten_cons, List.flatten_nil, Nat.reduceEqDiff, Nat.reduceLeDiff, Nat.reduceAdd, Nat.reduceMul, Nat.reduceSub, ↓reduceIte, reduceCtorEq, decide_true, decide_false]
    exact ⟨_, _, rfl, Views.agg (Views.cons (FZ.v _).view (Views.cons (FZ.v _).view (Views.cons (FZ.v _).view (Views.cons (FZ.v _).view (Views.cons (View.tip fun r hr => by
      obtain ⟨m, _, rfl⟩ := List.mem_map.mp hr
      exact FZs.mvR m) Views.nil))))), FZ.reV x, rfl⟩
end Go.Proofs.YtchpcjmgifnmdaaDoor

/- Walks: a system by its states. -/
namespace Go.Proofs.YtchpcjmgifnmdaaDoor
open Go Go.Proofs.YtchpcjmgifnmdaaDoor.Ab
set_option maxRecDepth 100000
set_option linter.unusedSimpArgs false

def uvC (k : Nat) (f : Nat → Nat) : List AV := (List.range k).map fun e => .v (.int .u64 (f e : Nat))
theorem uvC_len (k : Nat) (f : Nat → Nat) : (uvC k f).length = k := by simp [uvC]
theorem mkU (n : Nat) : List.map (fun i => [AV.v (.int .u64 0)].getD (i % 1) .any) (List.range (n * 1)) = uvC n fun _ => 0 := by
  unfold uvC
  rw [Nat.mul_one]
  apply List.map_congr_left
  intro i _
  simp [Nat.mod_one]
theorem uvC_drop {k s : Nat} (f : Nat → Nat) (h : s < k) : (List.drop s (uvC k f))[0]? = some (.v (.int .u64 (f s : Nat))) := by
  rw [List.getElem?_drop, Nat.add_zero]
  unfold uvC
  rw [List.getElem?_map, List.getElem?_range h]; rfl
theorem uvC_set {k s : Nat} (f : Nat → Nat) (v : Nat) (h : s < k) : List.take s (uvC k f) ++ AV.v (.int .u64 (v : Nat)) :: List.drop (s + 1) (uvC k f) = uvC k fun e => if e = s then v else f e := by
  apply List.ext_getElem?
  intro i
  have hl : (List.take s (uvC k f)).length = s := by rw [List.length_take, uvC_len]; omega
  by_cases h1 : i < s
  · rw [List.getElem?_append_left (by omega), List.getElem?_take_of_lt h1]
    unfold uvC
    rw [List.getElem?_map, List.getElem?_map, List.getElem?_range (by omega)]
    simp [show ¬ i = s by omega]
  · rw [List.getElem?_append_right (by omega), hl]
    by_cases h2 : i = s
    · subst h2
      rw [Nat.sub_self]
      unfold uvC
      rw [List.getElem?_map, List.getElem?_range h]; simp
    · obtain ⟨d, hd⟩ : ∃ d, i - s = d + 1 := ⟨i - s - 1, by omega⟩
      rw [hd, List.getElem?_cons_succ, List.getElem?_drop, show s + 1 + d = i by omega]
      unfold uvC
      rw [List.getElem?_map, List.getElem?_map]
      by_cases h3 : i < k
      · rw [List.getElem?_range h3]; simp [h2]
      · rw [List.getElem?_eq_none (by simp; omega)]; rfl
def enS (k n : Nat) : List AV := [.sl 1 n 0 k]
def headV (x : Re) : List AV := [.v (.int .i64 x.st), .v (.int .i64 x.s0), .v (.int .i64 x.inp), .v (.int .i64 x.out), .lst 4 (x.mv.map mvR) .unk]
/-- the program's system, as it is built: the sets by state and event are `f`, those of silent moves `s` -/
structure SysO (x : Re) (H : AH) (byA : AV) (nms : List Nat) (f : Nat → Nat → Nat) (s : Nat → Nat) : Prop where
  g : GrowN (enS (silc x)) 1 2 H byA nms
  nm : ∀ j, j < nms.length → 2 ≤ nms.getD j 0 ∧ nms.getD j 0 < H.next ∧ H.own (nms.getD j 0) = some (.cells (uvC (silc x) (f j)))
  nd : nms.Nodup
  o0 : H.own 0 = some (.cells (uvC (nst x) s))
  o1 : H.own 1 = some (.cells [.v (.int .i64 x.st), .v (.int .i64 x.s0), .v (.int .i64 x.inp), .v (.int .i64 x.out), .lst 4 (x.mv.map mvR) .unk, byA, .sl 1 0 0 (nst x)])
  n2 : 2 ≤ H.next
theorem SysO.push {x : Re} {H H2 : AH} {byA a2 : AV} {nms : List Nat} {s : Nat → Nat} (h : SysO x H byA nms (fun _ _ => 0) s) (hg : GrowN (enS (silc x)) 1 2 H2 a2 (nms ++ [H.next]))
    (ho : ∀ m, H2.own m = if m = 1 then some (.cells [.v (.int .i64 x.st), .v (.int .i64 x.s0), .v (.int .i64 x.inp), .v (.int .i64 x.out), .lst 4 (x.mv.map mvR) .unk, a2, .sl 1 0 0 (nst x)]) else if m = H.next then some (.cells (uvC (silc x) fun _ => 0)) else H.own m)
    (hn : H.next < H2.next) : SysO x H2 a2 (nms ++ [H.next]) (fun _ _ => 0) s := by
  have h2 := h.n2
  refine ⟨hg, fun j hj => ?_, ?_, ?_, ?_, by omega⟩
  · by_cases h1 : j < nms.length
    · obtain ⟨a, b, c⟩ := h.nm j h1
      rw [getD_append_left _ _ _ h1]
      exact ⟨a, by omega, by rw [ho, if_neg (by omega), if_neg (by omega)]; exact c⟩
    · have : j = nms.length := by simp at hj; omega
      subst this
      rw [getD_append_len]
      exact ⟨h2, hn, by rw [ho, if_neg (by omega), if_pos rfl]⟩
  · rw [List.nodup_append]
    refine ⟨h.nd, by simp, fun a ha b hb => ?_⟩
    simp only [List.mem_singleton] at hb
    subst hb
    obtain ⟨j, hj, rfl⟩ := mem_getD ha
    have := (h.nm j hj).2.1
    show nms.getD j 0 ≠ _
    omega
  · rw [ho, if_neg (by omega), if_neg (by omega)]; exact h.o0
  · rw [ho, if_pos rfl]
theorem nodup_getD {l : List Nat} (h : l.Nodup) {i j : Nat} (hi : i < l.length) (hj : j < l.length) (he : l.getD i 0 = l.getD j 0) : i = j := by
  rw [List.getD_eq_getElem?_getD, List.getD_eq_getElem?_getD, List.getElem?_eq_getElem hi, List.getElem?_eq_getElem hj] at he
  exact (List.getElem_inj (h₀ := hi) (h₁ := hj) h).mp he
theorem GrowN.tips {α : Type} {enc : α → List AV} {k N : Nat} {H H' : AH} {a : AV} {l : List α} (h : GrowN enc k N H a l) (hn : H.next ≤ H'.next) (ht : H'.tip = H.tip) : GrowN enc k N H' a l := by
  rcases h with h | ⟨t, h1, h2, h3, h4⟩
  · exact .inl h
  · exact .inr ⟨t, h1, Nat.lt_of_lt_of_le h2 hn, h3, by rw [ht]; exact h4⟩
theorem SysO.setBy {x : Re} {H H2 : AH} {byA : AV} {nms : List Nat} {f f' : Nat → Nat → Nat} {s : Nat → Nat} (h : SysO x H byA nms f s) {a : Nat} (ha : a < nms.length) 
    (ho : ∀ m, m < H.next → H2.own m = if m = nms.getD a 0 then some (.cells (uvC (silc x) (f' a))) else H.own m) (hf : ∀ j, j ≠ a → f' j = f j)
    (hn : H.next ≤ H2.next) (ht : H2.tip = H.tip) : SysO x H2 byA nms f' s := by
  have h2 := h.n2
  have hna := h.nm a ha
  refine ⟨h.g.tips hn ht, fun j hj => ?_, h.nd, ?_, ?_, by omega⟩
  · obtain ⟨p, q, r⟩ := h.nm j hj
    refine ⟨p, by omega, ?_⟩
    rw [ho _ q]
    by_cases hja : j = a
    · subst hja; rw [if_pos rfl]
    · rw [if_neg fun e => hja (nodup_getD h.nd hj ha e), hf j hja]; exact r
  · rw [ho 0 (by omega), if_neg (by omega)]; exact h.o0
  · rw [ho 1 (by omega), if_neg (by omega)]; exact h.o1
theorem SysO.setSil {x : Re} {H H2 : AH} {byA : AV} {nms : List Nat} {f : Nat → Nat → Nat} {s s' : Nat → Nat} (h : SysO x H byA nms f s) 
    (ho : ∀ m, m < H.next → H2.own m = if m = 0 then some (.cells (uvC (nst x) s')) else H.own m) (hn : H.next ≤ H2.next) (ht : H2.tip = H.tip) : SysO x H2 byA nms f s' := by
  have h2 := h.n2
  refine ⟨h.g.tips hn ht, fun j hj => ?_, h.nd, ?_, ?_, by omega⟩
  · obtain ⟨p, q, r⟩ := h.nm j hj
    exact ⟨p, by omega, by rw [ho _ q, if_neg (by omega)]; exact r⟩
  · rw [ho 0 (by omega), if_pos rfl]
  · rw [ho 1 (by omega), if_neg (by omega)]; exact h.o1
theorem shlN {n : Nat} (h : n < 10) : IntKind.u64.wrap (1 * 2 ^ (min n IntKind.u64.bits)) = ((2 ^ n : Nat) : Int) := by
  have := shlU h
  rwa [Int.toNat_natCast] at this
theorem silP_succ (x : Re) {k : Nat} (h : k < x.mv.length) (a : Nat) : silP (x.mv.take (k + 1)) a = if decide ((x.mv.getD k default).kd = 2) && decide ((x.mv.getD k default).fr = (a : Int)) then silP (x.mv.take k) a ||| 2 ^ (x.mv.getD k default).to.toNat else silP (x.mv.take k) a := by
  unfold silP; rw [foldl_succ _ _ h]
theorem byP_succ (x : Re) {k : Nat} (h : k < x.mv.length) (a e : Nat) : byP x (x.mv.take (k + 1)) a e = if decide ((x.mv.getD k default).kd ≠ 2) && decide ((x.mv.getD k default).fr = (a : Int)) && decide (evM x (x.mv.getD k default) = (e : Int)) then byP x (x.mv.take k) a e ||| 2 ^ (x.mv.getD k default).to.toNat else byP x (x.mv.take k) a e := by
  unfold byP; rw [foldl_succ _ _ h]
theorem viewU {H : AH} {n k : Nat} {f : Nat → Nat} (h : H.own n = some (.cells (uvC k f))) : View H (.sl 1 n 0 k) (rowU k f) := by
  have hg : ∀ i, i < k → ((List.range k).map fun e => [uv (f e)]).getD i [] = [uv (f i)] := fun i hi => getD_range _ _ _ hi
  refine View.sl h (by rw [uvC_len]; omega) (by simp) (fun i hi => by rw [hg i hi]; rfl) fun i j hi hj => ?_
  have hj0 : j = 0 := by omega
  subst hj0
  rw [hg i hi]
  have : (uvC k f).getD (0 + i * 1 + 0) .any = uv (f i) := by
    unfold uvC
    rw [List.getD_eq_getElem?_getD, List.getElem?_map, List.getElem?_range (by omega)]
    simp [uv]
  rw [this]
  exact (FZ.v _).view
theorem viewSys {x : Re} {H : AH} {nms : List Nat} {t : Nat} (h : SysO x H (.lst 1 (nms.map (enS (silc x))) (.live t)) nms (byM x) (silM x)) (hl : nms.length = nst x) : View H (.ptr 1 0) (sysV x) := by
  have hby : View H (.lst 1 (nms.map (enS (silc x))) (.live t)) (byV x) := by
    have hg : ∀ i, i < nst x → ((List.range (nst x)).map fun a => [rowU (silc x) (byM x a)]).getD i [] = [rowU (silc x) (byM x i)] := fun i hi => getD_range _ _ _ hi
    have hg' : ∀ i, i < nst x → (nms.map (enS (silc x))).getD i [] = [.sl 1 (nms.getD i 0) 0 (silc x)] := fun i hi => getD_map (enS (silc x)) nms i (by omega)
    refine View.lst (by simp [hl]) (fun i hi => ?_) fun i j hi hj => ?_
    · rw [hg i (by simpa [hl] using hi), hg' i (by simpa [hl] using hi)]; rfl
    · have hj0 : j = 0 := by omega
      subst hj0
      have hi' : i < nst x := by simpa [hl] using hi
      rw [hg i hi', hg' i hi']
      exact viewU (h.nm i (by omega)).2.2
  refine View.ptr h.o1 (by simp [sysL, reL]) fun j hj => ?_
  have hj7 : j < 7 := by simpa [sysL, reL] using hj
  match j, hj7 with
  | 0, _ => exact (FZ.v _).view
  | 1, _ => exact (FZ.v _).view
  | 2, _ => exact (FZ.v _).view
  | 3, _ => exact (FZ.v _).view
  | 4, _ => exact (FZ.mvsV x.mv).view
  | 5, _ => exact hby
  | 6, _ => exact viewU h.o0
set_option maxHeartbeats 2000000 in
theorem system71 (x : Re) (hx : Ok x) : FCall Tryd.prog 71 [reV x] (· = sysV x) := by
  have hst := hx.st
  have hlen := hx.len
  have hinp := hx.inp
  have hout := hx.out
  have hsc := silc_le hx
  have hn10 := hx.n
  have en : x.st.toNat = nst x := rfl
  simp only [reV, reL, mvsV]
  refine ACall.enter [12] Cd.fn71 (by simp) ?_
  simp only [show (0 ≤ x.st ∧ x.st ≤ 140737488355328 ∧ ((8 : Nat) : Int) * x.st ≤ 2 ^ 47) = True from by simp; omega, en, mkU, Cd.cd71, Tk.t71, base0, base1, base2, base3, Option.isNone_none, Option.isNone_some, Nat.reduceBEq, true_or, or_true, false_or, or_false, Nat.reduceLT, Nat.reduceMod, Nat.reducePow, rmaps, nsucc, List.flatten_cons, List.flatten_nil, Nat.reduceEqDiff, Nat.reduceLeDiff, Nat.reduceAdd, Nat.reduceMul, Nat.reduceSub, ↓reduceIte, reduceCtorEq, decide_true, decide_false]
  refine LWP.loop [] (fun m f H' => ∃ i byA nms, m = nst x - i ∧ (i ≤ nst x) ∧ (nms.length = i) ∧ (SysO x H' byA nms (fun _ _ => 0) (fun _ => 0)) ∧ f.t 1 = .box [.v (.int .i64 x.st), .v (.int .i64 x.s0), .v (.int .i64 x.inp), .v (.int .i64 x.out), .lst 4 (x.mv.map mvR) .unk] ∧ f.t 3 = .ptr 1 0 ∧ f.t 14 = .v (.int .i64 x.st) ∧ f.t 15 = .v (.int .i64 (i : Nat)) ∧ f.ds = [] ∧ True) ?_ ?_ (m := nst x - (0))
  · exact ⟨0, nilS, [], rfl, (by omega), (rfl), (⟨.inl ⟨rfl, .inl rfl⟩, fun j hj => by simp at hj, List.nodup_nil, by simp [AH.none], by simp [AH.none, nilS], by simp [AH.none]⟩), rfl, rfl, rfl, rfl, rfl, trivial⟩
  · rintro m f H' ⟨i, byA, nms, rfl, hi, hl, hS, f1, f3, f14, f15, hds, hH⟩
    have ho1 := hS.o1
    have hn2 := hS.n2
    by_cases hlt : i < nst x
    · have hr : roomA 24 (nms.length + 1) = true := room_of (by omega) (by omega)
      have hmk : (0 ≤ ((silc x : Nat) : Int) ∧ ((silc x : Nat) : Int) ≤ 140737488355328 ∧ ((8 : Nat) : Int) * ((silc x : Nat) : Int) ≤ 2 ^ 47) = True := by simp; omega
      have hx1 : decide (((i : Nat) : Int) < x.st) = true := decide_eq_true (by unfold nst at hlt; omega)
      rcases hS.g with ⟨h0, rfl | rfl⟩ | ⟨t, t1, t2, rfl, t4⟩
      · have h1n : (1 = H'.next) = False := by simp; omega
        simp only [hx1, nilS, ho1, silc_eq hx, hmk, Int.toNat_natCast, mkU, show roomA 24 1 = true from rfl, h1n, f1, f3, f14, f15, hds, Cd.cd71, Tk.t71, base0, base1, base2, base3, Option.isNone_none, Option.isNone_some, Nat.reduceBEq, true_or, or_true, false_or, or_false, Nat.reduceLT, Nat.reduceMod, Nat.reducePow, rmaps, nsucc, List.flatten_cons, List.flatten_nil, Nat.reduceEqDiff, Nat.reduceLeDiff, Nat.reduceAdd, Nat.reduceMul, Nat.reduceSub, ↓reduceIte, reduceCtorEq, decide_true, decide_false]
        refine ⟨_, by omega, i + 1, _, _, rfl, by omega, by simp [hl], hS.push (.inr ⟨H'.next + 1, by omega, by simp, by rw [h0]; rfl, by rw [h0]; simp⟩) (fun m => rfl) (show H'.next < H'.next + 1 + 1 by omega), by rw [wrapS (by omega)]⟩
      · have h1n : (1 = H'.next) = False := by simp; omega
        simp only [hx1, ho1, silc_eq hx, hmk, Int.toNat_natCast, mkU, show roomA 24 1 = true from rfl, h1n, f1, f3, f14, f15, hds, Cd.cd71, Tk.t71, base0, base1, base2, base3, Option.isNone_none, Option.isNone_some, Nat.reduceBEq, true_or, or_true, false_or, or_false, Nat.reduceLT, Nat.reduceMod, Nat.reducePow, rmaps, nsucc, List.flatten_cons, List.flatten_nil, Nat.reduceEqDiff, Nat.reduceLeDiff, Nat.reduceAdd, Nat.reduceMul, Nat.reduceSub, ↓reduceIte, reduceCtorEq, decide_true, decide_false]
        refine ⟨_, by omega, i + 1, _, _, rfl, by omega, by simp [hl], hS.push (.inr ⟨H'.next + 1, by omega, by simp, by rw [h0]; rfl, by rw [h0]; simp⟩) (fun m => rfl) (show H'.next < H'.next + 1 + 1 by omega), by rw [wrapS (by omega)]⟩
      · have h1n : (1 = H'.next) = False := by simp; omega
        simp only [hx1, ho1, silc_eq hx, hmk, Int.toNat_natCast, mkU, t4, hr, List.length_map, h1n, f1, f3, f14, f15, hds, Cd.cd71, Tk.t71, base0, base1, base2, base3, Option.isNone_none, Option.isNone_some, Nat.reduceBEq, true_or, or_true, false_or, or_false, Nat.reduceLT, Nat.reduceMod, Nat.reducePow, rmaps, nsucc, List.flatten_cons, List.flatten_nil, Nat.reduceEqDiff, Nat.reduceLeDiff, Nat.reduceAdd, Nat.reduceMul, Nat.reduceSub, ↓reduceIte, reduceCtorEq, decide_true, decide_false]
        refine ⟨_, by omega, i + 1, _, _, rfl, by omega, by simp [hl], hS.push (.inr ⟨t, t1, by simp; omega, by simp [enS], by simp⟩) (fun m => rfl) (by simp), by rw [wrapS (by omega)]⟩
    · have hi' : i = nst x := by omega
      have hx1 : decide (((i : Nat) : Int) < x.st) = false := decide_eq_false (by unfold nst at hlt; omega)
      have hlS : nms.length = nst x := by omega
      have hS0 : SysO x H' byA nms (fun a e => byP x (x.mv.take 0) a e) (fun a => silP (x.mv.take 0) a) := hS
      simp only [hx1, List.length_map, f1, f3, f14, f15, hds, Cd.cd71, Tk.t71, base0, base1, base2, base3, Option.isNone_none, Option.isNone_some, Nat.reduceBEq, true_or, or_true, false_or, or_false, Nat.reduceLT, Nat.reduceMod, Nat.reducePow, rmaps, nsucc, List.flatten_cons, List.flatten_nil, Nat.reduceEqDiff, Nat.reduceLeDiff, Nat.reduceAdd, Nat.reduceMul, Nat.reduceSub, ↓reduceIte, reduceCtorEq, decide_true, decide_false]
      refine LWP.loop [] (fun m f H' => ∃ k, m = x.mv.length - k ∧ (k ≤ x.mv.length) ∧ (SysO x H' byA nms (fun a e => byP x (x.mv.take k) a e) (fun a => silP (x.mv.take k) a)) ∧ f.t 1 = .box [.v (.int .i64 x.st), .v (.int .i64 x.s0), .v (.int .i64 x.inp), .v (.int .i64 x.out), .lst 4 (x.mv.map mvR) .unk] ∧ f.t 3 = .ptr 1 0 ∧ f.t 34 = .lst 4 (x.mv.map mvR) .unk ∧ f.t 35 = .v (.int .i64 (x.mv.length : Nat)) ∧ f.t 36 = .v (.int .i64 (k : Nat)) ∧ f.ds = [] ∧ True) ?_ ?_ (m := x.mv.length - (0))
      · exact ⟨0, rfl, (by omega), (hS0), f1, f3, (by first | rfl | exact f34), (by first | rfl | exact f35), (by first | rfl | exact f36), rfl, trivial⟩
      · rintro m f H' ⟨k, rfl, hki, hS, f1, f3, f34, f35, f36, hds, hH⟩
        have ho1 := hS.o1
        have ho0 := hS.o0
        have hn2 := hS.n2
        by_cases hklt : k < x.mv.length
        · have hgm := getD_map mvR x.mv k hklt
          have hmm := getD_mem (l := x.mv) hklt
          have hsS := silP_succ x hklt
          have hsB := byP_succ x hklt
          generalize hm : x.mv.getD k default = mk at hgm hmm hsS hsB
          have hmo := hx.mv mk hmm
          obtain ⟨tn, htn⟩ : ∃ tn : Nat, mk.to = (tn : Int) := ⟨_, (Int.toNat_of_nonneg hmo.to.1).symm⟩
          obtain ⟨an, han⟩ : ∃ an : Nat, mk.fr = (an : Int) := ⟨_, (Int.toNat_of_nonneg hmo.fr.1).symm⟩
          have htl : tn < nst x := by have := hmo.to; unfold nst; omega
          have hal : an < nst x := by have := hmo.fr; unfold nst; omega
          have hsub : ∀ m ∈ x.mv.take k, m ∈ x.mv := fun m h => List.mem_of_mem_take h
          have hp2 : 2 ^ tn < 1024 := (Nat.pow_lt_pow_right (by omega : 1 < 2) (show tn < 10 by omega) : 2 ^ tn < 2 ^ 10)
          have hnx1 : (0 = H'.next) = False := by simp; omega
          have hnx2 : (1 = H'.next) = False := by simp; omega
          rcases hS.g with ⟨h0, _⟩ | ⟨t, t1, t2, rfl, t4⟩
          · rw [h0] at hlS; simp at hlS; omega
          have htl10 : tn < 10 := by omega
          have hnl : an < nms.length := by omega
          have hgn : (nms.map (enS (silc x))).getD an [] = [.sl 1 (nms.getD an 0) 0 (silc x)] := getD_map (enS (silc x)) nms an hnl
          obtain ⟨nm1, nm2, nm3⟩ := hS.nm an hnl
          generalize hnm : nms.getD an 0 = nm at hgn nm1 nm2 nm3
          have nmn : (nm = H'.next) = False := by simp; omega
          by_cases k0 : mk.kd = 0
          · have hlb := hmo.lb
            unfold labels at hlb
            rw [if_pos k0] at hlb
            have hev : evM x mk = mk.lb := by unfold evM; rw [if_pos k0]
            obtain ⟨en, hen⟩ : ∃ en : Nat, evM x mk = (en : Int) := ⟨_, (Int.toNat_of_nonneg (by rw [hev]; omega)).symm⟩
            rw [hev] at hen
            have hel : en < silc x := by unfold silc; omega
            have eb : (fun a e => byP x (x.mv.take (k + 1)) a e) = fun a e => if a = an ∧ e = en then byP x (x.mv.take k) an en ||| 2 ^ tn else byP x (x.mv.take k) a e := by
              funext a e
              rw [hsB, k0, htn, han, hev, hen, Int.toNat_natCast]
              by_cases q : a = an ∧ e = en
              · obtain ⟨rfl, rfl⟩ := q
                simp
              · rw [if_neg q, if_neg]
                simp only [Bool.and_eq_true, decide_eq_true_eq, not_and]
                intro h1 h2; exact q ⟨by omega, by omega⟩
            have es : (fun a => silP (x.mv.take (k + 1)) a) = fun a => silP (x.mv.take k) a := by
              funext a
              rw [hsS, k0]; simp
            simp only [List.length_map, ltT hklt, inR hklt, Int.toNat_natCast, hgm, mvR, show (mk.kd == 0) = true from beq_iff_eq.mpr k0, htn, han, hen, show ((tn : Int) < 0) = False from by simp, hnx1, hnx2, ho1, hgn, inR hnl, inR hel, nm3, nmn, Nat.mul_one, Nat.zero_add, uvC_drop _ hel, shlN htl10, orU (hx.pw (byP_lt hx hsub an en)) hp2, uvC_len, show (en + 1 ≤ silc x) = True from by simp only [eq_iff_iff, iff_true]; omega, uvC_set _ _ hel, f1, f3, f34, f35, f36, hds, Cd.cd71, Tk.t71, base0, base1, base2, base3, Option.isNone_none, Option.isNone_some, Nat.reduceBEq, true_or, or_true, false_or, or_false, Nat.reduceLT, Nat.reduceMod, Nat.reducePow, rmaps, nsucc, List.flatten_cons, List.flatten_nil, Nat.reduceEqDiff, Nat.reduceLeDiff, Nat.reduceAdd, Nat.reduceMul, Nat.reduceSub, ↓reduceIte, reduceCtorEq, decide_true, decide_false]
            refine ⟨_, by omega, k + 1, rfl, by omega, ?_, by rw [wrapS (by omega)]⟩
            rw [es, eb]
            refine hS.setBy (a := an) (by omega) (fun m hm => ?_) (fun j hj => by funext e; simp [hj]) (by show H'.next ≤ H'.next + 1; omega) rfl
            simp only [show ¬ m = H'.next by omega, if_false, true_and]
            rw [hnm]
          · by_cases k1 : mk.kd = 1
            · have hlb := hmo.lb
              unfold labels at hlb
              rw [if_neg k0, if_pos k1] at hlb
              have hev : evM x mk = x.inp + mk.lb := by unfold evM; rw [if_neg k0]
              obtain ⟨en, hen⟩ : ∃ en : Nat, evM x mk = (en : Int) := ⟨_, (Int.toNat_of_nonneg (by rw [hev]; omega)).symm⟩
              rw [hev] at hen
              have hel : en < silc x := by unfold silc; omega
              have eb : (fun a e => byP x (x.mv.take (k + 1)) a e) = fun a e => if a = an ∧ e = en then byP x (x.mv.take k) an en ||| 2 ^ tn else byP x (x.mv.take k) a e := by
                funext a e
                rw [hsB, k1, htn, han, hev, hen, Int.toNat_natCast]
                by_cases q : a = an ∧ e = en
                · obtain ⟨rfl, rfl⟩ := q
                  simp
                · rw [if_neg q, if_neg]
                  simp only [Bool.and_eq_true, decide_eq_true_eq, not_and]
                  intro h1 h2; exact q ⟨by omega, by omega⟩
              have es : (fun a => silP (x.mv.take (k + 1)) a) = fun a => silP (x.mv.take k) a := by
                funext a
                rw [hsS, k1]; simp
              simp only [List.length_map, ltT hklt, inR hklt, Int.toNat_natCast, hgm, mvR, show (mk.kd == 0) = false from beq_eq_false_iff_ne.mpr k0, show (mk.kd == 1) = true from beq_iff_eq.mpr k1, show IntKind.i64.wrap ((en : Nat) : Int) = ((en : Nat) : Int) from wrapI (by omega) (by omega), htn, han, hen, show ((tn : Int) < 0) = False from by simp, hnx1, hnx2, ho1, hgn, inR hnl, inR hel, nm3, nmn, Nat.mul_one, Nat.zero_add, uvC_drop _ hel, shlN htl10, orU (hx.pw (byP_lt hx hsub an en)) hp2, uvC_len, show (en + 1 ≤ silc x) = True from by simp only [eq_iff_iff, iff_true]; omega, uvC_set _ _ hel, f1, f3, f34, f35, f36, hds, Cd.cd71, Tk.t71, base0, base1, base2, base3, Option.isNone_none, Option.isNone_some, Nat.reduceBEq, true_or, or_true, false_or, or_false, Nat.reduceLT, Nat.reduceMod, Nat.reducePow, rmaps, nsucc, List.flatten_cons, List.flatten_nil, Nat.reduceEqDiff, Nat.reduceLeDiff, Nat.reduceAdd, Nat.reduceMul, Nat.reduceSub, ↓reduceIte, reduceCtorEq, decide_true, decide_false]
              refine ⟨_, by omega, k + 1, rfl, by omega, ?_, by rw [wrapS (by omega)]⟩
              rw [es, eb]
              refine hS.setBy (a := an) (by omega) (fun m hm => ?_) (fun j hj => by funext e; simp [hj]) (by show H'.next ≤ H'.next + 1; omega) rfl
              simp only [show ¬ m = H'.next by omega, if_false, true_and]
              rw [hnm]
            · have k2 : mk.kd = 2 := by rcases hmo.kd with h | h | h <;> omega
              have es : (fun a => silP (x.mv.take (k + 1)) a) = fun a => if a = an then silP (x.mv.take k) an ||| 2 ^ tn else silP (x.mv.take k) a := by
                funext a
                rw [hsS, k2, htn, han, Int.toNat_natCast]
                by_cases q : a = an
                · subst q; simp
                · rw [if_neg q, if_neg]
                  simp only [Bool.and_eq_true, decide_eq_true_eq, not_and]
                  intro h1 h2; exact q (by omega)
              have eb : (fun a e => byP x (x.mv.take (k + 1)) a e) = fun a e => byP x (x.mv.take k) a e := by
                funext a e
                rw [hsB, k2]; simp
              simp only [List.length_map, ltT hklt, inR hklt, Int.toNat_natCast, hgm, mvR, show (mk.kd == 0) = false from beq_eq_false_iff_ne.mpr k0, show (mk.kd == 1) = false from beq_eq_false_iff_ne.mpr k1, htn, han, show ((tn : Int) < 0) = False from by simp, hnx1, hnx2, ho1, ho0, inR hal, Nat.mul_one, Nat.zero_add, uvC_drop _ hal, shlN htl10, orU (hx.pw (silP_lt hx hsub an)) hp2, uvC_len, show (an + 1 ≤ nst x) = True from by simp only [eq_iff_iff, iff_true]; omega, uvC_set _ _ hal, f1, f3, f34, f35, f36, hds, Cd.cd71, Tk.t71, base0, base1, base2, base3, Option.isNone_none, Option.isNone_some, Nat.reduceBEq, true_or, or_true, false_or, or_false, Nat.reduceLT, Nat.reduceMod, Nat.reducePow, rmaps, nsucc, List.flatten_cons, List.flatten_nil, Nat.reduceEqDiff, Nat.reduceLeDiff, Nat.reduceAdd, Nat.reduceMul, Nat.reduceSub, ↓reduceIte, reduceCtorEq, decide_true, decide_false]
              refine ⟨_, by omega, k + 1, rfl, by omega, ?_, by rw [wrapS (by omega)]⟩
              rw [es, eb]
              refine hS.setSil (fun m hm => ?_) (by show H'.next ≤ H'.next + 1; omega) rfl
              simp only [show ¬ m = H'.next by omega, if_false]
        · have hk' : k = x.mv.length := by omega
          simp only [List.length_map, ltF hklt, f1, f3, f34, f35, f36, hds, Cd.cd71, Tk.t71, base0, base1, base2, base3, Option.isNone_none, Option.isNone_some, Nat.reduceBEq, true_or, or_true, false_or, or_false, Nat.reduceLT, Nat.reduceMod, Nat.reducePow, rmaps, nsucc, List.flatten_cons, List.flatten_nil, Nat.reduceEqDiff, Nat.reduceLeDiff, Nat.reduceAdd, Nat.reduceMul, Nat.reduceSub, ↓reduceIte, reduceCtorEq, decide_true, decide_false]
          rw [hk', List.take_length] at hS
          rcases hS.g with ⟨h0, _⟩ | ⟨t, t1, t2, rfl, t4⟩
          · rw [h0] at hlS; simp at hlS; omega
          exact ⟨_, _, rfl, viewSys hS (by omega), FZ.sysV x, rfl⟩
end Go.Proofs.YtchpcjmgifnmdaaDoor

/- Walks: traces and sets are checked; the states after a trace, what a set can show. -/
namespace Go.Proofs.YtchpcjmgifnmdaaDoor
open Go Go.Proofs.YtchpcjmgifnmdaaDoor.Ab
set_option maxRecDepth 100000
set_option linter.unusedSimpArgs false

theorem nil_view {H : AH} : View H nilS nilS := (FZ.v _).view
theorem FZ.nilS : FZ nilS := FZ.v _
def oddB (x : Re) (e : Int) : Bool := !within e 0 (IntKind.i64.wrap (x.inp + x.out))
theorem odd109 (x : Re) (e : Int) : FCall Tryd.prog 109 [.v (.int .i64 e), .box (reL x)] (· = .v (.bool (oddB x e))) := by
  simp only [reL, mvsV]
  refine ACall.enter [] Cd.fn109 (by simp) ?_
  simp only [Cd.cd109, Tk.t109, base0, base1, base2, base3, Option.isNone_none, Option.isNone_some, Nat.reduceBEq, true_or, or_true, false_or, or_false, Nat.reduceLT, Nat.reduceMod, Nat.reducePow, rmaps, nsucc, List.flatten_cons, List.flatten_nil, Nat.reduceEqDiff, Nat.reduceLeDiff, Nat.reduceAdd, Nat.reduceMul, Nat.reduceSub, ↓reduceIte, reduceCtorEq, decide_true, decide_false]
  first | refine FCall.go (spans66 _ _ _) (FZs.v3 _ _ _) ?_ | refine FCall.go' (spans66 _ _ _) (FZs.v3 _ _ _) ?_ | refine FCall.goQ (spans66 _ _ _) (FZs.v3 _ _ _) ?_
  simp only [Cd.cd109, Tk.t109, base0, base1, base2, base3, Option.isNone_none, Option.isNone_some, Nat.reduceBEq, true_or, or_true, false_or, or_false, Nat.reduceLT, Nat.reduceMod, Nat.reducePow, rmaps, nsucc, List.flatten_cons, List.flatten_nil, Nat.reduceEqDiff, Nat.reduceLeDiff, Nat.reduceAdd, Nat.reduceMul, Nat.reduceSub, ↓reduceIte, reduceCtorEq, decide_true, decide_false]
  exact fin_v rfl
def ixI (l : List Int) (p : Int → Bool) : Option Nat := firstIx l.length fun i => p (l.getD i 0)
theorem index123 (l : List Int) (fn : FuncId) (cs : List AV) (p : Int → Bool) (hb : l.length < 2 ^ 40) (hz : FZs cs) (hf : ∀ x, FCall Tryd.prog fn (.v (.int .i64 x) :: cs) (· = .v (.bool (p x)))) :
    FCall Tryd.prog 123 [ints l, .fn (.func fn) [] cs] (· = .v (.int .i64 (match ixI l p with | some i => (i : Int) | none => -1))) := by
  simp only [ints]
  refine ACall.enter [] Cd.fn123 (by simp) ?_
  simp only [List.length_map, Cd.cd123, Tk.t123, base0, base1, base2, base3, Option.isNone_none, Option.isNone_some, Nat.reduceBEq, true_or, or_true, false_or, or_false, Nat.reduceLT, Nat.reduceMod, Nat.reducePow, rmaps, nsucc, List.flatten_cons, List.flatten_nil, Nat.reduceEqDiff, Nat.reduceLeDiff, Nat.reduceAdd, Nat.reduceMul, Nat.reduceSub, ↓reduceIte, reduceCtorEq, decide_true, decide_false]
  refine LWP.loop [] (fun m f H' => ∃ i, m = l.length - i ∧ (i ≤ l.length) ∧ (∀ j, j < i → p (l.getD j 0) = false) ∧ f.t 0 = .lst 1 (l.map fun x => [.v (.int .i64 x)]) .unk ∧ f.t 1 = .fn (.func fn) [] cs ∧ f.t 7 = .v (.int .i64 (l.length : Nat)) ∧ f.t 8 = .v (.int .i64 (i : Nat)) ∧ f.ds = [] ∧ H' = AH.none) ?_ ?_ (m := l.length - (0))
  · exact ⟨0, rfl, (by omega), (fun j hj => by omega), rfl, rfl, rfl, rfl, rfl, rfl⟩
  · rintro m f H' ⟨i, rfl, hi, hok, f0, f1, f7, f8, hds, rfl⟩
    by_cases hlt : i < l.length
    · simp only [List.length_map, ltT hlt, inR hlt, Int.toNat_natCast, getD_ints l i hlt, f0, f1, f7, f8, hds, Cd.cd123, Tk.t123, base0, base1, base2, base3, Option.isNone_none, Option.isNone_some, Nat.reduceBEq, true_or, or_true, false_or, or_false, Nat.reduceLT, Nat.reduceMod, Nat.reducePow, rmaps, nsucc, List.flatten_cons, List.flatten_nil, Nat.reduceEqDiff, Nat.reduceLeDiff, Nat.reduceAdd, Nat.reduceMul, Nat.reduceSub, ↓reduceIte, reduceCtorEq, decide_true, decide_false]
      refine (hf (l.getD i 0)).go (FZs.cons (FZ.v _) hz) ?_
      cases hp : p (l.getD i 0)
      · simp only [f0, f1, f7, f8, hds, Cd.cd123, Tk.t123, base0, base1, base2, base3, Option.isNone_none, Option.isNone_some, Nat.reduceBEq, true_or, or_true, false_or, or_false, Nat.reduceLT, Nat.reduceMod, Nat.reducePow, rmaps, nsucc, List.flatten_cons, List.flatten_nil, Nat.reduceEqDiff, Nat.reduceLeDiff, Nat.reduceAdd, Nat.reduceMul, Nat.reduceSub, ↓reduceIte, reduceCtorEq, decide_true, decide_false]
        refine ⟨_, by omega, i + 1, rfl, by omega, ?_⟩
        (repeat' apply And.intro) <;> first | rfl | (rw [wrapS (by omega)]) | omega | assumption | (exact allS hok hp)
      · simp only [f0, f1, f7, f8, hds, Cd.cd123, Tk.t123, base0, base1, base2, base3, Option.isNone_none, Option.isNone_some, Nat.reduceBEq, true_or, or_true, false_or, or_false, Nat.reduceLT, Nat.reduceMod, Nat.reducePow, rmaps, nsucc, List.flatten_cons, List.flatten_nil, Nat.reduceEqDiff, Nat.reduceLeDiff, Nat.reduceAdd, Nat.reduceMul, Nat.reduceSub, ↓reduceIte, reduceCtorEq, decide_true, decide_false]
        refine fin_v ?_
        rw [show ixI l p = some i from firstIx_some hlt hp hok]
    · have hk' : i = l.length := by omega
      simp only [List.length_map, ltF hlt, f0, f1, f7, f8, hds, Cd.cd123, Tk.t123, base0, base1, base2, base3, Option.isNone_none, Option.isNone_some, Nat.reduceBEq, true_or, or_true, false_or, or_false, Nat.reduceLT, Nat.reduceMod, Nat.reducePow, rmaps, nsucc, List.flatten_cons, List.flatten_nil, Nat.reduceEqDiff, Nat.reduceLeDiff, Nat.reduceAdd, Nat.reduceMul, Nat.reduceSub, ↓reduceIte, reduceCtorEq, decide_true, decide_false]
      refine fin_v ?_
      rw [show ixI l p = none from firstIx_none (by rw [← hk']; exact hok)]
theorem ixI_any (l : List Int) (p : Int → Bool) : decide ((match ixI l p with | some i => (i : Int) | none => -1) ≥ 0) = l.any p := by
  unfold ixI
  cases h : firstIx l.length (fun i => p (l.getD i 0)) with
  | none =>
    rw [firstIx_none_iff] at h
    rw [List.any_eq_false.mpr]
    · rfl
    · intro x hx
      obtain ⟨i, hi, rfl⟩ := mem_getD hx
      have := h i hi
      show ¬ p (l.getD i 0) = true
      rw [this]; simp
  | some i =>
    have h1 := List.find?_some h
    have h2 := List.mem_of_find?_eq_some h
    have hi := List.mem_range.mp h2
    rw [List.any_eq_true.mpr ⟨_, getD_mem hi, h1⟩]
    simp
theorem contains110 (l : List Int) (fn : FuncId) (cs : List AV) (p : Int → Bool) (hb : l.length < 2 ^ 40) (hz : FZs cs) (hf : ∀ x, FCall Tryd.prog fn (.v (.int .i64 x) :: cs) (· = .v (.bool (p x)))) :
    FCall Tryd.prog 110 [ints l, .fn (.func fn) [] cs] (· = .v (.bool (l.any p))) := by
  refine ACall.enter [] Cd.fn110 (by simp) ?_
  simp only [Cd.cd110, Tk.t110, base0, base1, base2, base3, Option.isNone_none, Option.isNone_some, Nat.reduceBEq, true_or, or_true, false_or, or_false, Nat.reduceLT, Nat.reduceMod, Nat.reducePow, rmaps, nsucc, List.flatten_cons, List.flatten_nil, Nat.reduceEqDiff, Nat.reduceLeDiff, Nat.reduceAdd, Nat.reduceMul, Nat.reduceSub, ↓reduceIte, reduceCtorEq, decide_true, decide_false]
  refine (index123 l fn cs p hb hz hf).go (FZs.two (FZ.ints _) (FZ.fn FZs.nil hz)) ?_
  simp only [Cd.cd110, Tk.t110, base0, base1, base2, base3, Option.isNone_none, Option.isNone_some, Nat.reduceBEq, true_or, or_true, false_or, or_false, Nat.reduceLT, Nat.reduceMod, Nat.reducePow, rmaps, nsucc, List.flatten_cons, List.flatten_nil, Nat.reduceEqDiff, Nat.reduceLeDiff, Nat.reduceAdd, Nat.reduceMul, Nat.reduceSub, ↓reduceIte, reduceCtorEq, decide_true, decide_false]
  exact fin_v (by rw [← ixI_any])
def trErr (x : Re) (tr : List Int) : Int := if 40 < tr.length then 2 else if tr.any (oddB x) then 3 else 0
theorem traceErr77 (x : Re) (tr : List Int) : FCall Tryd.prog 77 [reV x, ints tr] (· = .v (.int .i64 (trErr x tr))) := by
  have hb : FZ (.box (reL x)) := FZ.box (FZs.reL x)
  have hbe : AV.box (reL x) = .box [.v (.int .i64 x.st), .v (.int .i64 x.s0), .v (.int .i64 x.inp), .v (.int .i64 x.out), .lst 4 (x.mv.map mvR) .unk] := rfl
  simp only [reV, reL, mvsV]
  refine ACall.enter [] Cd.fn77 (by simp) ?_
  by_cases hl : 40 < tr.length
  · simp only [ints, List.length_map, show decide (((tr.length : Nat) : Int) > 40) = true from decide_eq_true (by omega), Cd.cd77, Tk.t77, base0, base1, base2, base3, Option.isNone_none, Option.isNone_some, Nat.reduceBEq, true_or, or_true, false_or, or_false, Nat.reduceLT, Nat.reduceMod, Nat.reducePow, rmaps, nsucc, List.flatten_cons, List.flatten_nil, Nat.reduceEqDiff, Nat.reduceLeDiff, Nat.reduceAdd, Nat.reduceMul, Nat.reduceSub, ↓reduceIte, reduceCtorEq, decide_true, decide_false]
    exact fin_v (by rw [trErr, if_pos hl])
  · simp only [ints, List.length_map, show decide (((tr.length : Nat) : Int) > 40) = false from decide_eq_false (by omega), Cd.cd77, Tk.t77, base0, base1, base2, base3, Option.isNone_none, Option.isNone_some, Nat.reduceBEq, true_or, or_true, false_or, or_false, Nat.reduceLT, Nat.reduceMod, Nat.reducePow, rmaps, nsucc, List.flatten_cons, List.flatten_nil, Nat.reduceEqDiff, Nat.reduceLeDiff, Nat.reduceAdd, Nat.reduceMul, Nat.reduceSub, ↓reduceIte, reduceCtorEq, decide_true, decide_false]
    refine (contains110 tr 109 [.box (reL x)] (oddB x) (by omega) (FZs.one hb) (fun e => odd109 x e)).go (FZs.two (FZ.ints _) (FZ.fn FZs.nil (FZs.one hb))) ?_
    simp only [Cd.cd77, Tk.t77, base0, base1, base2, base3, Option.isNone_none, Option.isNone_some, Nat.reduceBEq, true_or, or_true, false_or, or_false, Nat.reduceLT, Nat.reduceMod, Nat.reducePow, rmaps, nsucc, List.flatten_cons, List.flatten_nil, Nat.reduceEqDiff, Nat.reduceLeDiff, Nat.reduceAdd, Nat.reduceMul, Nat.reduceSub, ↓reduceIte, reduceCtorEq, decide_true, decide_false]
    first | refine FCall.go (unless61 _ _) (FZs.v2 _ _) ?_ | refine FCall.go' (unless61 _ _) (FZs.v2 _ _) ?_ | refine FCall.goQ (unless61 _ _) (FZs.v2 _ _) ?_
    simp only [Cd.cd77, Tk.t77, base0, base1, base2, base3, Option.isNone_none, Option.isNone_some, Nat.reduceBEq, true_or, or_true, false_or, or_false, Nat.reduceLT, Nat.reduceMod, Nat.reducePow, rmaps, nsucc, List.flatten_cons, List.flatten_nil, Nat.reduceEqDiff, Nat.reduceLeDiff, Nat.reduceAdd, Nat.reduceMul, Nat.reduceSub, ↓reduceIte, reduceCtorEq, decide_true, decide_false]
    refine fin_v ?_
    rw [trErr, if_neg hl]
    cases tr.any (oddB x) <;> rfl
theorem trErr_ok {x : Re} (hx : Ok x) {tr : List Int} (h : trErr x tr = 0) : tr.length ≤ 40 ∧ ∀ e ∈ tr, 0 ≤ e ∧ e ≤ (silc x : Int) := by
  unfold trErr at h
  by_cases h1 : 40 < tr.length
  · rw [if_pos h1] at h; simp at h
  rw [if_neg h1] at h
  cases h2 : tr.any (oddB x)
  · refine ⟨by omega, fun e he => ?_⟩
    have := List.any_eq_false.mp h2 e he
    simp only [oddB, Bool.not_eq_true', Bool.not_eq_false, silc_eq hx] at this
    exact within_iff.mp this
  · rw [h2] at h; simp at h
def afterR (x : Re) (tr : List Int) : AV := if errR x ≠ 0 then .tup [nilS, .v (.int .i64 (errR x))] else if trErr x tr ≠ 0 then .tup [nilS, .v (.int .i64 (trErr x tr))] else .tup [setV (alongM x tr), .v (.int .i64 0)]
theorem afterTrace29 (x : Re) (tr : List Int) : FCall Tryd.prog 29 [reV x, ints tr] (· = afterR x tr) := by
  simp only [reV, reL, mvsV]
  refine ACall.enter [] Cd.fn29 (by simp) ?_
  simp only [Cd.cd29, Tk.t29, base0, base1, base2, base3, Option.isNone_none, Option.isNone_some, Nat.reduceBEq, true_or, or_true, false_or, or_false, Nat.reduceLT, Nat.reduceMod, Nat.reducePow, rmaps, nsucc, List.flatten_cons, List.flatten_nil, Nat.reduceEqDiff, Nat.reduceLeDiff, Nat.reduceAdd, Nat.reduceMul, Nat.reduceSub, ↓reduceIte, reduceCtorEq, decide_true, decide_false]
  first | refine FCall.go (sysErr70 x) (FZs.one (FZ.reV x)) ?_ | refine FCall.go' (sysErr70 x) (FZs.one (FZ.reV x)) ?_ | refine FCall.goQ (sysErr70 x) (FZs.one (FZ.reV x)) ?_
  by_cases h1 : errR x = 0
  · have hx := ok_of_check h1
    simp only [show (errR x != 0) = false from by rw [h1]; rfl, Cd.cd29, Tk.t29, base0, base1, base2, base3, Option.isNone_none, Option.isNone_some, Nat.reduceBEq, true_or, or_true, false_or, or_false, Nat.reduceLT, Nat.reduceMod, Nat.reducePow, rmaps, nsucc, List.flatten_cons, List.flatten_nil, Nat.reduceEqDiff, Nat.reduceLeDiff, Nat.reduceAdd, Nat.reduceMul, Nat.reduceSub, ↓reduceIte, reduceCtorEq, decide_true, decide_false]
    first | refine FCall.go (traceErr77 x tr) (FZs.two (FZ.reV x) (FZ.ints _)) ?_ | refine FCall.go' (traceErr77 x tr) (FZs.two (FZ.reV x) (FZ.ints _)) ?_ | refine FCall.goQ (traceErr77 x tr) (FZs.two (FZ.reV x) (FZ.ints _)) ?_
    by_cases h2 : trErr x tr = 0
    · obtain ⟨h3, h4⟩ := trErr_ok hx h2
      simp only [show (trErr x tr != 0) = false from by rw [h2]; rfl, Cd.cd29, Tk.t29, base0, base1, base2, base3, Option.isNone_none, Option.isNone_some, Nat.reduceBEq, true_or, or_true, false_or, or_false, Nat.reduceLT, Nat.reduceMod, Nat.reducePow, rmaps, nsucc, List.flatten_cons, List.flatten_nil, Nat.reduceEqDiff, Nat.reduceLeDiff, Nat.reduceAdd, Nat.reduceMul, Nat.reduceSub, ↓reduceIte, reduceCtorEq, decide_true, decide_false]
      first | refine FCall.go (system71 x hx) (FZs.one (FZ.reV x)) ?_ | refine FCall.go' (system71 x hx) (FZs.one (FZ.reV x)) ?_ | refine FCall.goQ (system71 x hx) (FZs.one (FZ.reV x)) ?_
      simp only [Cd.cd29, Tk.t29, base0, base1, base2, base3, Option.isNone_none, Option.isNone_some, Nat.reduceBEq, true_or, or_true, false_or, or_false, Nat.reduceLT, Nat.reduceMod, Nat.reducePow, rmaps, nsucc, List.flatten_cons, List.flatten_nil, Nat.reduceEqDiff, Nat.reduceLeDiff, Nat.reduceAdd, Nat.reduceMul, Nat.reduceSub, ↓reduceIte, reduceCtorEq, decide_true, decide_false]
      first | refine FCall.go (along78 x hx tr (by omega) (fun e he => (h4 e he).1)) (FZs.two (FZ.sysV x) (FZ.ints _)) ?_ | refine FCall.go' (along78 x hx tr (by omega) (fun e he => (h4 e he).1)) (FZs.two (FZ.sysV x) (FZ.ints _)) ?_ | refine FCall.goQ (along78 x hx tr (by omega) (fun e he => (h4 e he).1)) (FZs.two (FZ.sysV x) (FZ.ints _)) ?_
      simp only [Cd.cd29, Tk.t29, base0, base1, base2, base3, Option.isNone_none, Option.isNone_some, Nat.reduceBEq, true_or, or_true, false_or, or_false, Nat.reduceLT, Nat.reduceMod, Nat.reducePow, rmaps, nsucc, List.flatten_cons, List.flatten_nil, Nat.reduceEqDiff, Nat.reduceLeDiff, Nat.reduceAdd, Nat.reduceMul, Nat.reduceSub, ↓reduceIte, reduceCtorEq, decide_true, decide_false]
      first | refine FCall.go (states62 _ (hx.pw (along_lt hx tr))) (FZs.v1 _) ?_ | refine FCall.go' (states62 _ (hx.pw (along_lt hx tr))) (FZs.v1 _) ?_ | refine FCall.goQ (states62 _ (hx.pw (along_lt hx tr))) (FZs.v1 _) ?_
      simp only [Cd.cd29, Tk.t29, base0, base1, base2, base3, Option.isNone_none, Option.isNone_some, Nat.reduceBEq, true_or, or_true, false_or, or_false, Nat.reduceLT, Nat.reduceMod, Nat.reducePow, rmaps, nsucc, List.flatten_cons, List.flatten_nil, Nat.reduceEqDiff, Nat.reduceLeDiff, Nat.reduceAdd, Nat.reduceMul, Nat.reduceSub, ↓reduceIte, reduceCtorEq, decide_true, decide_false]
      refine ⟨_, _, rfl, Views.tup (Views.cons (FZ.setV _).view (Views.cons (FZ.v _).view Views.nil)), FZ.tup (FZs.two (FZ.setV _) (FZ.v _)), ?_⟩
      rw [afterR, if_neg (by simpa using h1), if_neg (by simpa using h2)]
    · simp only [bneT h2, Cd.cd29, Tk.t29, base0, base1, base2, base3, Option.isNone_none, Option.isNone_some, Nat.reduceBEq, true_or, or_true, false_or, or_false, Nat.reduceLT, Nat.reduceMod, Nat.reducePow, rmaps, nsucc, List.flatten_cons, List.flatten_nil, Nat.reduceEqDiff, Nat.reduceLeDiff, Nat.reduceAdd, Nat.reduceMul, Nat.reduceSub, ↓reduceIte, reduceCtorEq, decide_true, decide_false]
      refine ⟨_, _, rfl, Views.tup (Views.cons nil_view (Views.cons (FZ.v _).view Views.nil)), FZ.tup (FZs.two FZ.nilS (FZ.v _)), ?_⟩
      rw [afterR, if_neg (by simpa using h1), if_pos h2]
  · simp only [bneT h1, Cd.cd29, Tk.t29, base0, base1, base2, base3, Option.isNone_none, Option.isNone_some, Nat.reduceBEq, true_or, or_true, false_or, or_false, Nat.reduceLT, Nat.reduceMod, Nat.reducePow, rmaps, nsucc, List.flatten_cons, List.flatten_nil, Nat.reduceEqDiff, Nat.reduceLeDiff, Nat.reduceAdd, Nat.reduceMul, Nat.reduceSub, ↓reduceIte, reduceCtorEq, decide_true, decide_false]
    refine ⟨_, _, rfl, Views.tup (Views.cons nil_view (Views.cons (FZ.v _).view Views.nil)), FZ.tup (FZs.two FZ.nilS (FZ.v _)), ?_⟩
    rw [afterR, if_pos h1]
end Go.Proofs.YtchpcjmgifnmdaaDoor

/- Pairs of sets as keys of a map. -/
namespace Go.Proofs.YtchpcjmgifnmdaaDoor
open Go Go.Proofs.YtchpcjmgifnmdaaDoor.Ab
set_option maxRecDepth 100000
set_option linter.unusedSimpArgs false

theorem kt107' : Tryd.prog.keyType 107 = true := by kernel_rfl
theorem tl107 : Tryd.prog.tiled 5 107 = true := by kernel_rfl
theorem kta107 : Tryd.prog.keyTypeAt 5 107 = true := by kernel_rfl
theorem wd107 : (match Tryd.prog.underlying 107 with | some (.array _ _) | some (.struct _) => true | _ => false) = true := by kernel_rfl
theorem law107 : WideMaps.KeyLaw Tryd.prog 107 := deep_law (m := 5) (by omega) kta107 tl107 wd107
def keyV (a b : Nat) : Value := .agg #[.int .u64 (a : Int), .int .u64 (b : Int)]
theorem cl107 : Tryd.prog.cellsOf 107 = 2 := by kernel_rfl
theorem cl105 : Tryd.prog.cellsOf 105 = 1 := by kernel_rfl
theorem ts : ∃ n, Tryd.prog.types.size = n + 1 := ⟨Tryd.prog.types.size - 1, by kernel_rfl⟩
theorem und107 : ∃ f g : Field, Tryd.prog.underlying 107 = some (.struct #[f, g]) ∧ f.type = 105 ∧ g.type = 105 ∧ f.offset = 0 ∧ g.offset = 1 ∧ (f.name != "_") = true ∧ (g.name != "_") = true := ⟨_, _, Tryd.underlying107, rfl, rfl, rfl, rfl, rfl, rfl⟩
theorem und105 : Tryd.prog.underlying 105 = some (.int .u64) := by rw [Tryd.underlying105]
theorem lits105 (n a : Nat) (ha : a < 1024) : Tryd.prog.keyLits (n + 1) 105 [.int .u64 (a : Int)] = some [.int .u64 (a : Int)] := by
  unfold Program.keyLits
  simp only [und105, true_and]
  rw [if_pos]
  simp only [Lit.wf, Bool.and_eq_true, decide_eq_true_eq]
  have h1 : IntKind.u64.min = 0 := by decide
  have h2 : IntKind.u64.max = 18446744073709551615 := by decide
  rw [h1, h2]; omega
theorem key_some (a b : Nat) (ha : a < 1024) (hb : b < 1024) : (keyOf Tryd.prog 107 (keyV a b)).isSome = true := by
  obtain ⟨f, g, hu, h1, h2, h3, h4, h5, h6⟩ := und107
  obtain ⟨n, hn⟩ := ts
  have hf : (keyV a b).formed Tryd.prog 107 = true := by
    unfold keyV Value.formed
    rw [hu, cl107]; rfl
  have hl : Tryd.prog.keyLits (Tryd.prog.types.size + 1) 107 (keyV a b).cells.toList = some [.int .u64 (a : Int), .int .u64 (b : Int)] := by
    unfold Program.keyLits
    simp only [hu, hn, keyV, Value.cells, List.length_cons, List.length_nil, cl107, cl105, h1, h2, h3, h4, h5, h6, Array.all_eq_true_iff_forall_mem, List.mapM_cons, List.mapM_nil, List.drop_zero, List.drop_succ_cons, List.take_succ_cons, List.take_zero, lits105 n a ha, lits105 n b hb, Option.pure_def, Option.bind_eq_bind, Option.bind_some]
    simp [bne_iff_ne.mp h5, bne_iff_ne.mp h6]
  unfold keyOf
  rw [hu]
  simp only [kt107', hf, Bool.and_self, if_true, hl, Option.map_some, Option.isSome_some]
theorem mt101 : mapT Tryd.prog 101 = some (107, 4) := by unfold mapT; rw [Tryd.underlying101]
theorem zv4 : zvA Tryd.prog 4 = some (.bool false) := by kernel_rfl
end Go.Proofs.YtchpcjmgifnmdaaDoor

/- Walks: two systems compared: the pairs that are met. -/
namespace Go.Proofs.YtchpcjmgifnmdaaDoor
open Go Go.Proofs.YtchpcjmgifnmdaaDoor.Ab
set_option maxRecDepth 100000
set_option linter.unusedSimpArgs false

def enP (p : Nd) : List AV := [.v (.int .u64 (p.x : Nat)), .v (.int .u64 (p.y : Nat))]
theorem FZs.enP (p : Nd) : FZs (enP p) := FZs.v2 _ _
def entM (p : Nd) : Value × AV := (keyV p.x p.y, .v (.bool true))
theorem keyV_inj {a b c d : Nat} (h : keyV a b = keyV c d) : a = c ∧ b = d := by
  unfold keyV at h
  simp only [Value.agg.injEq, Array.mk.injEq, List.cons.injEq, Value.int.injEq, true_and, and_true] at h
  omega
theorem find_ent (a b : Nat) : ∀ l : List Nd, findM (keyV a b) (l.map entM) = if metN l a b then some (.v (.bool true)) else none
  | [] => rfl
  | p :: l => by
    rw [List.map_cons, findM, find_ent a b l]
    unfold metN entM
    rw [List.any_cons]
    by_cases h : p.x = a ∧ p.y = b
    · obtain ⟨rfl, rfl⟩ := h
      rw [if_pos rfl]; simp
    · rw [if_neg fun e => h (keyV_inj e)]
      have : (decide (p.x = a) && decide (p.y = b)) = false := by
        simp only [Bool.and_eq_false_iff, decide_eq_false_iff_not]
        by_cases h1 : p.x = a
        · exact .inr fun h2 => h ⟨h1, h2⟩
        · exact .inl h1
      rw [this, Bool.false_or]
theorem map_ok {x y : Re} (hx : Ok x) (hy : Ok y) {l : List Nd} (h : GoodN x y l) {a b : Nat} (ha : a < 1024) (hb : b < 1024) : MapOk Tryd.prog 107 (keyV a b) (l.map entM) := by
  refine ⟨law107, key_some a b ha hb, fun p hp => ?_, ?_⟩
  · obtain ⟨q, hq, rfl⟩ := List.mem_map.mp hp
    have := h.lt q hq
    exact key_some _ _ (hx.pw this.1) (hy.pw this.2)
  · rw [List.map_map]
    have := h.nd
    rw [List.Nodup, List.pairwise_map] at this ⊢
    refine this.imp fun {p q} hne he => hne ?_
    have := keyV_inj he
    rw [this.1, this.2]
theorem rawKP (a b : Int) : rawK (.agg [.v (.int .u64 a), .v (.int .u64 b)]) = some (.agg #[.int .u64 a, .int .u64 b]) := rfl
/-- the three lists, as they grow -/
def Grow3 (H : AH) (aP aF aB : AV) (l : List Nd) (fr bys : List Int) : Prop :=
  (l = [] ∧ fr = [] ∧ bys = [] ∧ aP = nilS ∧ aF = nilS ∧ aB = nilS) ∨
  ∃ tp tf tb, (tp < H.next ∧ tf < H.next ∧ tb < H.next) ∧ (tp ≠ tf ∧ tp ≠ tb ∧ tf ≠ tb) ∧ aP = .lst 2 (l.map enP) (.live tp) ∧ aF = .lst 1 (fr.map intR) (.live tf) ∧ aB = .lst 1 (bys.map intR) (.live tb) ∧
    H.tip tp = some l.length ∧ H.tip tf = some fr.length ∧ H.tip tb = some bys.length
/-- two systems compared, as the program keeps it: in block r, its map m -/
structure CmpO (x y : Re) (H : AH) (r m : Nat) (aP aF aB : AV) (l : List Nd) (fr bys : List Int) : Prop where
  o : H.own r = some (.cells [sysV x, sysV y, aP, aF, aB, .map m])
  mp : H.own m = some (.map (l.map entM))
  g : Grow3 H aP aF aB l fr bys
  rm : r ≠ m ∧ r < H.next ∧ m < H.next
theorem Grow3.tips {H H' : AH} {aP aF aB : AV} {l : List Nd} {fr bys : List Int} (h : Grow3 H aP aF aB l fr bys) (hn : H.next ≤ H'.next) (ht : ∀ t, t < H.next → H'.tip t = H.tip t) : Grow3 H' aP aF aB l fr bys := by
  rcases h with h | ⟨tp, tf, tb, ⟨h1, h2, h3⟩, h4, h5, h6, h7, h8, h9, h10⟩
  · exact .inl h
  · exact .inr ⟨tp, tf, tb, ⟨by omega, by omega, by omega⟩, h4, h5, h6, h7, by rw [ht _ h1]; exact h8, by rw [ht _ h2]; exact h9, by rw [ht _ h3]; exact h10⟩
theorem CmpO.kp {x y : Re} {H H' : AH} {r m : Nat} {aP aF aB : AV} {l : List Nd} {fr bys : List Int} (h : CmpO x y H r m aP aF aB l fr bys) (hk : Kp H H') : CmpO x y H' r m aP aF aB l fr bys :=
  ⟨(hk.ow r h.rm.2.1).trans h.o, (hk.ow m h.rm.2.2).trans h.mp, h.g.tips hk.nx hk.tp, h.rm.1, Nat.lt_of_lt_of_le h.rm.2.1 hk.nx, Nat.lt_of_lt_of_le h.rm.2.2 hk.nx⟩
set_option maxHeartbeats 4000000 in
theorem add101 (x y : Re) (hx : Ok x) (hy : Ok y) (H : AH) (r m : Nat) (aP aF aB : AV) (l : List Nd) (fr bys : List Int) (hC : CmpO x y H r m aP aF aB l fr bys) (hG : GoodN x y l) (hf : fr.length = l.length) (hb : bys.length = l.length) (a b : Nat) (ha : a < 1024) (hbb : b < 1024) (i e : Int) (tr : List Int) :
    ACall Tryd.prog 101 [.ptr r 0, .agg [.v (.int .u64 (a : Nat)), .v (.int .u64 (b : Nat))], .v (.int .i64 i), .v (.int .i64 e)] H (fun out H' => out = .ret (.tup []) ∧ (∃ aP' aF' aB', if metN l a b then CmpO x y H' r m aP' aF' aB' l fr bys else CmpO x y H' r m aP' aF' aB' (l ++ [⟨a, b, tr⟩]) (fr ++ [i]) (bys ++ [e])) ∧ H.next ≤ H'.next ∧ ∀ n, n < H.next → n ≠ r → n ≠ m → H'.own n = H.own n) := by
  have ho := hC.o
  have hm := hC.mp
  have hlen := hG.len hx hy
  have hok := map_ok hx hy hG ha hbb
  have hfi := find_ent a b l
  obtain ⟨hrm, hrn, hmn⟩ := hC.rm
  have hmr : (r = m) = False := by simp; exact hrm
  have hmr' : (m = r) = False := by simp; exact fun h => hrm h.symm
  unfold keyV at hok hfi
  refine ACall.enter [] Cd.fn101 (by simp) ?_
  cases hmet : metN l a b
  · rw [hmet] at hfi
    have hput : putM (Value.agg #[.int .u64 (a : Int), .int .u64 (b : Int)]) (.v (.bool true)) (l.map entM) = (l ++ [(⟨a, b, tr⟩ : Nd)]).map entM := by unfold putM; rw [hfi, List.map_append]; rfl
    rcases hC.g with ⟨rfl, rfl, rfl, rfl, rfl, rfl⟩ | ⟨tp, tf, tb, ⟨h1, h2, h3⟩, ⟨h4, h5, h6⟩, rfl, rfl, rfl, h8, h9, h10⟩
    · simp only [List.map_nil, List.nil_append] at hok hfi hput
      simp only [List.map_nil] at hm
      have n1 : (H.next + 1 = H.next) = False := by simp
      simp only [nilS, ho, hm, rawKP, mt101, zv4, hok, hfi, Option.getD_none, hput, hmr, hmr', show roomA 16 1 = true from rfl, show roomA 8 1 = true from rfl, implies_true, Cd.cd101, Tk.t101, base0, base1, base2, base3, Option.isNone_none, Option.isNone_some, Nat.reduceBEq, true_or, or_true, false_or, or_false, Nat.reduceLT, Nat.reduceMod, Nat.reducePow, rmaps, nsucc, List.flatten_cons, List.flatten_nil, Nat.reduceEqDiff, Nat.reduceLeDiff, Nat.reduceAdd, Nat.reduceMul, Nat.reduceSub, ↓reduceIte, reduceCtorEq, decide_true, decide_false]
      refine ⟨⟨.lst 2 ([(⟨a, b, tr⟩ : Nd)].map enP) (.live H.next), .lst 1 ([i].map intR) (.live (H.next + 1)), .lst 1 ([e].map intR) (.live (H.next + 1 + 1)), ⟨by simp [enP, intR], by simp [show ¬ m = r by simpa using hmr'], .inr ⟨H.next, H.next + 1, H.next + 1 + 1, ⟨by show H.next < H.next + 1 + 1 + 1; omega, by show H.next + 1 < H.next + 1 + 1 + 1; omega, by show H.next + 1 + 1 < H.next + 1 + 1 + 1; omega⟩, ⟨by omega, by omega, by omega⟩, rfl, rfl, rfl, by simp, by simp, by simp⟩, hrm, by show r < H.next + 1 + 1 + 1; omega, by show m < H.next + 1 + 1 + 1; omega⟩⟩, by show H.next ≤ H.next + 1 + 1 + 1; omega, fun n hn h1 h2 => by simp [h1, h2]⟩
    · have e1 : (tf = tp) = False := by simp; omega
      have e2 : (tb = tp) = False := by simp; omega
      have e3 : (tb = tf) = False := by simp; omega
      have e4 : (tp = tf) = False := by simp; omega
      have e5 : (tp = tb) = False := by simp; omega
      have e6 : (tf = tb) = False := by simp; omega
      simp only [ho, hm, rawKP, mt101, zv4, hok, hfi, Option.getD_none, hput, hmr, hmr', h8, h9, h10, List.length_map, hf, hb, room_of (by_ := 16) (n := l.length + 1) (by omega) (by omega), room_of (by_ := 8) (n := l.length + 1) (by omega) (by omega), e1, e2, e3, e4, e5, e6, implies_true, Cd.cd101, Tk.t101, base0, base1, base2, base3, Option.isNone_none, Option.isNone_some, Nat.reduceBEq, true_or, or_true, false_or, or_false, Nat.reduceLT, Nat.reduceMod, Nat.reducePow, rmaps, nsucc, List.flatten_cons, List.flatten_nil, Nat.reduceEqDiff, Nat.reduceLeDiff, Nat.reduceAdd, Nat.reduceMul, Nat.reduceSub, ↓reduceIte, reduceCtorEq, decide_true, decide_false]
      refine ⟨⟨.lst 2 ((l ++ [(⟨a, b, tr⟩ : Nd)]).map enP) (.live tp), .lst 1 ((fr ++ [i]).map intR) (.live tf), .lst 1 ((bys ++ [e]).map intR) (.live tb), ⟨by simp [enP, intR], by simp [show ¬ m = r by simpa using hmr'], .inr ⟨tp, tf, tb, ⟨h1, h2, h3⟩, ⟨by omega, by omega, by omega⟩, rfl, rfl, rfl, by simp [e4, e5], by simp [hf, e6], by simp [hb]⟩, hrm, hrn, hmn⟩⟩, by simp, fun n hn h1 h2 => by simp [h1, h2]⟩
  · rw [hmet] at hfi
    simp only [ho, hm, rawKP, mt101, zv4, hok, hfi, Option.getD_some, Cd.cd101, Tk.t101, base0, base1, base2, base3, Option.isNone_none, Option.isNone_some, Nat.reduceBEq, true_or, or_true, false_or, or_false, Nat.reduceLT, Nat.reduceMod, Nat.reducePow, rmaps, nsucc, List.flatten_cons, List.flatten_nil, Nat.reduceEqDiff, Nat.reduceLeDiff, Nat.reduceAdd, Nat.reduceMul, Nat.reduceSub, ↓reduceIte, reduceCtorEq, decide_true, decide_false]
    exact ⟨⟨aP, aF, aB, hC⟩, Nat.le_refl _, fun _ _ _ _ => trivial⟩
end Go.Proofs.YtchpcjmgifnmdaaDoor

/- Walks: two systems compared. -/
namespace Go.Proofs.YtchpcjmgifnmdaaDoor
open Go Go.Proofs.YtchpcjmgifnmdaaDoor.Ab
set_option maxRecDepth 100000
set_option linter.unusedSimpArgs false

theorem ACall.thn {P : Program} {m : FuncId} {args : List AV} {H : AH} {Q : AOut → AH → Prop} {mu : List Nat} {Kt : Kont} {dst : Option Nat} {os : List COp} {f : AF} (h : ACall P m args H Q) (h' : ∀ out H', Q out H' → ∃ v, out = .ret v ∧ cops P mu Kt os (f.put dst v) H') : ACall P m args H (callK P mu Kt dst os f) :=
  h.mono fun out H' hq => by
    obtain ⟨v, rfl, h1⟩ := h' out H' hq
    exact h1
theorem ACall.thn' {P : Program} {m : FuncId} {args : List AV} {H : AH} {Q : AOut → AH → Prop} {mu : List Nat} {Kt : Kont} {fm : AF} {dst : Option Nat} {ds : List DOp} {f : AF} {pd : List (Nat × Nat × ABlk)} {rd : List Nat} (h : ACall P m args H Q) (h' : ∀ out H', Q out H' → ∃ v, out = .ret v ∧ dops P mu Kt fm ds (f.put dst v) H' pd rd) : ACall P m args H (dcallK P mu Kt fm dst ds f pd rd) :=
  h.mono fun out H' hq => by
    obtain ⟨v, rfl, h1⟩ := h' out H' hq
    exact h1
theorem failsAt_lt {x y : Re} {a b e : Nat} (h : e < x.inp.toNat) : failsAt x y a b e = false := by
  unfold failsAt shw
  rw [decide_eq_false (by omega)]; rfl
def failsV (o : Option Nat) : AV := match o with
  | some e => .tup [.v (.int .i64 (e : Nat)), .v (.bool true)]
  | none => .tup [.v (.int .i64 0), .v (.bool false)]
theorem fails87 (x y : Re) (hx : Ok x) (hy : Ok y) (H : AH) (r m : Nat) (aP aF aB : AV) (l : List Nd) (fr bys : List Int) (hC : CmpO x y H r m aP aF aB l fr bys) (a b : Nat) (ha : a < 2 ^ nst x) (hb : b < 2 ^ nst y) :
    ACall Tryd.prog 87 [.ptr r 0, .agg [.v (.int .u64 (a : Nat)), .v (.int .u64 (b : Nat))]] H (fun out H' => out = .ret (failsV (failsN x y a b)) ∧ H' = H) := by
  have ho := hC.o
  have hinp := hx.inp
  have hsc := silc_le hx
  refine ACall.enter [] Cd.fn87 (by simp) ?_
  simp only [ho, box_eq, boxV, Cd.cd87, Tk.t87, base0, base1, base2, base3, Option.isNone_none, Option.isNone_some, Nat.reduceBEq, true_or, or_true, false_or, or_false, Nat.reduceLT, Nat.reduceMod, Nat.reducePow, rmaps, nsucc, List.flatten_cons, List.flatten_nil, Nat.reduceEqDiff, Nat.reduceLeDiff, Nat.reduceAdd, Nat.reduceMul, Nat.reduceSub, ↓reduceIte, reduceCtorEq, decide_true, decide_false]
  refine LWP.loop [] (fun m f H' => ∃ e, m = silc x + 1 - e ∧ (x.inp.toNat ≤ e ∧ e ≤ silc x + 1) ∧ (∀ j, j < e → failsAt x y a b j = false) ∧ f.t 0 = .ptr r 0 ∧ f.t 3 = .box [.v (.int .u64 (a : Nat)), .v (.int .u64 (b : Nat))] ∧ f.t 6 = .v (.int .i64 (e : Nat)) ∧ f.ds = [] ∧ H' = H) ?_ ?_ (m := silc x + 1 - (x.inp.toNat))
  · exact ⟨x.inp.toNat, rfl, (by omega), (fun j hj => failsAt_lt hj), rfl, rfl, by simp [upd]; omega, rfl, rfl⟩
  · rintro m f H' ⟨e, rfl, hi, hz, f0, f3, f6, hds, rfl⟩
    simp only [ho, f0, f3, f6, hds, Cd.cd87, Tk.t87, base0, base1, base2, base3, Option.isNone_none, Option.isNone_some, Nat.reduceBEq, true_or, or_true, false_or, or_false, Nat.reduceLT, Nat.reduceMod, Nat.reducePow, rmaps, nsucc, List.flatten_cons, List.flatten_nil, Nat.reduceEqDiff, Nat.reduceLeDiff, Nat.reduceAdd, Nat.reduceMul, Nat.reduceSub, ↓reduceIte, reduceCtorEq, decide_true, decide_false]
    first | refine FCall.go (silence73 x hx) (FZs.one (FZ.sysV x)) ?_ | refine FCall.go' (silence73 x hx) (FZs.one (FZ.sysV x)) ?_ | refine FCall.goQ (silence73 x hx) (FZs.one (FZ.sysV x)) ?_
    by_cases hlt : e ≤ silc x
    · simp only [ho, show decide (((e : Nat) : Int) ≤ ((silc x : Nat) : Int)) = true from decide_eq_true (by omega), f0, f3, f6, hds, Cd.cd87, Tk.t87, base0, base1, base2, base3, Option.isNone_none, Option.isNone_some, Nat.reduceBEq, true_or, or_true, false_or, or_false, Nat.reduceLT, Nat.reduceMod, Nat.reducePow, rmaps, nsucc, List.flatten_cons, List.flatten_nil, Nat.reduceEqDiff, Nat.reduceLeDiff, Nat.reduceAdd, Nat.reduceMul, Nat.reduceSub, ↓reduceIte, reduceCtorEq, decide_true, decide_false]
      first | refine FCall.go (shows80 x hx a e ha) (FZs.three (FZ.sysV x) (FZ.v _) (FZ.v _)) ?_ | refine FCall.go' (shows80 x hx a e ha) (FZs.three (FZ.sysV x) (FZ.v _) (FZ.v _)) ?_ | refine FCall.goQ (shows80 x hx a e ha) (FZs.three (FZ.sysV x) (FZ.v _) (FZ.v _)) ?_
      cases h1 : shw x a e
      · simp only [ho, f0, f3, f6, hds, Cd.cd87, Tk.t87, base0, base1, base2, base3, Option.isNone_none, Option.isNone_some, Nat.reduceBEq, true_or, or_true, false_or, or_false, Nat.reduceLT, Nat.reduceMod, Nat.reducePow, rmaps, nsucc, List.flatten_cons, List.flatten_nil, Nat.reduceEqDiff, Nat.reduceLeDiff, Nat.reduceAdd, Nat.reduceMul, Nat.reduceSub, ↓reduceIte, reduceCtorEq, decide_true, decide_false]
        exact ⟨_, by omega, e + 1, rfl, by omega, allS hz (by unfold failsAt; rw [h1]; rfl), by rw [wrapS (by omega)]⟩
      · simp only [ho, f0, f3, f6, hds, Cd.cd87, Tk.t87, base0, base1, base2, base3, Option.isNone_none, Option.isNone_some, Nat.reduceBEq, true_or, or_true, false_or, or_false, Nat.reduceLT, Nat.reduceMod, Nat.reducePow, rmaps, nsucc, List.flatten_cons, List.flatten_nil, Nat.reduceEqDiff, Nat.reduceLeDiff, Nat.reduceAdd, Nat.reduceMul, Nat.reduceSub, ↓reduceIte, reduceCtorEq, decide_true, decide_false]
        first | refine FCall.go (shows80 y hy b e hb) (FZs.three (FZ.sysV y) (FZ.v _) (FZ.v _)) ?_ | refine FCall.go' (shows80 y hy b e hb) (FZs.three (FZ.sysV y) (FZ.v _) (FZ.v _)) ?_ | refine FCall.goQ (shows80 y hy b e hb) (FZs.three (FZ.sysV y) (FZ.v _) (FZ.v _)) ?_
        cases h2 : shw y b e
        · simp only [ho, f0, f3, f6, hds, Cd.cd87, Tk.t87, base0, base1, base2, base3, Option.isNone_none, Option.isNone_some, Nat.reduceBEq, true_or, or_true, false_or, or_false, Nat.reduceLT, Nat.reduceMod, Nat.reducePow, rmaps, nsucc, List.flatten_cons, List.flatten_nil, Nat.reduceEqDiff, Nat.reduceLeDiff, Nat.reduceAdd, Nat.reduceMul, Nat.reduceSub, ↓reduceIte, reduceCtorEq, decide_true, decide_false]
          rw [show failsN x y a b = some e from firstIx_some (by omega) (by unfold failsAt; rw [h1, h2]; rfl) hz]; rfl
        · simp only [ho, f0, f3, f6, hds, Cd.cd87, Tk.t87, base0, base1, base2, base3, Option.isNone_none, Option.isNone_some, Nat.reduceBEq, true_or, or_true, false_or, or_false, Nat.reduceLT, Nat.reduceMod, Nat.reducePow, rmaps, nsucc, List.flatten_cons, List.flatten_nil, Nat.reduceEqDiff, Nat.reduceLeDiff, Nat.reduceAdd, Nat.reduceMul, Nat.reduceSub, ↓reduceIte, reduceCtorEq, decide_true, decide_false]
          exact ⟨_, by omega, e + 1, rfl, by omega, allS hz (by unfold failsAt; rw [h1, h2]; rfl), by rw [wrapS (by omega)]⟩
    · have he : e = silc x + 1 := by omega
      simp only [show decide (((e : Nat) : Int) ≤ ((silc x : Nat) : Int)) = false from decide_eq_false (by omega), f0, f3, f6, hds, Cd.cd87, Tk.t87, base0, base1, base2, base3, Option.isNone_none, Option.isNone_some, Nat.reduceBEq, true_or, or_true, false_or, or_false, Nat.reduceLT, Nat.reduceMod, Nat.reducePow, rmaps, nsucc, List.flatten_cons, List.flatten_nil, Nat.reduceEqDiff, Nat.reduceLeDiff, Nat.reduceAdd, Nat.reduceMul, Nat.reduceSub, ↓reduceIte, reduceCtorEq, decide_true, decide_false]
      rw [show failsN x y a b = none from firstIx_none (by rw [← he]; exact hz)]; rfl
set_option maxHeartbeats 2000000 in
theorem compare59 (x y : Re) (hx : Ok x) (hy : Ok y) (H : AH) : ACall Tryd.prog 59 [reV x, reV y] H (fun out H' => ∃ r m aP aF aB, out = .ret (.ptr r 0) ∧ CmpO x y H' r m aP aF aB [nd0 x y] [-1] [-1] ∧ H.next ≤ H'.next ∧ H.next ≤ r ∧ H.next ≤ m ∧ ∀ n, n < H.next → H'.own n = H.own n) := by
  simp only [reV, reL, mvsV]
  refine ACall.enter [12] Cd.fn59 (by simp) ?_
  simp only [Cd.cd59, Tk.t59, base0, base1, base2, base3, Option.isNone_none, Option.isNone_some, Nat.reduceBEq, true_or, or_true, false_or, or_false, Nat.reduceLT, Nat.reduceMod, Nat.reducePow, rmaps, nsucc, List.flatten_cons, List.flatten_nil, Nat.reduceEqDiff, Nat.reduceLeDiff, Nat.reduceAdd, Nat.reduceMul, Nat.reduceSub, ↓reduceIte, reduceCtorEq, decide_true, decide_false]
  first | refine FCall.go (system71 x hx) (FZs.one (FZ.reV x)) ?_ | refine FCall.go' (system71 x hx) (FZs.one (FZ.reV x)) ?_ | refine FCall.goQ (system71 x hx) (FZs.one (FZ.reV x)) ?_
  simp only [Cd.cd59, Tk.t59, base0, base1, base2, base3, Option.isNone_none, Option.isNone_some, Nat.reduceBEq, true_or, or_true, false_or, or_false, Nat.reduceLT, Nat.reduceMod, Nat.reducePow, rmaps, nsucc, List.flatten_cons, List.flatten_nil, Nat.reduceEqDiff, Nat.reduceLeDiff, Nat.reduceAdd, Nat.reduceMul, Nat.reduceSub, ↓reduceIte, reduceCtorEq, decide_true, decide_false]
  first | refine FCall.go (system71 y hy) (FZs.one (FZ.reV y)) ?_ | refine FCall.go' (system71 y hy) (FZs.one (FZ.reV y)) ?_ | refine FCall.goQ (system71 y hy) (FZs.one (FZ.reV y)) ?_
  simp only [sysV, Cd.cd59, Tk.t59, base0, base1, base2, base3, Option.isNone_none, Option.isNone_some, Nat.reduceBEq, true_or, or_true, false_or, or_false, Nat.reduceLT, Nat.reduceMod, Nat.reducePow, rmaps, nsucc, List.flatten_cons, List.flatten_nil, Nat.reduceEqDiff, Nat.reduceLeDiff, Nat.reduceAdd, Nat.reduceMul, Nat.reduceSub, ↓reduceIte, reduceCtorEq, decide_true, decide_false]
  first | refine FCall.go (first72 x hx) (FZs.one (FZ.sysV x)) ?_ | refine FCall.go' (first72 x hx) (FZs.one (FZ.sysV x)) ?_ | refine FCall.goQ (first72 x hx) (FZs.one (FZ.sysV x)) ?_
  simp only [sysV, Cd.cd59, Tk.t59, base0, base1, base2, base3, Option.isNone_none, Option.isNone_some, Nat.reduceBEq, true_or, or_true, false_or, or_false, Nat.reduceLT, Nat.reduceMod, Nat.reducePow, rmaps, nsucc, List.flatten_cons, List.flatten_nil, Nat.reduceEqDiff, Nat.reduceLeDiff, Nat.reduceAdd, Nat.reduceMul, Nat.reduceSub, ↓reduceIte, reduceCtorEq, decide_true, decide_false]
  first | refine FCall.go (first72 y hy) (FZs.one (FZ.sysV y)) ?_ | refine FCall.go' (first72 y hy) (FZs.one (FZ.sysV y)) ?_ | refine FCall.goQ (first72 y hy) (FZs.one (FZ.sysV y)) ?_
  simp only [sysV, uv, Cd.cd59, Tk.t59, base0, base1, base2, base3, Option.isNone_none, Option.isNone_some, Nat.reduceBEq, true_or, or_true, false_or, or_false, Nat.reduceLT, Nat.reduceMod, Nat.reducePow, rmaps, nsucc, List.flatten_cons, List.flatten_nil, Nat.reduceEqDiff, Nat.reduceLeDiff, Nat.reduceAdd, Nat.reduceMul, Nat.reduceSub, ↓reduceIte, reduceCtorEq, decide_true, decide_false]
  refine ACall.thn' (add101 x y hx hy _ (H.next + 1) H.next nilS nilS nilS [] [] [] ⟨by simp [sysV, nilS], by simp, .inl ⟨rfl, rfl, rfl, rfl, rfl, rfl⟩, by omega, by show H.next + 1 < H.next + 1 + 1; omega, by show H.next < H.next + 1 + 1; omega⟩ ⟨fun p hp => by simp at hp, by simp⟩ rfl rfl (fstM x) (fstM y) (hx.pw (fst_lt hx)) (hy.pw (fst_lt hy)) (-1) (-1) []) fun out H2 hq => ?_
  obtain ⟨rfl, ⟨aP, aF, aB, h2⟩, h3, h4⟩ := hq
  refine ⟨_, rfl, ?_⟩
  simp only [Cd.cd59, Tk.t59, base0, base1, base2, base3, Option.isNone_none, Option.isNone_some, Nat.reduceBEq, true_or, or_true, false_or, or_false, Nat.reduceLT, Nat.reduceMod, Nat.reducePow, rmaps, nsucc, List.flatten_cons, List.flatten_nil, Nat.reduceEqDiff, Nat.reduceLeDiff, Nat.reduceAdd, Nat.reduceMul, Nat.reduceSub, ↓reduceIte, reduceCtorEq, decide_true, decide_false]
  refine ⟨H.next + 1, H.next, aP, aF, aB, rfl, h2, by have : H.next + 1 + 1 ≤ H2.next := h3; omega, by omega, by omega, fun n hn => ?_⟩
  rw [h4 n (by show n < H.next + 1 + 1; omega) (by omega) (by omega)]
  simp [show ¬ n = H.next by omega, show ¬ n = H.next + 1 by omega]
def ivC (k : Nat) (f : Nat → Int) : List AV := (List.range k).map fun e => .v (.int .i64 (f e))
theorem ivC_len (k : Nat) (f : Nat → Int) : (ivC k f).length = k := by simp [ivC]
theorem ivC_drop {k s : Nat} (f : Nat → Int) (h : s < k) : (List.drop s (ivC k f))[0]? = some (.v (.int .i64 (f s))) := by
  rw [List.getElem?_drop, Nat.add_zero]
  unfold ivC
  rw [List.getElem?_map, List.getElem?_range h]; rfl
theorem ivC_set {k s : Nat} (f : Nat → Int) (v : Int) (h : s < k) : List.take s (ivC k f) ++ AV.v (.int .i64 v) :: List.drop (s + 1) (ivC k f) = ivC k fun e => if e = s then v else f e := by
  apply List.ext_getElem?
  intro i
  have hl : (List.take s (ivC k f)).length = s := by rw [List.length_take, ivC_len]; omega
  by_cases h1 : i < s
  · rw [List.getElem?_append_left (by omega), List.getElem?_take_of_lt h1]
    unfold ivC
    rw [List.getElem?_map, List.getElem?_map, List.getElem?_range (by omega)]
    simp [show ¬ i = s by omega]
  · rw [List.getElem?_append_right (by omega), hl]
    by_cases h2 : i = s
    · subst h2
      rw [Nat.sub_self]
      unfold ivC
      rw [List.getElem?_map, List.getElem?_range h]; simp
    · obtain ⟨d, hd⟩ : ∃ d, i - s = d + 1 := ⟨i - s - 1, by omega⟩
      rw [hd, List.getElem?_cons_succ, List.getElem?_drop, show s + 1 + d = i by omega]
      unfold ivC
      rw [List.getElem?_map, List.getElem?_map]
      by_cases h3 : i < k
      · rw [List.getElem?_range h3]; simp [h2]
      · rw [List.getElem?_eq_none (by simp; omega)]; rfl
theorem ivC_list (l : List Int) : l.map (fun x => AV.v (.int .i64 x)) = ivC l.length fun k => l.getD k 0 := by
  apply List.ext_getElem?
  intro i
  unfold ivC
  rw [List.getElem?_map, List.getElem?_map]
  by_cases h : i < l.length
  · rw [List.getElem?_range h, List.getElem?_eq_getElem h]
    simp [List.getD_eq_getElem?_getD, List.getElem?_eq_getElem h]
  · rw [List.getElem?_eq_none (by omega), List.getElem?_eq_none (by simp; omega)]; rfl
def revF (l : List Int) (i k : Nat) : Int := if k < i ∨ l.length - i ≤ k then l.getD (l.length - 1 - k) 0 else l.getD k 0
theorem revF_step (l : List Int) {i : Nat} (h : 2 * i + 1 < l.length) (k : Nat) (hk : k < l.length) : (if k = l.length - 1 - i then revF l i i else if k = i then revF l i (l.length - 1 - i) else revF l i k) = revF l (i + 1) k := by
  unfold revF
  by_cases h1 : k = l.length - 1 - i
  · subst h1
    rw [if_pos rfl, if_neg (by omega), if_pos (by omega)]
    congr 1; omega
  · rw [if_neg h1]
    by_cases h2 : k = i
    · subst h2
      rw [if_pos rfl, if_neg (by omega), if_pos (by omega)]
    · rw [if_neg h2]
      by_cases h3 : k < i ∨ l.length - i ≤ k
      · rw [if_pos h3, if_pos (by omega)]
      · rw [if_neg h3, if_neg (by omega)]
theorem ivC_congr {k : Nat} {f g : Nat → Int} (h : ∀ i, i < k → f i = g i) : ivC k f = ivC k g := by
  unfold ivC
  apply List.map_congr_left
  intro i hi
  rw [h i (List.mem_range.mp hi)]
theorem revF_end (l : List Int) {i : Nat} (h : l.length ≤ 2 * i + 1) (hi : 2 * i ≤ l.length) : ivC l.length (revF l i) = l.reverse.map fun x => AV.v (.int .i64 x) := by
  rw [ivC_list, List.length_reverse]
  apply ivC_congr
  intro k hk
  unfold revF
  rw [List.getD_eq_getElem?_getD (l := l.reverse), List.getElem?_reverse hk, ← List.getD_eq_getElem?_getD]
  by_cases h1 : k < i ∨ l.length - i ≤ k
  · rw [if_pos h1]
  · rw [if_neg h1]
    congr 1; omega
set_option maxHeartbeats 2000000 in
theorem reverse102 (l : List Int) (H : AH) (n : Nat) (hl : 0 < l.length) (hb : l.length < 2 ^ 40) (ho : H.own n = some (.cells (l.map fun x => .v (.int .i64 x)))) :
    ACall Tryd.prog 102 [.sl 1 n 0 l.length] H (fun out H' => out = .ret (.tup []) ∧ H'.own n = some (.cells (l.reverse.map fun x => .v (.int .i64 x))) ∧ H'.next = H.next ∧ H'.tip = H.tip ∧ ∀ k, k ≠ n → H'.own k = H.own k) := by
  rw [ivC_list] at ho
  have hw : IntKind.i64.wrap ((l.length : Int) - 1) = ((l.length - 1 : Nat) : Int) := by rw [wrapI (by omega) (by omega)]; omega
  refine ACall.enter [] Cd.fn102 (by simp) ?_
  simp only [hw, Cd.cd102, Tk.t102, base0, base1, base2, base3, Option.isNone_none, Option.isNone_some, Nat.reduceBEq, true_or, or_true, false_or, or_false, Nat.reduceLT, Nat.reduceMod, Nat.reducePow, rmaps, nsucc, List.flatten_cons, List.flatten_nil, Nat.reduceEqDiff, Nat.reduceLeDiff, Nat.reduceAdd, Nat.reduceMul, Nat.reduceSub, ↓reduceIte, reduceCtorEq, decide_true, decide_false]
  refine LWP.loop [] (fun m f H' => ∃ i, m = l.length - i ∧ (2 * i ≤ l.length) ∧ f.t 0 = .sl 1 n 0 l.length ∧ f.t 2 = .v (.int .i64 (i : Nat)) ∧ f.t 3 = .v (.int .i64 ((l.length : Int) - 1 - (i : Int))) ∧ f.ds = [] ∧ (H'.own n = some (.cells (ivC l.length (revF l i))) ∧ H'.next = H.next ∧ H'.tip = H.tip ∧ ∀ k, k ≠ n → H'.own k = H.own k)) ?_ ?_ (m := l.length - (0))
  · exact ⟨0, rfl, (by omega), rfl, rfl, by simp [upd]; omega, rfl, ⟨by rw [ho]; congr 2; apply ivC_congr; intro k hk; unfold revF; rw [if_neg (by omega)], rfl, rfl, fun _ _ => rfl⟩⟩
  · rintro m f H' ⟨i, rfl, hi, f0, f2, f3, hds, hH⟩
    obtain ⟨hH, h1, h2, h3⟩ := hH
    by_cases hlt : 2 * i + 1 < l.length
    · have hj : ((l.length : Int) - 1 - (i : Int)) = ((l.length - 1 - i : Nat) : Int) := by omega
      have hil : i < l.length := by omega
      have hjl : l.length - 1 - i < l.length := by omega
      have hst := revF_step l hlt
      simp only [hj, show decide (((i : Nat) : Int) < ((l.length - 1 - i : Nat) : Int)) = true from decide_eq_true (by omega), inR hil, inR hjl, Int.toNat_natCast, Nat.mul_one, Nat.zero_add, hH, ivC_drop _ hil, ivC_drop _ hjl, ivC_len, show (i + 1 ≤ l.length) = True from by simp only [eq_iff_iff, iff_true]; omega, show (l.length - 1 - i + 1 ≤ l.length) = True from by simp only [eq_iff_iff, iff_true]; omega, ivC_set _ _ hil, ivC_set _ _ hjl, f0, f2, f3, hds, Cd.cd102, Tk.t102, base0, base1, base2, base3, Option.isNone_none, Option.isNone_some, Nat.reduceBEq, true_or, or_true, false_or, or_false, Nat.reduceLT, Nat.reduceMod, Nat.reducePow, rmaps, nsucc, List.flatten_cons, List.flatten_nil, Nat.reduceEqDiff, Nat.reduceLeDiff, Nat.reduceAdd, Nat.reduceMul, Nat.reduceSub, ↓reduceIte, reduceCtorEq, decide_true, decide_false]
      refine ⟨_, by omega, i + 1, rfl, by omega, by rw [wrapS (by omega)], ?_, ?_, h1, h2, fun k hk => ?_⟩
      · rw [wrapI (by omega) (by omega), show ((l.length - 1 - i : Nat) : Int) - 1 = (l.length : Int) - 1 - ((i + 1 : Nat) : Int) by omega]
      · congr 2
        apply ivC_congr
        intro k hk
        exact hst k hk
      · simp only [hk, if_false]; exact h3 k hk
    · simp only [show decide (((i : Nat) : Int) < ((l.length : Int) - 1 - (i : Int))) = false from decide_eq_false (by omega), f0, f2, f3, hds, Cd.cd102, Tk.t102, base0, base1, base2, base3, Option.isNone_none, Option.isNone_some, Nat.reduceBEq, true_or, or_true, false_or, or_false, Nat.reduceLT, Nat.reduceMod, Nat.reducePow, rmaps, nsucc, List.flatten_cons, List.flatten_nil, Nat.reduceEqDiff, Nat.reduceLeDiff, Nat.reduceAdd, Nat.reduceMul, Nat.reduceSub, ↓reduceIte, reduceCtorEq, decide_true, decide_false]
      trace_state
      exact ⟨by rw [hH, revF_end l (by omega) (by omega)], h1, h2, h3⟩
end Go.Proofs.YtchpcjmgifnmdaaDoor

/- Walks: all pairs are met. -/
namespace Go.Proofs.YtchpcjmgifnmdaaDoor
open Go Go.Proofs.YtchpcjmgifnmdaaDoor.Ab
set_option maxRecDepth 100000
set_option linter.unusedSimpArgs false
set_option pp.deepTerms true
set_option pp.maxSteps 100000

theorem CmpO.same {x y : Re} {H H' : AH} {r m : Nat} {aP aF aB : AV} {l : List Nd} {fr bys : List Int} (h : CmpO x y H r m aP aF aB l fr bys) (hn : H.next ≤ H'.next) (hr : H'.own r = H.own r) (hm : H'.own m = H.own m) (ht : ∀ t, t < H.next → H'.tip t = H.tip t) : CmpO x y H' r m aP aF aB l fr bys :=
  ⟨hr.trans h.o, hm.trans h.mp, h.g.tips hn ht, h.rm.1, Nat.lt_of_lt_of_le h.rm.2.1 hn, Nat.lt_of_lt_of_le h.rm.2.2 hn⟩
theorem CmpO.live {x y : Re} {H : AH} {r m : Nat} {aP aF aB : AV} {l : List Nd} {fr bys : List Int} (h : CmpO x y H r m aP aF aB l fr bys) (h0 : 0 < l.length) : ∃ tp tf tb, aP = .lst 2 (l.map enP) (.live tp) ∧ aF = .lst 1 (fr.map intR) (.live tf) ∧ aB = .lst 1 (bys.map intR) (.live tb) := by
  rcases h.g with ⟨rfl, _⟩ | ⟨tp, tf, tb, _, _, h5, h6, h7, _⟩
  · simp at h0
  · exact ⟨tp, tf, tb, h5, h6, h7⟩
theorem viewI {H : AH} {n : Nat} {l : List Int} (h : H.own n = some (.cells (l.map fun x => .v (.int .i64 x)))) : View H (.sl 1 n 0 l.length) (ints l) := by
  refine View.sl h (by simp) (by simp) (fun i hi => by rw [getD_ints l i hi]; rfl) fun i j hi hj => ?_
  have hj0 : j = 0 := by omega
  subst hj0
  rw [getD_ints l i hi]
  have : (l.map fun x => AV.v (.int .i64 x)).getD (0 + i * 1 + 0) .any = .v (.int .i64 (l.getD i 0)) := by
    rw [List.getD_eq_getElem?_getD, List.getElem?_map, show 0 + i * 1 + 0 = i by omega, List.getElem?_eq_getElem hi, List.getD_eq_getElem?_getD, List.getElem?_eq_getElem hi]; rfl
  rw [this]
  exact (FZ.v _).view
def ivL (l : List Int) : List AV := l.map fun x => .v (.int .i64 x)
def runV (o : Option (List Int)) : AV := match o with
  | some tr => .tup [ints tr, .v (.bool true)]
  | none => .tup [nilS, .v (.bool false)]
def RunP (x y : Re) (H : AH) (r m : Nat) (l0 : List Nd) (out : AOut) (H' : AH) : Prop :=
  ∃ o l, SrchR x y l0 0 (o, l) ∧ out = .ret (runV o) ∧ (∃ t aF aB, H'.own r = some (.cells [sysV x, sysV y, .lst 2 (l.map enP) (.live t), aF, aB, .map m])) ∧ H.next ≤ H'.next ∧ ∀ n, n < H.next → n ≠ r → n ≠ m → H'.own n = H.own n
set_option maxHeartbeats 8000000 in
theorem run60 (x y : Re) (hx : Ok x) (hy : Ok y) (hio : silc y = silc x) (H : AH) (r mq : Nat) (aP aF aB : AV) (l0 : List Nd) (fr0 by0 : List Int) (hC : CmpO x y H r mq aP aF aB l0 fr0 by0) (hG : GoodN x y l0) (hM : Came l0 fr0 by0) :
    ACall Tryd.prog 60 [.ptr r 0] H (RunP x y H r mq l0) := by
  have hsc := silc_le hx
  refine ACall.freeze H.next ?_
  refine ACall.enter [36, 62] Cd.fn60 (by simp) ?_
  simp only [Cd.cd60, Tk.t60, base0, base1, base2, base3, Option.isNone_none, Option.isNone_some, Nat.reduceBEq, true_or, or_true, false_or, or_false, Nat.reduceLT, Nat.reduceMod, Nat.reducePow, rmaps, nsucc, List.flatten_cons, List.flatten_nil, Nat.reduceEqDiff, Nat.reduceLeDiff, Nat.reduceAdd, Nat.reduceMul, Nat.reduceSub, ↓reduceIte, reduceCtorEq, decide_true, decide_false]
  refine LWP.loop [36, 62] (fun m f H' => ∃ i l fr bys aP aF aB, m = 1048577 - i ∧ (i ≤ l.length) ∧ (CmpO x y H' r mq aP aF aB l fr bys) ∧ (GoodN x y l) ∧ (Came l fr bys) ∧ (∀ res, SrchR x y l i res → SrchR x y l0 0 res) ∧ f.t 0 = .ptr r 0 ∧ f.t 4 = .v (.int .i64 (i : Nat)) ∧ f.ds = [] ∧ (H.next ≤ H'.next ∧ r < H.next ∧ mq < H.next ∧ ∀ n, n < H.next → n ≠ r → n ≠ mq → H'.own n = H.own n)) ?_ ?_ (m := 1048577 - (0))
  · exact ⟨0, l0, fr0, by0, aP, aF, aB, rfl, (by omega), (hC), (hG), (hM), (fun _ h => h), rfl, rfl, rfl, ⟨Nat.le_refl _, hC.rm.2.1, hC.rm.2.2, fun _ _ _ _ => rfl⟩⟩
  · rintro m f H' ⟨i, l, fr, bys, aP, aF, aB, rfl, hi, hC, hG, hM, hS, f0, f4, hds, hk⟩
    obtain ⟨hk1, hkr, hkm, hk2⟩ := hk
    have ho := hC.o
    have hlen := hG.len hx hy
    obtain ⟨tp, tf, tb, rfl, rfl, rfl⟩ := hC.live hM.h0
    by_cases hlt : i < l.length
    · have hp := hG.lt _ (getD_mem hlt)
      have hgp := getD_map enP l i hlt
      have hrn : (r = H'.next) = False := by simp; omega
      have hmn : (mq = H'.next) = False := by simp; omega
      generalize hpe : l.getD i default = p at hp hgp
      simp only [ho, List.length_map, ltT hlt, inR hlt, Int.toNat_natCast, hgp, enP, hrn, f0, f4, hds, Cd.cd60, Tk.t60, base0, base1, base2, base3, Option.isNone_none, Option.isNone_some, Nat.reduceBEq, true_or, or_true, false_or, or_false, Nat.reduceLT, Nat.reduceMod, Nat.reducePow, rmaps, nsucc, List.flatten_cons, List.flatten_nil, Nat.reduceEqDiff, Nat.reduceLeDiff, Nat.reduceAdd, Nat.reduceMul, Nat.reduceSub, ↓reduceIte, reduceCtorEq, decide_true, decide_false]
      have hC1 : CmpO x y { next := H'.next + 1, own := fun m => if m = H'.next then some (.cells [AV.v (.int .u64 (p.x : Nat)), AV.v (.int .u64 (p.y : Nat))]) else if m = H'.next then some (.cells [AV.v (.int .u64 0), AV.v (.int .u64 0)]) else H'.own m, tip := H'.tip } r mq (.lst 2 (l.map enP) (.live tp)) (.lst 1 (fr.map intR) (.live tf)) (.lst 1 (bys.map intR) (.live tb)) l fr bys :=
        hC.same (by show H'.next ≤ H'.next + 1; omega) (by simp only [hrn, if_false]) (by simp only [hmn, if_false]) fun _ _ => rfl
      refine ACall.thn (fails87 x y hx hy _ r mq _ _ _ l fr bys hC1 p.x p.y hp.1 hp.2) fun out H2 hq => ?_
      obtain ⟨rfl, rfl⟩ := hq
      refine ⟨_, rfl, ?_⟩
      cases hf : failsN x y p.x p.y with
      | some e =>
        simp only [failsV, f0, f4, hds, Cd.cd60, Tk.t60, base0, base1, base2, base3, Option.isNone_none, Option.isNone_some, Nat.reduceBEq, true_or, or_true, false_or, or_false, Nat.reduceLT, Nat.reduceMod, Nat.reducePow, rmaps, nsucc, List.flatten_cons, List.flatten_nil, Nat.reduceEqDiff, Nat.reduceLeDiff, Nat.reduceAdd, Nat.reduceMul, Nat.reduceSub, ↓reduceIte, reduceCtorEq, decide_true, decide_false]
        have hHn : H.next ≤ H'.next + 1 := by omega
        refine LWP.loop [36, 62] (fun m f H' => ∃ k ol nm, m = 2 * k ∧ (k < l.length) ∧ (k ≤ i) ∧ (p.tr ++ [(e : Int)] = (l.getD k default).tr ++ List.reverse (ol : List Int)) ∧ (0 < List.length (ol : List Int) ∧ List.length (ol : List Int) + k ≤ i + 1) ∧ (H.next ≤ nm) ∧ f.t 0 = .ptr r 0 ∧ f.t 8 = .sl 1 nm 0 (List.length (ol : List Int)) ∧ f.t 9 = .v (.int .i64 (k : Nat)) ∧ f.ds = [] ∧ (nm < H'.next ∧ H.next ≤ H'.next ∧ H'.own nm = some (.cells (ivL ol)) ∧ H'.own r = some (.cells [sysV x, sysV y, .lst 2 (l.map enP) (.live tp), .lst 1 (fr.map intR) (.live tf), .lst 1 (bys.map intR) (.live tb), .map mq]) ∧ ∀ n, n < H.next → n ≠ r → n ≠ mq → H'.own n = H.own n)) ?_ ?_ (m := 2 * (i))
        · exact ⟨i, [(e : Int)], H'.next + 1, rfl, (hlt), (Nat.le_refl _), (by rw [hpe]; rfl), (⟨by simp, by simp; omega⟩), (hHn), (by first | rfl | exact f0), (by first | rfl | exact f8), (by first | rfl | exact f9), rfl, ⟨by simp, by simp; omega, by simp [ivL], by simp [show ¬ r = H'.next by omega, show ¬ r = H'.next + 1 by omega]; exact ho, fun n h1 h2 h3 => by simp [show ¬ n = H'.next by omega, show ¬ n = H'.next + 1 by omega]; exact hk2 n h1 h2 h3⟩⟩
        · rintro m f H' ⟨k, ol, nm, rfl, hkl, hki, htr, hol, hnm, f0, f8, f9, hds, hk3⟩
          obtain ⟨hk3, hk4, hk5, hk6, hk7⟩ := hk3
          have hkf : k < fr.length := by rw [hM.f]; exact hkl
          have hkb : k < bys.length := by rw [hM.b]; exact hkl
          have hgf := getD_map intR fr k hkf
          have hgb := getD_map intR bys k hkb
          have hrnm : (r = nm) = False := by simp; omega
          have hrn1 : (r = H'.next) = False := by simp; omega
          by_cases hk0 : k = 0
          · subst hk0
            have hz := hM.z
            have hz1 : fr.getD 0 default = -1 := hz.1
            rw [hz.2, List.nil_append] at htr
            have hrev := reverse102 ol H' nm hol.1 (by omega) hk5
            simp only [hk6, List.length_map, inR hkf, Int.toNat_natCast, hgf, intR, hz1, f0, f8, f9, hds, Cd.cd60, Tk.t60, base0, base1, base2, base3, Option.isNone_none, Option.isNone_some, Nat.reduceBEq, true_or, or_true, false_or, or_false, Nat.reduceLT, Nat.reduceMod, Nat.reducePow, rmaps, nsucc, List.flatten_cons, List.flatten_nil, Nat.reduceEqDiff, Nat.reduceLeDiff, Nat.reduceAdd, Nat.reduceMul, Nat.reduceSub, ↓reduceIte, reduceCtorEq, decide_true, decide_false]
            refine ACall.thn hrev fun out H2 hq => ?_
            obtain ⟨rfl, h1, h2, h3, h4⟩ := hq
            refine ⟨_, rfl, ?_⟩
            simp only [f0, f8, f9, hds, Cd.cd60, Tk.t60, base0, base1, base2, base3, Option.isNone_none, Option.isNone_some, Nat.reduceBEq, true_or, or_true, false_or, or_false, Nat.reduceLT, Nat.reduceMod, Nat.reducePow, rmaps, nsucc, List.flatten_cons, List.flatten_nil, Nat.reduceEqDiff, Nat.reduceLeDiff, Nat.reduceAdd, Nat.reduceMul, Nat.reduceSub, ↓reduceIte, reduceCtorEq, decide_true, decide_false]
            have hv : View (H2.above H.next) (.sl 1 nm 0 ol.length) (ints ol.reverse) := by
              have := viewI (H := H2.above H.next) (n := nm) (l := ol.reverse) ((above_own hnm).trans h1)
              rwa [List.length_reverse] at this
            refine Frz.ret (v' := .tup [ints ol.reverse, .v (.bool true)]) (Views.tup (Views.cons hv (Views.cons (FZ.v _).view Views.nil))) (FZ.tup (FZs.two (FZ.ints _) (FZ.v _))) ?_
            have hfl := SrchR.fail (x := x) (y := y) hlt (e := e) (by rw [hpe]; exact hf)
            rw [hpe, htr] at hfl
            exact ⟨some ol.reverse, l, hS _ hfl, rfl, ⟨tp, _, _, (below_own hkr).trans ((h4 r (by simpa using hrnm)).trans hk6)⟩, by show H.next ≤ H2.next; omega, fun n h5 h6 h7 => (below_own h5).trans ((h4 n (by omega)).trans (hk7 n h5 h6 h7))⟩
          · obtain ⟨j, hj1, hj2, hj3⟩ := hM.s k (by omega) hkl
            have hj1' : fr.getD k default = (j : Int) := hj1
            have hr8 : roomA 8 (ol.length + 1) = true := room_of (by omega) (by omega)
            simp only [hk6, List.length_map, inR hkf, inR hkb, Int.toNat_natCast, hgf, hgb, intR, hj1', show (((j : Nat) : Int) != -1) = true from by simp, hk5, hr8, hrnm, hrn1, Nat.mul_one, show (ol.length ≤ (ivL ol).length) = True from by simp [ivL], show List.take ol.length (ivL ol) = ivL ol from by rw [show ol.length = (ivL ol).length from by simp [ivL], List.take_length], f0, f8, f9, hds, Cd.cd60, Tk.t60, base0, base1, base2, base3, Option.isNone_none, Option.isNone_some, Nat.reduceBEq, true_or, or_true, false_or, or_false, Nat.reduceLT, Nat.reduceMod, Nat.reducePow, rmaps, nsucc, List.flatten_cons, List.flatten_nil, Nat.reduceEqDiff, Nat.reduceLeDiff, Nat.reduceAdd, Nat.reduceMul, Nat.reduceSub, ↓reduceIte, reduceCtorEq, decide_true, decide_false]
            have hnn : (H'.next = nm) = False := by simp; omega
            refine ⟨_, by omega, j, ol ++ [bys.getD k 0], H'.next, rfl, by omega, by omega, ?_, ⟨by simp, by simp; omega⟩, hk4, by simp, rfl, by omega, by omega, ?_, fun n h1 h2 h3 => ?_⟩
            · rw [htr, hj3, List.reverse_append, List.append_assoc]; rfl
            · simp only [hnn, if_false, if_true, ivL, List.map_append]; rfl
            · simp only [show ¬ n = nm by omega, show ¬ n = H'.next by omega, if_false]
              exact hk7 n h1 h2 h3
      | none =>
        simp only [failsV, ho, hrn, f0, f4, hds, Cd.cd60, Tk.t60, base0, base1, base2, base3, Option.isNone_none, Option.isNone_some, Nat.reduceBEq, true_or, or_true, false_or, or_false, Nat.reduceLT, Nat.reduceMod, Nat.reducePow, rmaps, nsucc, List.flatten_cons, List.flatten_nil, Nat.reduceEqDiff, Nat.reduceLeDiff, Nat.reduceAdd, Nat.reduceMul, Nat.reduceSub, ↓reduceIte, reduceCtorEq, decide_true, decide_false]
        first | refine FCall.go (silence73 x hx) (FZs.one (FZ.sysV x)) ?_ | refine FCall.go' (silence73 x hx) (FZs.one (FZ.sysV x)) ?_ | refine FCall.goQ (silence73 x hx) (FZs.one (FZ.sysV x)) ?_
        have hw9 : IntKind.i64.wrap (((silc x : Nat) : Int) + 1) = ((silc x + 1 : Nat) : Int) := wrapS (by omega)
        simp only [hw9, f0, f4, hds, Cd.cd60, Tk.t60, base0, base1, base2, base3, Option.isNone_none, Option.isNone_some, Nat.reduceBEq, true_or, or_true, false_or, or_false, Nat.reduceLT, Nat.reduceMod, Nat.reducePow, rmaps, nsucc, List.flatten_cons, List.flatten_nil, Nat.reduceEqDiff, Nat.reduceLeDiff, Nat.reduceAdd, Nat.reduceMul, Nat.reduceSub, ↓reduceIte, reduceCtorEq, decide_true, decide_false]
        generalize hnx : H'.next = n5 at *
        refine LWP.loop [36, 62] (fun m f H' => ∃ e l2 fr2 by2 aP aF aB, m = silc x + 1 - e ∧ (e ≤ silc x + 1) ∧ (l2 = extN x y p l e) ∧ (CmpO x y H' r mq aP aF aB l2 fr2 by2) ∧ (GoodN x y l2) ∧ (Came l2 fr2 by2) ∧ f.t 0 = .ptr r 0 ∧ f.t 4 = .v (.int .i64 (i : Nat)) ∧ f.t 5 = .ptr n5 0 ∧ f.t 71 = .v (.int .i64 ((silc x + 1 : Nat) : Int)) ∧ f.t 72 = .v (.int .i64 (e : Nat)) ∧ f.ds = [] ∧ (n5 < H'.next ∧ H'.own n5 = some (.cells [AV.v (.int .u64 (p.x : Nat)), AV.v (.int .u64 (p.y : Nat))]) ∧ ∀ n, n < H.next → n ≠ r → n ≠ mq → H'.own n = H.own n)) ?_ ?_ (m := silc x + 1 - (0))
        · exact ⟨0, l, fr, bys, _, _, _, rfl, (by omega), (rfl), (hC1), (hG), (hM), (by first | rfl | exact f0), (by first | rfl | exact f4), (by first | rfl | exact f5), (by first | rfl | exact f71), (by first | rfl | exact f72), rfl, ⟨by simp, by simp, fun n h1 h2 h3 => by simp only [show ¬ n = n5 by omega, if_false]; exact hk2 n h1 h2 h3⟩⟩
        · rintro m f H' ⟨e, l2, fr2, by2, aP, aF, aB, rfl, he, hl2, hC2, hG2, hM2, f0, f4, f5, f71, f72, hds, hk3⟩
          obtain ⟨hk3, hk4, hk5⟩ := hk3
          have ho2 := hC2.o
          have hn5r : n5 ≠ r := by omega
          have hn5m : n5 ≠ mq := by omega
          by_cases hle : e < silc x + 1
          · simp only [ltT hle, ho2, hk4, f0, f4, f5, f71, f72, hds, Cd.cd60, Tk.t60, base0, base1, base2, base3, Option.isNone_none, Option.isNone_some, Nat.reduceBEq, true_or, or_true, false_or, or_false, Nat.reduceLT, Nat.reduceMod, Nat.reducePow, rmaps, nsucc, List.flatten_cons, List.flatten_nil, Nat.reduceEqDiff, Nat.reduceLeDiff, Nat.reduceAdd, Nat.reduceMul, Nat.reduceSub, ↓reduceIte, reduceCtorEq, decide_true, decide_false]
            first | refine FCall.go (after74 y hy p.y e hp.2) (FZs.three (FZ.sysV y) (FZ.v _) (FZ.v _)) ?_ | refine FCall.go' (after74 y hy p.y e hp.2) (FZs.three (FZ.sysV y) (FZ.v _) (FZ.v _)) ?_ | refine FCall.goQ (after74 y hy p.y e hp.2) (FZs.three (FZ.sysV y) (FZ.v _) (FZ.v _)) ?_
            have hex : extN x y p l (e + 1) = extE x y p l2 e := by rw [extN_succ, hl2]
            by_cases hz : aft y p.y e = 0
            · simp only [uv, neU0, show decide (aft y p.y e ≠ 0) = false from decide_eq_false (by simpa using hz), f0, f4, f5, f71, f72, hds, Cd.cd60, Tk.t60, base0, base1, base2, base3, Option.isNone_none, Option.isNone_some, Nat.reduceBEq, true_or, or_true, false_or, or_false, Nat.reduceLT, Nat.reduceMod, Nat.reducePow, rmaps, nsucc, List.flatten_cons, List.flatten_nil, Nat.reduceEqDiff, Nat.reduceLeDiff, Nat.reduceAdd, Nat.reduceMul, Nat.reduceSub, ↓reduceIte, reduceCtorEq, decide_true, decide_false]
              exact ⟨_, by omega, e + 1, l2, fr2, by2, aP, aF, aB, rfl, by omega, by rw [hex, extE, if_pos hz], hC2, hG2, hM2, by rw [wrapS (by omega)], hk3, hk4, hk5⟩
            · simp only [uv, neU0, decide_eq_true hz, ho2, hk4, f0, f4, f5, f71, f72, hds, Cd.cd60, Tk.t60, base0, base1, base2, base3, Option.isNone_none, Option.isNone_some, Nat.reduceBEq, true_or, or_true, false_or, or_false, Nat.reduceLT, Nat.reduceMod, Nat.reducePow, rmaps, nsucc, List.flatten_cons, List.flatten_nil, Nat.reduceEqDiff, Nat.reduceLeDiff, Nat.reduceAdd, Nat.reduceMul, Nat.reduceSub, ↓reduceIte, reduceCtorEq, decide_true, decide_false]
              first | refine FCall.go (after74 x hx p.x e hp.1) (FZs.three (FZ.sysV x) (FZ.v _) (FZ.v _)) ?_ | refine FCall.go' (after74 x hx p.x e hp.1) (FZs.three (FZ.sysV x) (FZ.v _) (FZ.v _)) ?_ | refine FCall.goQ (after74 x hx p.x e hp.1) (FZs.three (FZ.sysV x) (FZ.v _) (FZ.v _)) ?_
              simp only [uv, f0, f4, f5, f71, f72, hds, Cd.cd60, Tk.t60, base0, base1, base2, base3, Option.isNone_none, Option.isNone_some, Nat.reduceBEq, true_or, or_true, false_or, or_false, Nat.reduceLT, Nat.reduceMod, Nat.reducePow, rmaps, nsucc, List.flatten_cons, List.flatten_nil, Nat.reduceEqDiff, Nat.reduceLeDiff, Nat.reduceAdd, Nat.reduceMul, Nat.reduceSub, ↓reduceIte, reduceCtorEq, decide_true, decide_false]
              refine ACall.thn' (add101 x y hx hy H' r mq aP aF aB l2 fr2 by2 hC2 hG2 hM2.f hM2.b (aft x p.x e) (aft y p.y e) (hx.pw (aft_lt hx hp.1 e)) (hy.pw (aft_lt hy hp.2 e)) (i : Int) (e : Int) (p.tr ++ [(e : Int)])) fun out H2 hq => ?_
              obtain ⟨rfl, ⟨aP2, aF2, aB2, hif⟩, h3, h4⟩ := hq
              refine ⟨_, rfl, ?_⟩
              have hG3 := hG2.extE hx hy hp.1 hp.2 e
              have hkk : n5 < H2.next ∧ H2.own n5 = some (.cells [AV.v (.int .u64 (p.x : Nat)), AV.v (.int .u64 (p.y : Nat))]) ∧ ∀ n, n < H.next → n ≠ r → n ≠ mq → H2.own n = H.own n := ⟨by omega, by rw [h4 n5 hk3 hn5r hn5m]; exact hk4, fun n h5 h6 h7 => by rw [h4 n (by omega) h6 h7]; exact hk5 n h5 h6 h7⟩
              obtain ⟨q, hq⟩ := extN_pre x y p l e
              have hil : i < l2.length := by rw [hl2, hq, List.length_append]; omega
              have hpi : l2.getD i default = p := by rw [hl2, hq, getD_append_left _ _ _ hlt, hpe]
              cases hmet : metN l2 (aft x p.x e) (aft y p.y e)
              · rw [hmet] at hif
                have hE : extE x y p l2 e = l2 ++ [⟨aft x p.x e, aft y p.y e, p.tr ++ [(e : Int)]⟩] := by
                  rw [extE, if_neg hz, addN, hmet]; rfl
                simp only [f0, f4, f5, f71, f72, hds, Cd.cd60, Tk.t60, base0, base1, base2, base3, Option.isNone_none, Option.isNone_some, Nat.reduceBEq, true_or, or_true, false_or, or_false, Nat.reduceLT, Nat.reduceMod, Nat.reducePow, rmaps, nsucc, List.flatten_cons, List.flatten_nil, Nat.reduceEqDiff, Nat.reduceLeDiff, Nat.reduceAdd, Nat.reduceMul, Nat.reduceSub, ↓reduceIte, reduceCtorEq, decide_true, decide_false]
                refine ⟨_, by omega, e + 1, extE x y p l2 e, _, _, aP2, aF2, aB2, rfl, by omega, hex.symm, by rw [hE]; exact hif, hG3, ?_, by rw [wrapS (by omega)], hkk⟩
                have := hM2.push hil (aft x p.x e) (aft y p.y e) (e : Int)
                rw [hpi] at this
                rw [hE]; exact this
              · rw [hmet] at hif
                have hE : extE x y p l2 e = l2 := by rw [extE, if_neg hz, addN, hmet]; rfl
                simp only [f0, f4, f5, f71, f72, hds, Cd.cd60, Tk.t60, base0, base1, base2, base3, Option.isNone_none, Option.isNone_some, Nat.reduceBEq, true_or, or_true, false_or, or_false, Nat.reduceLT, Nat.reduceMod, Nat.reducePow, rmaps, nsucc, List.flatten_cons, List.flatten_nil, Nat.reduceEqDiff, Nat.reduceLeDiff, Nat.reduceAdd, Nat.reduceMul, Nat.reduceSub, ↓reduceIte, reduceCtorEq, decide_true, decide_false]
                exact ⟨_, by omega, e + 1, l2, fr2, by2, aP2, aF2, aB2, rfl, by omega, by rw [hex, hE], hif, hG2, hM2, by rw [wrapS (by omega)], hkk⟩
          · have he' : e = silc x + 1 := by omega
            subst he'
            have hsn : ∀ res, SrchR x y l2 (i + 1) res → SrchR x y l0 0 res := fun res h => hS res (SrchR.next hlt (by rw [hpe]; exact hf) (by rw [hpe, ← hl2]; exact h))
            obtain ⟨q, hq⟩ := extN_pre x y p l (silc x + 1)
            have hil : i + 1 ≤ l2.length := by rw [hl2, hq, List.length_append]; omega
            have hlen2 := hG2.len hx hy
            simp only [ltF hle, f0, f4, f5, f71, f72, hds, Cd.cd60, Tk.t60, base0, base1, base2, base3, Option.isNone_none, Option.isNone_some, Nat.reduceBEq, true_or, or_true, false_or, or_false, Nat.reduceLT, Nat.reduceMod, Nat.reducePow, rmaps, nsucc, List.flatten_cons, List.flatten_nil, Nat.reduceEqDiff, Nat.reduceLeDiff, Nat.reduceAdd, Nat.reduceMul, Nat.reduceSub, ↓reduceIte, reduceCtorEq, decide_true, decide_false]
            exact ⟨_, by omega, i + 1, l2, fr2, by2, aP, aF, aB, rfl, hil, hC2, hG2, hM2, hsn, by rw [wrapS (by omega)], by omega, hkr, hkm, hk5⟩
    · simp only [ho, List.length_map, ltF hlt, f0, f4, hds, Cd.cd60, Tk.t60, base0, base1, base2, base3, Option.isNone_none, Option.isNone_some, Nat.reduceBEq, true_or, or_true, false_or, or_false, Nat.reduceLT, Nat.reduceMod, Nat.reducePow, rmaps, nsucc, List.flatten_cons, List.flatten_nil, Nat.reduceEqDiff, Nat.reduceLeDiff, Nat.reduceAdd, Nat.reduceMul, Nat.reduceSub, ↓reduceIte, reduceCtorEq, decide_true, decide_false]
      refine Frz.ret (v' := .tup [nilS, .v (.bool false)]) (Views.tup (Views.cons nil_view (Views.cons (FZ.v _).view Views.nil))) (FZ.tup (FZs.two FZ.nilS (FZ.v _))) ?_
      exact ⟨none, l, hS _ (SrchR.done hlt), rfl, ⟨tp, _, _, (below_own hkr).trans ho⟩, hk1, fun n h1 h2 h3 => (below_own h1).trans (hk2 n h1 h2 h3)⟩
end Go.Proofs.YtchpcjmgifnmdaaDoor

/- Walks: Conforms; the laws' examples. -/
namespace Go.Proofs.YtchpcjmgifnmdaaDoor
open Go Go.Proofs.YtchpcjmgifnmdaaDoor.Ab
set_option maxRecDepth 100000
set_option linter.unusedSimpArgs false

open Classical in
/-- the answer of a search -/
noncomputable def resN (x y : Re) : Option (List Int) × List Nd := if h : ∃ r, SrchR x y [nd0 x y] 0 r then Classical.choose h else (none, [])
theorem resN_eq {x y : Re} {r : Option (List Int) × List Nd} (h : SrchR x y [nd0 x y] 0 r) : resN x y = r := by
  unfold resN
  rw [dif_pos ⟨r, h⟩]
  exact (Classical.choose_spec (⟨r, h⟩ : ∃ r, SrchR x y [nd0 x y] 0 r)).det h
theorem bothR_ok {x y : Re} (h : bothR x y = 0) : Ok x ∧ Ok y ∧ x.inp = y.inp ∧ x.out = y.out ∧ silc y = silc x := by
  unfold bothR orI at h
  by_cases h1 : errR x = 0
  · by_cases h2 : errR y = 0
    · simp only [h1, h2, ne_eq, not_true, if_false] at h
      by_cases h3 : x.inp = y.inp
      · by_cases h4 : x.out = y.out
        · exact ⟨ok_of_check h1, ok_of_check h2, h3, h4, by unfold silc; rw [h3, h4]⟩
        · simp [h4] at h
      · simp [h3] at h
    · simp only [h1, ne_eq, not_true, if_false] at h
      rw [if_pos h2] at h; exact absurd h h2
  · rw [if_pos h1] at h; exact absurd h h1
theorem came0 (p : Nd) (h : p.tr = []) : Came [p] [-1] [-1] := ⟨rfl, rfl, by simp, ⟨rfl, h⟩, fun k h1 h2 => by simp at h2; omega⟩
def ansV (o : Option (List Int)) : AV := match o with
  | some tr => .tup [ints tr, .v (.int .i64 29)]
  | none => .tup [nilS, .v (.int .i64 0)]
noncomputable def confV (x y : Re) : AV := if bothR x y ≠ 0 then .tup [nilS, .v (.int .i64 (bothR x y))] else ansV (resN x y).1
theorem conforms17 (x y : Re) : FCall Tryd.prog 17 [reV x, reV y] (· = confV x y) := by
  simp only [reV, reL, mvsV]
  refine ACall.enter [] Cd.fn17 (by simp) ?_
  simp only [Cd.cd17, Tk.t17, base0, base1, base2, base3, Option.isNone_none, Option.isNone_some, Nat.reduceBEq, true_or, or_true, false_or, or_false, Nat.reduceLT, Nat.reduceMod, Nat.reducePow, rmaps, nsucc, List.flatten_cons, List.flatten_nil, Nat.reduceEqDiff, Nat.reduceLeDiff, Nat.reduceAdd, Nat.reduceMul, Nat.reduceSub, ↓reduceIte, reduceCtorEq, decide_true, decide_false]
  first | refine FCall.go (both58 x y) (FZs.two (FZ.reV x) (FZ.reV y)) ?_ | refine FCall.go' (both58 x y) (FZs.two (FZ.reV x) (FZ.reV y)) ?_ | refine FCall.goQ (both58 x y) (FZs.two (FZ.reV x) (FZ.reV y)) ?_
  by_cases h0 : bothR x y = 0
  · obtain ⟨hx, hy, h1, h2, h3⟩ := bothR_ok h0
    simp only [show (bothR x y != 0) = false from by rw [h0]; rfl, Cd.cd17, Tk.t17, base0, base1, base2, base3, Option.isNone_none, Option.isNone_some, Nat.reduceBEq, true_or, or_true, false_or, or_false, Nat.reduceLT, Nat.reduceMod, Nat.reducePow, rmaps, nsucc, List.flatten_cons, List.flatten_nil, Nat.reduceEqDiff, Nat.reduceLeDiff, Nat.reduceAdd, Nat.reduceMul, Nat.reduceSub, ↓reduceIte, reduceCtorEq, decide_true, decide_false]
    refine ACall.thn (compare59 x y hx hy _) fun out H2 hq => ?_
    obtain ⟨r, m, aP, aF, aB, rfl, hC, _, _, _, _⟩ := hq
    refine ⟨_, rfl, ?_⟩
    simp only [Cd.cd17, Tk.t17, base0, base1, base2, base3, Option.isNone_none, Option.isNone_some, Nat.reduceBEq, true_or, or_true, false_or, or_false, Nat.reduceLT, Nat.reduceMod, Nat.reducePow, rmaps, nsucc, List.flatten_cons, List.flatten_nil, Nat.reduceEqDiff, Nat.reduceLeDiff, Nat.reduceAdd, Nat.reduceMul, Nat.reduceSub, ↓reduceIte, reduceCtorEq, decide_true, decide_false]
    refine ACall.thn (run60 x y hx hy h3 H2 r m aP aF aB [nd0 x y] [-1] [-1] hC (good0 hx hy) (came0 _ rfl)) fun out H3 hq => ?_
    obtain ⟨o, l, hS, rfl, _⟩ := hq
    refine ⟨_, rfl, ?_⟩
    have hres := resN_eq hS
    have hcv : confV x y = ansV o := by unfold confV; rw [if_neg (by simpa using h0), hres]
    cases o with
    | none =>
      simp only [runV, Cd.cd17, Tk.t17, base0, base1, base2, base3, Option.isNone_none, Option.isNone_some, Nat.reduceBEq, true_or, or_true, false_or, or_false, Nat.reduceLT, Nat.reduceMod, Nat.reducePow, rmaps, nsucc, List.flatten_cons, List.flatten_nil, Nat.reduceEqDiff, Nat.reduceLeDiff, Nat.reduceAdd, Nat.reduceMul, Nat.reduceSub, ↓reduceIte, reduceCtorEq, decide_true, decide_false]
      first | refine FCall.go (unless61 _ _) (FZs.v2 _ _) ?_ | refine FCall.go' (unless61 _ _) (FZs.v2 _ _) ?_ | refine FCall.goQ (unless61 _ _) (FZs.v2 _ _) ?_
      simp only [Cd.cd17, Tk.t17, base0, base1, base2, base3, Option.isNone_none, Option.isNone_some, Nat.reduceBEq, true_or, or_true, false_or, or_false, Nat.reduceLT, Nat.reduceMod, Nat.reducePow, rmaps, nsucc, List.flatten_cons, List.flatten_nil, Nat.reduceEqDiff, Nat.reduceLeDiff, Nat.reduceAdd, Nat.reduceMul, Nat.reduceSub, ↓reduceIte, reduceCtorEq, decide_true, decide_false]
      refine ⟨_, _, rfl, Views.tup (Views.cons nil_view (Views.cons (FZ.v _).view Views.nil)), FZ.tup (FZs.two FZ.nilS (FZ.v _)), ?_⟩
      rw [hcv]; rfl
    | some tr =>
      simp only [runV, Cd.cd17, Tk.t17, base0, base1, base2, base3, Option.isNone_none, Option.isNone_some, Nat.reduceBEq, true_or, or_true, false_or, or_false, Nat.reduceLT, Nat.reduceMod, Nat.reducePow, rmaps, nsucc, List.flatten_cons, List.flatten_nil, Nat.reduceEqDiff, Nat.reduceLeDiff, Nat.reduceAdd, Nat.reduceMul, Nat.reduceSub, ↓reduceIte, reduceCtorEq, decide_true, decide_false]
      first | refine FCall.go (unless61 _ _) (FZs.v2 _ _) ?_ | refine FCall.go' (unless61 _ _) (FZs.v2 _ _) ?_ | refine FCall.goQ (unless61 _ _) (FZs.v2 _ _) ?_
      simp only [Cd.cd17, Tk.t17, base0, base1, base2, base3, Option.isNone_none, Option.isNone_some, Nat.reduceBEq, true_or, or_true, false_or, or_false, Nat.reduceLT, Nat.reduceMod, Nat.reducePow, rmaps, nsucc, List.flatten_cons, List.flatten_nil, Nat.reduceEqDiff, Nat.reduceLeDiff, Nat.reduceAdd, Nat.reduceMul, Nat.reduceSub, ↓reduceIte, reduceCtorEq, decide_true, decide_false]
      refine ⟨_, _, rfl, Views.tup (Views.cons (FZ.ints tr).view (Views.cons (FZ.v _).view Views.nil)), FZ.tup (FZs.two (FZ.ints tr) (FZ.v _)), ?_⟩
      rw [hcv]; rfl
  · simp only [bneT h0, Cd.cd17, Tk.t17, base0, base1, base2, base3, Option.isNone_none, Option.isNone_some, Nat.reduceBEq, true_or, or_true, false_or, or_false, Nat.reduceLT, Nat.reduceMod, Nat.reducePow, rmaps, nsucc, List.flatten_cons, List.flatten_nil, Nat.reduceEqDiff, Nat.reduceLeDiff, Nat.reduceAdd, Nat.reduceMul, Nat.reduceSub, ↓reduceIte, reduceCtorEq, decide_true, decide_false]
    refine ⟨_, _, rfl, Views.tup (Views.cons nil_view (Views.cons (FZ.v _).view Views.nil)), FZ.tup (FZs.two FZ.nilS (FZ.v _)), ?_⟩
    unfold confV; rw [if_pos h0]
def exR : Re := ⟨3, 0, 1, 2, [⟨0, 0, 0, 1⟩, ⟨1, 1, 0, 2⟩, ⟨2, 0, 0, 2⟩]⟩
def otR : Re := ⟨3, 0, 1, 2, [⟨0, 0, 0, 1⟩, ⟨1, 1, 1, 2⟩, ⟨2, 0, 0, 2⟩]⟩
def exC (b : Int) : List AV := [.v (.int .i64 0), .v (.int .i64 0), .v (.int .i64 0), .v (.int .i64 1), .v (.int .i64 1), .v (.int .i64 1), .v (.int .i64 b), .v (.int .i64 2), .v (.int .i64 2), .v (.int .i64 0), .v (.int .i64 0), .v (.int .i64 2)]
theorem exA57 (H : AH) : ACall Tryd.prog 57 [] H (fun out H' => ∃ n, out = .ret (.agg [.v (.int .i64 3), .v (.int .i64 0), .v (.int .i64 1), .v (.int .i64 2), .sl 4 n 0 3]) ∧ H'.own n = some (.cells (exC 0)) ∧ n < H'.next ∧ H.next ≤ n ∧ ∀ k, k < H.next → H'.own k = H.own k) := by
  refine ACall.enter [4] Cd.fn57 (by simp) ?_
  simp only [Cd.cd57, Tk.t57, base0, base1, base2, base3, Option.isNone_none, Option.isNone_some, Nat.reduceBEq, true_or, or_true, false_or, or_false, Nat.reduceLT, Nat.reduceMod, Nat.reducePow, rmaps, nsucc, List.flatten_cons, List.flatten_nil, Nat.reduceEqDiff, Nat.reduceLeDiff, Nat.reduceAdd, Nat.reduceMul, Nat.reduceSub, ↓reduceIte, reduceCtorEq, decide_true, decide_false]
  exact ⟨H.next + 1, rfl, by simp [exC], by omega, by omega, fun k hk => by simp [show ¬ k = H.next by omega, show ¬ k = H.next + 1 by omega]⟩
theorem exV {H : AH} {n : Nat} {b : Int} (h : H.own n = some (.cells (exC b))) : View H (.agg [.v (.int .i64 3), .v (.int .i64 0), .v (.int .i64 1), .v (.int .i64 2), .sl 4 n 0 3]) (reV ⟨3, 0, 1, 2, [⟨0, 0, 0, 1⟩, ⟨1, 1, b, 2⟩, ⟨2, 0, 0, 2⟩]⟩) := by
  refine Views.agg (Views.cons (FZ.v _).view (Views.cons (FZ.v _).view (Views.cons (FZ.v _).view (Views.cons (FZ.v _).view (Views.cons ?_ Views.nil)))))
  refine View.sl h (by simp [exC]) rfl (fun i hi => ?_) fun i j hi hj => ?_
  · match i, hi with
    | 0, _ => rfl
    | 1, _ => rfl
    | 2, _ => rfl
  · match i, j, hi, hj with
    | 0, 0, _, _ => exact (FZ.v _).view
    | 0, 1, _, _ => exact (FZ.v _).view
    | 0, 2, _, _ => exact (FZ.v _).view
    | 0, 3, _, _ => exact (FZ.v _).view
    | 1, 0, _, _ => exact (FZ.v _).view
    | 1, 1, _, _ => exact (FZ.v _).view
    | 1, 2, _, _ => exact (FZ.v _).view
    | 1, 3, _, _ => exact (FZ.v _).view
    | 2, 0, _, _ => exact (FZ.v _).view
    | 2, 1, _, _ => exact (FZ.v _).view
    | 2, 2, _, _ => exact (FZ.v _).view
    | 2, 3, _, _ => exact (FZ.v _).view
theorem example57 : FCall Tryd.prog 57 [] (· = reV exR) := by
  refine (exA57 AH.none).mono fun out H' hq => ?_
  obtain ⟨n, rfl, h1, _, _, _⟩ := hq
  exact ⟨_, _, rfl, exV h1, FZ.reV exR, rfl⟩
theorem other56 : FCall Tryd.prog 56 [] (· = reV otR) := by
  refine ACall.enter [] Cd.fn56 (by simp) ?_
  simp only [Cd.cd56, Tk.t56, base0, base1, base2, base3, Option.isNone_none, Option.isNone_some, Nat.reduceBEq, true_or, or_true, false_or, or_false, Nat.reduceLT, Nat.reduceMod, Nat.reducePow, rmaps, nsucc, List.flatten_cons, List.flatten_nil, Nat.reduceEqDiff, Nat.reduceLeDiff, Nat.reduceAdd, Nat.reduceMul, Nat.reduceSub, ↓reduceIte, reduceCtorEq, decide_true, decide_false]
  refine ACall.thn (exA57 _) fun out H2 hq => ?_
  obtain ⟨n, rfl, h1, h2, h3, h4⟩ := hq
  refine ⟨_, rfl, ?_⟩
  have h30 : 1 ≤ n := h3
  have h40 := h4 0 (by show 0 < 0 + 1; omega)
  simp only [AH.none, if_true] at h40
  have hn : (n = H2.next) = False := by simp; omega
  have hn1 : (H2.next = n) = False := by simp; omega
  have hn2 : (0 = H2.next) = False := by simp; omega
  have hn3 : (0 = n) = False := by simp; omega
  have hn4 : (n = 0) = False := by simp; omega
  have hn5 : (H2.next = 0) = False := by simp; omega
  unfold exC at h1
  simp only [hn, hn1, hn2, hn3, hn4, hn5, h1, h40, AH.none, show ((0 : Int) ≤ 1 ∧ (1 : Int) < ((3 : Nat) : Int)) = True from by simp, show Int.toNat 1 = 1 from rfl, Cd.cd56, Tk.t56, base0, base1, base2, base3, Option.isNone_none, Option.isNone_some, Nat.reduceBEq, true_or, or_true, false_or, or_false, Nat.reduceLT, Nat.reduceMod, Nat.reducePow, rmaps, nsucc, List.flatten_cons, List.flatten_nil, Nat.reduceEqDiff, Nat.reduceLeDiff, Nat.reduceAdd, Nat.reduceMul, Nat.reduceSub, ↓reduceIte, reduceCtorEq, decide_true, decide_false]
  exact ⟨_, _, rfl, exV (b := 1) (by simp [exC, hn4]), FZ.reV otR, rfl⟩
theorem conf_ex : confV otR exR = .tup [ints [0, 2], .v (.int .i64 29)] := by
  have h0 : bothR otR exR = 0 := by decide +kernel
  have h1 : (srch otR exR 10 [nd0 otR exR] 0).map (·.1) = some (some [0, 2]) := by decide +kernel
  rw [Option.map_eq_some_iff] at h1
  obtain ⟨⟨o, l⟩, h2, rfl⟩ := h1
  have h3 := resN_eq (⟨10, h2⟩ : SrchR otR exR [nd0 otR exR] 0 _)
  unfold confV
  rw [if_neg (by simp [h0]), h3]; rfl
theorem after_ex : afterR exR [0, 1] = .tup [ints [2], .v (.int .i64 0)] := by
  have h1 : errR exR = 0 := by decide +kernel
  have h2 : trErr exR [0, 1] = 0 := by decide +kernel
  have h3 : bitsI (alongM exR [0, 1]) = [2] := by decide +kernel
  unfold afterR
  rw [if_neg (by simp [h1]), if_neg (by simp [h2]), setV, h3]
theorem awake15 : FCall Tryd.prog 15 [] (· = .v (.bool true)) := by
  have hc := conforms17 otR exR
  rw [conf_ex] at hc
  have ha := afterTrace29 exR [0, 1]
  rw [after_ex] at ha
  have ha2 : FCall Tryd.prog 29 [reV exR, .lst 1 [[.v (.int .i64 0)], [.v (.int .i64 1)]] .full] (· = .tup [ints [2], .v (.int .i64 0)]) := ACall.args ha vrs_unk2
  have hs1 : FCall Tryd.prog 22 [ints [0, 2], .lst 1 [[.v (.int .i64 0)], [.v (.int .i64 2)]] .full] (· = .v (.bool true)) := ACall.args (same22 [0, 2] [0, 2] (by simp)) vrs_unk2
  have hs2 : FCall Tryd.prog 22 [ints [2], .lst 1 [[.v (.int .i64 2)]] .full] (· = .v (.bool true)) := ACall.args (same22 [2] [2] (by simp)) vrs_unk2
  have hz1 : FZ (.lst 1 [[.v (.int .i64 0)], [.v (.int .i64 1)]] .full) := FZ.intL (l := [0, 1]) (tip := .full) rfl
  have hz2 : FZ (.lst 1 [[.v (.int .i64 0)], [.v (.int .i64 2)]] .full) := FZ.intL (l := [0, 2]) (tip := .full) rfl
  have hz3 : FZ (.lst 1 [[.v (.int .i64 2)]] .full) := FZ.intL (l := [2]) (tip := .full) rfl
  refine ACall.enter [] Cd.fn15 (by simp) ?_
  simp only [Cd.cd15, Tk.t15, base0, base1, base2, base3, Option.isNone_none, Option.isNone_some, Nat.reduceBEq, true_or, or_true, false_or, or_false, Nat.reduceLT, Nat.reduceMod, Nat.reducePow, rmaps, nsucc, List.flatten_cons, List.flatten_nil, Nat.reduceEqDiff, Nat.reduceLeDiff, Nat.reduceAdd, Nat.reduceMul, Nat.reduceSub, ↓reduceIte, reduceCtorEq, decide_true, decide_false]
  first | refine FCall.go other56 (FZs.nil) ?_ | refine FCall.go' other56 (FZs.nil) ?_ | refine FCall.goQ other56 (FZs.nil) ?_
  simp only [Cd.cd15, Tk.t15, base0, base1, base2, base3, Option.isNone_none, Option.isNone_some, Nat.reduceBEq, true_or, or_true, false_or, or_false, Nat.reduceLT, Nat.reduceMod, Nat.reducePow, rmaps, nsucc, List.flatten_cons, List.flatten_nil, Nat.reduceEqDiff, Nat.reduceLeDiff, Nat.reduceAdd, Nat.reduceMul, Nat.reduceSub, ↓reduceIte, reduceCtorEq, decide_true, decide_false]
  first | refine FCall.go example57 (FZs.nil) ?_ | refine FCall.go' example57 (FZs.nil) ?_ | refine FCall.goQ example57 (FZs.nil) ?_
  simp only [Cd.cd15, Tk.t15, base0, base1, base2, base3, Option.isNone_none, Option.isNone_some, Nat.reduceBEq, true_or, or_true, false_or, or_false, Nat.reduceLT, Nat.reduceMod, Nat.reducePow, rmaps, nsucc, List.flatten_cons, List.flatten_nil, Nat.reduceEqDiff, Nat.reduceLeDiff, Nat.reduceAdd, Nat.reduceMul, Nat.reduceSub, ↓reduceIte, reduceCtorEq, decide_true, decide_false]
  first | refine FCall.go hc (FZs.two (FZ.reV _) (FZ.reV _)) ?_ | refine FCall.go' hc (FZs.two (FZ.reV _) (FZ.reV _)) ?_ | refine FCall.goQ hc (FZs.two (FZ.reV _) (FZ.reV _)) ?_
  simp only [Cd.cd15, Tk.t15, base0, base1, base2, base3, Option.isNone_none, Option.isNone_some, Nat.reduceBEq, true_or, or_true, false_or, or_false, Nat.reduceLT, Nat.reduceMod, Nat.reducePow, rmaps, nsucc, List.flatten_cons, List.flatten_nil, Nat.reduceEqDiff, Nat.reduceLeDiff, Nat.reduceAdd, Nat.reduceMul, Nat.reduceSub, ↓reduceIte, reduceCtorEq, decide_true, decide_false]
  first | refine FCall.go example57 (FZs.nil) ?_ | refine FCall.go' example57 (FZs.nil) ?_ | refine FCall.goQ example57 (FZs.nil) ?_
  simp only [Cd.cd15, Tk.t15, base0, base1, base2, base3, Option.isNone_none, Option.isNone_some, Nat.reduceBEq, true_or, or_true, false_or, or_false, Nat.reduceLT, Nat.reduceMod, Nat.reducePow, rmaps, nsucc, List.flatten_cons, List.flatten_nil, Nat.reduceEqDiff, Nat.reduceLeDiff, Nat.reduceAdd, Nat.reduceMul, Nat.reduceSub, ↓reduceIte, reduceCtorEq, decide_true, decide_false]
  first | refine FCall.go ha2 (FZs.two (FZ.reV _) hz1) ?_ | refine FCall.go' ha2 (FZs.two (FZ.reV _) hz1) ?_ | refine FCall.goQ ha2 (FZs.two (FZ.reV _) hz1) ?_
  simp only [show ((29 : Int) == 29) = true from rfl, Cd.cd15, Tk.t15, base0, base1, base2, base3, Option.isNone_none, Option.isNone_some, Nat.reduceBEq, true_or, or_true, false_or, or_false, Nat.reduceLT, Nat.reduceMod, Nat.reducePow, rmaps, nsucc, List.flatten_cons, List.flatten_nil, Nat.reduceEqDiff, Nat.reduceLeDiff, Nat.reduceAdd, Nat.reduceMul, Nat.reduceSub, ↓reduceIte, reduceCtorEq, decide_true, decide_false]
  first | refine FCall.go hs1 (FZs.two (FZ.ints _) hz2) ?_ | refine FCall.go' hs1 (FZs.two (FZ.ints _) hz2) ?_ | refine FCall.goQ hs1 (FZs.two (FZ.ints _) hz2) ?_
  simp only [show ((0 : Int) == 0) = true from rfl, Cd.cd15, Tk.t15, base0, base1, base2, base3, Option.isNone_none, Option.isNone_some, Nat.reduceBEq, true_or, or_true, false_or, or_false, Nat.reduceLT, Nat.reduceMod, Nat.reducePow, rmaps, nsucc, List.flatten_cons, List.flatten_nil, Nat.reduceEqDiff, Nat.reduceLeDiff, Nat.reduceAdd, Nat.reduceMul, Nat.reduceSub, ↓reduceIte, reduceCtorEq, decide_true, decide_false]
  first | refine FCall.go hs2 (FZs.two (FZ.ints _) hz3) ?_ | refine FCall.go' hs2 (FZs.two (FZ.ints _) hz3) ?_ | refine FCall.goQ hs2 (FZs.two (FZ.ints _) hz3) ?_
  simp only [Cd.cd15, Tk.t15, base0, base1, base2, base3, Option.isNone_none, Option.isNone_some, Nat.reduceBEq, true_or, or_true, false_or, or_false, Nat.reduceLT, Nat.reduceMod, Nat.reducePow, rmaps, nsucc, List.flatten_cons, List.flatten_nil, Nat.reduceEqDiff, Nat.reduceLeDiff, Nat.reduceAdd, Nat.reduceMul, Nat.reduceSub, ↓reduceIte, reduceCtorEq, decide_true, decide_false]
  exact fin_v rfl
end Go.Proofs.YtchpcjmgifnmdaaDoor

/- Walks: sets of states are checked; what they can show. -/
namespace Go.Proofs.YtchpcjmgifnmdaaDoor
open Go Go.Proofs.YtchpcjmgifnmdaaDoor.Ab
set_option maxRecDepth 100000
set_option linter.unusedSimpArgs false

def seE (x : Re) (set : List Int) (i : Nat) : Int :=
  if !within (set.getD i 0) 0 (IntKind.i64.wrap (x.st - 1)) then 3 else if decide (0 < i) && decide (set.getD i 0 ≤ set.getD (i - 1) 0) then 14 else 0
def setE (x : Re) (set : List Int) : Int := match firstIx set.length (fun i => seE x set i != 0) with
  | some i => seE x set i
  | none => 0
theorem setE_at {x : Re} {set : List Int} {i : Nat} (hi : i < set.length) (hz : ∀ j, j < i → seE x set j = 0) {e : Int} (he : seE x set i = e) (hn : e ≠ 0) : setE x set = e := by
  unfold setE
  rw [firstIx_some hi (by simpa [he] using hn) fun j hj => by show (seE x set j != 0) = false; rw [hz j hj]; rfl]
  exact he
theorem setE_no {x : Re} {set : List Int} (hz : ∀ j, j < set.length → seE x set j = 0) : setE x set = 0 := by
  unfold setE
  rw [firstIx_none fun j hj => by show (seE x set j != 0) = false; rw [hz j hj]; rfl]
theorem setE_all {x : Re} {set : List Int} (h : setE x set = 0) : ∀ j, j < set.length → seE x set j = 0 := by
  unfold setE at h
  cases hf : firstIx set.length (fun i => seE x set i != 0) with
  | some i =>
    rw [hf] at h
    have := List.find?_some hf
    simp only [bne_iff_ne, ne_eq] at this
    exact absurd h this
  | none =>
    rw [firstIx_none_iff] at hf
    intro j hj
    have := hf j hj
    simpa using this
theorem seE_lt {x : Re} (hx : Ok x) {set : List Int} {i : Nat} (h : seE x set i = 0) : 0 ≤ set.getD i 0 ∧ set.getD i 0 < x.st := by
  have hst := hx.st
  unfold seE at h
  cases hw : within (set.getD i 0) 0 (IntKind.i64.wrap (x.st - 1))
  · rw [hw] at h; simp at h
  · rw [wrapI (by omega) (by omega)] at hw
    have := within_iff.mp hw
    omega
theorem setE_lt {x : Re} (hx : Ok x) {set : List Int} (h : setE x set = 0) : ∀ a ∈ set, 0 ≤ a ∧ a < x.st := fun a ha => by
  obtain ⟨i, hi, rfl⟩ := mem_getD ha
  exact seE_lt hx (setE_all h i hi)
theorem seE_ord {x : Re} {set : List Int} {i : Nat} (h : seE x set i = 0) (h0 : 0 < i) : set.getD (i - 1) 0 < set.getD i 0 := by
  unfold seE at h
  cases hw : within (set.getD i 0) 0 (IntKind.i64.wrap (x.st - 1))
  · rw [hw] at h; simp at h
  · rw [hw, decide_eq_true h0] at h
    simp only [Bool.not_true, Bool.false_eq_true, if_false, Bool.true_and] at h
    apply Decidable.byContradiction
    intro hn
    rw [decide_eq_true (by omega), if_pos rfl] at h
    omega
theorem setE_idx {x : Re} (hx : Ok x) {set : List Int} : ∀ i, (∀ j, j < i → seE x set j = 0) → ∀ j, j < i → (j : Int) ≤ set.getD j 0
  | 0, _, j, hj => by omega
  | i + 1, hz, 0, _ => (seE_lt hx (hz 0 (by omega))).1
  | i + 1, hz, j + 1, hj => by
    have h1 := setE_idx hx i (fun k hk => hz k (by omega)) j (by omega)
    have h2 := seE_ord (hz (j + 1) hj) (by omega)
    simp only [Nat.add_sub_cancel] at h2
    omega
theorem setE_len {x : Re} (hx : Ok x) {set : List Int} (h : setE x set = 0) : set.length ≤ 10 := by
  have hz := setE_all h
  have hst := hx.st
  apply Decidable.byContradiction
  intro hn
  have h1 := setE_idx hx set.length hz 10 (by omega)
  have h2 := seE_lt hx (hz 10 (by omega))
  omega
theorem maskL_succ {set : List Int} {i : Nat} (h : i < set.length) : maskL (set.take (i + 1)) = maskL (set.take i) ||| 2 ^ (set.getD i 0).toNat := by
  unfold maskL; rw [foldl_succ _ _ h]; rfl
theorem rSetErr32 (x : Re) (set : List Int) (hl : set.length < 2 ^ 62) : FCall Tryd.prog 32 [reV x, ints set] (· = .v (.int .i64 (setE x set))) := by
  simp only [reV, reL, mvsV]
  refine ACall.enter [] Cd.fn32 (by simp) ?_
  simp only [ints, Cd.cd32, Tk.t32, base0, base1, base2, base3, Option.isNone_none, Option.isNone_some, Nat.reduceBEq, true_or, or_true, false_or, or_false, Nat.reduceLT, Nat.reduceMod, Nat.reducePow, rmaps, nsucc, List.flatten_cons, List.flatten_nil, Nat.reduceEqDiff, Nat.reduceLeDiff, Nat.reduceAdd, Nat.reduceMul, Nat.reduceSub, ↓reduceIte, reduceCtorEq, decide_true, decide_false]
  refine LWP.loop [] (fun m f H' => ∃ i, m = set.length - i ∧ (i ≤ set.length) ∧ (∀ j, j < i → seE x set j = 0) ∧ f.t 1 = .lst 1 (set.map fun x => [.v (.int .i64 x)]) .unk ∧ f.t 2 = .box [.v (.int .i64 x.st), .v (.int .i64 x.s0), .v (.int .i64 x.inp), .v (.int .i64 x.out), .lst 4 (x.mv.map mvR) .unk] ∧ f.t 5 = .v (.int .i64 (i : Nat)) ∧ f.ds = [] ∧ H' = AH.none) ?_ ?_ (m := set.length - (0))
  · exact ⟨0, rfl, (by omega), (fun j hj => by omega), rfl, rfl, rfl, rfl, rfl⟩
  · rintro m f H' ⟨i, rfl, hi, hz, f1, f2, f5, hds, rfl⟩
    by_cases hlt : i < set.length
    · simp only [List.length_map, ltT hlt, inR hlt, Int.toNat_natCast, getD_ints set i hlt, f1, f2, f5, hds, Cd.cd32, Tk.t32, base0, base1, base2, base3, Option.isNone_none, Option.isNone_some, Nat.reduceBEq, true_or, or_true, false_or, or_false, Nat.reduceLT, Nat.reduceMod, Nat.reducePow, rmaps, nsucc, List.flatten_cons, List.flatten_nil, Nat.reduceEqDiff, Nat.reduceLeDiff, Nat.reduceAdd, Nat.reduceMul, Nat.reduceSub, ↓reduceIte, reduceCtorEq, decide_true, decide_false]
      first | refine FCall.go (within36 _ _ _) (FZs.v3 _ _ _) ?_ | refine FCall.go' (within36 _ _ _) (FZs.v3 _ _ _) ?_ | refine FCall.goQ (within36 _ _ _) (FZs.v3 _ _ _) ?_
      cases hw : within (set.getD i 0) 0 (IntKind.i64.wrap (x.st - 1))
      · simp only [f1, f2, f5, hds, Cd.cd32, Tk.t32, base0, base1, base2, base3, Option.isNone_none, Option.isNone_some, Nat.reduceBEq, true_or, or_true, false_or, or_false, Nat.reduceLT, Nat.reduceMod, Nat.reducePow, rmaps, nsucc, List.flatten_cons, List.flatten_nil, Nat.reduceEqDiff, Nat.reduceLeDiff, Nat.reduceAdd, Nat.reduceMul, Nat.reduceSub, ↓reduceIte, reduceCtorEq, decide_true, decide_false]
        exact fin_v (by rw [setE_at hlt hz (e := 3) (by unfold seE; rw [hw]; rfl) (by omega)])
      · by_cases h0 : 0 < i
        · have hl1 : i - 1 < set.length := by omega
          have hwr : IntKind.i64.wrap ((i : Int) - 1) = ((i - 1 : Nat) : Int) := by rw [wrapI (by omega) (by omega)]; omega
          by_cases ho : set.getD i 0 ≤ set.getD (i - 1) 0
          · simp only [List.length_map, show decide (((i : Nat) : Int) > 0) = true from decide_eq_true (by omega), hwr, inR hlt, inR hl1, Int.toNat_natCast, getD_ints set i hlt, getD_ints set (i - 1) hl1, show decide (set.getD (i - 1) 0 ≥ set.getD i 0) = true from decide_eq_true ho, f1, f2, f5, hds, Cd.cd32, Tk.t32, base0, base1, base2, base3, Option.isNone_none, Option.isNone_some, Nat.reduceBEq, true_or, or_true, false_or, or_false, Nat.reduceLT, Nat.reduceMod, Nat.reducePow, rmaps, nsucc, List.flatten_cons, List.flatten_nil, Nat.reduceEqDiff, Nat.reduceLeDiff, Nat.reduceAdd, Nat.reduceMul, Nat.reduceSub, ↓reduceIte, reduceCtorEq, decide_true, decide_false]
            exact fin_v (by rw [setE_at hlt hz (e := 14) (by unfold seE; rw [hw, decide_eq_true h0, decide_eq_true ho]; rfl) (by omega)])
          · simp only [List.length_map, show decide (((i : Nat) : Int) > 0) = true from decide_eq_true (by omega), hwr, inR hlt, inR hl1, Int.toNat_natCast, getD_ints set i hlt, getD_ints set (i - 1) hl1, show decide (set.getD (i - 1) 0 ≥ set.getD i 0) = false from decide_eq_false ho, f1, f2, f5, hds, Cd.cd32, Tk.t32, base0, base1, base2, base3, Option.isNone_none, Option.isNone_some, Nat.reduceBEq, true_or, or_true, false_or, or_false, Nat.reduceLT, Nat.reduceMod, Nat.reducePow, rmaps, nsucc, List.flatten_cons, List.flatten_nil, Nat.reduceEqDiff, Nat.reduceLeDiff, Nat.reduceAdd, Nat.reduceMul, Nat.reduceSub, ↓reduceIte, reduceCtorEq, decide_true, decide_false]
            refine ⟨_, by omega, i + 1, rfl, by omega, ?_⟩
            (repeat' apply And.intro) <;> first | rfl | (rw [wrapS (by omega)]) | omega | assumption | (exact allS hz (by unfold seE; rw [hw, decide_eq_false ho]; simp))
        · simp only [show decide (((i : Nat) : Int) > 0) = false from decide_eq_false (by omega), f1, f2, f5, hds, Cd.cd32, Tk.t32, base0, base1, base2, base3, Option.isNone_none, Option.isNone_some, Nat.reduceBEq, true_or, or_true, false_or, or_false, Nat.reduceLT, Nat.reduceMod, Nat.reducePow, rmaps, nsucc, List.flatten_cons, List.flatten_nil, Nat.reduceEqDiff, Nat.reduceLeDiff, Nat.reduceAdd, Nat.reduceMul, Nat.reduceSub, ↓reduceIte, reduceCtorEq, decide_true, decide_false]
          refine ⟨_, by omega, i + 1, rfl, by omega, ?_⟩
          (repeat' apply And.intro) <;> first | rfl | (rw [wrapS (by omega)]) | omega | assumption | (exact allS hz (by unfold seE; rw [hw, decide_eq_false h0]; rfl))
    · have hi' : i = set.length := by omega
      simp only [List.length_map, ltF hlt, f1, f2, f5, hds, Cd.cd32, Tk.t32, base0, base1, base2, base3, Option.isNone_none, Option.isNone_some, Nat.reduceBEq, true_or, or_true, false_or, or_false, Nat.reduceLT, Nat.reduceMod, Nat.reducePow, rmaps, nsucc, List.flatten_cons, List.flatten_nil, Nat.reduceEqDiff, Nat.reduceLeDiff, Nat.reduceAdd, Nat.reduceMul, Nat.reduceSub, ↓reduceIte, reduceCtorEq, decide_true, decide_false]
      exact fin_v (by rw [setE_no (by rw [← hi']; exact hz)])
theorem setOf79 (x : Re) (hx : Ok x) (set : List Int) (hl : set.length < 2 ^ 62) : FCall Tryd.prog 79 [reV x, ints set] (· = .tup [.v (.int .u64 ((if setE x set = 0 then maskL set else 0 : Nat) : Int)), .v (.int .i64 (setE x set))]) := by
  have hst := hx.st
  simp only [reV, reL, mvsV]
  refine ACall.enter [] Cd.fn79 (by simp) ?_
  simp only [ints, List.length_map, Cd.cd79, Tk.t79, base0, base1, base2, base3, Option.isNone_none, Option.isNone_some, Nat.reduceBEq, true_or, or_true, false_or, or_false, Nat.reduceLT, Nat.reduceMod, Nat.reducePow, rmaps, nsucc, List.flatten_cons, List.flatten_nil, Nat.reduceEqDiff, Nat.reduceLeDiff, Nat.reduceAdd, Nat.reduceMul, Nat.reduceSub, ↓reduceIte, reduceCtorEq, decide_true, decide_false]
  refine LWP.loop [] (fun m f H' => ∃ i, m = set.length - i ∧ (i ≤ set.length) ∧ (∀ j, j < i → seE x set j = 0) ∧ f.t 1 = .lst 1 (set.map fun x => [.v (.int .i64 x)]) .unk ∧ f.t 2 = .box [.v (.int .i64 x.st), .v (.int .i64 x.s0), .v (.int .i64 x.inp), .v (.int .i64 x.out), .lst 4 (x.mv.map mvR) .unk] ∧ f.t 6 = .v (.int .u64 (maskL (set.take i) : Nat)) ∧ f.t 9 = .lst 1 (set.map fun x => [.v (.int .i64 x)]) .unk ∧ f.t 10 = .v (.int .i64 (set.length : Nat)) ∧ f.t 11 = .v (.int .i64 (i : Nat)) ∧ f.ds = [] ∧ H' = AH.none) ?_ ?_ (m := set.length - (0))
  · exact ⟨0, rfl, (by omega), (fun j hj => by omega), rfl, rfl, by rfl, rfl, rfl, rfl, rfl, rfl⟩
  · rintro m f H' ⟨i, rfl, hi, hz, f1, f2, f6, f9, f10, f11, hds, rfl⟩
    by_cases hlt : i < set.length
    · simp only [List.length_map, ltT hlt, inR hlt, Int.toNat_natCast, getD_ints set i hlt, f1, f2, f6, f9, f10, f11, hds, Cd.cd79, Tk.t79, base0, base1, base2, base3, Option.isNone_none, Option.isNone_some, Nat.reduceBEq, true_or, or_true, false_or, or_false, Nat.reduceLT, Nat.reduceMod, Nat.reducePow, rmaps, nsucc, List.flatten_cons, List.flatten_nil, Nat.reduceEqDiff, Nat.reduceLeDiff, Nat.reduceAdd, Nat.reduceMul, Nat.reduceSub, ↓reduceIte, reduceCtorEq, decide_true, decide_false]
      first | refine FCall.go (spans66 _ _ _) (FZs.v3 _ _ _) ?_ | refine FCall.go' (spans66 _ _ _) (FZs.v3 _ _ _) ?_ | refine FCall.goQ (spans66 _ _ _) (FZs.v3 _ _ _) ?_
      have hmb : maskL (set.take i) < 1024 := by
        have : maskL (set.take i) < 2 ^ 10 := maskL_lt fun a ha => by
          obtain ⟨j, hj, rfl⟩ := mem_getD ha
          have hj' : j < i := by simp at hj; omega
          have h1 := seE_lt hx (hz j hj')
          have e : (set.take i).getD j default = set.getD j 0 := by
            rw [List.getD_eq_getElem?_getD, List.getElem?_take_of_lt hj']; rfl
          rw [e]; omega
        exact this
      cases hw : within (set.getD i 0) 0 (IntKind.i64.wrap (x.st - 1))
      · have hse := setE_at hlt hz (e := 3) (by unfold seE; rw [hw]; rfl) (by omega)
        simp only [f1, f2, f6, f9, f10, f11, hds, Cd.cd79, Tk.t79, base0, base1, base2, base3, Option.isNone_none, Option.isNone_some, Nat.reduceBEq, true_or, or_true, false_or, or_false, Nat.reduceLT, Nat.reduceMod, Nat.reducePow, rmaps, nsucc, List.flatten_cons, List.flatten_nil, Nat.reduceEqDiff, Nat.reduceLeDiff, Nat.reduceAdd, Nat.reduceMul, Nat.reduceSub, ↓reduceIte, reduceCtorEq, decide_true, decide_false]
        exact fin_t2 (by rw [hse]; rfl) (by rw [hse])
      · have hin : 0 ≤ set.getD i 0 ∧ set.getD i 0 < x.st := by
          rw [wrapI (by omega) (by omega)] at hw
          have := within_iff.mp hw
          omega
        obtain ⟨an, han⟩ : ∃ an : Nat, set.getD i 0 = (an : Int) := ⟨_, (Int.toNat_of_nonneg hin.1).symm⟩
        have hp2 : 2 ^ an < 1024 := (Nat.pow_lt_pow_right (by omega : 1 < 2) (show an < 10 by omega) : 2 ^ an < 2 ^ 10)
        have hms := maskL_succ hlt
        rw [han, Int.toNat_natCast] at hms
        have hno : (decide (0 < i) && decide (set.getD i 0 ≤ set.getD (i - 1) 0)) = false → seE x set i = 0 := fun h => by unfold seE; rw [hw, h]; rfl
        by_cases h0 : 0 < i
        · have hl1 : i - 1 < set.length := by omega
          have hwr : IntKind.i64.wrap ((i : Int) - 1) = ((i - 1 : Nat) : Int) := by rw [wrapI (by omega) (by omega)]; omega
          by_cases ho : set.getD i 0 ≤ set.getD (i - 1) 0
          · have hse := setE_at hlt hz (e := 14) (by unfold seE; rw [hw, decide_eq_true h0, decide_eq_true ho]; rfl) (by omega)
            simp only [List.length_map, show decide (((i : Nat) : Int) > 0) = true from decide_eq_true (by omega), hwr, inR hl1, Int.toNat_natCast, getD_ints set (i - 1) hl1, decide_eq_true ho, f1, f2, f6, f9, f10, f11, hds, Cd.cd79, Tk.t79, base0, base1, base2, base3, Option.isNone_none, Option.isNone_some, Nat.reduceBEq, true_or, or_true, false_or, or_false, Nat.reduceLT, Nat.reduceMod, Nat.reducePow, rmaps, nsucc, List.flatten_cons, List.flatten_nil, Nat.reduceEqDiff, Nat.reduceLeDiff, Nat.reduceAdd, Nat.reduceMul, Nat.reduceSub, ↓reduceIte, reduceCtorEq, decide_true, decide_false]
            exact fin_t2 (by rw [hse]; rfl) (by rw [hse])
          · have hse := hno (by rw [decide_eq_false ho]; simp)
            simp only [List.length_map, show decide (((i : Nat) : Int) > 0) = true from decide_eq_true (by omega), hwr, inR hl1, Int.toNat_natCast, getD_ints set (i - 1) hl1, show decide ((an : Int) ≤ set.getD (i - 1) 0) = false from by rw [← han]; exact decide_eq_false ho, han, show ((an : Int) < 0) = False from by simp, shlN (show an < 10 by omega), orU hmb hp2, f1, f2, f6, f9, f10, f11, hds, Cd.cd79, Tk.t79, base0, base1, base2, base3, Option.isNone_none, Option.isNone_some, Nat.reduceBEq, true_or, or_true, false_or, or_false, Nat.reduceLT, Nat.reduceMod, Nat.reducePow, rmaps, nsucc, List.flatten_cons, List.flatten_nil, Nat.reduceEqDiff, Nat.reduceLeDiff, Nat.reduceAdd, Nat.reduceMul, Nat.reduceSub, ↓reduceIte, reduceCtorEq, decide_true, decide_false]
            exact ⟨_, by omega, i + 1, rfl, by omega, allS hz hse, by rw [hms], by rw [wrapS (by omega)]⟩
        · have hse := hno (by rw [decide_eq_false h0]; rfl)
          simp only [show decide (((i : Nat) : Int) > 0) = false from decide_eq_false (by omega), Int.toNat_natCast, han, show ((an : Int) < 0) = False from by simp, shlN (show an < 10 by omega), orU hmb hp2, f1, f2, f6, f9, f10, f11, hds, Cd.cd79, Tk.t79, base0, base1, base2, base3, Option.isNone_none, Option.isNone_some, Nat.reduceBEq, true_or, or_true, false_or, or_false, Nat.reduceLT, Nat.reduceMod, Nat.reducePow, rmaps, nsucc, List.flatten_cons, List.flatten_nil, Nat.reduceEqDiff, Nat.reduceLeDiff, Nat.reduceAdd, Nat.reduceMul, Nat.reduceSub, ↓reduceIte, reduceCtorEq, decide_true, decide_false]
          exact ⟨_, by omega, i + 1, rfl, by omega, allS hz hse, by rw [hms], by rw [wrapS (by omega)]⟩
    · have hi' : i = set.length := by omega
      have hse := setE_no (x := x) (set := set) (by rw [← hi']; exact hz)
      simp only [List.length_map, ltF hlt, f1, f2, f6, f9, f10, f11, hds, Cd.cd79, Tk.t79, base0, base1, base2, base3, Option.isNone_none, Option.isNone_some, Nat.reduceBEq, true_or, or_true, false_or, or_false, Nat.reduceLT, Nat.reduceMod, Nat.reducePow, rmaps, nsucc, List.flatten_cons, List.flatten_nil, Nat.reduceEqDiff, Nat.reduceLeDiff, Nat.reduceAdd, Nat.reduceMul, Nat.reduceSub, ↓reduceIte, reduceCtorEq, decide_true, decide_false]
      exact fin_t2 (by rw [hse, if_pos rfl, hi', List.take_length]) (by rw [hse])
end Go.Proofs.YtchpcjmgifnmdaaDoor

/- Walks: ShownBy; the law of what is after a trace, and what is shown. -/
namespace Go.Proofs.YtchpcjmgifnmdaaDoor
open Go Go.Proofs.YtchpcjmgifnmdaaDoor.Ab
set_option maxRecDepth 100000
set_option linter.unusedSimpArgs false

def shownR (x : Re) (set : List Int) : AV := if errR x ≠ 0 then .tup [nilS, .v (.int .i64 (errR x))] else if setE x set ≠ 0 then .tup [nilS, .v (.int .i64 (setE x set))] else .tup [ints (shownL x (cl x (maskL set))), .v (.int .i64 0)]
end Go.Proofs.YtchpcjmgifnmdaaDoor

/- Which states are reached; which input a reached state does not take: plainly. -/
namespace Go.Proofs.YtchpcjmgifnmdaaDoor
open Go Go.Proofs.YtchpcjmgifnmdaaDoor.Ab
set_option linter.unusedSectionVars false

def recvP (x : Re) (l k : Nat) : Nat := (List.range k).foldl (fun acc e => if true then acc ||| aft x l e else acc) l
def recv (x : Re) (l : Nat) : Nat := recvP x l (silc x)
def rcF (x : Re) : Nat → Nat → Nat
  | 0, l => l
  | k + 1, l => if recv x l = l then l else rcF x k (recv x l)
def rchd (x : Re) : Nat := rcF x 1024 (fstM x)
theorem recv_bit {x : Re} {l b : Nat} : (recv x l).testBit b = true ↔ l.testBit b = true ∨ ∃ e, e < silc x ∧ (aft x l e).testBit b = true := by
  unfold recv recvP
  rw [testBit_foldor (fun _ => true)]
  simp
theorem recvP_lt {x : Re} (hx : Ok x) {l : Nat} (h : l < 2 ^ nst x) (k : Nat) : recvP x l k < 2 ^ nst x := foldor_lt (fun _ => true) _ _ _ h fun e _ _ => aft_lt hx h e
theorem recv_lt {x : Re} (hx : Ok x) {l : Nat} (h : l < 2 ^ nst x) : recv x l < 2 ^ nst x := recvP_lt hx h _
theorem recv_ge {x : Re} (l : Nat) : l ≤ recv x l := by
  have : recv x l = l ||| recv x l := by
    apply bit_ext
    intro i
    rw [Nat.testBit_or]
    simp only [Bool.or_eq_true, recv_bit]
    constructor
    · intro h; exact .inr h
    · rintro (h | h)
      · exact .inl h
      · exact h
  rw [this]; exact Nat.left_le_or
/-- closed under silent moves -/
def Cld (x : Re) (l : Nat) : Prop := ∀ a b, l.testBit a = true → (silM x a).testBit b = true → l.testBit b = true
theorem cl_cld {x : Re} (hx : Ok x) {l : Nat} (h : l < 2 ^ nst x) : Cld x (cl x l) := fun a b ha hs => by
  obtain ⟨c, hc, hr⟩ := (cl_bit hx h).mp ha
  exact (cl_bit hx h).mpr ⟨c, hc, .step hr hs⟩
theorem recv_cld {x : Re} (hx : Ok x) {l : Nat} (h : l < 2 ^ nst x) (hc : Cld x l) : Cld x (recv x l) := fun a b ha hs => by
  rcases recv_bit.mp ha with ha | ⟨e, he, ha⟩
  · exact recv_bit.mpr (.inl (hc a b ha hs))
  · exact recv_bit.mpr (.inr ⟨e, he, cl_cld hx (rawA_lt hx h e) a b ha hs⟩)
inductive RchA (x : Re) : Nat → Prop
  | start : RchA x x.s0.toNat
  | step {m : Mv} : m ∈ x.mv → RchA x m.fr.toNat → RchA x m.to.toNat
theorem rch_rchA {x : Re} (hx : Ok x) {a b : Nat} (h : Rch x a b) (ha : RchA x a) : RchA x b := by
  induction h with
  | refl => exact ha
  | @step b c hr hs ih =>
    obtain ⟨m, hm, _, h2, h3⟩ := silM_bit.mp hs
    rw [← h3]
    exact .step hm (by rw [h2, Int.toNat_natCast]; exact ih)
theorem fst_rchA {x : Re} (hx : Ok x) {b : Nat} (h : (fstM x).testBit b = true) : RchA x b := by
  have hp : 2 ^ x.s0.toNat < 2 ^ nst x := Nat.pow_lt_pow_right (by omega) (by have := hx.s0; unfold nst; omega)
  obtain ⟨a, ha, hr⟩ := (cl_bit hx hp).mp h
  rw [Nat.testBit_two_pow, decide_eq_true_eq] at ha
  subst ha
  exact rch_rchA hx hr .start
theorem recv_rchA {x : Re} (hx : Ok x) {l : Nat} (h : l < 2 ^ nst x) (hl : ∀ b, l.testBit b = true → RchA x b) : ∀ b, (recv x l).testBit b = true → RchA x b := fun b hb => by
  rcases recv_bit.mp hb with hb | ⟨e, he, hb⟩
  · exact hl b hb
  · obtain ⟨a, ha, hr⟩ := (cl_bit hx (rawA_lt hx h e)).mp hb
    rcases (rawA_bit hx h (by omega)).mp ha with ⟨h1, _, _⟩ | ⟨m, hm, _, h2, _, h4⟩
    · omega
    · refine rch_rchA hx hr ?_
      rw [← h4]
      exact .step hm (hl _ h2)
/-- what a set has that is no longer growing -/
structure RcI (x : Re) (l : Nat) : Prop where
  lt : l < 2 ^ nst x
  cd : Cld x l
  st : l.testBit x.s0.toNat = true
  ra : ∀ b, l.testBit b = true → RchA x b
theorem rcI_fst {x : Re} (hx : Ok x) : RcI x (fstM x) := by
  have hp : 2 ^ x.s0.toNat < 2 ^ nst x := Nat.pow_lt_pow_right (by omega) (by have := hx.s0; unfold nst; omega)
  exact ⟨fst_lt hx, cl_cld hx hp, clF_sup _ _ (by rw [Nat.testBit_two_pow]; simp), fun b hb => fst_rchA hx hb⟩
theorem RcI.next {x : Re} (hx : Ok x) {l : Nat} (h : RcI x l) : RcI x (recv x l) := ⟨recv_lt hx h.lt, recv_cld hx h.lt h.cd, recv_bit.mpr (.inl h.st), recv_rchA hx h.lt h.ra⟩
theorem rcF_fix {x : Re} (hx : Ok x) : ∀ (k l : Nat), RcI x l → 1024 - l ≤ k → recv x (rcF x k l) = rcF x k l ∧ RcI x (rcF x k l)
  | 0, l, h, hk => by have := hx.pw h.lt; omega
  | k + 1, l, h, hk => by
    unfold rcF
    split
    · rename_i he; exact ⟨he, h⟩
    · rename_i he
      have := recv_ge (x := x) l
      exact rcF_fix hx k _ (h.next hx) (by omega)
theorem rchd_fix {x : Re} (hx : Ok x) : recv x (rchd x) = rchd x ∧ RcI x (rchd x) := rcF_fix hx 1024 _ (rcI_fst hx) (by omega)
theorem evM_lt {x : Re} (hx : Ok x) {m : Mv} (hm : m ∈ x.mv) (hk : m.kd ≠ 2) : 0 ≤ evM x m ∧ evM x m < (silc x : Int) := by
  have h := hx.mv m hm
  have hlb := h.lb
  have := hx.inp; have := hx.out
  unfold labels at hlb
  unfold evM silc
  rcases h.kd with h | h | h
  · rw [if_pos h] at hlb ⊢; omega
  · rw [if_neg (by omega), if_pos h] at hlb
    rw [if_neg (by omega)]; omega
  · exact absurd h hk
theorem rchd_bit {x : Re} (hx : Ok x) {b : Nat} : (rchd x).testBit b = true ↔ RchA x b := by
  obtain ⟨hf, hI⟩ := rchd_fix hx
  refine ⟨hI.ra b, fun h => ?_⟩
  induction h with
  | start => exact hI.st
  | @step m hm _ ih =>
    have hmo := hx.mv m hm
    by_cases hk : m.kd = 2
    · exact hI.cd _ _ ih (silM_bit.mpr ⟨m, hm, hk, by rw [Int.toNat_of_nonneg hmo.fr.1], rfl⟩)
    · obtain ⟨h1, h2⟩ := evM_lt hx hm hk
      rw [← hf]
      refine recv_bit.mpr (.inr ⟨(evM x m).toNat, by omega, clF_sup _ _ ?_⟩)
      exact (rawA_bit hx hI.lt (by omega)).mpr (.inr ⟨m, hm, hk, ih, by omega, rfl⟩)
def deafAt (x : Re) (s n : Nat) : Bool := aft x (cl x (2 ^ s)) n == 0
def dfs (x : Re) (s : Nat) : Option Nat := if (rchd x).testBit s then firstIx x.inp.toNat (deafAt x s) else none
def deafN (x : Re) : Option (Nat × Nat) := (firstIx (nst x) fun s => (dfs x s).isSome).bind fun s => (dfs x s).map fun n => (s, n)
end Go.Proofs.YtchpcjmgifnmdaaDoor

/- Walks: receptive systems. -/
namespace Go.Proofs.YtchpcjmgifnmdaaDoor
open Go Go.Proofs.YtchpcjmgifnmdaaDoor.Ab
set_option maxRecDepth 100000
set_option linter.unusedSimpArgs false

theorem FZ.t3 (a b c : Value) : FZ (.tup [.v a, .v b, .v c]) := FZ.tup (FZs.v3 _ _ _)
def recpO (o : Option (Nat × Nat)) : AV := match o with
  | some p => .tup [.v (.int .i64 (p.1 : Nat)), .v (.int .i64 (p.2 : Nat)), .v (.int .i64 29)]
  | none => .tup [.v (.int .i64 0), .v (.int .i64 0), .v (.int .i64 0)]
def recpV (x : Re) : AV := if errR x ≠ 0 then .tup [.v (.int .i64 0), .v (.int .i64 0), .v (.int .i64 (errR x))] else recpO (deafN x)
end Go.Proofs.YtchpcjmgifnmdaaDoor

/- Walks: the reference's deaf states; the law of checks. -/
namespace Go.Proofs.YtchpcjmgifnmdaaDoor
open Go Go.Proofs.YtchpcjmgifnmdaaDoor.Ab
set_option maxRecDepth 100000
set_option linter.unusedSimpArgs false

structure WA (x : Re) (r : List Int) : Prop where
  nd : r.Nodup
  lt : ∀ b ∈ r, 0 ≤ b ∧ b < x.st
  ra : ∀ b ∈ x.s0 :: r, RchA x b.toNat
theorem WA.len {x : Re} (hx : Ok x) {r : List Int} (h : WA x r) : r.length ≤ 10 := by
  have := hx.st
  exact nodup_i 10 r h.nd fun b hb => by have := h.lt b hb; omega
theorem WA.start (x : Re) : WA x [] := ⟨List.nodup_nil, fun _ h => by simp at h, fun b hb => by simp at hb; subst hb; exact .start⟩
theorem WA.add {x : Re} (hx : Ok x) {r : List Int} (h : WA x r) {m : Mv} (hm : m ∈ x.mv) (hf : m.fr ∈ x.s0 :: r) (hn : m.to ∉ x.s0 :: r) : WA x (r ++ [m.to]) := by
  have hmo := hx.mv m hm
  refine ⟨?_, fun b hb => ?_, fun b hb => ?_⟩
  · rw [List.nodup_append]
    refine ⟨h.nd, by simp, fun a ha b hb => ?_⟩
    simp only [List.mem_singleton] at hb
    subst hb
    intro e; subst e; exact hn (List.mem_cons_of_mem _ ha)
  · rcases List.mem_append.mp hb with hb | hb
    · exact h.lt b hb
    · simp only [List.mem_singleton] at hb; subst hb; exact hmo.to
  · rw [← List.cons_append] at hb
    rcases List.mem_append.mp hb with hb | hb
    · exact h.ra b hb
    · simp only [List.mem_singleton] at hb; subst hb
      exact .step hm (h.ra _ hf)
theorem WA.all {x : Re} (hx : Ok x) {r : List Int} (h : WA x r) (hc : ∀ a ∈ x.s0 :: r, ∀ m ∈ x.mv, m.fr = a → m.to ∈ x.s0 :: r) (s : Nat) : decide ((s : Int) ∈ x.s0 :: r) = (rchd x).testBit s := by
  rw [Bool.eq_iff_iff, decide_eq_true_eq, rchd_bit hx]
  constructor
  · intro hm
    have := h.ra _ hm
    rwa [Int.toNat_natCast] at this
  · intro hr
    induction hr with
    | start => have := hx.s0; rw [Int.toNat_of_nonneg this.1]; exact List.mem_cons_self
    | @step m hm _ ih =>
      have hmo := hx.mv m hm
      rw [Int.toNat_of_nonneg hmo.to.1]
      rw [Int.toNat_of_nonneg hmo.fr.1] at ih
      exact hc _ ih m hm rfl
def WB (x : Re) (L : List Int) : Prop := ∃ r, L = x.s0 :: r ∧ WA x r
theorem WB.len {x : Re} (hx : Ok x) {L : List Int} (h : WB x L) : 0 < L.length ∧ L.length ≤ 11 := by
  obtain ⟨r, rfl, h⟩ := h
  have := h.len hx
  simp; omega
theorem WB.start (x : Re) : WB x [x.s0] := ⟨[], rfl, WA.start x⟩
theorem WB.add {x : Re} (hx : Ok x) {L : List Int} (h : WB x L) {m : Mv} (hm : m ∈ x.mv) (hf : m.fr ∈ L) (hn : m.to ∉ L) : WB x (L ++ [m.to]) := by
  obtain ⟨r, rfl, h⟩ := h
  exact ⟨r ++ [m.to], rfl, h.add hx hm hf hn⟩
theorem WB.all {x : Re} (hx : Ok x) {L : List Int} (h : WB x L) (hc : ∀ a ∈ L, ∀ m ∈ x.mv, m.fr = a → m.to ∈ L) (s : Nat) : decide ((s : Int) ∈ L) = (rchd x).testBit s := by
  obtain ⟨r, rfl, h⟩ := h
  exact h.all hx hc s
/-- a list that is full, or grows -/
def GrowF (H : AH) (a : AV) (l : List Int) : Prop := a = .lst 1 (l.map intR) .full ∨ ∃ t, t < H.next ∧ a = .lst 1 (l.map intR) (.live t) ∧ H.tip t = some l.length
theorem GrowF.lst {H : AH} {a : AV} {l : List Int} (h : GrowF H a l) : ∃ tip, a = .lst 1 (l.map intR) tip := by
  rcases h with h | ⟨t, _, h, _⟩
  · exact ⟨_, h⟩
  · exact ⟨_, h⟩
def deafO (o : Option (Nat × Nat)) : AV := match o with
  | some p => .tup [.v (.int .i64 (p.1 : Nat)), .v (.int .i64 (p.2 : Nat)), .v (.bool true)]
  | none => .tup [.v (.int .i64 0), .v (.int .i64 0), .v (.bool false)]
end Go.Proofs.YtchpcjmgifnmdaaDoor

/- Walks: what is small; the least relation. -/
namespace Go.Proofs.YtchpcjmgifnmdaaDoor
open Go Go.Proofs.YtchpcjmgifnmdaaDoor.Ab
set_option maxRecDepth 100000
set_option linter.unusedSimpArgs false

def fewB (x : Re) : Bool := decide (errR x ≠ 0) || (decide (x.st ≤ 6) && decide (x.inp ≤ 2) && decide (x.out ≤ 2) && decide (x.mv.length ≤ 20))
def enR (p : Nd) : List AV := [setV p.x, setV p.y]
theorem FZs.enR (p : Nd) : FZs (enR p) := FZs.two (FZ.setV _) (FZ.setV _)
def relL (l : List Nd) : AV := .lst 2 (l.map enR) .unk
theorem FZ.relL (l : List Nd) : FZ (relL l) := FZ.lst rfl fun r hr => by
  obtain ⟨x, _, rfl⟩ := List.mem_map.mp hr
  exact FZs.enR x
def relO (o : Option (List Int)) (l : List Nd) : AV := match o with
  | some _ => .tup [nilS, .v (.int .i64 29)]
  | none => if 300 < l.length then .tup [nilS, .v (.int .i64 32)] else .tup [relL l, .v (.int .i64 0)]
noncomputable def relV (x y : Re) : AV := if bothR x y ≠ 0 then .tup [nilS, .v (.int .i64 (bothR x y))] else relO (resN x y).1 (resN x y).2
theorem take_map_succ {α : Type} [Inhabited α] (f : α → List AV) (l : List α) {i : Nat} (h : i < l.length) : (l.take (i + 1)).map f = (l.take i).map f ++ [f (l.getD i default)] := by
  rw [List.take_add_one, List.getElem?_eq_getElem h, List.getD_eq_getElem?_getD, List.getElem?_eq_getElem h, List.map_append]; rfl
end Go.Proofs.YtchpcjmgifnmdaaDoor

/- Walks: the reference's search. -/
namespace Go.Proofs.YtchpcjmgifnmdaaDoor
open Go Go.Proofs.YtchpcjmgifnmdaaDoor.Ab
set_option maxRecDepth 100000
set_option linter.unusedSimpArgs false

def enN (p : Nd) : List AV := [setV p.x, setV p.y, ints p.tr]
theorem FZs.enN (p : Nd) : FZs (enN p) := FZs.three (FZ.setV _) (FZ.setV _) (FZ.ints _)
def pairsV (l : List Nd) : AV := .lst 3 (l.map enN) .unk
theorem FZ.pairsV (l : List Nd) : FZ (pairsV l) := FZ.lst rfl fun r hr => by
  obtain ⟨x, _, rfl⟩ := List.mem_map.mp hr
  exact FZs.enN x
theorem bitsI_inj {a b : Nat} (ha : a < 1024) (hb : b < 1024) : bitsI a = bitsI b ↔ a = b := by
  constructor
  · intro h
    rw [← maskL_bits ha, ← maskL_bits hb, h]
  · intro h; rw [h]
end Go.Proofs.YtchpcjmgifnmdaaDoor

/- Walks: the reference's search, all of it. -/
namespace Go.Proofs.YtchpcjmgifnmdaaDoor
open Go Go.Proofs.YtchpcjmgifnmdaaDoor.Ab
set_option maxRecDepth 100000
set_option linter.unusedSimpArgs false

def enA (q : Nd × AV) : List AV := [setV q.1.x, setV q.1.y, q.2]
def TrOk (a : AV) (tr : List Int) : Prop := (a = nilS ∧ tr = []) ∨ ∃ tip, a = .lst 1 (tr.map intR) tip
theorem TrOk.view {H : AH} {a : AV} {tr : List Int} (h : TrOk a tr) : View H a (ints tr) := by
  rcases h with ⟨rfl, rfl⟩ | ⟨tip, rfl⟩
  · exact View.nil 1
  · exact View.tip fun rr hr => by
      obtain ⟨y, _, rfl⟩ := List.mem_map.mp hr
      exact FZs.v1 _
/-- a list that is full, or grows -/
def GrowG {α : Type} (enc : α → List AV) (k : Nat) (H : AH) (a : AV) (l : List α) : Prop := a = .lst k (l.map enc) .full ∨ ∃ t, t < H.next ∧ a = .lst k (l.map enc) (.live t) ∧ H.tip t = some l.length
theorem GrowG.lst {α : Type} {enc : α → List AV} {k : Nat} {H : AH} {a : AV} {l : List α} (h : GrowG enc k H a l) : ∃ tip, a = .lst k (l.map enc) tip := by
  rcases h with h | ⟨t, _, h, _⟩
  · exact ⟨_, h⟩
  · exact ⟨_, h⟩
theorem GrowG.kp {α : Type} {enc : α → List AV} {k : Nat} {H H' : AH} {a : AV} {l : List α} (h : GrowG enc k H a l) (hk : Kp H H') : GrowG enc k H' a l := by
  rcases h with h | ⟨t, h1, h2, h3⟩
  · exact .inl h
  · exact .inr ⟨t, Nat.lt_of_lt_of_le h1 hk.nx, h2, (hk.tp t h1).trans h3⟩
theorem GrowG.mono {α : Type} {enc : α → List AV} {k : Nat} {H H' : AH} {a : AV} {l : List α} (h : GrowG enc k H a l) (hn : H.next ≤ H'.next) (ht : ∀ t, t < H.next → H'.tip t = H.tip t) : GrowG enc k H' a l := by
  rcases h with h | ⟨t, h1, h2, h3⟩
  · exact .inl h
  · exact .inr ⟨t, Nat.lt_of_lt_of_le h1 hn, h2, (ht t h1).trans h3⟩
theorem setV_z0 {x : Re} (hx : Ok x) {l : Nat} (hl : l < 2 ^ nst x) : (((bitsN l).length : Int) == 0) = decide (l = 0) := by
  have h := bitsN_nil (hx.pw hl)
  by_cases h0 : l = 0
  · rw [h.mpr h0]; simp [h0]
  · have : 0 < (bitsN l).length := List.length_pos_iff.mpr fun e => h0 (h.mp e)
    simp [h0]; exact fun e => h0 (h.mp e)
/-- what the search knows of its list -/
structure SeI (x y : Re) (L : List (Nd × AV)) : Prop where
  G : GoodN x y (L.map Prod.fst)
  T : ∀ q ∈ L, TrOk q.2 q.1.tr
  B : ∀ j, j < L.length → (L.getD j default).1.tr.length ≤ j
theorem SeI.start {x y : Re} (hx : Ok x) (hy : Ok y) : SeI x y [(nd0 x y, nilS)] := ⟨good0 hx hy, fun q hq => by simp at hq; subst hq; exact .inl ⟨rfl, rfl⟩, fun j hj => by simp at hj; subst hj; exact Nat.le_refl _⟩
theorem SeI.len {x y : Re} (hx : Ok x) (hy : Ok y) {L : List (Nd × AV)} (h : SeI x y L) : L.length ≤ 1048576 := by
  have := h.G.len hx hy; simpa using this
theorem SeI.add {x y : Re} (hx : Ok x) (hy : Ok y) {L : List (Nd × AV)} (h : SeI x y L) {p : Nd} {a : AV} (h1 : p.x < 2 ^ nst x) (h2 : p.y < 2 ^ nst y) (hm : metN (L.map Prod.fst) p.x p.y = false) (ht : TrOk a p.tr) (hl : p.tr.length ≤ L.length) : SeI x y (L ++ [(p, a)]) := by
  refine ⟨?_, fun q hq => ?_, fun j hj => ?_⟩
  · have := h.G.add hx hy h1 h2
    unfold addN at this
    rw [hm] at this
    rw [List.map_append]; exact this
  · rcases List.mem_append.mp hq with hq | hq
    · exact h.T q hq
    · simp only [List.mem_singleton] at hq; subst hq; exact ht
  · by_cases hj' : j < L.length
    · rw [getD_append_left _ _ _ hj']; exact h.B j hj'
    · have : j = L.length := by simp at hj; omega
      subst this
      rw [getD_append_len]; exact hl
def SeR (x y : Re) (v : AV) : Prop := match (resN x y).1 with
  | some tr => ∃ L, v = .tup [ints tr, .v (.bool true), pairsV L]
  | none => v = .tup [nilS, .v (.bool false), pairsV (resN x y).2]
end Go.Proofs.YtchpcjmgifnmdaaDoor

/- Walks: the law that the least failing trace is found, or the least relation. -/
namespace Go.Proofs.YtchpcjmgifnmdaaDoor
open Go Go.Proofs.YtchpcjmgifnmdaaDoor.Ab
set_option maxRecDepth 100000
set_option linter.unusedSimpArgs false

def LenB (l : List Nd) : Prop := ∀ j, j < l.length → (l.getD j default).tr.length ≤ j
theorem LenB.add {l : List Nd} (h : LenB l) {p : Nd} (hp : p.tr.length ≤ l.length) : LenB (addN l p) := by
  unfold addN
  split
  · exact h
  · intro j hj
    by_cases hj' : j < l.length
    · rw [getD_append_left _ _ _ hj']; exact h j hj'
    · have : j = l.length := by simp at hj; omega
      subst this
      rw [getD_append_len]; exact hp
end Go.Proofs.YtchpcjmgifnmdaaDoor

/- Relations as plain data; copies of them; what is in them. -/
namespace Go.Proofs.YtchpcjmgifnmdaaDoor
open Go Go.Proofs.YtchpcjmgifnmdaaDoor.Ab
set_option maxRecDepth 100000
set_option linter.unusedSimpArgs false

structure Pr where
  sys : List Int
  spec : List Int
deriving Inhabited
def enQ (p : Pr) : List AV := [ints p.sys, ints p.spec]
def prsV (l : List Pr) : AV := .lst 2 (l.map enQ) .unk
theorem FZs.enQ (p : Pr) : FZs (enQ p) := FZs.two (FZ.ints _) (FZ.ints _)
theorem FZ.prsV (l : List Pr) : FZ (prsV l) := FZ.lst rfl fun r hr => by
  obtain ⟨x, _, rfl⟩ := List.mem_map.mp hr
  exact FZs.enQ x
theorem bits_sorted' (l : Nat) : (bitsN l).Pairwise (· < ·) := List.pairwise_lt_range.filter _
theorem sorted_ext : ∀ {a b : List Int}, a.Pairwise (· < ·) → b.Pairwise (· < ·) → (∀ x, x ∈ a ↔ x ∈ b) → a = b
  | [], [], _, _, _ => rfl
  | [], y :: b, _, _, h => by have := (h y).mpr (by simp); simp at this
  | x :: a, [], _, _, h => by have := (h x).mp (by simp); simp at this
  | x :: a, y :: b, ha, hb, h => by
    rw [List.pairwise_cons] at ha hb
    have hxy : x = y := by
      have h1 := (h x).mp (by simp)
      have h2 := (h y).mpr (by simp)
      rcases List.mem_cons.mp h1 with h1 | h1
      · exact h1
      · rcases List.mem_cons.mp h2 with h2 | h2
        · exact h2.symm
        · have := ha.1 y h2; have := hb.1 x h1; omega
    subst hxy
    congr 1
    refine sorted_ext ha.2 hb.2 fun z => ⟨fun hz => ?_, fun hz => ?_⟩
    · rcases List.mem_cons.mp ((h z).mp (by simp [hz])) with h1 | h1
      · subst h1; have := ha.1 z hz; omega
      · exact h1
    · rcases List.mem_cons.mp ((h z).mpr (by simp [hz])) with h1 | h1
      · subst h1; have := hb.1 z hz; omega
      · exact h1
/-- lists that ascend within bounds are sets -/
theorem setE_bits {x : Re} (hx : Ok x) {set : List Int} (h : setE x set = 0) : bitsI (maskL set) = set := by
  have hlt := setE_lt hx h
  have hz := setE_all h
  have hM := set_lt hx hlt
  have hs1 : (bitsI (maskL set)).Pairwise (· < ·) := by
    unfold bitsI
    rw [List.pairwise_map]
    exact (bits_sorted' _).imp fun {a b} hab => by omega
  have hs2 : set.Pairwise (· < ·) := by
    rw [List.pairwise_iff_getElem]
    intro i j hi hj hij
    have key : ∀ d, i + d + 1 < set.length → set.getD i 0 < set.getD (i + d + 1) 0 := by
      intro d
      induction d with
      | zero =>
        intro hd
        have := seE_ord (hz (i + 0 + 1) hd) (by omega)
        simpa using this
      | succ d ih =>
        intro hd
        have h1 := ih (by omega)
        have h2 := seE_ord (hz (i + (d + 1) + 1) hd) (by omega)
        have e : i + (d + 1) + 1 - 1 = i + d + 1 := by omega
        rw [e] at h2
        omega
    have := key (j - i - 1) (by omega)
    rw [show i + (j - i - 1) + 1 = j by omega, List.getD_eq_getElem?_getD, List.getD_eq_getElem?_getD, List.getElem?_eq_getElem hi, List.getElem?_eq_getElem hj] at this
    exact this
  have hmem : ∀ a, a ∈ bitsI (maskL set) ↔ a ∈ set := by
    intro a
    constructor
    · intro ha
      have h1 := bitsI_mem ha
      have := (maskL_bit fun b hb => (hlt b hb).1).mp h1.2.2
      rwa [Int.toNat_of_nonneg h1.1] at this
    · intro ha
      have h0 := (hlt a ha).1
      unfold bitsI
      rw [List.mem_map]
      refine ⟨a.toNat, (bitsN_mem (hx.pw hM)).mpr ((maskL_bit fun b hb => (hlt b hb).1).mpr ?_), Int.toNat_of_nonneg h0⟩
      rw [Int.toNat_of_nonneg h0]; exact ha
  exact sorted_ext hs1 hs2 hmem
def hasP (l : List Pr) (a b : Nat) : Bool := l.any fun p => decide (maskL p.sys = a) && decide (maskL p.spec = b)
theorem hasP_iff {l : List Pr} {a b : Nat} : hasP l a b = true ↔ ∃ p ∈ l, maskL p.sys = a ∧ maskL p.spec = b := by simp [hasP]
theorem hasPair88 (x y : Re) (hx : Ok x) (hy : Ok y) (l : List Pr) (hl : l.length < 2 ^ 40) (h : ∀ p ∈ l, setE x p.sys = 0 ∧ setE y p.spec = 0) (a b : Nat) (ha : a < 1024) (hb : b < 1024) : FCall Tryd.prog 88 [prsV l, setV a, setV b] (· = .v (.bool (hasP l a b))) := by
  simp only [prsV]
  refine ACall.enter [] Cd.fn88 (by simp) ?_
  simp only [Cd.cd88, Tk.t88, base0, base1, base2, base3, Option.isNone_none, Option.isNone_some, Nat.reduceBEq, true_or, or_true, false_or, or_false, Nat.reduceLT, Nat.reduceMod, Nat.reducePow, rmaps, nsucc, List.flatten_cons, List.flatten_nil, Nat.reduceEqDiff, Nat.reduceLeDiff, Nat.reduceAdd, Nat.reduceMul, Nat.reduceSub, ↓reduceIte, reduceCtorEq, decide_true, decide_false]
  refine LWP.loop [] (fun m f H' => ∃ i, m = l.length - i ∧ (i ≤ l.length) ∧ (∀ j, j < i → ¬ (maskL (l.getD j default).sys = a ∧ maskL (l.getD j default).spec = b)) ∧ f.t 0 = .lst 2 (l.map enQ) .unk ∧ f.t 1 = setV a ∧ f.t 2 = setV b ∧ f.t 7 = .v (.int .i64 (i : Nat)) ∧ f.ds = [] ∧ H' = AH.none) ?_ ?_ (m := l.length - (0))
  · exact ⟨0, rfl, (by omega), (fun j hj => by omega), rfl, rfl, rfl, rfl, rfl, rfl⟩
  · rintro m f H' ⟨i, rfl, hi, hz, f0, f1, f2, f7, hds, rfl⟩
    by_cases hlt : i < l.length
    · have hg := getD_map enQ l i hlt
      have hq := h _ (getD_mem hlt)
      have hmt := getD_mem (l := l) hlt
      generalize hqe : l.getD i default = q at hg hq hmt
      have e1 := setE_bits hx hq.1
      have e2 := setE_bits hy hq.2
      have l1 := setE_len hx hq.1
      have l2 := setE_len hy hq.2
      have m1 := hx.pw (set_lt hx (setE_lt hx hq.1))
      have m2 := hy.pw (set_lt hy (setE_lt hy hq.2))
      simp only [List.length_map, ltT hlt, inR hlt, Int.toNat_natCast, hg, enQ, f0, f1, f2, f7, hds, Cd.cd88, Tk.t88, base0, base1, base2, base3, Option.isNone_none, Option.isNone_some, Nat.reduceBEq, true_or, or_true, false_or, or_false, Nat.reduceLT, Nat.reduceMod, Nat.reducePow, rmaps, nsucc, List.flatten_cons, List.flatten_nil, Nat.reduceEqDiff, Nat.reduceLeDiff, Nat.reduceAdd, Nat.reduceMul, Nat.reduceSub, ↓reduceIte, reduceCtorEq, decide_true, decide_false]
      first | refine FCall.go (same22 q.sys (bitsI a) (by omega)) (FZs.two (FZ.ints _) (FZ.setV _)) ?_ | refine FCall.go' (same22 q.sys (bitsI a) (by omega)) (FZs.two (FZ.ints _) (FZ.setV _)) ?_ | refine FCall.goQ (same22 q.sys (bitsI a) (by omega)) (FZs.two (FZ.ints _) (FZ.setV _)) ?_
      by_cases h1 : maskL q.sys = a
      · simp only [show decide (q.sys = bitsI a) = true from decide_eq_true (by rw [← h1, e1]), List.length_map, inR hlt, Int.toNat_natCast, hg, enQ, f0, f1, f2, f7, hds, Cd.cd88, Tk.t88, base0, base1, base2, base3, Option.isNone_none, Option.isNone_some, Nat.reduceBEq, true_or, or_true, false_or, or_false, Nat.reduceLT, Nat.reduceMod, Nat.reducePow, rmaps, nsucc, List.flatten_cons, List.flatten_nil, Nat.reduceEqDiff, Nat.reduceLeDiff, Nat.reduceAdd, Nat.reduceMul, Nat.reduceSub, ↓reduceIte, reduceCtorEq, decide_true, decide_false]
        first | refine FCall.go (same22 q.spec (bitsI b) (by omega)) (FZs.two (FZ.ints _) (FZ.setV _)) ?_ | refine FCall.go' (same22 q.spec (bitsI b) (by omega)) (FZs.two (FZ.ints _) (FZ.setV _)) ?_ | refine FCall.goQ (same22 q.spec (bitsI b) (by omega)) (FZs.two (FZ.ints _) (FZ.setV _)) ?_
        by_cases h2 : maskL q.spec = b
        · simp only [show decide (q.spec = bitsI b) = true from decide_eq_true (by rw [← h2, e2]), f0, f1, f2, f7, hds, Cd.cd88, Tk.t88, base0, base1, base2, base3, Option.isNone_none, Option.isNone_some, Nat.reduceBEq, true_or, or_true, false_or, or_false, Nat.reduceLT, Nat.reduceMod, Nat.reducePow, rmaps, nsucc, List.flatten_cons, List.flatten_nil, Nat.reduceEqDiff, Nat.reduceLeDiff, Nat.reduceAdd, Nat.reduceMul, Nat.reduceSub, ↓reduceIte, reduceCtorEq, decide_true, decide_false]
          exact fin_v (by rw [hasP_iff.mpr ⟨q, hmt, h1, h2⟩])
        · simp only [show decide (q.spec = bitsI b) = false from decide_eq_false (fun e => h2 ((bitsI_inj m2 hb).mp (e2.trans e))), f0, f1, f2, f7, hds, Cd.cd88, Tk.t88, base0, base1, base2, base3, Option.isNone_none, Option.isNone_some, Nat.reduceBEq, true_or, or_true, false_or, or_false, Nat.reduceLT, Nat.reduceMod, Nat.reducePow, rmaps, nsucc, List.flatten_cons, List.flatten_nil, Nat.reduceEqDiff, Nat.reduceLeDiff, Nat.reduceAdd, Nat.reduceMul, Nat.reduceSub, ↓reduceIte, reduceCtorEq, decide_true, decide_false]
          refine ⟨_, by omega, i + 1, rfl, by omega, ?_⟩
          (repeat' apply And.intro) <;> first | rfl | (rw [wrapS (by omega)]) | omega | assumption | (exact allS hz (by rw [hqe]; exact fun e => h2 e.2))
      · simp only [show decide (q.sys = bitsI a) = false from decide_eq_false (fun e => h1 ((bitsI_inj m1 ha).mp (e1.trans e))), f0, f1, f2, f7, hds, Cd.cd88, Tk.t88, base0, base1, base2, base3, Option.isNone_none, Option.isNone_some, Nat.reduceBEq, true_or, or_true, false_or, or_false, Nat.reduceLT, Nat.reduceMod, Nat.reducePow, rmaps, nsucc, List.flatten_cons, List.flatten_nil, Nat.reduceEqDiff, Nat.reduceLeDiff, Nat.reduceAdd, Nat.reduceMul, Nat.reduceSub, ↓reduceIte, reduceCtorEq, decide_true, decide_false]
        refine ⟨_, by omega, i + 1, rfl, by omega, ?_⟩
        (repeat' apply And.intro) <;> first | rfl | (rw [wrapS (by omega)]) | omega | assumption | (exact allS hz (by rw [hqe]; exact fun e => h1 e.1))
    · simp only [List.length_map, ltF hlt, f0, f1, f2, f7, hds, Cd.cd88, Tk.t88, base0, base1, base2, base3, Option.isNone_none, Option.isNone_some, Nat.reduceBEq, true_or, or_true, false_or, or_false, Nat.reduceLT, Nat.reduceMod, Nat.reducePow, rmaps, nsucc, List.flatten_cons, List.flatten_nil, Nat.reduceEqDiff, Nat.reduceLeDiff, Nat.reduceAdd, Nat.reduceMul, Nat.reduceSub, ↓reduceIte, reduceCtorEq, decide_true, decide_false]
      refine fin_v ?_
      have : hasP l a b = false := by
        rw [Bool.eq_false_iff]
        intro hm
        obtain ⟨q, hq, h1, h2⟩ := hasP_iff.mp hm
        obtain ⟨j, hj, rfl⟩ := mem_getD hq
        exact hz j (by omega) ⟨h1, h2⟩
      rw [this]
theorem ownPairs44 (l : List Pr) (hl : l.length * 48 ≤ 140737488355328) (h : ∀ p ∈ l, p.sys.length * 8 ≤ 140737488355328 ∧ p.spec.length * 8 ≤ 140737488355328) : FCall Tryd.prog 44 [prsV l] (· = prsV l) := by
  simp only [prsV]
  refine ACall.enter [] Cd.fn44 (by simp) ?_
  simp only [Cd.cd44, Tk.t44, base0, base1, base2, base3, Option.isNone_none, Option.isNone_some, Nat.reduceBEq, true_or, or_true, false_or, or_false, Nat.reduceLT, Nat.reduceMod, Nat.reducePow, rmaps, nsucc, List.flatten_cons, List.flatten_nil, Nat.reduceEqDiff, Nat.reduceLeDiff, Nat.reduceAdd, Nat.reduceMul, Nat.reduceSub, ↓reduceIte, reduceCtorEq, decide_true, decide_false]
  refine LWP.loop [] (fun m f H' => ∃ i a, m = l.length - i ∧ (i ≤ l.length) ∧ (GrowN enQ 2 0 H' a (l.take i)) ∧ f.t 0 = .lst 2 (l.map enQ) .unk ∧ f.t 3 = a ∧ f.t 4 = .v (.int .i64 (i : Nat)) ∧ f.ds = [] ∧ True) ?_ ?_ (m := l.length - (0))
  · exact ⟨0, nilS, rfl, (by omega), (.inl ⟨rfl, .inl rfl⟩), rfl, rfl, rfl, rfl, trivial⟩
  · rintro m f H' ⟨i, a, rfl, hi, hg, f0, f3, f4, hds, hH⟩
    by_cases hlt : i < l.length
    · have hgp := getD_map enQ l i hlt
      have hq := h _ (getD_mem hlt)
      have htk := take_map_succ enQ l hlt
      have hln : (l.take (i + 1)).length = (l.take i).length + 1 := by simp only [List.length_take]; omega
      generalize hpe : l.getD i default = p at hgp hq htk
      have hr : roomA 48 ((l.take i).length + 1) = true := room_of (by simp only [List.length_take]; omega) (by simp only [List.length_take]; omega)
      simp only [List.length_map, ltT hlt, inR hlt, Int.toNat_natCast, hgp, enQ, f0, f3, f4, hds, Cd.cd44, Tk.t44, base0, base1, base2, base3, Option.isNone_none, Option.isNone_some, Nat.reduceBEq, true_or, or_true, false_or, or_false, Nat.reduceLT, Nat.reduceMod, Nat.reducePow, rmaps, nsucc, List.flatten_cons, List.flatten_nil, Nat.reduceEqDiff, Nat.reduceLeDiff, Nat.reduceAdd, Nat.reduceMul, Nat.reduceSub, ↓reduceIte, reduceCtorEq, decide_true, decide_false]
      first | refine FCall.go (ownIntsF p.sys hq.1) (FZs.one (FZ.ints _)) ?_ | refine FCall.go' (ownIntsF p.sys hq.1) (FZs.one (FZ.ints _)) ?_ | refine FCall.goQ (ownIntsF p.sys hq.1) (FZs.one (FZ.ints _)) ?_
      simp only [List.length_map, inR hlt, Int.toNat_natCast, hgp, enQ, f0, f3, f4, hds, Cd.cd44, Tk.t44, base0, base1, base2, base3, Option.isNone_none, Option.isNone_some, Nat.reduceBEq, true_or, or_true, false_or, or_false, Nat.reduceLT, Nat.reduceMod, Nat.reducePow, rmaps, nsucc, List.flatten_cons, List.flatten_nil, Nat.reduceEqDiff, Nat.reduceLeDiff, Nat.reduceAdd, Nat.reduceMul, Nat.reduceSub, ↓reduceIte, reduceCtorEq, decide_true, decide_false]
      first | refine FCall.go (ownIntsF p.spec hq.2) (FZs.one (FZ.ints _)) ?_ | refine FCall.go' (ownIntsF p.spec hq.2) (FZs.one (FZ.ints _)) ?_ | refine FCall.goQ (ownIntsF p.spec hq.2) (FZs.one (FZ.ints _)) ?_
      rcases hg with ⟨h0, rfl | rfl⟩ | ⟨t, t1, t2, rfl, t4⟩
      · simp only [nilS, ints, show roomA 48 1 = true from rfl, f0, f3, f4, hds, Cd.cd44, Tk.t44, base0, base1, base2, base3, Option.isNone_none, Option.isNone_some, Nat.reduceBEq, true_or, or_true, false_or, or_false, Nat.reduceLT, Nat.reduceMod, Nat.reducePow, rmaps, nsucc, List.flatten_cons, List.flatten_nil, Nat.reduceEqDiff, Nat.reduceLeDiff, Nat.reduceAdd, Nat.reduceMul, Nat.reduceSub, ↓reduceIte, reduceCtorEq, decide_true, decide_false]
        exact ⟨_, by omega, i + 1, _, rfl, by omega, .inr ⟨_, Nat.zero_le _, Nat.lt_succ_self _, by rw [htk, h0]; rfl, by rw [hln, h0]; simp⟩, rfl, by rw [wrapS (by omega)]⟩
      · simp only [ints, show roomA 48 1 = true from rfl, f0, f3, f4, hds, Cd.cd44, Tk.t44, base0, base1, base2, base3, Option.isNone_none, Option.isNone_some, Nat.reduceBEq, true_or, or_true, false_or, or_false, Nat.reduceLT, Nat.reduceMod, Nat.reducePow, rmaps, nsucc, List.flatten_cons, List.flatten_nil, Nat.reduceEqDiff, Nat.reduceLeDiff, Nat.reduceAdd, Nat.reduceMul, Nat.reduceSub, ↓reduceIte, reduceCtorEq, decide_true, decide_false]
        exact ⟨_, by omega, i + 1, _, rfl, by omega, .inr ⟨_, Nat.zero_le _, Nat.lt_succ_self _, by rw [htk, h0]; rfl, by rw [hln, h0]; simp⟩, rfl, by rw [wrapS (by omega)]⟩
      · simp only [ints, t4, hr, List.length_map, f0, f3, f4, hds, Cd.cd44, Tk.t44, base0, base1, base2, base3, Option.isNone_none, Option.isNone_some, Nat.reduceBEq, true_or, or_true, false_or, or_false, Nat.reduceLT, Nat.reduceMod, Nat.reducePow, rmaps, nsucc, List.flatten_cons, List.flatten_nil, Nat.reduceEqDiff, Nat.reduceLeDiff, Nat.reduceAdd, Nat.reduceMul, Nat.reduceSub, ↓reduceIte, reduceCtorEq, decide_true, decide_false]
        exact ⟨_, by omega, i + 1, _, rfl, by omega, .inr ⟨t, t1, t2, by rw [htk]; rfl, by rw [hln]; simp⟩, rfl, by rw [wrapS (by omega)]⟩
    · have hi' : i = l.length := by omega
      rw [hi', List.take_length] at hg
      simp only [List.length_map, ltF hlt, f0, f3, f4, hds, Cd.cd44, Tk.t44, base0, base1, base2, base3, Option.isNone_none, Option.isNone_some, Nat.reduceBEq, true_or, or_true, false_or, or_false, Nat.reduceLT, Nat.reduceMod, Nat.reducePow, rmaps, nsucc, List.flatten_cons, List.flatten_nil, Nat.reduceEqDiff, Nat.reduceLeDiff, Nat.reduceAdd, Nat.reduceMul, Nat.reduceSub, ↓reduceIte, reduceCtorEq, decide_true, decide_false]
      exact ⟨_, _, rfl, hg.view FZs.enQ, FZ.prsV l, rfl⟩
end Go.Proofs.YtchpcjmgifnmdaaDoor

/- Walks: relations are checked by the program. -/
namespace Go.Proofs.YtchpcjmgifnmdaaDoor
open Go Go.Proofs.YtchpcjmgifnmdaaDoor.Ab
set_option maxRecDepth 100000
set_option linter.unusedSimpArgs false

def pairE (x y : Re) (p : Pr) : Int := orI (setE x p.sys) (setE y p.spec)
def badE (x y : Re) (l : List Pr) (p : Pr) (e : Nat) : Bool := failsAt x y (cl x (maskL p.sys)) (cl y (maskL p.spec)) e || (decide (aft y (cl y (maskL p.spec)) e ≠ 0) && !hasP l (aft x (cl x (maskL p.sys)) e) (aft y (cl y (maskL p.spec)) e))
def badP (x y : Re) (l : List Pr) (p : Pr) : Bool := (List.range (silc x + 1)).any (badE x y l p)
def relC (x y : Re) (l : List Pr) : Int × Int := if 300 < l.length then (0, 2) else match firstIx l.length (fun i => pairE x y (l.getD i default) != 0) with
  | some i => (i, pairE x y (l.getD i default))
  | none => if !hasP l (fstM x) (fstM y) then (0, 11) else match firstIx l.length (fun i => badP x y l (l.getD i default)) with
    | some i => (i, 30)
    | none => (l.length, 0)
def relF (x y : Re) (l : List Pr) : Int × Int := if bothR x y ≠ 0 then (0, bothR x y) else relC x y l
def toNd (p : Pr) : Nd := ⟨maskL p.sys, maskL p.spec, []⟩
theorem relC_pair {x y : Re} {l : List Pr} (h : ¬ 300 < l.length) {i : Nat} (hi : i < l.length) (hz : ∀ j, j < i → pairE x y (l.getD j default) = 0) {e : Int} (he : pairE x y (l.getD i default) = e) (hn : e ≠ 0) : relC x y l = ((i : Int), e) := by
  unfold relC
  rw [if_neg h, firstIx_some hi (by show (pairE x y (l.getD i default) != 0) = true; rw [he]; simpa using hn) fun j hj => by show (pairE x y (l.getD j default) != 0) = false; rw [hz j hj]; rfl]
  simp only [he]
theorem relC_first {x y : Re} {l : List Pr} (h : ¬ 300 < l.length) (hz : ∀ j, j < l.length → pairE x y (l.getD j default) = 0) (hf : hasP l (fstM x) (fstM y) = false) : relC x y l = (0, 11) := by
  unfold relC
  rw [if_neg h, firstIx_none fun j hj => by show (pairE x y (l.getD j default) != 0) = false; rw [hz j hj]; rfl]
  simp [hf]
theorem relC_bad {x y : Re} {l : List Pr} (h : ¬ 300 < l.length) (hz : ∀ j, j < l.length → pairE x y (l.getD j default) = 0) (hf : hasP l (fstM x) (fstM y) = true) {i : Nat} (hi : i < l.length) (hg : ∀ j, j < i → badP x y l (l.getD j default) = false) (hb : badP x y l (l.getD i default) = true) : relC x y l = ((i : Int), 30) := by
  unfold relC
  rw [if_neg h, firstIx_none fun j hj => by show (pairE x y (l.getD j default) != 0) = false; rw [hz j hj]; rfl]
  simp only [hf, Bool.not_true, Bool.false_eq_true, if_false]
  rw [firstIx_some hi hb hg]
theorem relC_ok {x y : Re} {l : List Pr} (h : ¬ 300 < l.length) (hz : ∀ j, j < l.length → pairE x y (l.getD j default) = 0) (hf : hasP l (fstM x) (fstM y) = true) (hg : ∀ j, j < l.length → badP x y l (l.getD j default) = false) : relC x y l = ((l.length : Int), 0) := by
  unfold relC
  rw [if_neg h, firstIx_none fun j hj => by show (pairE x y (l.getD j default) != 0) = false; rw [hz j hj]; rfl]
  simp only [hf, Bool.not_true, Bool.false_eq_true, if_false]
  rw [firstIx_none hg]
open Classical in
theorem put_same {k : Value} {es : List (Value × AV)} (h : ∃ p ∈ es, p.1 = k) (hv : ∀ p ∈ es, p.2 = .v (.bool true)) (hf : (findM k es).isSome = true) : putM k (.v (.bool true)) es = es := by
  unfold putM
  cases hfm : findM k es with
  | none => rw [hfm] at hf; cases hf
  | some v =>
    simp only
    have : (es.map fun p => if p.1 = k then (k, AV.v (.bool true)) else p) = es.map id := by
      apply List.map_congr_left
      intro p hp
      by_cases hpk : p.1 = k
      · rw [if_pos hpk]
        have := hv p hp
        cases p with
        | mk a b => simp only at hpk this; subst hpk; subst this; rfl
      · rw [if_neg hpk]; rfl
    rw [this, List.map_id]
theorem orI_left {a b : Int} (h : orI a b = 0) : a = 0 ∧ b = 0 := by
  unfold orI at h
  by_cases h1 : a = 0
  · rw [h1] at h; simp at h; exact ⟨h1, h⟩
  · rw [if_pos h1] at h; exact absurd h h1
theorem firstIx_is {n i : Nat} {p : Nat → Bool} (h : firstIx n p = some i) : p i = true ∧ i < n := by
  have h1 := List.find?_some h
  have h2 := List.mem_of_find?_eq_some h
  exact ⟨h1, List.mem_range.mp h2⟩
theorem hasP_succ (l : List Pr) {i : Nat} (hi : i < l.length) (a b : Nat) : hasP (l.take (i + 1)) a b = (hasP (l.take i) a b || (decide (maskL (l.getD i default).sys = a) && decide (maskL (l.getD i default).spec = b))) := by
  unfold hasP
  rw [List.take_add_one, List.getElem?_eq_getElem hi, List.getD_eq_getElem?_getD, List.getElem?_eq_getElem hi, List.any_append]
  simp
theorem metN_add (l : List Nd) (p : Nd) (a b : Nat) : metN (addN l p) a b = (metN l a b || (decide (p.x = a) && decide (p.y = b))) := by
  unfold addN
  split
  · rename_i h
    by_cases hp : p.x = a ∧ p.y = b
    · obtain ⟨rfl, rfl⟩ := hp
      rw [h]; rfl
    · have : (decide (p.x = a) && decide (p.y = b)) = false := by
        simp only [Bool.and_eq_false_iff, decide_eq_false_iff_not]
        by_cases h1 : p.x = a
        · exact .inr fun h2 => hp ⟨h1, h2⟩
        · exact .inl h1
      rw [this, Bool.or_false]
  · unfold metN; rw [List.any_append]; simp
theorem take_map_toNd (l : List Pr) {i : Nat} (h : i < l.length) : ((l.take (i + 1)).map toNd).map enP = ((l.take i).map toNd).map enP ++ [enP (toNd (l.getD i default))] := by
  rw [List.take_add_one, List.getElem?_eq_getElem h, List.getD_eq_getElem?_getD, List.getElem?_eq_getElem h, List.map_append, List.map_append]; rfl
set_option maxHeartbeats 8000000 in
theorem check43 (x y : Re) (l : List Pr) (hl62 : ∀ p ∈ l, p.sys.length < 2 ^ 62 ∧ p.spec.length < 2 ^ 62) : FCall Tryd.prog 43 [reV x, reV y, prsV l] (· = .tup [.v (.int .i64 (relF x y l).1), .v (.int .i64 (relF x y l).2)]) := by
  have h82 := or82 [bothR x y, if decide ((l.length : Int) ≤ 300) = true then 0 else 2] (by simp) .full
  have hz82 : FZ _ := FZ.intL (l := [bothR x y, if decide ((l.length : Int) ≤ 300) = true then 0 else 2]) (tip := .full) rfl
  have hO2 : ∀ a b : Int, orL [a, b] = orI a b := fun a b => by
    simp only [orL, orI]
    by_cases h1 : a = 0 <;> by_cases h2 : b = 0 <;> simp [h1, h2]
  rw [hO2] at h82
  simp only [List.map_cons, List.map_nil, intR] at h82 hz82
  simp only [reV, reL, mvsV, prsV]
  refine ACall.enter [] Cd.fn43 (by simp) ?_
  simp only [Cd.cd43, Tk.t43, base0, base1, base2, base3, Option.isNone_none, Option.isNone_some, Nat.reduceBEq, true_or, or_true, false_or, or_false, Nat.reduceLT, Nat.reduceMod, Nat.reducePow, rmaps, nsucc, List.flatten_cons, List.flatten_nil, Nat.reduceEqDiff, Nat.reduceLeDiff, Nat.reduceAdd, Nat.reduceMul, Nat.reduceSub, ↓reduceIte, reduceCtorEq, decide_true, decide_false]
  first | refine FCall.go (both58 x y) (FZs.two (FZ.reV x) (FZ.reV y)) ?_ | refine FCall.go' (both58 x y) (FZs.two (FZ.reV x) (FZ.reV y)) ?_ | refine FCall.goQ (both58 x y) (FZs.two (FZ.reV x) (FZ.reV y)) ?_
  simp only [List.length_map, Cd.cd43, Tk.t43, base0, base1, base2, base3, Option.isNone_none, Option.isNone_some, Nat.reduceBEq, true_or, or_true, false_or, or_false, Nat.reduceLT, Nat.reduceMod, Nat.reducePow, rmaps, nsucc, List.flatten_cons, List.flatten_nil, Nat.reduceEqDiff, Nat.reduceLeDiff, Nat.reduceAdd, Nat.reduceMul, Nat.reduceSub, ↓reduceIte, reduceCtorEq, decide_true, decide_false]
  first | refine FCall.go (unless61 _ _) (FZs.v2 _ _) ?_ | refine FCall.go' (unless61 _ _) (FZs.v2 _ _) ?_ | refine FCall.goQ (unless61 _ _) (FZs.v2 _ _) ?_
  simp only [Cd.cd43, Tk.t43, base0, base1, base2, base3, Option.isNone_none, Option.isNone_some, Nat.reduceBEq, true_or, or_true, false_or, or_false, Nat.reduceLT, Nat.reduceMod, Nat.reducePow, rmaps, nsucc, List.flatten_cons, List.flatten_nil, Nat.reduceEqDiff, Nat.reduceLeDiff, Nat.reduceAdd, Nat.reduceMul, Nat.reduceSub, ↓reduceIte, reduceCtorEq, decide_true, decide_false]
  first | refine FCall.go h82 (FZs.one hz82) ?_ | refine FCall.go' h82 (FZs.one hz82) ?_ | refine FCall.goQ h82 (FZs.one hz82) ?_
  by_cases h0 : bothR x y ≠ 0
  · have ho : orI (bothR x y) (if decide ((l.length : Int) ≤ 300) = true then 0 else 2) = bothR x y := by unfold orI; rw [if_pos h0]
    rw [ho]
    simp only [bneT h0, Cd.cd43, Tk.t43, base0, base1, base2, base3, Option.isNone_none, Option.isNone_some, Nat.reduceBEq, true_or, or_true, false_or, or_false, Nat.reduceLT, Nat.reduceMod, Nat.reducePow, rmaps, nsucc, List.flatten_cons, List.flatten_nil, Nat.reduceEqDiff, Nat.reduceLeDiff, Nat.reduceAdd, Nat.reduceMul, Nat.reduceSub, ↓reduceIte, reduceCtorEq, decide_true, decide_false]
    exact fin_p (by rw [relF, if_pos h0])
  have h0' : bothR x y = 0 := by simpa using h0
  obtain ⟨hx, hy, a1, a2, a3⟩ := bothR_ok h0'
  by_cases h300 : 300 < l.length
  · have ho : orI (bothR x y) (if decide ((l.length : Int) ≤ 300) = true then 0 else 2) = 2 := by rw [h0', decide_eq_false (by omega)]; rfl
    rw [ho]
    simp only [show ((2 : Int) != 0) = true from rfl, Cd.cd43, Tk.t43, base0, base1, base2, base3, Option.isNone_none, Option.isNone_some, Nat.reduceBEq, true_or, or_true, false_or, or_false, Nat.reduceLT, Nat.reduceMod, Nat.reducePow, rmaps, nsucc, List.flatten_cons, List.flatten_nil, Nat.reduceEqDiff, Nat.reduceLeDiff, Nat.reduceAdd, Nat.reduceMul, Nat.reduceSub, ↓reduceIte, reduceCtorEq, decide_true, decide_false]
    exact fin_p (by rw [relF, if_neg h0, relC, if_pos h300])
  have ho : orI (bothR x y) (if decide ((l.length : Int) ≤ 300) = true then 0 else 2) = 0 := by rw [h0', decide_eq_true (by omega)]; rfl
  have hrf : relF x y l = relC x y l := by rw [relF, if_neg h0]
  rw [ho, hrf]
  simp only [show ((0 : Int) != 0) = false from rfl, Cd.cd43, Tk.t43, base0, base1, base2, base3, Option.isNone_none, Option.isNone_some, Nat.reduceBEq, true_or, or_true, false_or, or_false, Nat.reduceLT, Nat.reduceMod, Nat.reducePow, rmaps, nsucc, List.flatten_cons, List.flatten_nil, Nat.reduceEqDiff, Nat.reduceLeDiff, Nat.reduceAdd, Nat.reduceMul, Nat.reduceSub, ↓reduceIte, reduceCtorEq, decide_true, decide_false]
  refine ACall.thn (compare59 x y hx hy _) fun out H2 hq => ?_
  obtain ⟨r, mc, aP, aF, aB, rfl, hC, _, _, _, _⟩ := hq
  refine ⟨_, rfl, ?_⟩
  obtain ⟨tp, tf, tb, rfl, rfl, rfl⟩ := hC.live (by simp)
  have hCo := hC.o
  have hr2 := hC.rm
  have hrn : (r = H2.next) = False := by simp; omega
  simp only [hCo, List.length_map, List.map_cons, List.map_nil, enP, nd0, show ((0 : Int) ≤ 0 ∧ (0 : Int) < ((1 : Nat) : Int)) = True from by simp, show Int.toNat 0 = 0 from rfl, Cd.cd43, Tk.t43, base0, base1, base2, base3, Option.isNone_none, Option.isNone_some, Nat.reduceBEq, true_or, or_true, false_or, or_false, Nat.reduceLT, Nat.reduceMod, Nat.reducePow, rmaps, nsucc, List.flatten_cons, List.flatten_nil, Nat.reduceEqDiff, Nat.reduceLeDiff, Nat.reduceAdd, Nat.reduceMul, Nat.reduceSub, ↓reduceIte, reduceCtorEq, decide_true, decide_false]
  have hnn : H2.next + 1 = H2.next + 1 := rfl
  refine LWP.loop [] (fun m f H' => ∃ i gl a, m = l.length - i ∧ (i ≤ l.length) ∧ (∀ j, j < i → pairE x y (l.getD j default) = 0) ∧ (GoodN x y gl) ∧ (∀ a b, metN gl a b = hasP (l.take i) a b) ∧ (GrowN enP 2 H2.next H' a ((l.take i).map toNd)) ∧ f.t 2 = .lst 2 (l.map enQ) .unk ∧ f.t 3 = .box [.v (.int .i64 x.st), .v (.int .i64 x.s0), .v (.int .i64 x.inp), .v (.int .i64 x.out), .lst 4 (x.mv.map mvR) .unk] ∧ f.t 4 = .box [.v (.int .i64 y.st), .v (.int .i64 y.s0), .v (.int .i64 y.inp), .v (.int .i64 y.out), .lst 4 (y.mv.map mvR) .unk] ∧ f.t 9 = .ptr r 0 ∧ f.t 10 = .ptr H2.next 0 ∧ f.t 11 = a ∧ f.t 12 = .map (H2.next + 1) ∧ f.t 48 = .lst 2 (l.map enQ) .unk ∧ f.t 49 = .v (.int .i64 (l.length : Nat)) ∧ f.t 50 = .v (.int .i64 (i : Nat)) ∧ f.ds = [] ∧ (Kp H2 H' ∧ H2.next + 1 < H'.next ∧ H'.own H2.next = some (.cells [.v (.int .u64 (fstM x : Nat)), .v (.int .u64 (fstM y : Nat))]) ∧ H'.own (H2.next + 1) = some (.map (gl.map entM)))) ?_ ?_ (m := l.length - (0))
  · exact ⟨0, [], nilS, rfl, (by omega), (fun j hj => by omega), (⟨fun p hp => by simp at hp, by simp⟩), (fun a b => rfl), (.inl ⟨rfl, .inl rfl⟩), rfl, rfl, rfl, rfl, rfl, rfl, rfl, rfl, rfl, rfl, rfl, ⟨⟨by simp; omega, fun n hn => by simp [show ¬ n = H2.next by omega, show ¬ n = H2.next + 1 by omega], fun _ _ => rfl⟩, by simp, by simp, by simp⟩⟩
  · rintro m f H' ⟨i, gl, a, rfl, hi, hz, hGl, hmt, hg, f2, f3, f4, f9, f10, f11, f12, f48, f49, f50, hds, hk⟩
    obtain ⟨hk1, hk2, hk3, hk4⟩ := hk
    have hn1 : (H2.next = H'.next) = False := by simp; omega
    have hn2 : (H2.next + 1 = H'.next) = False := by simp; omega
    have hn3 : (H'.next = H2.next + 1) = False := by simp; omega
    have hn5 : (H2.next = H2.next + 1) = False := by simp
    by_cases hlt : i < l.length
    · have hgp := getD_map enQ l i hlt
      have hl2 := hl62 _ (getD_mem hlt)
      have hhp := fun a b => hasP_succ l hlt a b
      have htk := take_map_toNd l hlt
      have hzi : ∀ v, pairE x y (l.getD i default) = v → v = 0 → ∀ j, j < i + 1 → pairE x y (l.getD j default) = 0 := fun v h1 h2 => allS hz (by rw [h1, h2])
      have hpr : ∀ v, pairE x y (l.getD i default) = v → v ≠ 0 → relC x y l = ((i : Int), v) := fun v h1 h2 => relC_pair h300 hlt hz h1 h2
      generalize hpe : l.getD i default = p at hgp hl2 hhp htk hzi hpr
      have h83 := or82 [setE x p.sys, setE y p.spec] (by simp) .full
      have hz83 : FZ _ := FZ.intL (l := [setE x p.sys, setE y p.spec]) (tip := .full) rfl
      rw [hO2] at h83
      have hpeq : orI (setE x p.sys) (setE y p.spec) = pairE x y p := rfl
      rw [hpeq] at h83
      simp only [List.map_cons, List.map_nil, intR] at h83 hz83
      simp only [List.length_map, ltT hlt, inR hlt, Int.toNat_natCast, hgp, enQ, ints, f2, f3, f4, f9, f10, f11, f12, f48, f49, f50, hds, Cd.cd43, Tk.t43, base0, base1, base2, base3, Option.isNone_none, Option.isNone_some, Nat.reduceBEq, true_or, or_true, false_or, or_false, Nat.reduceLT, Nat.reduceMod, Nat.reducePow, rmaps, nsucc, List.flatten_cons, List.flatten_nil, Nat.reduceEqDiff, Nat.reduceLeDiff, Nat.reduceAdd, Nat.reduceMul, Nat.reduceSub, ↓reduceIte, reduceCtorEq, decide_true, decide_false]
      first | refine FCall.go (setOf79 x hx p.sys hl2.1) (FZs.two (FZ.reV x) (FZ.ints _)) ?_ | refine FCall.go' (setOf79 x hx p.sys hl2.1) (FZs.two (FZ.reV x) (FZ.ints _)) ?_ | refine FCall.goQ (setOf79 x hx p.sys hl2.1) (FZs.two (FZ.reV x) (FZ.ints _)) ?_
      simp only [f2, f3, f4, f9, f10, f11, f12, f48, f49, f50, hds, Cd.cd43, Tk.t43, base0, base1, base2, base3, Option.isNone_none, Option.isNone_some, Nat.reduceBEq, true_or, or_true, false_or, or_false, Nat.reduceLT, Nat.reduceMod, Nat.reducePow, rmaps, nsucc, List.flatten_cons, List.flatten_nil, Nat.reduceEqDiff, Nat.reduceLeDiff, Nat.reduceAdd, Nat.reduceMul, Nat.reduceSub, ↓reduceIte, reduceCtorEq, decide_true, decide_false]
      first | refine FCall.go (setOf79 y hy p.spec hl2.2) (FZs.two (FZ.reV y) (FZ.ints _)) ?_ | refine FCall.go' (setOf79 y hy p.spec hl2.2) (FZs.two (FZ.reV y) (FZ.ints _)) ?_ | refine FCall.goQ (setOf79 y hy p.spec hl2.2) (FZs.two (FZ.reV y) (FZ.ints _)) ?_
      simp only [f2, f3, f4, f9, f10, f11, f12, f48, f49, f50, hds, Cd.cd43, Tk.t43, base0, base1, base2, base3, Option.isNone_none, Option.isNone_some, Nat.reduceBEq, true_or, or_true, false_or, or_false, Nat.reduceLT, Nat.reduceMod, Nat.reducePow, rmaps, nsucc, List.flatten_cons, List.flatten_nil, Nat.reduceEqDiff, Nat.reduceLeDiff, Nat.reduceAdd, Nat.reduceMul, Nat.reduceSub, ↓reduceIte, reduceCtorEq, decide_true, decide_false]
      first | refine FCall.go h83 (FZs.one hz83) ?_ | refine FCall.go' h83 (FZs.one hz83) ?_ | refine FCall.goQ h83 (FZs.one hz83) ?_
      by_cases hpz : pairE x y p = 0
      · have hz' := hzi _ rfl hpz
        obtain ⟨e1, e2⟩ := orI_left hpz
        have m1 := set_lt hx (setE_lt hx e1)
        have m2 := set_lt hy (setE_lt hy e2)
        have n1 := hx.pw m1
        have n2 := hy.pw m2
        have hok := map_ok hx hy hGl n1 n2
        have hfi := find_ent (maskL p.sys) (maskL p.spec) gl
        have hput : putM (keyV (maskL p.sys) (maskL p.spec)) (.v (.bool true)) (gl.map entM) = (addN gl (toNd p)).map entM := by
          unfold addN
          cases hm : metN gl (toNd p).x (toNd p).y with
          | false =>
            have hm' : metN gl (maskL p.sys) (maskL p.spec) = false := hm
            rw [hm'] at hfi
            unfold putM
            rw [hfi]
            simp only [Bool.false_eq_true, if_false, List.map_append]; rfl
          | true =>
            have hm' : metN gl (maskL p.sys) (maskL p.spec) = true := hm
            rw [hm'] at hfi
            rw [if_pos rfl]
            obtain ⟨q, hq, q1, q2⟩ := metN_iff.mp hm'
            exact put_same ⟨entM q, List.mem_map.mpr ⟨q, hq, rfl⟩, by rw [← q1, ← q2]; rfl⟩ (fun pp hpp => by obtain ⟨q, _, rfl⟩ := List.mem_map.mp hpp; rfl) (by rw [hfi]; rfl)
        unfold keyV at hok hput
        have hmt' : ∀ a b, metN (addN gl (toNd p)) a b = hasP (l.take (i + 1)) a b := fun a b => by rw [metN_add, hmt, hhp]; rfl
        have hln : ((l.take (i + 1)).map toNd).length = ((l.take i).map toNd).length + 1 := by simp only [List.length_map, List.length_take]; omega
        have hr : roomA 16 (((l.take i).map toNd).length + 1) = true := room_of (by simp only [List.length_map, List.length_take]; omega) (by simp only [List.length_map, List.length_take]; omega)
        have hra : roomA 16 ((l.take i).length + 1) = true := room_of (by simp only [List.length_take]; omega) (by simp only [List.length_take]; omega)
        rw [hpz]
        rcases hg with ⟨h0, rfl | rfl⟩ | ⟨t, t1, t2, rfl, t4⟩
        · simp only [show ((0 : Int) != 0) = false from rfl, if_pos e1, if_pos e2, nilS, show roomA 16 1 = true from rfl, hn1, hn2, hn3, hk4, rawKP, mt101, hok, hput, f2, f3, f4, f9, f10, f11, f12, f48, f49, f50, hds, Cd.cd43, Tk.t43, base0, base1, base2, base3, Option.isNone_none, Option.isNone_some, Nat.reduceBEq, true_or, or_true, false_or, or_false, Nat.reduceLT, Nat.reduceMod, Nat.reducePow, rmaps, nsucc, List.flatten_cons, List.flatten_nil, Nat.reduceEqDiff, Nat.reduceLeDiff, Nat.reduceAdd, Nat.reduceMul, Nat.reduceSub, ↓reduceIte, reduceCtorEq, decide_true, decide_false]
          exact ⟨_, by omega, i + 1, addN gl (toNd p), _, rfl, by omega, hz', hGl.add hx hy m1 m2, hmt', .inr ⟨H'.next + 1, by omega, by show H'.next + 1 < H'.next + 1 + 1; omega, by rw [htk, h0]; rfl, by rw [hln, h0]; simp⟩, rfl, by rw [wrapS (by omega)], ⟨by show H2.next ≤ H'.next + 1 + 1; omega, fun n hn => by simp [show ¬ n = H2.next + 1 by omega, show ¬ n = H'.next by omega]; exact hk1.ow n hn, fun n hn => by simp [show ¬ n = H'.next + 1 by omega]; exact hk1.tp n hn⟩, by show H2.next + 1 < H'.next + 1 + 1; omega, by first | exact hk3 | (simp [hn5, hn1]; exact hk3), by first | rfl | simp⟩
        · simp only [show ((0 : Int) != 0) = false from rfl, if_pos e1, if_pos e2, show roomA 16 1 = true from rfl, hn1, hn2, hn3, hk4, rawKP, mt101, hok, hput, f2, f3, f4, f9, f10, f11, f12, f48, f49, f50, hds, Cd.cd43, Tk.t43, base0, base1, base2, base3, Option.isNone_none, Option.isNone_some, Nat.reduceBEq, true_or, or_true, false_or, or_false, Nat.reduceLT, Nat.reduceMod, Nat.reducePow, rmaps, nsucc, List.flatten_cons, List.flatten_nil, Nat.reduceEqDiff, Nat.reduceLeDiff, Nat.reduceAdd, Nat.reduceMul, Nat.reduceSub, ↓reduceIte, reduceCtorEq, decide_true, decide_false]
          exact ⟨_, by omega, i + 1, addN gl (toNd p), _, rfl, by omega, hz', hGl.add hx hy m1 m2, hmt', .inr ⟨H'.next + 1, by omega, by show H'.next + 1 < H'.next + 1 + 1; omega, by rw [htk, h0]; rfl, by rw [hln, h0]; simp⟩, rfl, by rw [wrapS (by omega)], ⟨by show H2.next ≤ H'.next + 1 + 1; omega, fun n hn => by simp [show ¬ n = H2.next + 1 by omega, show ¬ n = H'.next by omega]; exact hk1.ow n hn, fun n hn => by simp [show ¬ n = H'.next + 1 by omega]; exact hk1.tp n hn⟩, by show H2.next + 1 < H'.next + 1 + 1; omega, by first | exact hk3 | (simp [hn5, hn1]; exact hk3), by first | rfl | simp⟩
        · have t4' : H'.tip t = some (l.take i).length := by rw [t4, List.length_map]
          simp only [show ((0 : Int) != 0) = false from rfl, if_pos e1, if_pos e2, t4, t4', hr, hra, List.length_map, hn1, hn2, hn3, hk4, rawKP, mt101, hok, hput, f2, f3, f4, f9, f10, f11, f12, f48, f49, f50, hds, Cd.cd43, Tk.t43, base0, base1, base2, base3, Option.isNone_none, Option.isNone_some, Nat.reduceBEq, true_or, or_true, false_or, or_false, Nat.reduceLT, Nat.reduceMod, Nat.reducePow, rmaps, nsucc, List.flatten_cons, List.flatten_nil, Nat.reduceEqDiff, Nat.reduceLeDiff, Nat.reduceAdd, Nat.reduceMul, Nat.reduceSub, ↓reduceIte, reduceCtorEq, decide_true, decide_false]
          exact ⟨_, by omega, i + 1, addN gl (toNd p), _, rfl, by omega, hz', hGl.add hx hy m1 m2, hmt', .inr ⟨t, t1, by show t < H'.next + 1; omega, by rw [htk]; rfl, by rw [hln]; simp⟩, rfl, by rw [wrapS (by omega)], ⟨by show H2.next ≤ H'.next + 1; omega, fun n hn => by simp [show ¬ n = H2.next + 1 by omega, show ¬ n = H'.next by omega]; exact hk1.ow n hn, fun n hn => by simp [show ¬ n = t by omega]; exact hk1.tp n hn⟩, by show H2.next + 1 < H'.next + 1; omega, by first | exact hk3 | (simp [hn5, hn1]; exact hk3), by first | rfl | simp⟩
      · have hrr := hpr _ rfl hpz
        simp only [bneT hpz, f2, f3, f4, f9, f10, f11, f12, f48, f49, f50, hds, Cd.cd43, Tk.t43, base0, base1, base2, base3, Option.isNone_none, Option.isNone_some, Nat.reduceBEq, true_or, or_true, false_or, or_false, Nat.reduceLT, Nat.reduceMod, Nat.reducePow, rmaps, nsucc, List.flatten_cons, List.flatten_nil, Nat.reduceEqDiff, Nat.reduceLeDiff, Nat.reduceAdd, Nat.reduceMul, Nat.reduceSub, ↓reduceIte, reduceCtorEq, decide_true, decide_false]
        exact fin_p hrr
    · have hi' : i = l.length := by omega
      subst hi'
      rw [List.take_length] at hg
      have hmt : ∀ a b, metN gl a b = hasP l a b := fun a b => by rw [hmt, List.take_length]
      have hf1 := hx.pw (fst_lt hx)
      have hf2 := hy.pw (fst_lt hy)
      have hok := map_ok hx hy hGl hf1 hf2
      have hfi := find_ent (fstM x) (fstM y) gl
      rw [hmt] at hfi
      unfold keyV at hok hfi
      cases hF : hasP l (fstM x) (fstM y) with
      | false =>
        rw [hF] at hfi
        simp only [Bool.false_eq_true, if_false] at hfi
        simp only [ltF hlt, hk3, hk4, rawKP, mt101, zv4, hok, hfi, Option.getD_none, f2, f3, f4, f9, f10, f11, f12, f48, f49, f50, hds, Cd.cd43, Tk.t43, base0, base1, base2, base3, Option.isNone_none, Option.isNone_some, Nat.reduceBEq, true_or, or_true, false_or, or_false, Nat.reduceLT, Nat.reduceMod, Nat.reducePow, rmaps, nsucc, List.flatten_cons, List.flatten_nil, Nat.reduceEqDiff, Nat.reduceLeDiff, Nat.reduceAdd, Nat.reduceMul, Nat.reduceSub, ↓reduceIte, reduceCtorEq, decide_true, decide_false]
        exact fin_p (relC_first h300 hz hF)
      | true =>
        rw [hF] at hfi
        simp only [if_true] at hfi
        have hl0 : 0 < l.length := by
          obtain ⟨p, hp, _⟩ := hasP_iff.mp hF
          exact List.length_pos_of_mem hp
        rcases hg with ⟨h0, _⟩ | ⟨t, t1, t2, rfl, t4⟩
        · rw [List.map_eq_nil_iff] at h0; rw [h0] at hl0; simp at hl0
        simp only [ltF hlt, hk3, hk4, rawKP, mt101, zv4, hok, hfi, Option.getD_some, List.length_map, f2, f3, f4, f9, f10, f11, f12, f48, f49, f50, hds, Cd.cd43, Tk.t43, base0, base1, base2, base3, Option.isNone_none, Option.isNone_some, Nat.reduceBEq, true_or, or_true, false_or, or_false, Nat.reduceLT, Nat.reduceMod, Nat.reducePow, rmaps, nsucc, List.flatten_cons, List.flatten_nil, Nat.reduceEqDiff, Nat.reduceLeDiff, Nat.reduceAdd, Nat.reduceMul, Nat.reduceSub, ↓reduceIte, reduceCtorEq, decide_true, decide_false]
        generalize hGX : (l.map toNd).map enP = GX
        have hGg : ∀ j, j < l.length → GX.getD j [] = enP (toNd (l.getD j default)) := fun j hj => by
          rw [← hGX, List.map_map]; exact getD_map _ l j hj
        have hGl2 : GX.length = l.length := by rw [← hGX]; simp
        clear hGX
        refine LWP.loop [] (fun m f H' => ∃ j, m = l.length - j ∧ (j ≤ l.length) ∧ (∀ i, i < j → badP x y l (l.getD i default) = false) ∧ f.t 2 = .lst 2 (l.map enQ) .unk ∧ f.t 9 = .ptr r 0 ∧ f.t 12 = .map (H2.next + 1) ∧ f.t 92 = .lst 2 GX (.live t) ∧ f.t 93 = .v (.int .i64 (l.length : Nat)) ∧ f.t 94 = .v (.int .i64 (j : Nat)) ∧ f.ds = [] ∧ (Kp H2 H' ∧ H2.next + 1 < H'.next ∧ H'.own (H2.next + 1) = some (.map (gl.map entM)))) ?_ ?_ (m := l.length - (0))
        · exact ⟨0, rfl, (by omega), (fun i hi => by omega), (by first | rfl | exact f2), (by first | rfl | exact f9), (by first | rfl | exact f12), (by first | rfl | exact f92), (by first | rfl | exact f93), (by first | rfl | exact f94), rfl, ⟨hk1, hk2, hk4⟩⟩
        · rintro m f H' ⟨j, rfl, hj, hb, f2, f9, f12, f92, f93, f94, hds, hk⟩
          obtain ⟨hk1, hk2, hk4⟩ := hk
          have hC3 := hC.kp hk1
          have hC3o := hC3.o
          have hC3r := hC3.rm
          have hrn : (r = H'.next) = False := by simp; omega
          by_cases hjl : j < l.length
          · have hgp := hGg j hjl
            have hpz := hz j hjl
            have hb' : badP x y l (l.getD j default) = false → ∀ i, i < j + 1 → badP x y l (l.getD i default) = false := fun h => allS hb h
            have hbt : badP x y l (l.getD j default) = true → relC x y l = ((j : Int), 30) := fun h => relC_bad h300 hz hF hjl hb h
            generalize hpe : l.getD j default = p at hgp hpz hb' hbt
            obtain ⟨e1, e2⟩ := orI_left hpz
            have m1 := set_lt hx (setE_lt hx e1)
            have m2 := set_lt hy (setE_lt hy e2)
            have c1 := cl_lt hx m1
            have c2 := cl_lt hy m2
            simp only [ltT hjl, inR hjl, hGl2, Int.toNat_natCast, hgp, enP, toNd, hC3o, hrn, f2, f9, f12, f92, f93, f94, hds, Cd.cd43, Tk.t43, base0, base1, base2, base3, Option.isNone_none, Option.isNone_some, Nat.reduceBEq, true_or, or_true, false_or, or_false, Nat.reduceLT, Nat.reduceMod, Nat.reducePow, rmaps, nsucc, List.flatten_cons, List.flatten_nil, Nat.reduceEqDiff, Nat.reduceLeDiff, Nat.reduceAdd, Nat.reduceMul, Nat.reduceSub, ↓reduceIte, reduceCtorEq, decide_true, decide_false]
            generalize hX : cl x (maskL p.sys) = X at c1
            generalize hY : cl y (maskL p.spec) = Y at c2
            have hbd : badP x y l p = (List.range (silc x + 1)).any fun e => failsAt x y X Y e || (decide (aft y Y e ≠ 0) && !hasP l (aft x X e) (aft y Y e)) := by unfold badP badE; rw [← hX, ← hY]
            first | refine FCall.go (closed75 x hx _ m1) (FZs.two (FZ.sysV x) (FZ.v _)) ?_ | refine FCall.go' (closed75 x hx _ m1) (FZs.two (FZ.sysV x) (FZ.v _)) ?_ | refine FCall.goQ (closed75 x hx _ m1) (FZs.two (FZ.sysV x) (FZ.v _)) ?_
            simp only [hC3o, hrn, f2, f9, f12, f92, f93, f94, hds, Cd.cd43, Tk.t43, base0, base1, base2, base3, Option.isNone_none, Option.isNone_some, Nat.reduceBEq, true_or, or_true, false_or, or_false, Nat.reduceLT, Nat.reduceMod, Nat.reducePow, rmaps, nsucc, List.flatten_cons, List.flatten_nil, Nat.reduceEqDiff, Nat.reduceLeDiff, Nat.reduceAdd, Nat.reduceMul, Nat.reduceSub, ↓reduceIte, reduceCtorEq, decide_true, decide_false]
            first | refine FCall.go (closed75 y hy _ m2) (FZs.two (FZ.sysV y) (FZ.v _)) ?_ | refine FCall.go' (closed75 y hy _ m2) (FZs.two (FZ.sysV y) (FZ.v _)) ?_ | refine FCall.goQ (closed75 y hy _ m2) (FZs.two (FZ.sysV y) (FZ.v _)) ?_
            rw [hX, hY]
            simp only [uv, hrn, f2, f9, f12, f92, f93, f94, hds, Cd.cd43, Tk.t43, base0, base1, base2, base3, Option.isNone_none, Option.isNone_some, Nat.reduceBEq, true_or, or_true, false_or, or_false, Nat.reduceLT, Nat.reduceMod, Nat.reducePow, rmaps, nsucc, List.flatten_cons, List.flatten_nil, Nat.reduceEqDiff, Nat.reduceLeDiff, Nat.reduceAdd, Nat.reduceMul, Nat.reduceSub, ↓reduceIte, reduceCtorEq, decide_true, decide_false]
            generalize hnx : H'.next = n5 at *
            have hkX : Kp H2 { next := n5 + 1 + 1, own := fun m => if m = n5 + 1 then some (ABlk.cells [AV.v (.int .u64 (X : Nat)), AV.v (.int .u64 (Y : Nat))]) else if m = n5 + 1 then some (ABlk.cells [AV.v (.int .u64 0), AV.v (.int .u64 0)]) else if m = n5 then some (ABlk.cells [AV.v (.int .u64 (maskL p.sys : Nat)), AV.v (.int .u64 (maskL p.spec : Nat))]) else if m = n5 then some (ABlk.cells [AV.v (.int .u64 0), AV.v (.int .u64 0)]) else H'.own m, tip := H'.tip } :=
              ⟨by have := hk1.nx; show H2.next ≤ n5 + 1 + 1; omega, fun n hn => by have := hk1.nx; simp only [show ¬ n = n5 + 1 by omega, show ¬ n = n5 by omega, if_false]; exact hk1.ow n hn, fun n hn => hk1.tp n hn⟩
            refine ACall.thn (fails87 x y hx hy _ r mc _ _ _ _ _ _ (hC.kp hkX) X Y c1 c2) fun out H4 hq => ?_
            obtain ⟨rfl, rfl⟩ := hq
            refine ⟨_, rfl, ?_⟩
            cases hfn : failsN x y X Y with
            | some e =>
              simp only [failsV, f2, f9, f12, f92, f93, f94, hds, Cd.cd43, Tk.t43, base0, base1, base2, base3, Option.isNone_none, Option.isNone_some, Nat.reduceBEq, true_or, or_true, false_or, or_false, Nat.reduceLT, Nat.reduceMod, Nat.reducePow, rmaps, nsucc, List.flatten_cons, List.flatten_nil, Nat.reduceEqDiff, Nat.reduceLeDiff, Nat.reduceAdd, Nat.reduceMul, Nat.reduceSub, ↓reduceIte, reduceCtorEq, decide_true, decide_false]
              obtain ⟨e3, e4⟩ := firstIx_is hfn
              exact fin_p (hbt (by rw [hbd, List.any_eq_true]; exact ⟨e, List.mem_range.mpr e4, by rw [e3]; rfl⟩))
            | none =>
              have hfn0 := firstIx_none_iff.mp hfn
              have hC4 := (hC.kp hkX).o
              have hrn2 : (r = n5 + 1) = False := by simp; omega
              simp only [failsV, hC3o, hrn, hrn2, f2, f9, f12, f92, f93, f94, hds, Cd.cd43, Tk.t43, base0, base1, base2, base3, Option.isNone_none, Option.isNone_some, Nat.reduceBEq, true_or, or_true, false_or, or_false, Nat.reduceLT, Nat.reduceMod, Nat.reducePow, rmaps, nsucc, List.flatten_cons, List.flatten_nil, Nat.reduceEqDiff, Nat.reduceLeDiff, Nat.reduceAdd, Nat.reduceMul, Nat.reduceSub, ↓reduceIte, reduceCtorEq, decide_true, decide_false]
              first | refine FCall.go (silence73 x hx) (FZs.one (FZ.sysV x)) ?_ | refine FCall.go' (silence73 x hx) (FZs.one (FZ.sysV x)) ?_ | refine FCall.goQ (silence73 x hx) (FZs.one (FZ.sysV x)) ?_
              have hw9 : IntKind.i64.wrap (((silc x : Nat) : Int) + 1) = ((silc x + 1 : Nat) : Int) := wrapS (by have := silc_le hx; omega)
              simp only [hw9, f2, f9, f12, f92, f93, f94, hds, Cd.cd43, Tk.t43, base0, base1, base2, base3, Option.isNone_none, Option.isNone_some, Nat.reduceBEq, true_or, or_true, false_or, or_false, Nat.reduceLT, Nat.reduceMod, Nat.reducePow, rmaps, nsucc, List.flatten_cons, List.flatten_nil, Nat.reduceEqDiff, Nat.reduceLeDiff, Nat.reduceAdd, Nat.reduceMul, Nat.reduceSub, ↓reduceIte, reduceCtorEq, decide_true, decide_false]
              refine LWP.loop [] (fun m f H' => ∃ e, m = silc x + 1 - e ∧ (e ≤ silc x + 1) ∧ (∀ i, i < e → (failsAt x y X Y i || (decide (aft y Y i ≠ 0) && !hasP l (aft x X i) (aft y Y i))) = false) ∧ f.t 2 = .lst 2 (l.map enQ) .unk ∧ f.t 9 = .ptr r 0 ∧ f.t 12 = .map (H2.next + 1) ∧ f.t 19 = .v (.int .i64 (j : Nat)) ∧ f.t 21 = .ptr (n5 + 1) 0 ∧ f.t 92 = .lst 2 GX (.live t) ∧ f.t 93 = .v (.int .i64 (l.length : Nat)) ∧ f.t 94 = .v (.int .i64 (j : Nat)) ∧ f.t 127 = .v (.int .i64 ((silc x + 1 : Nat) : Int)) ∧ f.t 128 = .v (.int .i64 (e : Nat)) ∧ f.ds = [] ∧ (Kp H2 H' ∧ n5 + 1 < H'.next ∧ H'.own (H2.next + 1) = some (.map (gl.map entM)) ∧ H'.own (n5 + 1) = some (.cells [AV.v (.int .u64 (X : Nat)), AV.v (.int .u64 (Y : Nat))]))) ?_ ?_ (m := silc x + 1 - (0))
              · exact ⟨0, rfl, (by omega), (fun i hi => by omega), (by first | rfl | exact f2), (by first | rfl | exact f9), (by first | rfl | exact f12), (by first | rfl | exact f19), (by first | rfl | exact f21), (by first | rfl | exact f92), (by first | rfl | exact f93), (by first | rfl | exact f94), (by first | rfl | exact f127), (by first | rfl | exact f128), rfl, ⟨hkX, by simp, by simp only [show ¬ H2.next + 1 = n5 + 1 by omega, show ¬ H2.next + 1 = n5 by omega, if_false]; exact hk4, by simp⟩⟩
              · rintro m f H' ⟨e, rfl, he, hee, f2, f9, f12, f19, f21, f92, f93, f94, f127, f128, hds, hk3⟩
                obtain ⟨hq1, hq2, hq3, hq4⟩ := hk3
                have hCe := (hC.kp hq1).o
                by_cases hle : e < silc x + 1
                · have hei : ∀ v, (failsAt x y X Y e || (decide (aft y Y e ≠ 0) && !hasP l (aft x X e) (aft y Y e))) = v → v = false → ∀ i, i < e + 1 → (failsAt x y X Y i || (decide (aft y Y i ≠ 0) && !hasP l (aft x X i) (aft y Y i))) = false := fun v h1 h2 => allS hee (by rw [h1, h2])
                  have hf0 := hfn0 e hle
                  simp only [ltT hle, hCe, hq4, f2, f9, f12, f19, f21, f92, f93, f94, f127, f128, hds, Cd.cd43, Tk.t43, base0, base1, base2, base3, Option.isNone_none, Option.isNone_some, Nat.reduceBEq, true_or, or_true, false_or, or_false, Nat.reduceLT, Nat.reduceMod, Nat.reducePow, rmaps, nsucc, List.flatten_cons, List.flatten_nil, Nat.reduceEqDiff, Nat.reduceLeDiff, Nat.reduceAdd, Nat.reduceMul, Nat.reduceSub, ↓reduceIte, reduceCtorEq, decide_true, decide_false]
                  first | refine FCall.go (after74 y hy Y e c2) (FZs.three (FZ.sysV y) (FZ.v _) (FZ.v _)) ?_ | refine FCall.go' (after74 y hy Y e c2) (FZs.three (FZ.sysV y) (FZ.v _) (FZ.v _)) ?_ | refine FCall.goQ (after74 y hy Y e c2) (FZs.three (FZ.sysV y) (FZ.v _) (FZ.v _)) ?_
                  by_cases ha0 : aft y Y e = 0
                  · simp only [uv, neU0, show decide (aft y Y e ≠ 0) = false from decide_eq_false (by simpa using ha0), f2, f9, f12, f19, f21, f92, f93, f94, f127, f128, hds, Cd.cd43, Tk.t43, base0, base1, base2, base3, Option.isNone_none, Option.isNone_some, Nat.reduceBEq, true_or, or_true, false_or, or_false, Nat.reduceLT, Nat.reduceMod, Nat.reducePow, rmaps, nsucc, List.flatten_cons, List.flatten_nil, Nat.reduceEqDiff, Nat.reduceLeDiff, Nat.reduceAdd, Nat.reduceMul, Nat.reduceSub, ↓reduceIte, reduceCtorEq, decide_true, decide_false]
                    exact ⟨_, by omega, e + 1, rfl, by omega, hei _ rfl (by rw [hf0, ha0]; rfl), by rw [wrapS (by have := silc_le hx; omega)], hq1, hq2, hq3, hq4⟩
                  · simp only [uv, neU0, decide_eq_true ha0, hCe, hq4, f2, f9, f12, f19, f21, f92, f93, f94, f127, f128, hds, Cd.cd43, Tk.t43, base0, base1, base2, base3, Option.isNone_none, Option.isNone_some, Nat.reduceBEq, true_or, or_true, false_or, or_false, Nat.reduceLT, Nat.reduceMod, Nat.reducePow, rmaps, nsucc, List.flatten_cons, List.flatten_nil, Nat.reduceEqDiff, Nat.reduceLeDiff, Nat.reduceAdd, Nat.reduceMul, Nat.reduceSub, ↓reduceIte, reduceCtorEq, decide_true, decide_false]
                    first | refine FCall.go (after74 x hx X e c1) (FZs.three (FZ.sysV x) (FZ.v _) (FZ.v _)) ?_ | refine FCall.go' (after74 x hx X e c1) (FZs.three (FZ.sysV x) (FZ.v _) (FZ.v _)) ?_ | refine FCall.goQ (after74 x hx X e c1) (FZs.three (FZ.sysV x) (FZ.v _) (FZ.v _)) ?_
                    have b1 := hx.pw (aft_lt hx c1 e)
                    have b2 := hy.pw (aft_lt hy c2 e)
                    have hok2 := map_ok hx hy hGl b1 b2
                    have hfi2 := find_ent (aft x X e) (aft y Y e) gl
                    rw [hmt] at hfi2
                    unfold keyV at hok2 hfi2
                    cases hh : hasP l (aft x X e) (aft y Y e) with
                    | false =>
                      rw [hh] at hfi2
                      simp only [Bool.false_eq_true, if_false] at hfi2
                      simp only [uv, hq3, rawKP, mt101, zv4, hok2, hfi2, Option.getD_none, f2, f9, f12, f19, f21, f92, f93, f94, f127, f128, hds, Cd.cd43, Tk.t43, base0, base1, base2, base3, Option.isNone_none, Option.isNone_some, Nat.reduceBEq, true_or, or_true, false_or, or_false, Nat.reduceLT, Nat.reduceMod, Nat.reducePow, rmaps, nsucc, List.flatten_cons, List.flatten_nil, Nat.reduceEqDiff, Nat.reduceLeDiff, Nat.reduceAdd, Nat.reduceMul, Nat.reduceSub, ↓reduceIte, reduceCtorEq, decide_true, decide_false]
                      exact fin_p (hbt (by rw [hbd, List.any_eq_true]; exact ⟨e, List.mem_range.mpr hle, by rw [decide_eq_true ha0, hh]; simp⟩))
                    | true =>
                      rw [hh] at hfi2
                      simp only [if_true] at hfi2
                      simp only [uv, hq3, rawKP, mt101, zv4, hok2, hfi2, Option.getD_some, f2, f9, f12, f19, f21, f92, f93, f94, f127, f128, hds, Cd.cd43, Tk.t43, base0, base1, base2, base3, Option.isNone_none, Option.isNone_some, Nat.reduceBEq, true_or, or_true, false_or, or_false, Nat.reduceLT, Nat.reduceMod, Nat.reducePow, rmaps, nsucc, List.flatten_cons, List.flatten_nil, Nat.reduceEqDiff, Nat.reduceLeDiff, Nat.reduceAdd, Nat.reduceMul, Nat.reduceSub, ↓reduceIte, reduceCtorEq, decide_true, decide_false]
                      exact ⟨_, by omega, e + 1, rfl, by omega, hei _ rfl (by rw [hf0, hh]; simp), by rw [wrapS (by have := silc_le hx; omega)], hq1, hq2, hq4⟩
                · have hes : e = silc x + 1 := by omega
                  subst hes
                  simp only [ltF hle, f2, f9, f12, f19, f21, f92, f93, f94, f127, f128, hds, Cd.cd43, Tk.t43, base0, base1, base2, base3, Option.isNone_none, Option.isNone_some, Nat.reduceBEq, true_or, or_true, false_or, or_false, Nat.reduceLT, Nat.reduceMod, Nat.reducePow, rmaps, nsucc, List.flatten_cons, List.flatten_nil, Nat.reduceEqDiff, Nat.reduceLeDiff, Nat.reduceAdd, Nat.reduceMul, Nat.reduceSub, ↓reduceIte, reduceCtorEq, decide_true, decide_false]
                  exact ⟨_, by omega, j + 1, rfl, by omega, hb' (by rw [hbd, List.any_eq_false]; intro e he; rw [hee e (List.mem_range.mp he)]; simp), by rw [wrapS (by omega)], hq1, by omega, hq3⟩
          · simp only [ltF hjl, List.length_map, f2, f9, f12, f92, f93, f94, hds, Cd.cd43, Tk.t43, base0, base1, base2, base3, Option.isNone_none, Option.isNone_some, Nat.reduceBEq, true_or, or_true, false_or, or_false, Nat.reduceLT, Nat.reduceMod, Nat.reducePow, rmaps, nsucc, List.flatten_cons, List.flatten_nil, Nat.reduceEqDiff, Nat.reduceLeDiff, Nat.reduceAdd, Nat.reduceMul, Nat.reduceSub, ↓reduceIte, reduceCtorEq, decide_true, decide_false]
            have hjj : j = l.length := by omega
            subst hjj
            exact fin_p (relC_ok h300 hz hF hb)
end Go.Proofs.YtchpcjmgifnmdaaDoor

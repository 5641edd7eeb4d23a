/- Part 3 of a proof: conformTraces holds for every input; no condition. -/
import Derived.Test.YtchpcjmgifnmdaaDoorProg
import Derived.KernelRfl
import Derived.DeepKeys3
import Derived.Test.YtchpcjmgifnmdaaDoorRows
import Derived.Test.YtchpcjmgifnmdaaDoorCards
import Derived.Test.YtchpcjmgifnmdaaDoorTie
import Derived.ProofKit
import Derived.OpenShut
import Derived.SizedLaws
import Derived.Deep.DeepHandedRow
import Derived.Lib.LaidTab
import Derived.Test.YtchpcjmgifnmdaaDoorGl
import Derived.Test.YtchpcjmgifnmdaaDoorAb0
import Derived.Test.YtchpcjmgifnmdaaDoorAb1
import Derived.Test.YtchpcjmgifnmdaaDoorAb2
import Derived.Test.YtchpcjmgifnmdaaDoorAb3
import Derived.Test.YtchpcjmgifnmdaaDoorAb4
import Derived.Test.YtchpcjmgifnmdaaDoorAb5
import Derived.Test.YtchpcjmgifnmdaaDoorAb6
import Derived.Test.YtchpcjmgifnmdaaDoorAb7
import Derived.Test.YtchpcjmgifnmdaaDoorAb8
import Derived.Test.YtchpcjmgifnmdaaDoorAb8a
import Derived.Test.YtchpcjmgifnmdaaDoorAb8b
import Derived.Test.YtchpcjmgifnmdaaDoorAb8c
import Derived.Test.YtchpcjmgifnmdaaDoorAb8m
import Derived.Test.YtchpcjmgifnmdaaDoorAb8d
import Derived.Test.YtchpcjmgifnmdaaDoorAb9
import Derived.Test.YtchpcjmgifnmdaaDoorAb10
import Derived.Test.YtchpcjmgifnmdaaDoorAb11
import Derived.Test.YtchpcjmgifnmdaaDoorAb12
import Derived.Test.YtchpcjmgifnmdaaDoorAb13
import Derived.Test.YtchpcjmgifnmdaaDoorAb14
import Derived.Test.YtchpcjmgifnmdaaDoorAb15
import Derived.Test.YtchpcjmgifnmdaaDoorAb16
import Derived.Test.YtchpcjmgifnmdaaDoorAb17
import Derived.Test.YtchpcjmgifnmdaaDoorAb18
import Derived.Test.YtchpcjmgifnmdaaDoorAb19
import Derived.Test.YtchpcjmgifnmdaaDoorAb20
import Derived.Test.YtchpcjmgifnmdaaDoorAb23
import Derived.Test.YtchpcjmgifnmdaaDoorQd2
set_option linter.unusedSimpArgs false
set_option linter.unusedVariables false
set_option linter.defProp false
/- Pairs of sets as keys of a map. -/
namespace Go.Proofs.YtchpcjmgifnmdaaDoor
open Go Go.Proofs.YtchpcjmgifnmdaaDoor.Ab
set_option maxRecDepth 100000
set_option linter.unusedSimpArgs false

theorem kt107' : Tryd.prog.keyType 107 = true := by kernel_rfl
theorem tl107 : Tryd.prog.tiled 5 107 = true := by kernel_rfl
theorem kta107 : Tryd.prog.keyTypeAt 5 107 = true := by kernel_rfl
theorem wd107 : (match Tryd.prog.underlying 107 with | some (.array _ _) | some (.struct _) => true | _ => false) = true := by kernel_rfl
theorem law107 : WideMaps.KeyLaw Tryd.prog 107 := deep_law (m := 5) (by omega) kta107 tl107 wd107
def keyV (a b : Nat) : Value := .agg #[.int .u64 (a : Int), .int .u64 (b : Int)]
theorem cl107 : Tryd.prog.cellsOf 107 = 2 := by kernel_rfl
theorem cl105 : Tryd.prog.cellsOf 105 = 1 := by kernel_rfl
theorem ts : ∃ n, Tryd.prog.types.size = n + 1 := ⟨Tryd.prog.types.size - 1, by kernel_rfl⟩
theorem und107 : ∃ f g : Field, Tryd.prog.underlying 107 = some (.struct #[f, g]) ∧ f.type = 105 ∧ g.type = 105 ∧ f.offset = 0 ∧ g.offset = 1 ∧ (f.name != "_") = true ∧ (g.name != "_") = true := ⟨_, _, Tryd.underlying107, rfl, rfl, rfl, rfl, rfl, rfl⟩
theorem und105 : Tryd.prog.underlying 105 = some (.int .u64) := by rw [Tryd.underlying105]
theorem lits105 (n a : Nat) (ha : a < 1024) : Tryd.prog.keyLits (n + 1) 105 [.int .u64 (a : Int)] = some [.int .u64 (a : Int)] := by
  unfold Program.keyLits
  simp only [und105, true_and]
  rw [if_pos]
  simp only [Lit.wf, Bool.and_eq_true, decide_eq_true_eq]
  have h1 : IntKind.u64.min = 0 := by decide
  have h2 : IntKind.u64.max = 18446744073709551615 := by decide
  rw [h1, h2]; omega
theorem key_some (a b : Nat) (ha : a < 1024) (hb : b < 1024) : (keyOf Tryd.prog 107 (keyV a b)).isSome = true := by
  obtain ⟨f, g, hu, h1, h2, h3, h4, h5, h6⟩ := und107
  obtain ⟨n, hn⟩ := ts
  have hf : (keyV a b).formed Tryd.prog 107 = true := by
    unfold keyV Value.formed
    rw [hu, cl107]; rfl
  have hl : Tryd.prog.keyLits (Tryd.prog.types.size + 1) 107 (keyV a b).cells.toList = some [.int .u64 (a : Int), .int .u64 (b : Int)] := by
    unfold Program.keyLits
    simp only [hu, hn, keyV, Value.cells, List.length_cons, List.length_nil, cl107, cl105, h1, h2, h3, h4, h5, h6, Array.all_eq_true_iff_forall_mem, List.mapM_cons, List.mapM_nil, List.drop_zero, List.drop_succ_cons, List.take_succ_cons, List.take_zero, lits105 n a ha, lits105 n b hb, Option.pure_def, Option.bind_eq_bind, Option.bind_some]
    simp [bne_iff_ne.mp h5, bne_iff_ne.mp h6]
  unfold keyOf
  rw [hu]
  simp only [kt107', hf, Bool.and_self, if_true, hl, Option.map_some, Option.isSome_some]
theorem mt101 : mapT Tryd.prog 101 = some (107, 4) := by unfold mapT; rw [Tryd.underlying101]
theorem zv4 : zvA Tryd.prog 4 = some (.bool false) := by kernel_rfl
end Go.Proofs.YtchpcjmgifnmdaaDoor

/- Walks: two systems compared: the pairs that are met. -/
namespace Go.Proofs.YtchpcjmgifnmdaaDoor
open Go Go.Proofs.YtchpcjmgifnmdaaDoor.Ab
set_option maxRecDepth 100000
set_option linter.unusedSimpArgs false

def enP (p : Nd) : List AV := [.v (.int .u64 (p.x : Nat)), .v (.int .u64 (p.y : Nat))]
theorem FZs.enP (p : Nd) : FZs (enP p) := FZs.v2 _ _
def entM (p : Nd) : Value × AV := (keyV p.x p.y, .v (.bool true))
theorem keyV_inj {a b c d : Nat} (h : keyV a b = keyV c d) : a = c ∧ b = d := by
  unfold keyV at h
  simp only [Value.agg.injEq, Array.mk.injEq, List.cons.injEq, Value.int.injEq, true_and, and_true] at h
  omega
theorem find_ent (a b : Nat) : ∀ l : List Nd, findM (keyV a b) (l.map entM) = if metN l a b then some (.v (.bool true)) else none
  | [] => rfl
  | p :: l => by
    rw [List.map_cons, findM, find_ent a b l]
    unfold metN entM
    rw [List.any_cons]
    by_cases h : p.x = a ∧ p.y = b
    · obtain ⟨rfl, rfl⟩ := h
      rw [if_pos rfl]; simp
    · rw [if_neg fun e => h (keyV_inj e)]
      have : (decide (p.x = a) && decide (p.y = b)) = false := by
        simp only [Bool.and_eq_false_iff, decide_eq_false_iff_not]
        by_cases h1 : p.x = a
        · exact .inr fun h2 => h ⟨h1, h2⟩
        · exact .inl h1
      rw [this, Bool.false_or]
theorem map_ok {x y : Re} (hx : Ok x) (hy : Ok y) {l : List Nd} (h : GoodN x y l) {a b : Nat} (ha : a < 1024) (hb : b < 1024) : MapOk Tryd.prog 107 (keyV a b) (l.map entM) := by
  refine ⟨law107, key_some a b ha hb, fun p hp => ?_, ?_⟩
  · obtain ⟨q, hq, rfl⟩ := List.mem_map.mp hp
    have := h.lt q hq
    exact key_some _ _ (hx.pw this.1) (hy.pw this.2)
  · rw [List.map_map]
    have := h.nd
    rw [List.Nodup, List.pairwise_map] at this ⊢
    refine this.imp fun {p q} hne he => hne ?_
    have := keyV_inj he
    rw [this.1, this.2]
theorem rawKP (a b : Int) : rawK (.agg [.v (.int .u64 a), .v (.int .u64 b)]) = some (.agg #[.int .u64 a, .int .u64 b]) := rfl
/-- the three lists, as they grow -/
def Grow3 (H : AH) (aP aF aB : AV) (l : List Nd) (fr bys : List Int) : Prop :=
  (l = [] ∧ fr = [] ∧ bys = [] ∧ aP = nilS ∧ aF = nilS ∧ aB = nilS) ∨
  ∃ tp tf tb, (tp < H.next ∧ tf < H.next ∧ tb < H.next) ∧ (tp ≠ tf ∧ tp ≠ tb ∧ tf ≠ tb) ∧ aP = .lst 2 (l.map enP) (.live tp) ∧ aF = .lst 1 (fr.map intR) (.live tf) ∧ aB = .lst 1 (bys.map intR) (.live tb) ∧
    H.tip tp = some l.length ∧ H.tip tf = some fr.length ∧ H.tip tb = some bys.length
/-- two systems compared, as the program keeps it: in block r, its map m -/
structure CmpO (x y : Re) (H : AH) (r m : Nat) (aP aF aB : AV) (l : List Nd) (fr bys : List Int) : Prop where
  o : H.own r = some (.cells [sysV x, sysV y, aP, aF, aB, .map m])
  mp : H.own m = some (.map (l.map entM))
  g : Grow3 H aP aF aB l fr bys
  rm : r ≠ m ∧ r < H.next ∧ m < H.next
theorem Grow3.tips {H H' : AH} {aP aF aB : AV} {l : List Nd} {fr bys : List Int} (h : Grow3 H aP aF aB l fr bys) (hn : H.next ≤ H'.next) (ht : ∀ t, t < H.next → H'.tip t = H.tip t) : Grow3 H' aP aF aB l fr bys := by
  rcases h with h | ⟨tp, tf, tb, ⟨h1, h2, h3⟩, h4, h5, h6, h7, h8, h9, h10⟩
  · exact .inl h
  · exact .inr ⟨tp, tf, tb, ⟨by omega, by omega, by omega⟩, h4, h5, h6, h7, by rw [ht _ h1]; exact h8, by rw [ht _ h2]; exact h9, by rw [ht _ h3]; exact h10⟩
set_option maxHeartbeats 4000000 in
theorem add101 (x y : Re) (hx : Ok x) (hy : Ok y) (H : AH) (r m : Nat) (aP aF aB : AV) (l : List Nd) (fr bys : List Int) (hC : CmpO x y H r m aP aF aB l fr bys) (hG : GoodN x y l) (hf : fr.length = l.length) (hb : bys.length = l.length) (a b : Nat) (ha : a < 1024) (hbb : b < 1024) (i e : Int) (tr : List Int) :
    ACall Tryd.prog 101 [.ptr r 0, .agg [.v (.int .u64 (a : Nat)), .v (.int .u64 (b : Nat))], .v (.int .i64 i), .v (.int .i64 e)] H (fun out H' => out = .ret (.tup []) ∧ (∃ aP' aF' aB', if metN l a b then CmpO x y H' r m aP' aF' aB' l fr bys else CmpO x y H' r m aP' aF' aB' (l ++ [⟨a, b, tr⟩]) (fr ++ [i]) (bys ++ [e])) ∧ H.next ≤ H'.next ∧ ∀ n, n < H.next → n ≠ r → n ≠ m → H'.own n = H.own n) := by
  have ho := hC.o
  have hm := hC.mp
  have hlen := hG.len hx hy
  have hok := map_ok hx hy hG ha hbb
  have hfi := find_ent a b l
  obtain ⟨hrm, hrn, hmn⟩ := hC.rm
  have hmr : (r = m) = False := by simp; exact hrm
  have hmr' : (m = r) = False := by simp; exact fun h => hrm h.symm
  unfold keyV at hok hfi
  refine ACall.enter [] Cd.fn101 (by simp) ?_
  cases hmet : metN l a b
  · rw [hmet] at hfi
    have hput : putM (Value.agg #[.int .u64 (a : Int), .int .u64 (b : Int)]) (.v (.bool true)) (l.map entM) = (l ++ [(⟨a, b, tr⟩ : Nd)]).map entM := by unfold putM; rw [hfi, List.map_append]; rfl
    rcases hC.g with ⟨rfl, rfl, rfl, rfl, rfl, rfl⟩ | ⟨tp, tf, tb, ⟨h1, h2, h3⟩, ⟨h4, h5, h6⟩, rfl, rfl, rfl, h8, h9, h10⟩
    · simp only [List.map_nil, List.nil_append] at hok hfi hput
      simp only [List.map_nil] at hm
      have n1 : (H.next + 1 = H.next) = False := by simp
      simp only [nilS, ho, hm, rawKP, mt101, zv4, hok, hfi, Option.getD_none, hput, hmr, hmr', show roomA 16 1 = true from rfl, show roomA 8 1 = true from rfl, implies_true, Cd.cd101, Tk.t101, base0, base1, base2, base3, Option.isNone_none, Option.isNone_some, Nat.reduceBEq, true_or, or_true, false_or, or_false, Nat.reduceLT, Nat.reduceMod, Nat.reducePow, rmaps, nsucc, List.flatten_cons, List.flatten_nil, Nat.reduceEqDiff, Nat.reduceLeDiff, Nat.reduceAdd, Nat.reduceMul, Nat.reduceSub, ↓reduceIte, reduceCtorEq, decide_true, decide_false]
      refine ⟨⟨.lst 2 ([(⟨a, b, tr⟩ : Nd)].map enP) (.live H.next), .lst 1 ([i].map intR) (.live (H.next + 1)), .lst 1 ([e].map intR) (.live (H.next + 1 + 1)), ⟨by simp [enP, intR], by simp [show ¬ m = r by simpa using hmr'], .inr ⟨H.next, H.next + 1, H.next + 1 + 1, ⟨by show H.next < H.next + 1 + 1 + 1; omega, by show H.next + 1 < H.next + 1 + 1 + 1; omega, by show H.next + 1 + 1 < H.next + 1 + 1 + 1; omega⟩, ⟨by omega, by omega, by omega⟩, rfl, rfl, rfl, by simp, by simp, by simp⟩, hrm, by show r < H.next + 1 + 1 + 1; omega, by show m < H.next + 1 + 1 + 1; omega⟩⟩, by show H.next ≤ H.next + 1 + 1 + 1; omega, fun n hn h1 h2 => by simp [h1, h2]⟩
    · have e1 : (tf = tp) = False := by simp; omega
      have e2 : (tb = tp) = False := by simp; omega
      have e3 : (tb = tf) = False := by simp; omega
      have e4 : (tp = tf) = False := by simp; omega
      have e5 : (tp = tb) = False := by simp; omega
      have e6 : (tf = tb) = False := by simp; omega
      simp only [ho, hm, rawKP, mt101, zv4, hok, hfi, Option.getD_none, hput, hmr, hmr', h8, h9, h10, List.length_map, hf, hb, room_of (by_ := 16) (n := l.length + 1) (by omega) (by omega), room_of (by_ := 8) (n := l.length + 1) (by omega) (by omega), e1, e2, e3, e4, e5, e6, implies_true, Cd.cd101, Tk.t101, base0, base1, base2, base3, Option.isNone_none, Option.isNone_some, Nat.reduceBEq, true_or, or_true, false_or, or_false, Nat.reduceLT, Nat.reduceMod, Nat.reducePow, rmaps, nsucc, List.flatten_cons, List.flatten_nil, Nat.reduceEqDiff, Nat.reduceLeDiff, Nat.reduceAdd, Nat.reduceMul, Nat.reduceSub, ↓reduceIte, reduceCtorEq, decide_true, decide_false]
      refine ⟨⟨.lst 2 ((l ++ [(⟨a, b, tr⟩ : Nd)]).map enP) (.live tp), .lst 1 ((fr ++ [i]).map intR) (.live tf), .lst 1 ((bys ++ [e]).map intR) (.live tb), ⟨by simp [enP, intR], by simp [show ¬ m = r by simpa using hmr'], .inr ⟨tp, tf, tb, ⟨h1, h2, h3⟩, ⟨by omega, by omega, by omega⟩, rfl, rfl, rfl, by simp [e4, e5], by simp [hf, e6], by simp [hb]⟩, hrm, hrn, hmn⟩⟩, by simp, fun n hn h1 h2 => by simp [h1, h2]⟩
  · rw [hmet] at hfi
    simp only [ho, hm, rawKP, mt101, zv4, hok, hfi, Option.getD_some, Cd.cd101, Tk.t101, base0, base1, base2, base3, Option.isNone_none, Option.isNone_some, Nat.reduceBEq, true_or, or_true, false_or, or_false, Nat.reduceLT, Nat.reduceMod, Nat.reducePow, rmaps, nsucc, List.flatten_cons, List.flatten_nil, Nat.reduceEqDiff, Nat.reduceLeDiff, Nat.reduceAdd, Nat.reduceMul, Nat.reduceSub, ↓reduceIte, reduceCtorEq, decide_true, decide_false]
    exact ⟨⟨aP, aF, aB, hC⟩, Nat.le_refl _, fun _ _ _ _ => trivial⟩
end Go.Proofs.YtchpcjmgifnmdaaDoor

/- Walks: two systems compared. -/
namespace Go.Proofs.YtchpcjmgifnmdaaDoor
open Go Go.Proofs.YtchpcjmgifnmdaaDoor.Ab
set_option maxRecDepth 100000
set_option linter.unusedSimpArgs false

theorem ACall.thn {P : Program} {m : FuncId} {args : List AV} {H : AH} {Q : AOut → AH → Prop} {mu : List Nat} {Kt : Kont} {dst : Option Nat} {os : List COp} {f : AF} (h : ACall P m args H Q) (h' : ∀ out H', Q out H' → ∃ v, out = .ret v ∧ cops P mu Kt os (f.put dst v) H') : ACall P m args H (callK P mu Kt dst os f) :=
  h.mono fun out H' hq => by
    obtain ⟨v, rfl, h1⟩ := h' out H' hq
    exact h1
theorem ACall.thn' {P : Program} {m : FuncId} {args : List AV} {H : AH} {Q : AOut → AH → Prop} {mu : List Nat} {Kt : Kont} {fm : AF} {dst : Option Nat} {ds : List DOp} {f : AF} {pd : List (Nat × Nat × ABlk)} {rd : List Nat} (h : ACall P m args H Q) (h' : ∀ out H', Q out H' → ∃ v, out = .ret v ∧ dops P mu Kt fm ds (f.put dst v) H' pd rd) : ACall P m args H (dcallK P mu Kt fm dst ds f pd rd) :=
  h.mono fun out H' hq => by
    obtain ⟨v, rfl, h1⟩ := h' out H' hq
    exact h1
theorem failsAt_lt {x y : Re} {a b e : Nat} (h : e < x.inp.toNat) : failsAt x y a b e = false := by
  unfold failsAt shw
  rw [decide_eq_false (by omega)]; rfl
def failsV (o : Option Nat) : AV := match o with
  | some e => .tup [.v (.int .i64 (e : Nat)), .v (.bool true)]
  | none => .tup [.v (.int .i64 0), .v (.bool false)]
theorem fails87 (x y : Re) (hx : Ok x) (hy : Ok y) (H : AH) (r m : Nat) (aP aF aB : AV) (l : List Nd) (fr bys : List Int) (hC : CmpO x y H r m aP aF aB l fr bys) (a b : Nat) (ha : a < 2 ^ nst x) (hb : b < 2 ^ nst y) :
    ACall Tryd.prog 87 [.ptr r 0, .agg [.v (.int .u64 (a : Nat)), .v (.int .u64 (b : Nat))]] H (fun out H' => out = .ret (failsV (failsN x y a b)) ∧ H' = H) := by
  have ho := hC.o
  have hinp := hx.inp
  have hsc := silc_le hx
  refine ACall.enter [] Cd.fn87 (by simp) ?_
  simp only [ho, box_eq, boxV, Cd.cd87, Tk.t87, base0, base1, base2, base3, Option.isNone_none, Option.isNone_some, Nat.reduceBEq, true_or, or_true, false_or, or_false, Nat.reduceLT, Nat.reduceMod, Nat.reducePow, rmaps, nsucc, List.flatten_cons, List.flatten_nil, Nat.reduceEqDiff, Nat.reduceLeDiff, Nat.reduceAdd, Nat.reduceMul, Nat.reduceSub, ↓reduceIte, reduceCtorEq, decide_true, decide_false]
  refine LWP.loop [] (fun m f H' => ∃ e, m = silc x + 1 - e ∧ (x.inp.toNat ≤ e ∧ e ≤ silc x + 1) ∧ (∀ j, j < e → failsAt x y a b j = false) ∧ f.t 0 = .ptr r 0 ∧ f.t 3 = .box [.v (.int .u64 (a : Nat)), .v (.int .u64 (b : Nat))] ∧ f.t 6 = .v (.int .i64 (e : Nat)) ∧ f.ds = [] ∧ H' = H) ?_ ?_ (m := silc x + 1 - (x.inp.toNat))
  · exact ⟨x.inp.toNat, rfl, (by omega), (fun j hj => failsAt_lt hj), rfl, rfl, by simp [upd]; omega, rfl, rfl⟩
  · rintro m f H' ⟨e, rfl, hi, hz, f0, f3, f6, hds, rfl⟩
    simp only [ho, f0, f3, f6, hds, Cd.cd87, Tk.t87, base0, base1, base2, base3, Option.isNone_none, Option.isNone_some, Nat.reduceBEq, true_or, or_true, false_or, or_false, Nat.reduceLT, Nat.reduceMod, Nat.reducePow, rmaps, nsucc, List.flatten_cons, List.flatten_nil, Nat.reduceEqDiff, Nat.reduceLeDiff, Nat.reduceAdd, Nat.reduceMul, Nat.reduceSub, ↓reduceIte, reduceCtorEq, decide_true, decide_false]
    first | refine FCall.go (silence73 x hx) (FZs.one (FZ.sysV x)) ?_ | refine FCall.go' (silence73 x hx) (FZs.one (FZ.sysV x)) ?_ | refine FCall.goQ (silence73 x hx) (FZs.one (FZ.sysV x)) ?_
    by_cases hlt : e ≤ silc x
    · simp only [ho, show decide (((e : Nat) : Int) ≤ ((silc x : Nat) : Int)) = true from decide_eq_true (by omega), f0, f3, f6, hds, Cd.cd87, Tk.t87, base0, base1, base2, base3, Option.isNone_none, Option.isNone_some, Nat.reduceBEq, true_or, or_true, false_or, or_false, Nat.reduceLT, Nat.reduceMod, Nat.reducePow, rmaps, nsucc, List.flatten_cons, List.flatten_nil, Nat.reduceEqDiff, Nat.reduceLeDiff, Nat.reduceAdd, Nat.reduceMul, Nat.reduceSub, ↓reduceIte, reduceCtorEq, decide_true, decide_false]
      first | refine FCall.go (shows80 x hx a e ha) (FZs.three (FZ.sysV x) (FZ.v _) (FZ.v _)) ?_ | refine FCall.go' (shows80 x hx a e ha) (FZs.three (FZ.sysV x) (FZ.v _) (FZ.v _)) ?_ | refine FCall.goQ (shows80 x hx a e ha) (FZs.three (FZ.sysV x) (FZ.v _) (FZ.v _)) ?_
      cases h1 : shw x a e
      · simp only [ho, f0, f3, f6, hds, Cd.cd87, Tk.t87, base0, base1, base2, base3, Option.isNone_none, Option.isNone_some, Nat.reduceBEq, true_or, or_true, false_or, or_false, Nat.reduceLT, Nat.reduceMod, Nat.reducePow, rmaps, nsucc, List.flatten_cons, List.flatten_nil, Nat.reduceEqDiff, Nat.reduceLeDiff, Nat.reduceAdd, Nat.reduceMul, Nat.reduceSub, ↓reduceIte, reduceCtorEq, decide_true, decide_false]
        exact ⟨_, by omega, e + 1, rfl, by omega, allS hz (by unfold failsAt; rw [h1]; rfl), by rw [wrapS (by omega)]⟩
      · simp only [ho, f0, f3, f6, hds, Cd.cd87, Tk.t87, base0, base1, base2, base3, Option.isNone_none, Option.isNone_some, Nat.reduceBEq, true_or, or_true, false_or, or_false, Nat.reduceLT, Nat.reduceMod, Nat.reducePow, rmaps, nsucc, List.flatten_cons, List.flatten_nil, Nat.reduceEqDiff, Nat.reduceLeDiff, Nat.reduceAdd, Nat.reduceMul, Nat.reduceSub, ↓reduceIte, reduceCtorEq, decide_true, decide_false]
        first | refine FCall.go (shows80 y hy b e hb) (FZs.three (FZ.sysV y) (FZ.v _) (FZ.v _)) ?_ | refine FCall.go' (shows80 y hy b e hb) (FZs.three (FZ.sysV y) (FZ.v _) (FZ.v _)) ?_ | refine FCall.goQ (shows80 y hy b e hb) (FZs.three (FZ.sysV y) (FZ.v _) (FZ.v _)) ?_
        cases h2 : shw y b e
        · simp only [ho, f0, f3, f6, hds, Cd.cd87, Tk.t87, base0, base1, base2, base3, Option.isNone_none, Option.isNone_some, Nat.reduceBEq, true_or, or_true, false_or, or_false, Nat.reduceLT, Nat.reduceMod, Nat.reducePow, rmaps, nsucc, List.flatten_cons, List.flatten_nil, Nat.reduceEqDiff, Nat.reduceLeDiff, Nat.reduceAdd, Nat.reduceMul, Nat.reduceSub, ↓reduceIte, reduceCtorEq, decide_true, decide_false]
          rw [show failsN x y a b = some e from firstIx_some (by omega) (by unfold failsAt; rw [h1, h2]; rfl) hz]; rfl
        · simp only [ho, f0, f3, f6, hds, Cd.cd87, Tk.t87, base0, base1, base2, base3, Option.isNone_none, Option.isNone_some, Nat.reduceBEq, true_or, or_true, false_or, or_false, Nat.reduceLT, Nat.reduceMod, Nat.reducePow, rmaps, nsucc, List.flatten_cons, List.flatten_nil, Nat.reduceEqDiff, Nat.reduceLeDiff, Nat.reduceAdd, Nat.reduceMul, Nat.reduceSub, ↓reduceIte, reduceCtorEq, decide_true, decide_false]
          exact ⟨_, by omega, e + 1, rfl, by omega, allS hz (by unfold failsAt; rw [h1, h2]; rfl), by rw [wrapS (by omega)]⟩
    · have he : e = silc x + 1 := by omega
      simp only [show decide (((e : Nat) : Int) ≤ ((silc x : Nat) : Int)) = false from decide_eq_false (by omega), f0, f3, f6, hds, Cd.cd87, Tk.t87, base0, base1, base2, base3, Option.isNone_none, Option.isNone_some, Nat.reduceBEq, true_or, or_true, false_or, or_false, Nat.reduceLT, Nat.reduceMod, Nat.reducePow, rmaps, nsucc, List.flatten_cons, List.flatten_nil, Nat.reduceEqDiff, Nat.reduceLeDiff, Nat.reduceAdd, Nat.reduceMul, Nat.reduceSub, ↓reduceIte, reduceCtorEq, decide_true, decide_false]
      rw [show failsN x y a b = none from firstIx_none (by rw [← he]; exact hz)]; rfl
set_option maxHeartbeats 2000000 in
theorem compare59 (x y : Re) (hx : Ok x) (hy : Ok y) (H : AH) : ACall Tryd.prog 59 [reV x, reV y] H (fun out H' => ∃ r m aP aF aB, out = .ret (.ptr r 0) ∧ CmpO x y H' r m aP aF aB [nd0 x y] [-1] [-1] ∧ H.next ≤ H'.next ∧ H.next ≤ r ∧ H.next ≤ m ∧ ∀ n, n < H.next → H'.own n = H.own n) := by
  simp only [reV, reL, mvsV]
  refine ACall.enter [12] Cd.fn59 (by simp) ?_
  simp only [Cd.cd59, Tk.t59, base0, base1, base2, base3, Option.isNone_none, Option.isNone_some, Nat.reduceBEq, true_or, or_true, false_or, or_false, Nat.reduceLT, Nat.reduceMod, Nat.reducePow, rmaps, nsucc, List.flatten_cons, List.flatten_nil, Nat.reduceEqDiff, Nat.reduceLeDiff, Nat.reduceAdd, Nat.reduceMul, Nat.reduceSub, ↓reduceIte, reduceCtorEq, decide_true, decide_false]
  first | refine FCall.go (system71 x hx) (FZs.one (FZ.reV x)) ?_ | refine FCall.go' (system71 x hx) (FZs.one (FZ.reV x)) ?_ | refine FCall.goQ (system71 x hx) (FZs.one (FZ.reV x)) ?_
  simp only [Cd.cd59, Tk.t59, base0, base1, base2, base3, Option.isNone_none, Option.isNone_some, Nat.reduceBEq, true_or, or_true, false_or, or_false, Nat.reduceLT, Nat.reduceMod, Nat.reducePow, rmaps, nsucc, List.flatten_cons, List.flatten_nil, Nat.reduceEqDiff, Nat.reduceLeDiff, Nat.reduceAdd, Nat.reduceMul, Nat.reduceSub, ↓reduceIte, reduceCtorEq, decide_true, decide_false]
  first | refine FCall.go (system71 y hy) (FZs.one (FZ.reV y)) ?_ | refine FCall.go' (system71 y hy) (FZs.one (FZ.reV y)) ?_ | refine FCall.goQ (system71 y hy) (FZs.one (FZ.reV y)) ?_
  simp only [sysV, Cd.cd59, Tk.t59, base0, base1, base2, base3, Option.isNone_none, Option.isNone_some, Nat.reduceBEq, true_or, or_true, false_or, or_false, Nat.reduceLT, Nat.reduceMod, Nat.reducePow, rmaps, nsucc, List.flatten_cons, List.flatten_nil, Nat.reduceEqDiff, Nat.reduceLeDiff, Nat.reduceAdd, Nat.reduceMul, Nat.reduceSub, ↓reduceIte, reduceCtorEq, decide_true, decide_false]
  first | refine FCall.go (first72 x hx) (FZs.one (FZ.sysV x)) ?_ | refine FCall.go' (first72 x hx) (FZs.one (FZ.sysV x)) ?_ | refine FCall.goQ (first72 x hx) (FZs.one (FZ.sysV x)) ?_
  simp only [sysV, Cd.cd59, Tk.t59, base0, base1, base2, base3, Option.isNone_none, Option.isNone_some, Nat.reduceBEq, true_or, or_true, false_or, or_false, Nat.reduceLT, Nat.reduceMod, Nat.reducePow, rmaps, nsucc, List.flatten_cons, List.flatten_nil, Nat.reduceEqDiff, Nat.reduceLeDiff, Nat.reduceAdd, Nat.reduceMul, Nat.reduceSub, ↓reduceIte, reduceCtorEq, decide_true, decide_false]
  first | refine FCall.go (first72 y hy) (FZs.one (FZ.sysV y)) ?_ | refine FCall.go' (first72 y hy) (FZs.one (FZ.sysV y)) ?_ | refine FCall.goQ (first72 y hy) (FZs.one (FZ.sysV y)) ?_
  simp only [sysV, uv, Cd.cd59, Tk.t59, base0, base1, base2, base3, Option.isNone_none, Option.isNone_some, Nat.reduceBEq, true_or, or_true, false_or, or_false, Nat.reduceLT, Nat.reduceMod, Nat.reducePow, rmaps, nsucc, List.flatten_cons, List.flatten_nil, Nat.reduceEqDiff, Nat.reduceLeDiff, Nat.reduceAdd, Nat.reduceMul, Nat.reduceSub, ↓reduceIte, reduceCtorEq, decide_true, decide_false]
  refine ACall.thn' (add101 x y hx hy _ (H.next + 1) H.next nilS nilS nilS [] [] [] ⟨by simp [sysV, nilS], by simp, .inl ⟨rfl, rfl, rfl, rfl, rfl, rfl⟩, by omega, by show H.next + 1 < H.next + 1 + 1; omega, by show H.next < H.next + 1 + 1; omega⟩ ⟨fun p hp => by simp at hp, by simp⟩ rfl rfl (fstM x) (fstM y) (hx.pw (fst_lt hx)) (hy.pw (fst_lt hy)) (-1) (-1) []) fun out H2 hq => ?_
  obtain ⟨rfl, ⟨aP, aF, aB, h2⟩, h3, h4⟩ := hq
  refine ⟨_, rfl, ?_⟩
  simp only [Cd.cd59, Tk.t59, base0, base1, base2, base3, Option.isNone_none, Option.isNone_some, Nat.reduceBEq, true_or, or_true, false_or, or_false, Nat.reduceLT, Nat.reduceMod, Nat.reducePow, rmaps, nsucc, List.flatten_cons, List.flatten_nil, Nat.reduceEqDiff, Nat.reduceLeDiff, Nat.reduceAdd, Nat.reduceMul, Nat.reduceSub, ↓reduceIte, reduceCtorEq, decide_true, decide_false]
  refine ⟨H.next + 1, H.next, aP, aF, aB, rfl, h2, by have : H.next + 1 + 1 ≤ H2.next := h3; omega, by omega, by omega, fun n hn => ?_⟩
  rw [h4 n (by show n < H.next + 1 + 1; omega) (by omega) (by omega)]
  simp [show ¬ n = H.next by omega, show ¬ n = H.next + 1 by omega]
def ivC (k : Nat) (f : Nat → Int) : List AV := (List.range k).map fun e => .v (.int .i64 (f e))
theorem ivC_len (k : Nat) (f : Nat → Int) : (ivC k f).length = k := by simp [ivC]
theorem ivC_drop {k s : Nat} (f : Nat → Int) (h : s < k) : (List.drop s (ivC k f))[0]? = some (.v (.int .i64 (f s))) := by
  rw [List.getElem?_drop, Nat.add_zero]
  unfold ivC
  rw [List.getElem?_map, List.getElem?_range h]; rfl
theorem ivC_set {k s : Nat} (f : Nat → Int) (v : Int) (h : s < k) : List.take s (ivC k f) ++ AV.v (.int .i64 v) :: List.drop (s + 1) (ivC k f) = ivC k fun e => if e = s then v else f e := by
  apply List.ext_getElem?
  intro i
  have hl : (List.take s (ivC k f)).length = s := by rw [List.length_take, ivC_len]; omega
  by_cases h1 : i < s
  · rw [List.getElem?_append_left (by omega), List.getElem?_take_of_lt h1]
    unfold ivC
    rw [List.getElem?_map, List.getElem?_map, List.getElem?_range (by omega)]
    simp [show ¬ i = s by omega]
  · rw [List.getElem?_append_right (by omega), hl]
    by_cases h2 : i = s
    · subst h2
      rw [Nat.sub_self]
      unfold ivC
      rw [List.getElem?_map, List.getElem?_range h]; simp
    · obtain ⟨d, hd⟩ : ∃ d, i - s = d + 1 := ⟨i - s - 1, by omega⟩
      rw [hd, List.getElem?_cons_succ, List.getElem?_drop, show s + 1 + d = i by omega]
      unfold ivC
      rw [List.getElem?_map, List.getElem?_map]
      by_cases h3 : i < k
      · rw [List.getElem?_range h3]; simp [h2]
      · rw [List.getElem?_eq_none (by simp; omega)]; rfl
theorem ivC_list (l : List Int) : l.map (fun x => AV.v (.int .i64 x)) = ivC l.length fun k => l.getD k 0 := by
  apply List.ext_getElem?
  intro i
  unfold ivC
  rw [List.getElem?_map, List.getElem?_map]
  by_cases h : i < l.length
  · rw [List.getElem?_range h, List.getElem?_eq_getElem h]
    simp [List.getD_eq_getElem?_getD, List.getElem?_eq_getElem h]
  · rw [List.getElem?_eq_none (by omega), List.getElem?_eq_none (by simp; omega)]; rfl
def revF (l : List Int) (i k : Nat) : Int := if k < i ∨ l.length - i ≤ k then l.getD (l.length - 1 - k) 0 else l.getD k 0
theorem revF_step (l : List Int) {i : Nat} (h : 2 * i + 1 < l.length) (k : Nat) (hk : k < l.length) : (if k = l.length - 1 - i then revF l i i else if k = i then revF l i (l.length - 1 - i) else revF l i k) = revF l (i + 1) k := by
  unfold revF
  by_cases h1 : k = l.length - 1 - i
  · subst h1
    rw [if_pos rfl, if_neg (by omega), if_pos (by omega)]
    congr 1; omega
  · rw [if_neg h1]
    by_cases h2 : k = i
    · subst h2
      rw [if_pos rfl, if_neg (by omega), if_pos (by omega)]
    · rw [if_neg h2]
      by_cases h3 : k < i ∨ l.length - i ≤ k
      · rw [if_pos h3, if_pos (by omega)]
      · rw [if_neg h3, if_neg (by omega)]
theorem ivC_congr {k : Nat} {f g : Nat → Int} (h : ∀ i, i < k → f i = g i) : ivC k f = ivC k g := by
  unfold ivC
  apply List.map_congr_left
  intro i hi
  rw [h i (List.mem_range.mp hi)]
theorem revF_end (l : List Int) {i : Nat} (h : l.length ≤ 2 * i + 1) (hi : 2 * i ≤ l.length) : ivC l.length (revF l i) = l.reverse.map fun x => AV.v (.int .i64 x) := by
  rw [ivC_list, List.length_reverse]
  apply ivC_congr
  intro k hk
  unfold revF
  rw [List.getD_eq_getElem?_getD (l := l.reverse), List.getElem?_reverse hk, ← List.getD_eq_getElem?_getD]
  by_cases h1 : k < i ∨ l.length - i ≤ k
  · rw [if_pos h1]
  · rw [if_neg h1]
    congr 1; omega
set_option maxHeartbeats 2000000 in
theorem reverse102 (l : List Int) (H : AH) (n : Nat) (hl : 0 < l.length) (hb : l.length < 2 ^ 40) (ho : H.own n = some (.cells (l.map fun x => .v (.int .i64 x)))) :
    ACall Tryd.prog 102 [.sl 1 n 0 l.length] H (fun out H' => out = .ret (.tup []) ∧ H'.own n = some (.cells (l.reverse.map fun x => .v (.int .i64 x))) ∧ H'.next = H.next ∧ H'.tip = H.tip ∧ ∀ k, k ≠ n → H'.own k = H.own k) := by
  rw [ivC_list] at ho
  have hw : IntKind.i64.wrap ((l.length : Int) - 1) = ((l.length - 1 : Nat) : Int) := by rw [wrapI (by omega) (by omega)]; omega
  refine ACall.enter [] Cd.fn102 (by simp) ?_
  simp only [hw, Cd.cd102, Tk.t102, base0, base1, base2, base3, Option.isNone_none, Option.isNone_some, Nat.reduceBEq, true_or, or_true, false_or, or_false, Nat.reduceLT, Nat.reduceMod, Nat.reducePow, rmaps, nsucc, List.flatten_cons, List.flatten_nil, Nat.reduceEqDiff, Nat.reduceLeDiff, Nat.reduceAdd, Nat.reduceMul, Nat.reduceSub, ↓reduceIte, reduceCtorEq, decide_true, decide_false]
  refine LWP.loop [] (fun m f H' => ∃ i, m = l.length - i ∧ (2 * i ≤ l.length) ∧ f.t 0 = .sl 1 n 0 l.length ∧ f.t 2 = .v (.int .i64 (i : Nat)) ∧ f.t 3 = .v (.int .i64 ((l.length : Int) - 1 - (i : Int))) ∧ f.ds = [] ∧ (H'.own n = some (.cells (ivC l.length (revF l i))) ∧ H'.next = H.next ∧ H'.tip = H.tip ∧ ∀ k, k ≠ n → H'.own k = H.own k)) ?_ ?_ (m := l.length - (0))
  · exact ⟨0, rfl, (by omega), rfl, rfl, by simp [upd]; omega, rfl, ⟨by rw [ho]; congr 2; apply ivC_congr; intro k hk; unfold revF; rw [if_neg (by omega)], rfl, rfl, fun _ _ => rfl⟩⟩
  · rintro m f H' ⟨i, rfl, hi, f0, f2, f3, hds, hH⟩
    obtain ⟨hH, h1, h2, h3⟩ := hH
    by_cases hlt : 2 * i + 1 < l.length
    · have hj : ((l.length : Int) - 1 - (i : Int)) = ((l.length - 1 - i : Nat) : Int) := by omega
      have hil : i < l.length := by omega
      have hjl : l.length - 1 - i < l.length := by omega
      have hst := revF_step l hlt
      simp only [hj, show decide (((i : Nat) : Int) < ((l.length - 1 - i : Nat) : Int)) = true from decide_eq_true (by omega), inR hil, inR hjl, Int.toNat_natCast, Nat.mul_one, Nat.zero_add, hH, ivC_drop _ hil, ivC_drop _ hjl, ivC_len, show (i + 1 ≤ l.length) = True from by simp only [eq_iff_iff, iff_true]; omega, show (l.length - 1 - i + 1 ≤ l.length) = True from by simp only [eq_iff_iff, iff_true]; omega, ivC_set _ _ hil, ivC_set _ _ hjl, f0, f2, f3, hds, Cd.cd102, Tk.t102, base0, base1, base2, base3, Option.isNone_none, Option.isNone_some, Nat.reduceBEq, true_or, or_true, false_or, or_false, Nat.reduceLT, Nat.reduceMod, Nat.reducePow, rmaps, nsucc, List.flatten_cons, List.flatten_nil, Nat.reduceEqDiff, Nat.reduceLeDiff, Nat.reduceAdd, Nat.reduceMul, Nat.reduceSub, ↓reduceIte, reduceCtorEq, decide_true, decide_false]
      refine ⟨_, by omega, i + 1, rfl, by omega, by rw [wrapS (by omega)], ?_, ?_, h1, h2, fun k hk => ?_⟩
      · rw [wrapI (by omega) (by omega), show ((l.length - 1 - i : Nat) : Int) - 1 = (l.length : Int) - 1 - ((i + 1 : Nat) : Int) by omega]
      · congr 2
        apply ivC_congr
        intro k hk
        exact hst k hk
      · simp only [hk, if_false]; exact h3 k hk
    · simp only [show decide (((i : Nat) : Int) < ((l.length : Int) - 1 - (i : Int))) = false from decide_eq_false (by omega), f0, f2, f3, hds, Cd.cd102, Tk.t102, base0, base1, base2, base3, Option.isNone_none, Option.isNone_some, Nat.reduceBEq, true_or, or_true, false_or, or_false, Nat.reduceLT, Nat.reduceMod, Nat.reducePow, rmaps, nsucc, List.flatten_cons, List.flatten_nil, Nat.reduceEqDiff, Nat.reduceLeDiff, Nat.reduceAdd, Nat.reduceMul, Nat.reduceSub, ↓reduceIte, reduceCtorEq, decide_true, decide_false]
      trace_state
      exact ⟨by rw [hH, revF_end l (by omega) (by omega)], h1, h2, h3⟩
end Go.Proofs.YtchpcjmgifnmdaaDoor

/- Walks: all pairs are met. -/
namespace Go.Proofs.YtchpcjmgifnmdaaDoor
open Go Go.Proofs.YtchpcjmgifnmdaaDoor.Ab
set_option maxRecDepth 100000
set_option linter.unusedSimpArgs false
set_option pp.deepTerms true
set_option pp.maxSteps 100000

theorem CmpO.same {x y : Re} {H H' : AH} {r m : Nat} {aP aF aB : AV} {l : List Nd} {fr bys : List Int} (h : CmpO x y H r m aP aF aB l fr bys) (hn : H.next ≤ H'.next) (hr : H'.own r = H.own r) (hm : H'.own m = H.own m) (ht : ∀ t, t < H.next → H'.tip t = H.tip t) : CmpO x y H' r m aP aF aB l fr bys :=
  ⟨hr.trans h.o, hm.trans h.mp, h.g.tips hn ht, h.rm.1, Nat.lt_of_lt_of_le h.rm.2.1 hn, Nat.lt_of_lt_of_le h.rm.2.2 hn⟩
theorem CmpO.live {x y : Re} {H : AH} {r m : Nat} {aP aF aB : AV} {l : List Nd} {fr bys : List Int} (h : CmpO x y H r m aP aF aB l fr bys) (h0 : 0 < l.length) : ∃ tp tf tb, aP = .lst 2 (l.map enP) (.live tp) ∧ aF = .lst 1 (fr.map intR) (.live tf) ∧ aB = .lst 1 (bys.map intR) (.live tb) := by
  rcases h.g with ⟨rfl, _⟩ | ⟨tp, tf, tb, _, _, h5, h6, h7, _⟩
  · simp at h0
  · exact ⟨tp, tf, tb, h5, h6, h7⟩
theorem viewI {H : AH} {n : Nat} {l : List Int} (h : H.own n = some (.cells (l.map fun x => .v (.int .i64 x)))) : View H (.sl 1 n 0 l.length) (ints l) := by
  refine View.sl h (by simp) (by simp) (fun i hi => by rw [getD_ints l i hi]; rfl) fun i j hi hj => ?_
  have hj0 : j = 0 := by omega
  subst hj0
  rw [getD_ints l i hi]
  have : (l.map fun x => AV.v (.int .i64 x)).getD (0 + i * 1 + 0) .any = .v (.int .i64 (l.getD i 0)) := by
    rw [List.getD_eq_getElem?_getD, List.getElem?_map, show 0 + i * 1 + 0 = i by omega, List.getElem?_eq_getElem hi, List.getD_eq_getElem?_getD, List.getElem?_eq_getElem hi]; rfl
  rw [this]
  exact (FZ.v _).view
def ivL (l : List Int) : List AV := l.map fun x => .v (.int .i64 x)
def runV (o : Option (List Int)) : AV := match o with
  | some tr => .tup [ints tr, .v (.bool true)]
  | none => .tup [nilS, .v (.bool false)]
def RunP (x y : Re) (H : AH) (r m : Nat) (l0 : List Nd) (out : AOut) (H' : AH) : Prop :=
  ∃ o l, SrchR x y l0 0 (o, l) ∧ out = .ret (runV o) ∧ (∃ t aF aB, H'.own r = some (.cells [sysV x, sysV y, .lst 2 (l.map enP) (.live t), aF, aB, .map m])) ∧ H.next ≤ H'.next ∧ ∀ n, n < H.next → n ≠ r → n ≠ m → H'.own n = H.own n
set_option maxHeartbeats 8000000 in
theorem run60 (x y : Re) (hx : Ok x) (hy : Ok y) (hio : silc y = silc x) (H : AH) (r mq : Nat) (aP aF aB : AV) (l0 : List Nd) (fr0 by0 : List Int) (hC : CmpO x y H r mq aP aF aB l0 fr0 by0) (hG : GoodN x y l0) (hM : Came l0 fr0 by0) :
    ACall Tryd.prog 60 [.ptr r 0] H (RunP x y H r mq l0) := by
  have hsc := silc_le hx
  refine ACall.freeze H.next ?_
  refine ACall.enter [36, 62] Cd.fn60 (by simp) ?_
  simp only [Cd.cd60, Tk.t60, base0, base1, base2, base3, Option.isNone_none, Option.isNone_some, Nat.reduceBEq, true_or, or_true, false_or, or_false, Nat.reduceLT, Nat.reduceMod, Nat.reducePow, rmaps, nsucc, List.flatten_cons, List.flatten_nil, Nat.reduceEqDiff, Nat.reduceLeDiff, Nat.reduceAdd, Nat.reduceMul, Nat.reduceSub, ↓reduceIte, reduceCtorEq, decide_true, decide_false]
  refine LWP.loop [36, 62] (fun m f H' => ∃ i l fr bys aP aF aB, m = 1048577 - i ∧ (i ≤ l.length) ∧ (CmpO x y H' r mq aP aF aB l fr bys) ∧ (GoodN x y l) ∧ (Came l fr bys) ∧ (∀ res, SrchR x y l i res → SrchR x y l0 0 res) ∧ f.t 0 = .ptr r 0 ∧ f.t 4 = .v (.int .i64 (i : Nat)) ∧ f.ds = [] ∧ (H.next ≤ H'.next ∧ r < H.next ∧ mq < H.next ∧ ∀ n, n < H.next → n ≠ r → n ≠ mq → H'.own n = H.own n)) ?_ ?_ (m := 1048577 - (0))
  · exact ⟨0, l0, fr0, by0, aP, aF, aB, rfl, (by omega), (hC), (hG), (hM), (fun _ h => h), rfl, rfl, rfl, ⟨Nat.le_refl _, hC.rm.2.1, hC.rm.2.2, fun _ _ _ _ => rfl⟩⟩
  · rintro m f H' ⟨i, l, fr, bys, aP, aF, aB, rfl, hi, hC, hG, hM, hS, f0, f4, hds, hk⟩
    obtain ⟨hk1, hkr, hkm, hk2⟩ := hk
    have ho := hC.o
    have hlen := hG.len hx hy
    obtain ⟨tp, tf, tb, rfl, rfl, rfl⟩ := hC.live hM.h0
    by_cases hlt : i < l.length
    · have hp := hG.lt _ (getD_mem hlt)
      have hgp := getD_map enP l i hlt
      have hrn : (r = H'.next) = False := by simp; omega
      have hmn : (mq = H'.next) = False := by simp; omega
      generalize hpe : l.getD i default = p at hp hgp
      simp only [ho, List.length_map, ltT hlt, inR hlt, Int.toNat_natCast, hgp, enP, hrn, f0, f4, hds, Cd.cd60, Tk.t60, base0, base1, base2, base3, Option.isNone_none, Option.isNone_some, Nat.reduceBEq, true_or, or_true, false_or, or_false, Nat.reduceLT, Nat.reduceMod, Nat.reducePow, rmaps, nsucc, List.flatten_cons, List.flatten_nil, Nat.reduceEqDiff, Nat.reduceLeDiff, Nat.reduceAdd, Nat.reduceMul, Nat.reduceSub, ↓reduceIte, reduceCtorEq, decide_true, decide_false]
      have hC1 : CmpO x y { next := H'.next + 1, own := fun m => if m = H'.next then some (.cells [AV.v (.int .u64 (p.x : Nat)), AV.v (.int .u64 (p.y : Nat))]) else if m = H'.next then some (.cells [AV.v (.int .u64 0), AV.v (.int .u64 0)]) else H'.own m, tip := H'.tip } r mq (.lst 2 (l.map enP) (.live tp)) (.lst 1 (fr.map intR) (.live tf)) (.lst 1 (bys.map intR) (.live tb)) l fr bys :=
        hC.same (by show H'.next ≤ H'.next + 1; omega) (by simp only [hrn, if_false]) (by simp only [hmn, if_false]) fun _ _ => rfl
      refine ACall.thn (fails87 x y hx hy _ r mq _ _ _ l fr bys hC1 p.x p.y hp.1 hp.2) fun out H2 hq => ?_
      obtain ⟨rfl, rfl⟩ := hq
      refine ⟨_, rfl, ?_⟩
      cases hf : failsN x y p.x p.y with
      | some e =>
        simp only [failsV, f0, f4, hds, Cd.cd60, Tk.t60, base0, base1, base2, base3, Option.isNone_none, Option.isNone_some, Nat.reduceBEq, true_or, or_true, false_or, or_false, Nat.reduceLT, Nat.reduceMod, Nat.reducePow, rmaps, nsucc, List.flatten_cons, List.flatten_nil, Nat.reduceEqDiff, Nat.reduceLeDiff, Nat.reduceAdd, Nat.reduceMul, Nat.reduceSub, ↓reduceIte, reduceCtorEq, decide_true, decide_false]
        have hHn : H.next ≤ H'.next + 1 := by omega
        refine LWP.loop [36, 62] (fun m f H' => ∃ k ol nm, m = 2 * k ∧ (k < l.length) ∧ (k ≤ i) ∧ (p.tr ++ [(e : Int)] = (l.getD k default).tr ++ List.reverse (ol : List Int)) ∧ (0 < List.length (ol : List Int) ∧ List.length (ol : List Int) + k ≤ i + 1) ∧ (H.next ≤ nm) ∧ f.t 0 = .ptr r 0 ∧ f.t 8 = .sl 1 nm 0 (List.length (ol : List Int)) ∧ f.t 9 = .v (.int .i64 (k : Nat)) ∧ f.ds = [] ∧ (nm < H'.next ∧ H.next ≤ H'.next ∧ H'.own nm = some (.cells (ivL ol)) ∧ H'.own r = some (.cells [sysV x, sysV y, .lst 2 (l.map enP) (.live tp), .lst 1 (fr.map intR) (.live tf), .lst 1 (bys.map intR) (.live tb), .map mq]) ∧ ∀ n, n < H.next → n ≠ r → n ≠ mq → H'.own n = H.own n)) ?_ ?_ (m := 2 * (i))
        · exact ⟨i, [(e : Int)], H'.next + 1, rfl, (hlt), (Nat.le_refl _), (by rw [hpe]; rfl), (⟨by simp, by simp; omega⟩), (hHn), (by first | rfl | exact f0), (by first | rfl | exact f8), (by first | rfl | exact f9), rfl, ⟨by simp, by simp; omega, by simp [ivL], by simp [show ¬ r = H'.next by omega, show ¬ r = H'.next + 1 by omega]; exact ho, fun n h1 h2 h3 => by simp [show ¬ n = H'.next by omega, show ¬ n = H'.next + 1 by omega]; exact hk2 n h1 h2 h3⟩⟩
        · rintro m f H' ⟨k, ol, nm, rfl, hkl, hki, htr, hol, hnm, f0, f8, f9, hds, hk3⟩
          obtain ⟨hk3, hk4, hk5, hk6, hk7⟩ := hk3
          have hkf : k < fr.length := by rw [hM.f]; exact hkl
          have hkb : k < bys.length := by rw [hM.b]; exact hkl
          have hgf := getD_map intR fr k hkf
          have hgb := getD_map intR bys k hkb
          have hrnm : (r = nm) = False := by simp; omega
          have hrn1 : (r = H'.next) = False := by simp; omega
          by_cases hk0 : k = 0
          · subst hk0
            have hz := hM.z
            have hz1 : fr.getD 0 default = -1 := hz.1
            rw [hz.2, List.nil_append] at htr
            have hrev := reverse102 ol H' nm hol.1 (by omega) hk5
            simp only [hk6, List.length_map, inR hkf, Int.toNat_natCast, hgf, intR, hz1, f0, f8, f9, hds, Cd.cd60, Tk.t60, base0, base1, base2, base3, Option.isNone_none, Option.isNone_some, Nat.reduceBEq, true_or, or_true, false_or, or_false, Nat.reduceLT, Nat.reduceMod, Nat.reducePow, rmaps, nsucc, List.flatten_cons, List.flatten_nil, Nat.reduceEqDiff, Nat.reduceLeDiff, Nat.reduceAdd, Nat.reduceMul, Nat.reduceSub, ↓reduceIte, reduceCtorEq, decide_true, decide_false]
            refine ACall.thn hrev fun out H2 hq => ?_
            obtain ⟨rfl, h1, h2, h3, h4⟩ := hq
            refine ⟨_, rfl, ?_⟩
            simp only [f0, f8, f9, hds, Cd.cd60, Tk.t60, base0, base1, base2, base3, Option.isNone_none, Option.isNone_some, Nat.reduceBEq, true_or, or_true, false_or, or_false, Nat.reduceLT, Nat.reduceMod, Nat.reducePow, rmaps, nsucc, List.flatten_cons, List.flatten_nil, Nat.reduceEqDiff, Nat.reduceLeDiff, Nat.reduceAdd, Nat.reduceMul, Nat.reduceSub, ↓reduceIte, reduceCtorEq, decide_true, decide_false]
            have hv : View (H2.above H.next) (.sl 1 nm 0 ol.length) (ints ol.reverse) := by
              have := viewI (H := H2.above H.next) (n := nm) (l := ol.reverse) ((above_own hnm).trans h1)
              rwa [List.length_reverse] at this
            refine Frz.ret (v' := .tup [ints ol.reverse, .v (.bool true)]) (Views.tup (Views.cons hv (Views.cons (FZ.v _).view Views.nil))) (FZ.tup (FZs.two (FZ.ints _) (FZ.v _))) ?_
            have hfl := SrchR.fail (x := x) (y := y) hlt (e := e) (by rw [hpe]; exact hf)
            rw [hpe, htr] at hfl
            exact ⟨some ol.reverse, l, hS _ hfl, rfl, ⟨tp, _, _, (below_own hkr).trans ((h4 r (by simpa using hrnm)).trans hk6)⟩, by show H.next ≤ H2.next; omega, fun n h5 h6 h7 => (below_own h5).trans ((h4 n (by omega)).trans (hk7 n h5 h6 h7))⟩
          · obtain ⟨j, hj1, hj2, hj3⟩ := hM.s k (by omega) hkl
            have hj1' : fr.getD k default = (j : Int) := hj1
            have hr8 : roomA 8 (ol.length + 1) = true := room_of (by omega) (by omega)
            simp only [hk6, List.length_map, inR hkf, inR hkb, Int.toNat_natCast, hgf, hgb, intR, hj1', show (((j : Nat) : Int) != -1) = true from by simp, hk5, hr8, hrnm, hrn1, Nat.mul_one, show (ol.length ≤ (ivL ol).length) = True from by simp [ivL], show List.take ol.length (ivL ol) = ivL ol from by rw [show ol.length = (ivL ol).length from by simp [ivL], List.take_length], f0, f8, f9, hds, Cd.cd60, Tk.t60, base0, base1, base2, base3, Option.isNone_none, Option.isNone_some, Nat.reduceBEq, true_or, or_true, false_or, or_false, Nat.reduceLT, Nat.reduceMod, Nat.reducePow, rmaps, nsucc, List.flatten_cons, List.flatten_nil, Nat.reduceEqDiff, Nat.reduceLeDiff, Nat.reduceAdd, Nat.reduceMul, Nat.reduceSub, ↓reduceIte, reduceCtorEq, decide_true, decide_false]
            have hnn : (H'.next = nm) = False := by simp; omega
            refine ⟨_, by omega, j, ol ++ [bys.getD k 0], H'.next, rfl, by omega, by omega, ?_, ⟨by simp, by simp; omega⟩, hk4, by simp, rfl, by omega, by omega, ?_, fun n h1 h2 h3 => ?_⟩
            · rw [htr, hj3, List.reverse_append, List.append_assoc]; rfl
            · simp only [hnn, if_false, if_true, ivL, List.map_append]; rfl
            · simp only [show ¬ n = nm by omega, show ¬ n = H'.next by omega, if_false]
              exact hk7 n h1 h2 h3
      | none =>
        simp only [failsV, ho, hrn, f0, f4, hds, Cd.cd60, Tk.t60, base0, base1, base2, base3, Option.isNone_none, Option.isNone_some, Nat.reduceBEq, true_or, or_true, false_or, or_false, Nat.reduceLT, Nat.reduceMod, Nat.reducePow, rmaps, nsucc, List.flatten_cons, List.flatten_nil, Nat.reduceEqDiff, Nat.reduceLeDiff, Nat.reduceAdd, Nat.reduceMul, Nat.reduceSub, ↓reduceIte, reduceCtorEq, decide_true, decide_false]
        first | refine FCall.go (silence73 x hx) (FZs.one (FZ.sysV x)) ?_ | refine FCall.go' (silence73 x hx) (FZs.one (FZ.sysV x)) ?_ | refine FCall.goQ (silence73 x hx) (FZs.one (FZ.sysV x)) ?_
        have hw9 : IntKind.i64.wrap (((silc x : Nat) : Int) + 1) = ((silc x + 1 : Nat) : Int) := wrapS (by omega)
        simp only [hw9, f0, f4, hds, Cd.cd60, Tk.t60, base0, base1, base2, base3, Option.isNone_none, Option.isNone_some, Nat.reduceBEq, true_or, or_true, false_or, or_false, Nat.reduceLT, Nat.reduceMod, Nat.reducePow, rmaps, nsucc, List.flatten_cons, List.flatten_nil, Nat.reduceEqDiff, Nat.reduceLeDiff, Nat.reduceAdd, Nat.reduceMul, Nat.reduceSub, ↓reduceIte, reduceCtorEq, decide_true, decide_false]
        generalize hnx : H'.next = n5 at *
        refine LWP.loop [36, 62] (fun m f H' => ∃ e l2 fr2 by2 aP aF aB, m = silc x + 1 - e ∧ (e ≤ silc x + 1) ∧ (l2 = extN x y p l e) ∧ (CmpO x y H' r mq aP aF aB l2 fr2 by2) ∧ (GoodN x y l2) ∧ (Came l2 fr2 by2) ∧ f.t 0 = .ptr r 0 ∧ f.t 4 = .v (.int .i64 (i : Nat)) ∧ f.t 5 = .ptr n5 0 ∧ f.t 71 = .v (.int .i64 ((silc x + 1 : Nat) : Int)) ∧ f.t 72 = .v (.int .i64 (e : Nat)) ∧ f.ds = [] ∧ (n5 < H'.next ∧ H'.own n5 = some (.cells [AV.v (.int .u64 (p.x : Nat)), AV.v (.int .u64 (p.y : Nat))]) ∧ ∀ n, n < H.next → n ≠ r → n ≠ mq → H'.own n = H.own n)) ?_ ?_ (m := silc x + 1 - (0))
        · exact ⟨0, l, fr, bys, _, _, _, rfl, (by omega), (rfl), (hC1), (hG), (hM), (by first | rfl | exact f0), (by first | rfl | exact f4), (by first | rfl | exact f5), (by first | rfl | exact f71), (by first | rfl | exact f72), rfl, ⟨by simp, by simp, fun n h1 h2 h3 => by simp only [show ¬ n = n5 by omega, if_false]; exact hk2 n h1 h2 h3⟩⟩
        · rintro m f H' ⟨e, l2, fr2, by2, aP, aF, aB, rfl, he, hl2, hC2, hG2, hM2, f0, f4, f5, f71, f72, hds, hk3⟩
          obtain ⟨hk3, hk4, hk5⟩ := hk3
          have ho2 := hC2.o
          have hn5r : n5 ≠ r := by omega
          have hn5m : n5 ≠ mq := by omega
          by_cases hle : e < silc x + 1
          · simp only [ltT hle, ho2, hk4, f0, f4, f5, f71, f72, hds, Cd.cd60, Tk.t60, base0, base1, base2, base3, Option.isNone_none, Option.isNone_some, Nat.reduceBEq, true_or, or_true, false_or, or_false, Nat.reduceLT, Nat.reduceMod, Nat.reducePow, rmaps, nsucc, List.flatten_cons, List.flatten_nil, Nat.reduceEqDiff, Nat.reduceLeDiff, Nat.reduceAdd, Nat.reduceMul, Nat.reduceSub, ↓reduceIte, reduceCtorEq, decide_true, decide_false]
            first | refine FCall.go (after74 y hy p.y e hp.2) (FZs.three (FZ.sysV y) (FZ.v _) (FZ.v _)) ?_ | refine FCall.go' (after74 y hy p.y e hp.2) (FZs.three (FZ.sysV y) (FZ.v _) (FZ.v _)) ?_ | refine FCall.goQ (after74 y hy p.y e hp.2) (FZs.three (FZ.sysV y) (FZ.v _) (FZ.v _)) ?_
            have hex : extN x y p l (e + 1) = extE x y p l2 e := by rw [extN_succ, hl2]
            by_cases hz : aft y p.y e = 0
            · simp only [uv, neU0, show decide (aft y p.y e ≠ 0) = false from decide_eq_false (by simpa using hz), f0, f4, f5, f71, f72, hds, Cd.cd60, Tk.t60, base0, base1, base2, base3, Option.isNone_none, Option.isNone_some, Nat.reduceBEq, true_or, or_true, false_or, or_false, Nat.reduceLT, Nat.reduceMod, Nat.reducePow, rmaps, nsucc, List.flatten_cons, List.flatten_nil, Nat.reduceEqDiff, Nat.reduceLeDiff, Nat.reduceAdd, Nat.reduceMul, Nat.reduceSub, ↓reduceIte, reduceCtorEq, decide_true, decide_false]
              exact ⟨_, by omega, e + 1, l2, fr2, by2, aP, aF, aB, rfl, by omega, by rw [hex, extE, if_pos hz], hC2, hG2, hM2, by rw [wrapS (by omega)], hk3, hk4, hk5⟩
            · simp only [uv, neU0, decide_eq_true hz, ho2, hk4, f0, f4, f5, f71, f72, hds, Cd.cd60, Tk.t60, base0, base1, base2, base3, Option.isNone_none, Option.isNone_some, Nat.reduceBEq, true_or, or_true, false_or, or_false, Nat.reduceLT, Nat.reduceMod, Nat.reducePow, rmaps, nsucc, List.flatten_cons, List.flatten_nil, Nat.reduceEqDiff, Nat.reduceLeDiff, Nat.reduceAdd, Nat.reduceMul, Nat.reduceSub, ↓reduceIte, reduceCtorEq, decide_true, decide_false]
              first | refine FCall.go (after74 x hx p.x e hp.1) (FZs.three (FZ.sysV x) (FZ.v _) (FZ.v _)) ?_ | refine FCall.go' (after74 x hx p.x e hp.1) (FZs.three (FZ.sysV x) (FZ.v _) (FZ.v _)) ?_ | refine FCall.goQ (after74 x hx p.x e hp.1) (FZs.three (FZ.sysV x) (FZ.v _) (FZ.v _)) ?_
              simp only [uv, f0, f4, f5, f71, f72, hds, Cd.cd60, Tk.t60, base0, base1, base2, base3, Option.isNone_none, Option.isNone_some, Nat.reduceBEq, true_or, or_true, false_or, or_false, Nat.reduceLT, Nat.reduceMod, Nat.reducePow, rmaps, nsucc, List.flatten_cons, List.flatten_nil, Nat.reduceEqDiff, Nat.reduceLeDiff, Nat.reduceAdd, Nat.reduceMul, Nat.reduceSub, ↓reduceIte, reduceCtorEq, decide_true, decide_false]
              refine ACall.thn' (add101 x y hx hy H' r mq aP aF aB l2 fr2 by2 hC2 hG2 hM2.f hM2.b (aft x p.x e) (aft y p.y e) (hx.pw (aft_lt hx hp.1 e)) (hy.pw (aft_lt hy hp.2 e)) (i : Int) (e : Int) (p.tr ++ [(e : Int)])) fun out H2 hq => ?_
              obtain ⟨rfl, ⟨aP2, aF2, aB2, hif⟩, h3, h4⟩ := hq
              refine ⟨_, rfl, ?_⟩
              have hG3 := hG2.extE hx hy hp.1 hp.2 e
              have hkk : n5 < H2.next ∧ H2.own n5 = some (.cells [AV.v (.int .u64 (p.x : Nat)), AV.v (.int .u64 (p.y : Nat))]) ∧ ∀ n, n < H.next → n ≠ r → n ≠ mq → H2.own n = H.own n := ⟨by omega, by rw [h4 n5 hk3 hn5r hn5m]; exact hk4, fun n h5 h6 h7 => by rw [h4 n (by omega) h6 h7]; exact hk5 n h5 h6 h7⟩
              obtain ⟨q, hq⟩ := extN_pre x y p l e
              have hil : i < l2.length := by rw [hl2, hq, List.length_append]; omega
              have hpi : l2.getD i default = p := by rw [hl2, hq, getD_append_left _ _ _ hlt, hpe]
              cases hmet : metN l2 (aft x p.x e) (aft y p.y e)
              · rw [hmet] at hif
                have hE : extE x y p l2 e = l2 ++ [⟨aft x p.x e, aft y p.y e, p.tr ++ [(e : Int)]⟩] := by
                  rw [extE, if_neg hz, addN, hmet]; rfl
                simp only [f0, f4, f5, f71, f72, hds, Cd.cd60, Tk.t60, base0, base1, base2, base3, Option.isNone_none, Option.isNone_some, Nat.reduceBEq, true_or, or_true, false_or, or_false, Nat.reduceLT, Nat.reduceMod, Nat.reducePow, rmaps, nsucc, List.flatten_cons, List.flatten_nil, Nat.reduceEqDiff, Nat.reduceLeDiff, Nat.reduceAdd, Nat.reduceMul, Nat.reduceSub, ↓reduceIte, reduceCtorEq, decide_true, decide_false]
                refine ⟨_, by omega, e + 1, extE x y p l2 e, _, _, aP2, aF2, aB2, rfl, by omega, hex.symm, by rw [hE]; exact hif, hG3, ?_, by rw [wrapS (by omega)], hkk⟩
                have := hM2.push hil (aft x p.x e) (aft y p.y e) (e : Int)
                rw [hpi] at this
                rw [hE]; exact this
              · rw [hmet] at hif
                have hE : extE x y p l2 e = l2 := by rw [extE, if_neg hz, addN, hmet]; rfl
                simp only [f0, f4, f5, f71, f72, hds, Cd.cd60, Tk.t60, base0, base1, base2, base3, Option.isNone_none, Option.isNone_some, Nat.reduceBEq, true_or, or_true, false_or, or_false, Nat.reduceLT, Nat.reduceMod, Nat.reducePow, rmaps, nsucc, List.flatten_cons, List.flatten_nil, Nat.reduceEqDiff, Nat.reduceLeDiff, Nat.reduceAdd, Nat.reduceMul, Nat.reduceSub, ↓reduceIte, reduceCtorEq, decide_true, decide_false]
                exact ⟨_, by omega, e + 1, l2, fr2, by2, aP2, aF2, aB2, rfl, by omega, by rw [hex, hE], hif, hG2, hM2, by rw [wrapS (by omega)], hkk⟩
          · have he' : e = silc x + 1 := by omega
            subst he'
            have hsn : ∀ res, SrchR x y l2 (i + 1) res → SrchR x y l0 0 res := fun res h => hS res (SrchR.next hlt (by rw [hpe]; exact hf) (by rw [hpe, ← hl2]; exact h))
            obtain ⟨q, hq⟩ := extN_pre x y p l (silc x + 1)
            have hil : i + 1 ≤ l2.length := by rw [hl2, hq, List.length_append]; omega
            have hlen2 := hG2.len hx hy
            simp only [ltF hle, f0, f4, f5, f71, f72, hds, Cd.cd60, Tk.t60, base0, base1, base2, base3, Option.isNone_none, Option.isNone_some, Nat.reduceBEq, true_or, or_true, false_or, or_false, Nat.reduceLT, Nat.reduceMod, Nat.reducePow, rmaps, nsucc, List.flatten_cons, List.flatten_nil, Nat.reduceEqDiff, Nat.reduceLeDiff, Nat.reduceAdd, Nat.reduceMul, Nat.reduceSub, ↓reduceIte, reduceCtorEq, decide_true, decide_false]
            exact ⟨_, by omega, i + 1, l2, fr2, by2, aP, aF, aB, rfl, hil, hC2, hG2, hM2, hsn, by rw [wrapS (by omega)], by omega, hkr, hkm, hk5⟩
    · simp only [ho, List.length_map, ltF hlt, f0, f4, hds, Cd.cd60, Tk.t60, base0, base1, base2, base3, Option.isNone_none, Option.isNone_some, Nat.reduceBEq, true_or, or_true, false_or, or_false, Nat.reduceLT, Nat.reduceMod, Nat.reducePow, rmaps, nsucc, List.flatten_cons, List.flatten_nil, Nat.reduceEqDiff, Nat.reduceLeDiff, Nat.reduceAdd, Nat.reduceMul, Nat.reduceSub, ↓reduceIte, reduceCtorEq, decide_true, decide_false]
      refine Frz.ret (v' := .tup [nilS, .v (.bool false)]) (Views.tup (Views.cons nil_view (Views.cons (FZ.v _).view Views.nil))) (FZ.tup (FZs.two FZ.nilS (FZ.v _))) ?_
      exact ⟨none, l, hS _ (SrchR.done hlt), rfl, ⟨tp, _, _, (below_own hkr).trans ho⟩, hk1, fun n h1 h2 h3 => (below_own h1).trans (hk2 n h1 h2 h3)⟩
end Go.Proofs.YtchpcjmgifnmdaaDoor

/- Walks: Conforms; the laws' examples. -/
namespace Go.Proofs.YtchpcjmgifnmdaaDoor
open Go Go.Proofs.YtchpcjmgifnmdaaDoor.Ab
set_option maxRecDepth 100000
set_option linter.unusedSimpArgs false

open Classical in
/-- the answer of a search -/
noncomputable def resN (x y : Re) : Option (List Int) × List Nd := if h : ∃ r, SrchR x y [nd0 x y] 0 r then Classical.choose h else (none, [])
theorem resN_eq {x y : Re} {r : Option (List Int) × List Nd} (h : SrchR x y [nd0 x y] 0 r) : resN x y = r := by
  unfold resN
  rw [dif_pos ⟨r, h⟩]
  exact (Classical.choose_spec (⟨r, h⟩ : ∃ r, SrchR x y [nd0 x y] 0 r)).det h
theorem bothR_ok {x y : Re} (h : bothR x y = 0) : Ok x ∧ Ok y ∧ x.inp = y.inp ∧ x.out = y.out ∧ silc y = silc x := by
  unfold bothR orI at h
  by_cases h1 : errR x = 0
  · by_cases h2 : errR y = 0
    · simp only [h1, h2, ne_eq, not_true, if_false] at h
      by_cases h3 : x.inp = y.inp
      · by_cases h4 : x.out = y.out
        · exact ⟨ok_of_check h1, ok_of_check h2, h3, h4, by unfold silc; rw [h3, h4]⟩
        · simp [h4] at h
      · simp [h3] at h
    · simp only [h1, ne_eq, not_true, if_false] at h
      rw [if_pos h2] at h; exact absurd h h2
  · rw [if_pos h1] at h; exact absurd h h1
theorem came0 (p : Nd) (h : p.tr = []) : Came [p] [-1] [-1] := ⟨rfl, rfl, by simp, ⟨rfl, h⟩, fun k h1 h2 => by simp at h2; omega⟩
def ansV (o : Option (List Int)) : AV := match o with
  | some tr => .tup [ints tr, .v (.int .i64 29)]
  | none => .tup [nilS, .v (.int .i64 0)]
noncomputable def confV (x y : Re) : AV := if bothR x y ≠ 0 then .tup [nilS, .v (.int .i64 (bothR x y))] else ansV (resN x y).1
theorem conforms17 (x y : Re) : FCall Tryd.prog 17 [reV x, reV y] (· = confV x y) := by
  simp only [reV, reL, mvsV]
  refine ACall.enter [] Cd.fn17 (by simp) ?_
  simp only [Cd.cd17, Tk.t17, base0, base1, base2, base3, Option.isNone_none, Option.isNone_some, Nat.reduceBEq, true_or, or_true, false_or, or_false, Nat.reduceLT, Nat.reduceMod, Nat.reducePow, rmaps, nsucc, List.flatten_cons, List.flatten_nil, Nat.reduceEqDiff, Nat.reduceLeDiff, Nat.reduceAdd, Nat.reduceMul, Nat.reduceSub, ↓reduceIte, reduceCtorEq, decide_true, decide_false]
  first | refine FCall.go (both58 x y) (FZs.two (FZ.reV x) (FZ.reV y)) ?_ | refine FCall.go' (both58 x y) (FZs.two (FZ.reV x) (FZ.reV y)) ?_ | refine FCall.goQ (both58 x y) (FZs.two (FZ.reV x) (FZ.reV y)) ?_
  by_cases h0 : bothR x y = 0
  · obtain ⟨hx, hy, h1, h2, h3⟩ := bothR_ok h0
    simp only [show (bothR x y != 0) = false from by rw [h0]; rfl, Cd.cd17, Tk.t17, base0, base1, base2, base3, Option.isNone_none, Option.isNone_some, Nat.reduceBEq, true_or, or_true, false_or, or_false, Nat.reduceLT, Nat.reduceMod, Nat.reducePow, rmaps, nsucc, List.flatten_cons, List.flatten_nil, Nat.reduceEqDiff, Nat.reduceLeDiff, Nat.reduceAdd, Nat.reduceMul, Nat.reduceSub, ↓reduceIte, reduceCtorEq, decide_true, decide_false]
    refine ACall.thn (compare59 x y hx hy _) fun out H2 hq => ?_
    obtain ⟨r, m, aP, aF, aB, rfl, hC, _, _, _, _⟩ := hq
    refine ⟨_, rfl, ?_⟩
    simp only [Cd.cd17, Tk.t17, base0, base1, base2, base3, Option.isNone_none, Option.isNone_some, Nat.reduceBEq, true_or, or_true, false_or, or_false, Nat.reduceLT, Nat.reduceMod, Nat.reducePow, rmaps, nsucc, List.flatten_cons, List.flatten_nil, Nat.reduceEqDiff, Nat.reduceLeDiff, Nat.reduceAdd, Nat.reduceMul, Nat.reduceSub, ↓reduceIte, reduceCtorEq, decide_true, decide_false]
    refine ACall.thn (run60 x y hx hy h3 H2 r m aP aF aB [nd0 x y] [-1] [-1] hC (good0 hx hy) (came0 _ rfl)) fun out H3 hq => ?_
    obtain ⟨o, l, hS, rfl, _⟩ := hq
    refine ⟨_, rfl, ?_⟩
    have hres := resN_eq hS
    have hcv : confV x y = ansV o := by unfold confV; rw [if_neg (by simpa using h0), hres]
    cases o with
    | none =>
      simp only [runV, Cd.cd17, Tk.t17, base0, base1, base2, base3, Option.isNone_none, Option.isNone_some, Nat.reduceBEq, true_or, or_true, false_or, or_false, Nat.reduceLT, Nat.reduceMod, Nat.reducePow, rmaps, nsucc, List.flatten_cons, List.flatten_nil, Nat.reduceEqDiff, Nat.reduceLeDiff, Nat.reduceAdd, Nat.reduceMul, Nat.reduceSub, ↓reduceIte, reduceCtorEq, decide_true, decide_false]
      first | refine FCall.go (unless61 _ _) (FZs.v2 _ _) ?_ | refine FCall.go' (unless61 _ _) (FZs.v2 _ _) ?_ | refine FCall.goQ (unless61 _ _) (FZs.v2 _ _) ?_
      simp only [Cd.cd17, Tk.t17, base0, base1, base2, base3, Option.isNone_none, Option.isNone_some, Nat.reduceBEq, true_or, or_true, false_or, or_false, Nat.reduceLT, Nat.reduceMod, Nat.reducePow, rmaps, nsucc, List.flatten_cons, List.flatten_nil, Nat.reduceEqDiff, Nat.reduceLeDiff, Nat.reduceAdd, Nat.reduceMul, Nat.reduceSub, ↓reduceIte, reduceCtorEq, decide_true, decide_false]
      refine ⟨_, _, rfl, Views.tup (Views.cons nil_view (Views.cons (FZ.v _).view Views.nil)), FZ.tup (FZs.two FZ.nilS (FZ.v _)), ?_⟩
      rw [hcv]; rfl
    | some tr =>
      simp only [runV, Cd.cd17, Tk.t17, base0, base1, base2, base3, Option.isNone_none, Option.isNone_some, Nat.reduceBEq, true_or, or_true, false_or, or_false, Nat.reduceLT, Nat.reduceMod, Nat.reducePow, rmaps, nsucc, List.flatten_cons, List.flatten_nil, Nat.reduceEqDiff, Nat.reduceLeDiff, Nat.reduceAdd, Nat.reduceMul, Nat.reduceSub, ↓reduceIte, reduceCtorEq, decide_true, decide_false]
      first | refine FCall.go (unless61 _ _) (FZs.v2 _ _) ?_ | refine FCall.go' (unless61 _ _) (FZs.v2 _ _) ?_ | refine FCall.goQ (unless61 _ _) (FZs.v2 _ _) ?_
      simp only [Cd.cd17, Tk.t17, base0, base1, base2, base3, Option.isNone_none, Option.isNone_some, Nat.reduceBEq, true_or, or_true, false_or, or_false, Nat.reduceLT, Nat.reduceMod, Nat.reducePow, rmaps, nsucc, List.flatten_cons, List.flatten_nil, Nat.reduceEqDiff, Nat.reduceLeDiff, Nat.reduceAdd, Nat.reduceMul, Nat.reduceSub, ↓reduceIte, reduceCtorEq, decide_true, decide_false]
      refine ⟨_, _, rfl, Views.tup (Views.cons (FZ.ints tr).view (Views.cons (FZ.v _).view Views.nil)), FZ.tup (FZs.two (FZ.ints tr) (FZ.v _)), ?_⟩
      rw [hcv]; rfl
  · simp only [bneT h0, Cd.cd17, Tk.t17, base0, base1, base2, base3, Option.isNone_none, Option.isNone_some, Nat.reduceBEq, true_or, or_true, false_or, or_false, Nat.reduceLT, Nat.reduceMod, Nat.reducePow, rmaps, nsucc, List.flatten_cons, List.flatten_nil, Nat.reduceEqDiff, Nat.reduceLeDiff, Nat.reduceAdd, Nat.reduceMul, Nat.reduceSub, ↓reduceIte, reduceCtorEq, decide_true, decide_false]
    refine ⟨_, _, rfl, Views.tup (Views.cons nil_view (Views.cons (FZ.v _).view Views.nil)), FZ.tup (FZs.two FZ.nilS (FZ.v _)), ?_⟩
    unfold confV; rw [if_pos h0]
def exR : Re := ⟨3, 0, 1, 2, [⟨0, 0, 0, 1⟩, ⟨1, 1, 0, 2⟩, ⟨2, 0, 0, 2⟩]⟩
def otR : Re := ⟨3, 0, 1, 2, [⟨0, 0, 0, 1⟩, ⟨1, 1, 1, 2⟩, ⟨2, 0, 0, 2⟩]⟩
def exC (b : Int) : List AV := [.v (.int .i64 0), .v (.int .i64 0), .v (.int .i64 0), .v (.int .i64 1), .v (.int .i64 1), .v (.int .i64 1), .v (.int .i64 b), .v (.int .i64 2), .v (.int .i64 2), .v (.int .i64 0), .v (.int .i64 0), .v (.int .i64 2)]
theorem exA57 (H : AH) : ACall Tryd.prog 57 [] H (fun out H' => ∃ n, out = .ret (.agg [.v (.int .i64 3), .v (.int .i64 0), .v (.int .i64 1), .v (.int .i64 2), .sl 4 n 0 3]) ∧ H'.own n = some (.cells (exC 0)) ∧ n < H'.next ∧ H.next ≤ n ∧ ∀ k, k < H.next → H'.own k = H.own k) := by
  refine ACall.enter [4] Cd.fn57 (by simp) ?_
  simp only [Cd.cd57, Tk.t57, base0, base1, base2, base3, Option.isNone_none, Option.isNone_some, Nat.reduceBEq, true_or, or_true, false_or, or_false, Nat.reduceLT, Nat.reduceMod, Nat.reducePow, rmaps, nsucc, List.flatten_cons, List.flatten_nil, Nat.reduceEqDiff, Nat.reduceLeDiff, Nat.reduceAdd, Nat.reduceMul, Nat.reduceSub, ↓reduceIte, reduceCtorEq, decide_true, decide_false]
  exact ⟨H.next + 1, rfl, by simp [exC], by omega, by omega, fun k hk => by simp [show ¬ k = H.next by omega, show ¬ k = H.next + 1 by omega]⟩
theorem exV {H : AH} {n : Nat} {b : Int} (h : H.own n = some (.cells (exC b))) : View H (.agg [.v (.int .i64 3), .v (.int .i64 0), .v (.int .i64 1), .v (.int .i64 2), .sl 4 n 0 3]) (reV ⟨3, 0, 1, 2, [⟨0, 0, 0, 1⟩, ⟨1, 1, b, 2⟩, ⟨2, 0, 0, 2⟩]⟩) := by
  refine Views.agg (Views.cons (FZ.v _).view (Views.cons (FZ.v _).view (Views.cons (FZ.v _).view (Views.cons (FZ.v _).view (Views.cons ?_ Views.nil)))))
  refine View.sl h (by simp [exC]) rfl (fun i hi => ?_) fun i j hi hj => ?_
  · match i, hi with
    | 0, _ => rfl
    | 1, _ => rfl
    | 2, _ => rfl
  · match i, j, hi, hj with
    | 0, 0, _, _ => exact (FZ.v _).view
    | 0, 1, _, _ => exact (FZ.v _).view
    | 0, 2, _, _ => exact (FZ.v _).view
    | 0, 3, _, _ => exact (FZ.v _).view
    | 1, 0, _, _ => exact (FZ.v _).view
    | 1, 1, _, _ => exact (FZ.v _).view
    | 1, 2, _, _ => exact (FZ.v _).view
    | 1, 3, _, _ => exact (FZ.v _).view
    | 2, 0, _, _ => exact (FZ.v _).view
    | 2, 1, _, _ => exact (FZ.v _).view
    | 2, 2, _, _ => exact (FZ.v _).view
    | 2, 3, _, _ => exact (FZ.v _).view
theorem example57 : FCall Tryd.prog 57 [] (· = reV exR) := by
  refine (exA57 AH.none).mono fun out H' hq => ?_
  obtain ⟨n, rfl, h1, _, _, _⟩ := hq
  exact ⟨_, _, rfl, exV h1, FZ.reV exR, rfl⟩
theorem other56 : FCall Tryd.prog 56 [] (· = reV otR) := by
  refine ACall.enter [] Cd.fn56 (by simp) ?_
  simp only [Cd.cd56, Tk.t56, base0, base1, base2, base3, Option.isNone_none, Option.isNone_some, Nat.reduceBEq, true_or, or_true, false_or, or_false, Nat.reduceLT, Nat.reduceMod, Nat.reducePow, rmaps, nsucc, List.flatten_cons, List.flatten_nil, Nat.reduceEqDiff, Nat.reduceLeDiff, Nat.reduceAdd, Nat.reduceMul, Nat.reduceSub, ↓reduceIte, reduceCtorEq, decide_true, decide_false]
  refine ACall.thn (exA57 _) fun out H2 hq => ?_
  obtain ⟨n, rfl, h1, h2, h3, h4⟩ := hq
  refine ⟨_, rfl, ?_⟩
  have h30 : 1 ≤ n := h3
  have h40 := h4 0 (by show 0 < 0 + 1; omega)
  simp only [AH.none, if_true] at h40
  have hn : (n = H2.next) = False := by simp; omega
  have hn1 : (H2.next = n) = False := by simp; omega
  have hn2 : (0 = H2.next) = False := by simp; omega
  have hn3 : (0 = n) = False := by simp; omega
  have hn4 : (n = 0) = False := by simp; omega
  have hn5 : (H2.next = 0) = False := by simp; omega
  unfold exC at h1
  simp only [hn, hn1, hn2, hn3, hn4, hn5, h1, h40, AH.none, show ((0 : Int) ≤ 1 ∧ (1 : Int) < ((3 : Nat) : Int)) = True from by simp, show Int.toNat 1 = 1 from rfl, Cd.cd56, Tk.t56, base0, base1, base2, base3, Option.isNone_none, Option.isNone_some, Nat.reduceBEq, true_or, or_true, false_or, or_false, Nat.reduceLT, Nat.reduceMod, Nat.reducePow, rmaps, nsucc, List.flatten_cons, List.flatten_nil, Nat.reduceEqDiff, Nat.reduceLeDiff, Nat.reduceAdd, Nat.reduceMul, Nat.reduceSub, ↓reduceIte, reduceCtorEq, decide_true, decide_false]
  exact ⟨_, _, rfl, exV (b := 1) (by simp [exC, hn4]), FZ.reV otR, rfl⟩
theorem conf_ex : confV otR exR = .tup [ints [0, 2], .v (.int .i64 29)] := by
  have h0 : bothR otR exR = 0 := by decide +kernel
  have h1 : (srch otR exR 10 [nd0 otR exR] 0).map (·.1) = some (some [0, 2]) := by decide +kernel
  rw [Option.map_eq_some_iff] at h1
  obtain ⟨⟨o, l⟩, h2, rfl⟩ := h1
  have h3 := resN_eq (⟨10, h2⟩ : SrchR otR exR [nd0 otR exR] 0 _)
  unfold confV
  rw [if_neg (by simp [h0]), h3]; rfl
theorem after_ex : afterR exR [0, 1] = .tup [ints [2], .v (.int .i64 0)] := by
  have h1 : errR exR = 0 := by decide +kernel
  have h2 : trErr exR [0, 1] = 0 := by decide +kernel
  have h3 : bitsI (alongM exR [0, 1]) = [2] := by decide +kernel
  unfold afterR
  rw [if_neg (by simp [h1]), if_neg (by simp [h2]), setV, h3]
theorem awake15 : FCall Tryd.prog 15 [] (· = .v (.bool true)) := by
  have hc := conforms17 otR exR
  rw [conf_ex] at hc
  have ha := afterTrace29 exR [0, 1]
  rw [after_ex] at ha
  have ha2 : FCall Tryd.prog 29 [reV exR, .lst 1 [[.v (.int .i64 0)], [.v (.int .i64 1)]] .full] (· = .tup [ints [2], .v (.int .i64 0)]) := ACall.args ha vrs_unk2
  have hs1 : FCall Tryd.prog 22 [ints [0, 2], .lst 1 [[.v (.int .i64 0)], [.v (.int .i64 2)]] .full] (· = .v (.bool true)) := ACall.args (same22 [0, 2] [0, 2] (by simp)) vrs_unk2
  have hs2 : FCall Tryd.prog 22 [ints [2], .lst 1 [[.v (.int .i64 2)]] .full] (· = .v (.bool true)) := ACall.args (same22 [2] [2] (by simp)) vrs_unk2
  have hz1 : FZ (.lst 1 [[.v (.int .i64 0)], [.v (.int .i64 1)]] .full) := FZ.intL (l := [0, 1]) (tip := .full) rfl
  have hz2 : FZ (.lst 1 [[.v (.int .i64 0)], [.v (.int .i64 2)]] .full) := FZ.intL (l := [0, 2]) (tip := .full) rfl
  have hz3 : FZ (.lst 1 [[.v (.int .i64 2)]] .full) := FZ.intL (l := [2]) (tip := .full) rfl
  refine ACall.enter [] Cd.fn15 (by simp) ?_
  simp only [Cd.cd15, Tk.t15, base0, base1, base2, base3, Option.isNone_none, Option.isNone_some, Nat.reduceBEq, true_or, or_true, false_or, or_false, Nat.reduceLT, Nat.reduceMod, Nat.reducePow, rmaps, nsucc, List.flatten_cons, List.flatten_nil, Nat.reduceEqDiff, Nat.reduceLeDiff, Nat.reduceAdd, Nat.reduceMul, Nat.reduceSub, ↓reduceIte, reduceCtorEq, decide_true, decide_false]
  first | refine FCall.go other56 (FZs.nil) ?_ | refine FCall.go' other56 (FZs.nil) ?_ | refine FCall.goQ other56 (FZs.nil) ?_
  simp only [Cd.cd15, Tk.t15, base0, base1, base2, base3, Option.isNone_none, Option.isNone_some, Nat.reduceBEq, true_or, or_true, false_or, or_false, Nat.reduceLT, Nat.reduceMod, Nat.reducePow, rmaps, nsucc, List.flatten_cons, List.flatten_nil, Nat.reduceEqDiff, Nat.reduceLeDiff, Nat.reduceAdd, Nat.reduceMul, Nat.reduceSub, ↓reduceIte, reduceCtorEq, decide_true, decide_false]
  first | refine FCall.go example57 (FZs.nil) ?_ | refine FCall.go' example57 (FZs.nil) ?_ | refine FCall.goQ example57 (FZs.nil) ?_
  simp only [Cd.cd15, Tk.t15, base0, base1, base2, base3, Option.isNone_none, Option.isNone_some, Nat.reduceBEq, true_or, or_true, false_or, or_false, Nat.reduceLT, Nat.reduceMod, Nat.reducePow, rmaps, nsucc, List.flatten_cons, List.flatten_nil, Nat.reduceEqDiff, Nat.reduceLeDiff, Nat.reduceAdd, Nat.reduceMul, Nat.reduceSub, ↓reduceIte, reduceCtorEq, decide_true, decide_false]
  first | refine FCall.go hc (FZs.two (FZ.reV _) (FZ.reV _)) ?_ | refine FCall.go' hc (FZs.two (FZ.reV _) (FZ.reV _)) ?_ | refine FCall.goQ hc (FZs.two (FZ.reV _) (FZ.reV _)) ?_
  simp only [Cd.cd15, Tk.t15, base0, base1, base2, base3, Option.isNone_none, Option.isNone_some, Nat.reduceBEq, true_or, or_true, false_or, or_false, Nat.reduceLT, Nat.reduceMod, Nat.reducePow, rmaps, nsucc, List.flatten_cons, List.flatten_nil, Nat.reduceEqDiff, Nat.reduceLeDiff, Nat.reduceAdd, Nat.reduceMul, Nat.reduceSub, ↓reduceIte, reduceCtorEq, decide_true, decide_false]
  first | refine FCall.go example57 (FZs.nil) ?_ | refine FCall.go' example57 (FZs.nil) ?_ | refine FCall.goQ example57 (FZs.nil) ?_
  simp only [Cd.cd15, Tk.t15, base0, base1, base2, base3, Option.isNone_none, Option.isNone_some, Nat.reduceBEq, true_or, or_true, false_or, or_false, Nat.reduceLT, Nat.reduceMod, Nat.reducePow, rmaps, nsucc, List.flatten_cons, List.flatten_nil, Nat.reduceEqDiff, Nat.reduceLeDiff, Nat.reduceAdd, Nat.reduceMul, Nat.reduceSub, ↓reduceIte, reduceCtorEq, decide_true, decide_false]
  first | refine FCall.go ha2 (FZs.two (FZ.reV _) hz1) ?_ | refine FCall.go' ha2 (FZs.two (FZ.reV _) hz1) ?_ | refine FCall.goQ ha2 (FZs.two (FZ.reV _) hz1) ?_
  simp only [show ((29 : Int) == 29) = true from rfl, Cd.cd15, Tk.t15, base0, base1, base2, base3, Option.isNone_none, Option.isNone_some, Nat.reduceBEq, true_or, or_true, false_or, or_false, Nat.reduceLT, Nat.reduceMod, Nat.reducePow, rmaps, nsucc, List.flatten_cons, List.flatten_nil, Nat.reduceEqDiff, Nat.reduceLeDiff, Nat.reduceAdd, Nat.reduceMul, Nat.reduceSub, ↓reduceIte, reduceCtorEq, decide_true, decide_false]
  first | refine FCall.go hs1 (FZs.two (FZ.ints _) hz2) ?_ | refine FCall.go' hs1 (FZs.two (FZ.ints _) hz2) ?_ | refine FCall.goQ hs1 (FZs.two (FZ.ints _) hz2) ?_
  simp only [show ((0 : Int) == 0) = true from rfl, Cd.cd15, Tk.t15, base0, base1, base2, base3, Option.isNone_none, Option.isNone_some, Nat.reduceBEq, true_or, or_true, false_or, or_false, Nat.reduceLT, Nat.reduceMod, Nat.reducePow, rmaps, nsucc, List.flatten_cons, List.flatten_nil, Nat.reduceEqDiff, Nat.reduceLeDiff, Nat.reduceAdd, Nat.reduceMul, Nat.reduceSub, ↓reduceIte, reduceCtorEq, decide_true, decide_false]
  first | refine FCall.go hs2 (FZs.two (FZ.ints _) hz3) ?_ | refine FCall.go' hs2 (FZs.two (FZ.ints _) hz3) ?_ | refine FCall.goQ hs2 (FZs.two (FZ.ints _) hz3) ?_
  simp only [Cd.cd15, Tk.t15, base0, base1, base2, base3, Option.isNone_none, Option.isNone_some, Nat.reduceBEq, true_or, or_true, false_or, or_false, Nat.reduceLT, Nat.reduceMod, Nat.reducePow, rmaps, nsucc, List.flatten_cons, List.flatten_nil, Nat.reduceEqDiff, Nat.reduceLeDiff, Nat.reduceAdd, Nat.reduceMul, Nat.reduceSub, ↓reduceIte, reduceCtorEq, decide_true, decide_false]
  exact fin_v rfl
end Go.Proofs.YtchpcjmgifnmdaaDoor

/- Walks: sets of states are checked; what they can show. -/
namespace Go.Proofs.YtchpcjmgifnmdaaDoor
open Go Go.Proofs.YtchpcjmgifnmdaaDoor.Ab
set_option maxRecDepth 100000
set_option linter.unusedSimpArgs false

def seE (x : Re) (set : List Int) (i : Nat) : Int :=
  if !within (set.getD i 0) 0 (IntKind.i64.wrap (x.st - 1)) then 3 else if decide (0 < i) && decide (set.getD i 0 ≤ set.getD (i - 1) 0) then 14 else 0
def setE (x : Re) (set : List Int) : Int := match firstIx set.length (fun i => seE x set i != 0) with
  | some i => seE x set i
  | none => 0
end Go.Proofs.YtchpcjmgifnmdaaDoor

/- Walks: ShownBy; the law of what is after a trace, and what is shown. -/
namespace Go.Proofs.YtchpcjmgifnmdaaDoor
open Go Go.Proofs.YtchpcjmgifnmdaaDoor.Ab
set_option maxRecDepth 100000
set_option linter.unusedSimpArgs false

def shownR (x : Re) (set : List Int) : AV := if errR x ≠ 0 then .tup [nilS, .v (.int .i64 (errR x))] else if setE x set ≠ 0 then .tup [nilS, .v (.int .i64 (setE x set))] else .tup [ints (shownL x (cl x (maskL set))), .v (.int .i64 0)]
end Go.Proofs.YtchpcjmgifnmdaaDoor

/- Walks: what is small; the least relation. -/
namespace Go.Proofs.YtchpcjmgifnmdaaDoor
open Go Go.Proofs.YtchpcjmgifnmdaaDoor.Ab
set_option maxRecDepth 100000
set_option linter.unusedSimpArgs false

def fewB (x : Re) : Bool := decide (errR x ≠ 0) || (decide (x.st ≤ 6) && decide (x.inp ≤ 2) && decide (x.out ≤ 2) && decide (x.mv.length ≤ 20))
theorem few16 (x : Re) : FCall Tryd.prog 16 [reV x] (· = .v (.bool (fewB x))) := by
  simp only [reV, reL, mvsV]
  refine ACall.enter [] Cd.fn16 (by simp) ?_
  simp only [Cd.cd16, Tk.t16, base0, base1, base2, base3, Option.isNone_none, Option.isNone_some, Nat.reduceBEq, true_or, or_true, false_or, or_false, Nat.reduceLT, Nat.reduceMod, Nat.reducePow, rmaps, nsucc, List.flatten_cons, List.flatten_nil, Nat.reduceEqDiff, Nat.reduceLeDiff, Nat.reduceAdd, Nat.reduceMul, Nat.reduceSub, ↓reduceIte, reduceCtorEq, decide_true, decide_false]
  first | refine FCall.go (err27 x) (FZs.one (FZ.reV x)) ?_ | refine FCall.go' (err27 x) (FZs.one (FZ.reV x)) ?_ | refine FCall.goQ (err27 x) (FZs.one (FZ.reV x)) ?_
  by_cases h1 : errR x = 0
  · have hb : fewB x = (decide (x.st ≤ 6) && decide (x.inp ≤ 2) && decide (x.out ≤ 2) && decide (x.mv.length ≤ 20)) := by unfold fewB; rw [decide_eq_false (by simpa using h1), Bool.false_or]
    rw [hb]
    by_cases h2 : x.st ≤ 6
    · by_cases h3 : x.inp ≤ 2
      · by_cases h4 : x.out ≤ 2
        · by_cases h5 : x.mv.length ≤ 20
          · simp only [List.length_map, show (errR x != 0) = false from by rw [h1]; rfl, decide_eq_true h2, decide_eq_true h3, decide_eq_true h4, show decide (((x.mv.length : Nat) : Int) ≤ 20) = true from decide_eq_true (by omega), Cd.cd16, Tk.t16, base0, base1, base2, base3, Option.isNone_none, Option.isNone_some, Nat.reduceBEq, true_or, or_true, false_or, or_false, Nat.reduceLT, Nat.reduceMod, Nat.reducePow, rmaps, nsucc, List.flatten_cons, List.flatten_nil, Nat.reduceEqDiff, Nat.reduceLeDiff, Nat.reduceAdd, Nat.reduceMul, Nat.reduceSub, ↓reduceIte, reduceCtorEq, decide_true, decide_false]
            exact fin_v (by simp [h5])
          · simp only [List.length_map, show (errR x != 0) = false from by rw [h1]; rfl, decide_eq_true h2, decide_eq_true h3, decide_eq_true h4, show decide (((x.mv.length : Nat) : Int) ≤ 20) = false from decide_eq_false (by omega), Cd.cd16, Tk.t16, base0, base1, base2, base3, Option.isNone_none, Option.isNone_some, Nat.reduceBEq, true_or, or_true, false_or, or_false, Nat.reduceLT, Nat.reduceMod, Nat.reducePow, rmaps, nsucc, List.flatten_cons, List.flatten_nil, Nat.reduceEqDiff, Nat.reduceLeDiff, Nat.reduceAdd, Nat.reduceMul, Nat.reduceSub, ↓reduceIte, reduceCtorEq, decide_true, decide_false]
            exact fin_v (by simp [h5])
        · simp only [List.length_map, show (errR x != 0) = false from by rw [h1]; rfl, decide_eq_true h2, decide_eq_true h3, decide_eq_false h4, Cd.cd16, Tk.t16, base0, base1, base2, base3, Option.isNone_none, Option.isNone_some, Nat.reduceBEq, true_or, or_true, false_or, or_false, Nat.reduceLT, Nat.reduceMod, Nat.reducePow, rmaps, nsucc, List.flatten_cons, List.flatten_nil, Nat.reduceEqDiff, Nat.reduceLeDiff, Nat.reduceAdd, Nat.reduceMul, Nat.reduceSub, ↓reduceIte, reduceCtorEq, decide_true, decide_false]
          exact fin_v (by simp)
      · simp only [List.length_map, show (errR x != 0) = false from by rw [h1]; rfl, decide_eq_true h2, decide_eq_false h3, Cd.cd16, Tk.t16, base0, base1, base2, base3, Option.isNone_none, Option.isNone_some, Nat.reduceBEq, true_or, or_true, false_or, or_false, Nat.reduceLT, Nat.reduceMod, Nat.reducePow, rmaps, nsucc, List.flatten_cons, List.flatten_nil, Nat.reduceEqDiff, Nat.reduceLeDiff, Nat.reduceAdd, Nat.reduceMul, Nat.reduceSub, ↓reduceIte, reduceCtorEq, decide_true, decide_false]
        exact fin_v (by simp)
    · simp only [List.length_map, show (errR x != 0) = false from by rw [h1]; rfl, decide_eq_false h2, Cd.cd16, Tk.t16, base0, base1, base2, base3, Option.isNone_none, Option.isNone_some, Nat.reduceBEq, true_or, or_true, false_or, or_false, Nat.reduceLT, Nat.reduceMod, Nat.reducePow, rmaps, nsucc, List.flatten_cons, List.flatten_nil, Nat.reduceEqDiff, Nat.reduceLeDiff, Nat.reduceAdd, Nat.reduceMul, Nat.reduceSub, ↓reduceIte, reduceCtorEq, decide_true, decide_false]
      exact fin_v (by simp)
  · simp only [bneT h1, Cd.cd16, Tk.t16, base0, base1, base2, base3, Option.isNone_none, Option.isNone_some, Nat.reduceBEq, true_or, or_true, false_or, or_false, Nat.reduceLT, Nat.reduceMod, Nat.reducePow, rmaps, nsucc, List.flatten_cons, List.flatten_nil, Nat.reduceEqDiff, Nat.reduceLeDiff, Nat.reduceAdd, Nat.reduceMul, Nat.reduceSub, ↓reduceIte, reduceCtorEq, decide_true, decide_false]
    exact fin_v (by unfold fewB; rw [decide_eq_true h1]; rfl)
def enR (p : Nd) : List AV := [setV p.x, setV p.y]
theorem FZs.enR (p : Nd) : FZs (enR p) := FZs.two (FZ.setV _) (FZ.setV _)
def relL (l : List Nd) : AV := .lst 2 (l.map enR) .unk
theorem FZ.relL (l : List Nd) : FZ (relL l) := FZ.lst rfl fun r hr => by
  obtain ⟨x, _, rfl⟩ := List.mem_map.mp hr
  exact FZs.enR x
def relO (o : Option (List Int)) (l : List Nd) : AV := match o with
  | some _ => .tup [nilS, .v (.int .i64 29)]
  | none => if 300 < l.length then .tup [nilS, .v (.int .i64 32)] else .tup [relL l, .v (.int .i64 0)]
noncomputable def relV (x y : Re) : AV := if bothR x y ≠ 0 then .tup [nilS, .v (.int .i64 (bothR x y))] else relO (resN x y).1 (resN x y).2
end Go.Proofs.YtchpcjmgifnmdaaDoor

/- Walks: the reference's search. -/
namespace Go.Proofs.YtchpcjmgifnmdaaDoor
open Go Go.Proofs.YtchpcjmgifnmdaaDoor.Ab
set_option maxRecDepth 100000
set_option linter.unusedSimpArgs false

def enN (p : Nd) : List AV := [setV p.x, setV p.y, ints p.tr]
theorem FZs.enN (p : Nd) : FZs (enN p) := FZs.three (FZ.setV _) (FZ.setV _) (FZ.ints _)
def pairsV (l : List Nd) : AV := .lst 3 (l.map enN) .unk
theorem FZ.pairsV (l : List Nd) : FZ (pairsV l) := FZ.lst rfl fun r hr => by
  obtain ⟨x, _, rfl⟩ := List.mem_map.mp hr
  exact FZs.enN x
end Go.Proofs.YtchpcjmgifnmdaaDoor

/- Walks: the reference's search, all of it. -/
namespace Go.Proofs.YtchpcjmgifnmdaaDoor
open Go Go.Proofs.YtchpcjmgifnmdaaDoor.Ab
set_option maxRecDepth 100000
set_option linter.unusedSimpArgs false

def enA (q : Nd × AV) : List AV := [setV q.1.x, setV q.1.y, q.2]
def TrOk (a : AV) (tr : List Int) : Prop := (a = nilS ∧ tr = []) ∨ ∃ tip, a = .lst 1 (tr.map intR) tip
theorem TrOk.view {H : AH} {a : AV} {tr : List Int} (h : TrOk a tr) : View H a (ints tr) := by
  rcases h with ⟨rfl, rfl⟩ | ⟨tip, rfl⟩
  · exact View.nil 1
  · exact View.tip fun rr hr => by
      obtain ⟨y, _, rfl⟩ := List.mem_map.mp hr
      exact FZs.v1 _
theorem TrOk.vrs {a : AV} {tr : List Int} (h : TrOk a tr) : ∀ g xs, VRs g [a] xs → VRs g [ints tr] xs := fun g xs hx => ⟨hx.1, fun j hj => by
  have hj0 : j = 0 := by simpa using hj
  subst hj0
  have h0 := hx.2 0 (by simp)
  simp only [List.getD_cons_zero] at h0 ⊢
  rcases h with ⟨rfl, rfl⟩ | ⟨tip, rfl⟩
  · have := h0.of_v
    rw [this]
    exact .lst (a := ⟨0, 0, .none⟩) (xs := fun _ _ => undef) rfl (Nat.le_refl _) (fun _ => rfl) (by simp) (by simp) (by intro i j hi; simp at hi) (by intro i j hi; simp at hi) trivial
  · exact vr_unk h0⟩
/-- a list that is full, or grows -/
def GrowG {α : Type} (enc : α → List AV) (k : Nat) (H : AH) (a : AV) (l : List α) : Prop := a = .lst k (l.map enc) .full ∨ ∃ t, t < H.next ∧ a = .lst k (l.map enc) (.live t) ∧ H.tip t = some l.length
theorem GrowG.lst {α : Type} {enc : α → List AV} {k : Nat} {H : AH} {a : AV} {l : List α} (h : GrowG enc k H a l) : ∃ tip, a = .lst k (l.map enc) tip := by
  rcases h with h | ⟨t, _, h, _⟩
  · exact ⟨_, h⟩
  · exact ⟨_, h⟩
theorem GrowG.mono {α : Type} {enc : α → List AV} {k : Nat} {H H' : AH} {a : AV} {l : List α} (h : GrowG enc k H a l) (hn : H.next ≤ H'.next) (ht : ∀ t, t < H.next → H'.tip t = H.tip t) : GrowG enc k H' a l := by
  rcases h with h | ⟨t, h1, h2, h3⟩
  · exact .inl h
  · exact .inr ⟨t, Nat.lt_of_lt_of_le h1 hn, h2, (ht t h1).trans h3⟩
/-- what the search knows of its list -/
structure SeI (x y : Re) (L : List (Nd × AV)) : Prop where
  G : GoodN x y (L.map Prod.fst)
  T : ∀ q ∈ L, TrOk q.2 q.1.tr
  B : ∀ j, j < L.length → (L.getD j default).1.tr.length ≤ j
theorem SeI.start {x y : Re} (hx : Ok x) (hy : Ok y) : SeI x y [(nd0 x y, nilS)] := ⟨good0 hx hy, fun q hq => by simp at hq; subst hq; exact .inl ⟨rfl, rfl⟩, fun j hj => by simp at hj; subst hj; exact Nat.le_refl _⟩
theorem SeI.len {x y : Re} (hx : Ok x) (hy : Ok y) {L : List (Nd × AV)} (h : SeI x y L) : L.length ≤ 1048576 := by
  have := h.G.len hx hy; simpa using this
theorem SeI.add {x y : Re} (hx : Ok x) (hy : Ok y) {L : List (Nd × AV)} (h : SeI x y L) {p : Nd} {a : AV} (h1 : p.x < 2 ^ nst x) (h2 : p.y < 2 ^ nst y) (hm : metN (L.map Prod.fst) p.x p.y = false) (ht : TrOk a p.tr) (hl : p.tr.length ≤ L.length) : SeI x y (L ++ [(p, a)]) := by
  refine ⟨?_, fun q hq => ?_, fun j hj => ?_⟩
  · have := h.G.add hx hy h1 h2
    unfold addN at this
    rw [hm] at this
    rw [List.map_append]; exact this
  · rcases List.mem_append.mp hq with hq | hq
    · exact h.T q hq
    · simp only [List.mem_singleton] at hq; subst hq; exact ht
  · by_cases hj' : j < L.length
    · rw [getD_append_left _ _ _ hj']; exact h.B j hj'
    · have : j = L.length := by simp at hj; omega
      subst this
      rw [getD_append_len]; exact hl
def SeR (x y : Re) (v : AV) : Prop := match (resN x y).1 with
  | some tr => ∃ L, v = .tup [ints tr, .v (.bool true), pairsV L]
  | none => v = .tup [nilS, .v (.bool false), pairsV (resN x y).2]
end Go.Proofs.YtchpcjmgifnmdaaDoor

/- All traces of at most so many events: plainly, and the program's walk. -/
namespace Go.Proofs.YtchpcjmgifnmdaaDoor
open Go Go.Proofs.YtchpcjmgifnmdaaDoor.Ab
set_option maxRecDepth 100000
set_option linter.unusedSimpArgs false

structure TN where
  tr : List Int
  s : Nat
deriving Inhabited, DecidableEq
def extT (x : Re) (p : TN) (l : List TN) (e : Nat) : List TN := if aft x p.s e = 0 then l else l ++ [⟨p.tr ++ [(e : Int)], aft x p.s e⟩]
def extsT (x : Re) (p : TN) (l : List TN) (k : Nat) : List TN := (List.range k).foldl (extT x p) l
theorem extsT_succ (x : Re) (p : TN) (l : List TN) (k : Nat) : extsT x p l (k + 1) = extT x p (extsT x p l k) k := by
  unfold extsT; rw [List.range_succ, List.foldl_append]; rfl
theorem extT_pre (x : Re) (p : TN) (l : List TN) (e : Nat) : ∃ r, extT x p l e = l ++ r := by
  unfold extT
  split
  · exact ⟨[], by simp⟩
  · exact ⟨_, rfl⟩
theorem extsT_mono (x : Re) (p : TN) (l : List TN) (k j : Nat) : (extsT x p l k).length ≤ (extsT x p l (k + j)).length := by
  induction j with
  | zero => exact Nat.le_refl _
  | succ j ih =>
    rw [← Nat.add_assoc, extsT_succ]
    obtain ⟨r, hr⟩ := extT_pre x p (extsT x p l (k + j)) (k + j)
    rw [hr, List.length_append]; omega
def nxtT (x : Re) (d : Int) (l : List TN) (i : Nat) : List TN := if ((l.getD i default).tr.length : Int) = d then l else extsT x (l.getD i default) l (silc x + 1)
def tgo (x : Re) (d : Int) : Nat → List TN → Nat → Option (List TN)
  | 0, _, _ => none
  | k + 1, l, i => if 1500 < l.length then none else if i < l.length then tgo x d k (nxtT x d l i) (i + 1) else some l
theorem tgo_over {x : Re} {d : Int} {l : List TN} {i : Nat} (h : 1500 < l.length) : ∀ k, tgo x d k l i = none
  | 0 => rfl
  | k + 1 => by unfold tgo; rw [if_pos h]
def trR (x : Re) (d : Int) : Option (List TN) := tgo x d 1502 [⟨[], fstM x⟩] 0
theorem tgo_step {x : Re} {d : Int} {l : List TN} {i : Nat} (h : ¬ 1500 < l.length) (hi : i < l.length) : tgo x d (1502 - i) l i = tgo x d (1502 - (i + 1)) (nxtT x d l i) (i + 1) := by
  rw [show 1502 - i = (1502 - (i + 1)) + 1 by omega, tgo, if_neg h, if_pos hi]
theorem tgo_done {x : Re} {d : Int} {l : List TN} {i : Nat} (h : ¬ 1500 < l.length) (hi : ¬ i < l.length) (hi' : i ≤ 1500) : tgo x d (1502 - i) l i = some l := by
  rw [show 1502 - i = (1501 - i) + 1 by omega, tgo, if_neg h, if_neg hi]
def TrO (a : AV) (tr : List Int) : Prop := (a = nilS ∧ tr = []) ∨ (0 < tr.length ∧ ∃ tip, a = .lst 1 (tr.map intR) tip)
theorem TrO.ok {a : AV} {tr : List Int} (h : TrO a tr) : TrOk a tr := by
  rcases h with h | ⟨_, h⟩
  · exact .inl h
  · exact .inr h
theorem clone111 (tr : List Int) (a : AV) (H : AH) (h : TrO a tr) (hb : tr.length * 8 ≤ 140737488355328) : ACall Tryd.prog 111 [a] H (fun out H' => ∃ v, out = .ret v ∧ GrowN intR 1 H.next H' v tr ∧ Kp H H') := by
  rcases h with ⟨rfl, rfl⟩ | ⟨h0, tip, rfl⟩
  · refine ACall.enter [] Cd.fn111 (by simp) ?_
    simp only [nilS, Cd.cd111, Tk.t111, base0, base1, base2, base3, Option.isNone_none, Option.isNone_some, Nat.reduceBEq, true_or, or_true, false_or, or_false, Nat.reduceLT, Nat.reduceMod, Nat.reducePow, rmaps, nsucc, List.flatten_cons, List.flatten_nil, Nat.reduceEqDiff, Nat.reduceLeDiff, Nat.reduceAdd, Nat.reduceMul, Nat.reduceSub, ↓reduceIte, reduceCtorEq, decide_true, decide_false]
    exact ⟨_, rfl, .inl ⟨rfl, .inl rfl⟩, Kp.refl _⟩
  · have hl' : (tr.length = 0) = False := by simp; intro e; rw [e] at h0; simp at h0
    have hr : roomA 8 tr.length = true := room_of (by omega) (by omega)
    refine ACall.enter [] Cd.fn111 (by simp) ?_
    simp only [List.length_map, h0, hl', hr, Cd.cd111, Tk.t111, base0, base1, base2, base3, Option.isNone_none, Option.isNone_some, Nat.reduceBEq, true_or, or_true, false_or, or_false, Nat.reduceLT, Nat.reduceMod, Nat.reducePow, rmaps, nsucc, List.flatten_cons, List.flatten_nil, Nat.reduceEqDiff, Nat.reduceLeDiff, Nat.reduceAdd, Nat.reduceMul, Nat.reduceSub, ↓reduceIte, reduceCtorEq, decide_true, decide_false]
    exact ⟨_, rfl, .inr ⟨H.next, Nat.le_refl _, by simp, rfl, by simp⟩, by simp, fun _ _ => rfl, fun n hn => by simp [show n ≠ H.next by omega]⟩
def enT (q : TN × AV) : List AV := [q.2]
def enS2 (q : TN × AV) : List AV := [uv q.1.s]
/-- what is known of the list of traces -/
structure TrI (x : Re) (L : List (TN × AV)) : Prop where
  T : ∀ q ∈ L, TrO q.2 q.1.tr
  S : ∀ q ∈ L, q.1.s = alongM x q.1.tr ∧ q.1.s < 2 ^ nst x
  E : ∀ q ∈ L, ∀ e ∈ q.1.tr, 0 ≤ e ∧ e ≤ (silc x : Int)
  B : ∀ j, j < L.length → (L.getD j default).1.tr.length ≤ j
theorem along_snoc (x : Re) (tr : List Int) (e : Nat) : alongM x (tr ++ [(e : Int)]) = aft x (alongM x tr) e := by
  unfold alongM; rw [List.foldl_append]; simp
theorem TrI.start {x : Re} (hx : Ok x) : TrI x [(⟨[], fstM x⟩, nilS)] :=
  ⟨fun q hq => by simp at hq; subst hq; exact .inl ⟨rfl, rfl⟩, fun q hq => by simp at hq; subst hq; exact ⟨rfl, fst_lt hx⟩, fun q hq e he => by simp at hq; subst hq; simp at he, fun j hj => by simp at hj; subst hj; exact Nat.le_refl _⟩
theorem TrI.add {x : Re} (hx : Ok x) {L : List (TN × AV)} (h : TrI x L) {i : Nat} (hi : i < L.length) {e : Nat} (he : e ≤ silc x) {t : Nat} : TrI x (L ++ [(⟨(L.getD i default).1.tr ++ [(e : Int)], aft x (L.getD i default).1.s e⟩, .lst 1 (((L.getD i default).1.tr ++ [(e : Int)]).map intR) (.live t))]) := by
  have hm := getD_mem (l := L) hi
  refine ⟨fun q hq => ?_, fun q hq => ?_, fun q hq b hb => ?_, fun j hj => ?_⟩
  · rcases List.mem_append.mp hq with hq | hq
    · exact h.T q hq
    · simp only [List.mem_singleton] at hq; subst hq; exact .inr ⟨by simp, _, rfl⟩
  · rcases List.mem_append.mp hq with hq | hq
    · exact h.S q hq
    · simp only [List.mem_singleton] at hq; subst hq
      obtain ⟨h1, h2⟩ := h.S _ hm
      exact ⟨by rw [along_snoc, ← h1], aft_lt hx h2 e⟩
  · rcases List.mem_append.mp hq with hq | hq
    · exact h.E q hq b hb
    · simp only [List.mem_singleton] at hq; subst hq
      rcases List.mem_append.mp hb with hb | hb
      · exact h.E _ hm b hb
      · simp only [List.mem_singleton] at hb; subst hb; omega
  · by_cases hj' : j < L.length
    · rw [getD_append_left _ _ _ hj']; exact h.B j hj'
    · have : j = L.length := by simp at hj; omega
      subst this
      rw [getD_append_len]
      have := h.B i hi
      simp only [List.length_append, List.length_singleton]; omega
def tracesV (l : List TN) : AV := .lst 1 (l.map fun t => [ints t.tr]) .unk
theorem FZ.tracesV (l : List TN) : FZ (tracesV l) := FZ.lst rfl fun r hr => by
  obtain ⟨x, _, rfl⟩ := List.mem_map.mp hr
  exact FZs.one (FZ.ints _)
theorem viewTr {H : AH} {L : List (TN × AV)} {tip : Tip} (hT : ∀ q ∈ L, TrO q.2 q.1.tr) : View H (.lst 1 (L.map enT) tip) (tracesV (L.map Prod.fst)) := by
  have hg : ∀ i, i < L.length → (L.map enT).getD i [] = enT (L.getD i default) := fun i hi => getDmap enT L i hi
  have hg' : ∀ i, i < L.length → ((L.map Prod.fst).map fun t : TN => [ints t.tr]).getD i [] = [ints (L.getD i default).1.tr] := fun i hi => by
    rw [getDmap _ _ i (by simpa using hi)]
    simp only [List.getD_eq_getElem?_getD, List.getElem?_map, List.getElem?_eq_getElem hi, Option.map_some, Option.getD_some]
  refine View.lst (by simp) (fun i hi => ?_) fun i j hi hj => ?_
  · have hi' : i < L.length := by simpa using hi
    rw [hg i hi', hg' i hi']; rfl
  · have hi' : i < L.length := by simpa using hi
    have hj0 : j = 0 := by omega
    subst hj0
    rw [hg i hi', hg' i hi']
    exact (hT _ (getD_mem hi')).ok.view
/-- both lists, as they grow -/
def Grow2 (H : AH) (a b : AV) (L : List (TN × AV)) : Prop := (a = .lst 1 (L.map enT) .full ∧ b = .lst 1 (L.map enS2) .full) ∨ ∃ t s, t < H.next ∧ s < H.next ∧ t ≠ s ∧ a = .lst 1 (L.map enT) (.live t) ∧ b = .lst 1 (L.map enS2) (.live s) ∧ H.tip t = some L.length ∧ H.tip s = some L.length
theorem Grow2.lst {H : AH} {a b : AV} {L : List (TN × AV)} (h : Grow2 H a b L) : ∃ t s, a = .lst 1 (L.map enT) t ∧ b = .lst 1 (L.map enS2) s := by
  rcases h with ⟨h, h'⟩ | ⟨t, s, _, _, _, h, h', _⟩
  · exact ⟨_, _, h, h'⟩
  · exact ⟨_, _, h, h'⟩
theorem Grow2.mono {H H' : AH} {a b : AV} {L : List (TN × AV)} (h : Grow2 H a b L) (hn : H.next ≤ H'.next) (ht : ∀ t, t < H.next → H'.tip t = H.tip t) : Grow2 H' a b L := by
  rcases h with h | ⟨t, s, h1, h2, h3, h4, h5, h6, h7⟩
  · exact .inl h
  · exact .inr ⟨t, s, Nat.lt_of_lt_of_le h1 hn, Nat.lt_of_lt_of_le h2 hn, h3, h4, h5, (ht t h1).trans h6, (ht s h2).trans h7⟩
def trV (o : Option (List TN)) : AV := match o with
  | some l => .tup [tracesV l, .v (.bool true)]
  | none => .tup [nilS, .v (.bool false)]
theorem fst_getT (L : List (TN × AV)) {i : Nat} (hi : i < L.length) : (L.map Prod.fst).getD i default = (L.getD i default).1 := by
  rw [List.getD_eq_getElem?_getD, List.getElem?_map, List.getElem?_eq_getElem hi, List.getD_eq_getElem?_getD, List.getElem?_eq_getElem hi]; rfl
set_option maxHeartbeats 8000000 in
theorem traces83 (x : Re) (hx : Ok x) (d : Int) : FCall Tryd.prog 83 [sysV x, .v (.int .i64 d)] (· = trV (trR x d)) := by
  have hsc := silc_le hx
  refine ACall.enter [] Cd.fn83 (by simp) ?_
  simp only [Cd.cd83, Tk.t83, base0, base1, base2, base3, Option.isNone_none, Option.isNone_some, Nat.reduceBEq, true_or, or_true, false_or, or_false, Nat.reduceLT, Nat.reduceMod, Nat.reducePow, rmaps, nsucc, List.flatten_cons, List.flatten_nil, Nat.reduceEqDiff, Nat.reduceLeDiff, Nat.reduceAdd, Nat.reduceMul, Nat.reduceSub, ↓reduceIte, reduceCtorEq, decide_true, decide_false]
  first | refine FCall.go (first72 x hx) (FZs.one (FZ.sysV x)) ?_ | refine FCall.go' (first72 x hx) (FZs.one (FZ.sysV x)) ?_ | refine FCall.goQ (first72 x hx) (FZs.one (FZ.sysV x)) ?_
  simp only [Cd.cd83, Tk.t83, base0, base1, base2, base3, Option.isNone_none, Option.isNone_some, Nat.reduceBEq, true_or, or_true, false_or, or_false, Nat.reduceLT, Nat.reduceMod, Nat.reducePow, rmaps, nsucc, List.flatten_cons, List.flatten_nil, Nat.reduceEqDiff, Nat.reduceLeDiff, Nat.reduceAdd, Nat.reduceMul, Nat.reduceSub, ↓reduceIte, reduceCtorEq, decide_true, decide_false]
  refine LWP.loop [] (fun m f H' => ∃ i a b L, m = 1501 - i ∧ (i ≤ List.length (L : List (TN × AV))) ∧ (List.length (L : List (TN × AV)) ≤ 1500) ∧ (TrI x L) ∧ (tgo x d (1502 - i) (L.map Prod.fst) i = trR x d) ∧ (Grow2 H' a b L) ∧ f.t 0 = sysV x ∧ f.t 1 = .v (.int .i64 d) ∧ f.t 6 = a ∧ f.t 7 = b ∧ f.t 8 = .v (.int .i64 (i : Nat)) ∧ f.ds = [] ∧ True) ?_ ?_ (m := 1501 - (0))
  · exact ⟨0, .lst 1 ([(⟨[], fstM x⟩, nilS)].map enT) .full, .lst 1 ([((⟨[], fstM x⟩ : TN), nilS)].map enS2) .full, [(⟨[], fstM x⟩, nilS)], rfl, (by omega), (by simp), (TrI.start hx), (rfl), (.inl ⟨rfl, rfl⟩), rfl, rfl, rfl, rfl, rfl, rfl, trivial⟩
  · rintro m f H' ⟨i, a, b, L, rfl, hi, h15, hI, hS, hg, f0, f1, f6, f7, f8, hds, hH⟩
    by_cases hlt : i < L.length
    · obtain ⟨ta, tb, rfl, rfl⟩ := hg.lst
      have hmem := getD_mem (l := L) hlt
      have hTr := hI.T _ hmem
      have hSr := hI.S _ hmem
      have hBr := hI.B i hlt
      have hfst := fst_getT L hlt
      have hgm := getDmap enT L i hlt
      have hstep := tgo_step (x := x) (d := d) (l := L.map Prod.fst) (i := i) (by simp; omega) (by simpa using hlt)
      rw [hS] at hstep
      unfold nxtT at hstep
      rw [hfst] at hstep
      obtain ⟨⟨p, ap⟩, hpe⟩ : ∃ q, L.getD i default = q := ⟨_, rfl⟩
      rw [hpe] at hmem hTr hSr hBr hfst hgm hstep
      simp only at hTr hSr hBr hfst hgm hstep
      rcases hTr with ⟨rfl, htr0⟩ | ⟨h0, tip, rfl⟩
      · have hlen0 : p.tr.length = 0 := by rw [htr0]; rfl
        by_cases hd : (p.tr.length : Int) = d
        · rw [if_pos hd] at hstep
          simp only [List.length_map, ltT hlt, inR hlt, Int.toNat_natCast, hgm, enT, nilS, show (((0 : Nat) : Int) == d) = true from beq_iff_eq.mpr (by rw [← hlen0]; exact hd), show ((0 : Int) == d) = true from beq_iff_eq.mpr (by rw [← hd, hlen0]; rfl), f0, f1, f6, f7, f8, hds, Cd.cd83, Tk.t83, base0, base1, base2, base3, Option.isNone_none, Option.isNone_some, Nat.reduceBEq, true_or, or_true, false_or, or_false, Nat.reduceLT, Nat.reduceMod, Nat.reducePow, rmaps, nsucc, List.flatten_cons, List.flatten_nil, Nat.reduceEqDiff, Nat.reduceLeDiff, Nat.reduceAdd, Nat.reduceMul, Nat.reduceSub, ↓reduceIte, reduceCtorEq, decide_true, decide_false]
          exact ⟨_, by omega, i + 1, _, _, L, rfl, by omega, h15, hI, hstep.symm, hg, rfl, rfl, by rw [wrapS (by omega)]⟩
        · rw [if_neg hd] at hstep
          have hw9 : IntKind.i64.wrap (((silc x : Nat) : Int) + 1) = ((silc x + 1 : Nat) : Int) := wrapS (by omega)
          simp only [List.length_map, ltT hlt, inR hlt, Int.toNat_natCast, hgm, enT, nilS, show (((0 : Nat) : Int) == d) = false from beq_eq_false_iff_ne.mpr (by rw [← hlen0]; exact hd), show ((0 : Int) == d) = false from beq_eq_false_iff_ne.mpr (by intro e; exact hd (by rw [hlen0]; exact e)), f0, f1, f6, f7, f8, hds, Cd.cd83, Tk.t83, base0, base1, base2, base3, Option.isNone_none, Option.isNone_some, Nat.reduceBEq, true_or, or_true, false_or, or_false, Nat.reduceLT, Nat.reduceMod, Nat.reducePow, rmaps, nsucc, List.flatten_cons, List.flatten_nil, Nat.reduceEqDiff, Nat.reduceLeDiff, Nat.reduceAdd, Nat.reduceMul, Nat.reduceSub, ↓reduceIte, reduceCtorEq, decide_true, decide_false]
          first | refine FCall.go (silence73 x hx) (FZs.one (FZ.sysV x)) ?_ | refine FCall.go' (silence73 x hx) (FZs.one (FZ.sysV x)) ?_ | refine FCall.goQ (silence73 x hx) (FZs.one (FZ.sysV x)) ?_
          simp only [hw9, f0, f1, f6, f7, f8, hds, Cd.cd83, Tk.t83, base0, base1, base2, base3, Option.isNone_none, Option.isNone_some, Nat.reduceBEq, true_or, or_true, false_or, or_false, Nat.reduceLT, Nat.reduceMod, Nat.reducePow, rmaps, nsucc, List.flatten_cons, List.flatten_nil, Nat.reduceEqDiff, Nat.reduceLeDiff, Nat.reduceAdd, Nat.reduceMul, Nat.reduceSub, ↓reduceIte, reduceCtorEq, decide_true, decide_false]
          refine LWP.loop [] (fun m f H' => ∃ e a2 b2 L2, m = silc x + 1 - e ∧ (e ≤ silc x + 1) ∧ (List.map Prod.fst (L2 : List (TN × AV)) = extsT x p (L.map Prod.fst) e) ∧ (∃ q, L2 = L ++ q) ∧ (List.length (L2 : List (TN × AV)) ≤ 1500) ∧ (TrI x L2) ∧ (Grow2 H' a2 b2 L2) ∧ f.t 0 = sysV x ∧ f.t 1 = .v (.int .i64 d) ∧ f.t 6 = a2 ∧ f.t 7 = b2 ∧ f.t 8 = .v (.int .i64 (i : Nat)) ∧ f.t 30 = .v (.int .i64 ((silc x + 1 : Nat) : Int)) ∧ f.t 31 = .v (.int .i64 (e : Nat)) ∧ f.ds = [] ∧ True) ?_ ?_ (m := silc x + 1 - (0))
          · exact ⟨0, .lst 1 (L.map enT) ta, .lst 1 (L.map enS2) tb, L, rfl, (by omega), (rfl), (⟨[], by simp⟩), (h15), (hI), (hg), (by first | rfl | exact f0), (by first | rfl | exact f1), (by first | rfl | exact f6), (by first | rfl | exact f7), (by first | rfl | exact f8), (by first | rfl | exact f30), (by first | rfl | exact f31), rfl, trivial⟩
          · rintro m f H' ⟨e, a2, b2, L2, rfl, he, hl2, hpre, h15b, hI2, hg2, f0, f1, f6, f7, f8, f30, f31, hds, hH⟩
            obtain ⟨q, hq⟩ := hpre
            obtain ⟨ta2, tb2, rfl, rfl⟩ := hg2.lst
            have hil2 : i < L2.length := by rw [hq, List.length_append]; omega
            have hp2 : L2.getD i default = (p, nilS) := by rw [hq, getD_append_left _ _ _ hlt, hpe]
            have hgT := getDmap enT L2 i hil2
            have hgS := getDmap enS2 L2 i hil2
            rw [hp2] at hgT hgS
            by_cases hle : e < silc x + 1
            · simp only [ltT hle, List.length_map, inR hil2, Int.toNat_natCast, hgS, enS2, uv, f0, f1, f6, f7, f8, f30, f31, hds, Cd.cd83, Tk.t83, base0, base1, base2, base3, Option.isNone_none, Option.isNone_some, Nat.reduceBEq, true_or, or_true, false_or, or_false, Nat.reduceLT, Nat.reduceMod, Nat.reducePow, rmaps, nsucc, List.flatten_cons, List.flatten_nil, Nat.reduceEqDiff, Nat.reduceLeDiff, Nat.reduceAdd, Nat.reduceMul, Nat.reduceSub, ↓reduceIte, reduceCtorEq, decide_true, decide_false]
              first | refine FCall.go (after74 x hx p.s e hSr.2) (FZs.three (FZ.sysV x) (FZ.v _) (FZ.v _)) ?_ | refine FCall.go' (after74 x hx p.s e hSr.2) (FZs.three (FZ.sysV x) (FZ.v _) (FZ.v _)) ?_ | refine FCall.goQ (after74 x hx p.s e hSr.2) (FZs.three (FZ.sysV x) (FZ.v _) (FZ.v _)) ?_
              by_cases hz : aft x p.s e = 0
              · simp only [uv, eqU0, decide_eq_true hz, f0, f1, f6, f7, f8, f30, f31, hds, Cd.cd83, Tk.t83, base0, base1, base2, base3, Option.isNone_none, Option.isNone_some, Nat.reduceBEq, true_or, or_true, false_or, or_false, Nat.reduceLT, Nat.reduceMod, Nat.reducePow, rmaps, nsucc, List.flatten_cons, List.flatten_nil, Nat.reduceEqDiff, Nat.reduceLeDiff, Nat.reduceAdd, Nat.reduceMul, Nat.reduceSub, ↓reduceIte, reduceCtorEq, decide_true, decide_false]
                exact ⟨_, by omega, e + 1, _, _, L2, rfl, by omega, by rw [extsT_succ, ← hl2, extT, if_pos hz], ⟨q, hq⟩, h15b, hI2, hg2, rfl, rfl, by rw [wrapS (by omega)]⟩
              · by_cases h1500 : L2.length = 1500
                · simp only [uv, eqU0, decide_eq_false hz, List.length_map, show (((L2.length : Nat) : Int) == 1500) = true from by rw [h1500]; rfl, f0, f1, f6, f7, f8, f30, f31, hds, Cd.cd83, Tk.t83, base0, base1, base2, base3, Option.isNone_none, Option.isNone_some, Nat.reduceBEq, true_or, or_true, false_or, or_false, Nat.reduceLT, Nat.reduceMod, Nat.reducePow, rmaps, nsucc, List.flatten_cons, List.flatten_nil, Nat.reduceEqDiff, Nat.reduceLeDiff, Nat.reduceAdd, Nat.reduceMul, Nat.reduceSub, ↓reduceIte, reduceCtorEq, decide_true, decide_false]
                  have hover : trR x d = none := by
                    rw [hstep]
                    refine tgo_over ?_ _
                    have h1 : (extsT x p (L.map Prod.fst) (e + 1)).length = 1501 := by
                      rw [extsT_succ, ← hl2, extT, if_neg hz]; simp; omega
                    have h2 := extsT_mono x p (L.map Prod.fst) (e + 1) (silc x - e)
                    rw [show e + 1 + (silc x - e) = silc x + 1 by omega] at h2
                    omega
                  refine ⟨_, _, rfl, Views.tup (Views.cons nil_view (Views.cons (FZ.v _).view Views.nil)), FZ.tup (FZs.two FZ.nilS (FZ.v _)), ?_⟩
                  rw [hover]; rfl
                · simp only [uv, eqU0, decide_eq_false hz, List.length_map, show (((L2.length : Nat) : Int) == 1500) = false from by simp; omega, inR hil2, Int.toNat_natCast, hgT, enT, f0, f1, f6, f7, f8, f30, f31, hds, Cd.cd83, Tk.t83, base0, base1, base2, base3, Option.isNone_none, Option.isNone_some, Nat.reduceBEq, true_or, or_true, false_or, or_false, Nat.reduceLT, Nat.reduceMod, Nat.reducePow, rmaps, nsucc, List.flatten_cons, List.flatten_nil, Nat.reduceEqDiff, Nat.reduceLeDiff, Nat.reduceAdd, Nat.reduceMul, Nat.reduceSub, ↓reduceIte, reduceCtorEq, decide_true, decide_false]
                  refine GrowN.go (clone111 p.tr _ _ (.inl ⟨rfl, htr0⟩) (by omega)) fun v H1 hgv hk => ?_
                  have hknx := hk.nx
                  have hr8 : roomA 8 (p.tr.length + 1) = true := room_of (by omega) (by omega)
                  have hr24 : roomA 24 (L2.length + 1) = true := room_of (by omega) (by omega)
                  have hr8L : roomA 8 (L2.length + 1) = true := room_of (by omega) (by omega)
                  rcases hgv with ⟨z0, rfl | rfl⟩ | ⟨t', u1, u2, rfl, u4⟩
                  · have hz0 := z0
                    have hz1 := hz0
                    have hnew : AV.lst 1 ((p.tr ++ [(e : Int)]).map intR) (.live H1.next) = .lst 1 ([[AV.v (.int .i64 (e : Nat))]]) (.live H1.next) := by first | rfl | (simp [intR]; done) | (rw [z0]; rfl)
                    have hI3 : TrI x (L2 ++ [(⟨p.tr ++ [(e : Int)], aft x p.s e⟩, .lst 1 ((p.tr ++ [(e : Int)]).map intR) (.live H1.next))]) := by
                      have := hI2.add hx hil2 (e := e) (by omega) (t := H1.next)
                      rw [hp2] at this; exact this
                    have hr1 : ∀ tp : Tip, AV.lst 1 (L2.map enT ++ [[.lst 1 ([[AV.v (.int .i64 (e : Nat))]]) (.live H1.next)]]) tp = .lst 1 ((L2 ++ [((⟨p.tr ++ [(e : Int)], aft x p.s e⟩ : TN), AV.lst 1 ((p.tr ++ [(e : Int)]).map intR) (.live H1.next))]).map enT) tp := fun tp => by
                      rw [List.map_append, ← hnew]; rfl
                    have hr2 : ∀ tp : Tip, AV.lst 1 (L2.map enS2 ++ [[.v (.int .u64 (aft x p.s e : Nat))]]) tp = .lst 1 ((L2 ++ [((⟨p.tr ++ [(e : Int)], aft x p.s e⟩ : TN), AV.lst 1 ((p.tr ++ [(e : Int)]).map intR) (.live H1.next))]).map enS2) tp := fun tp => by
                      rw [List.map_append]; rfl
                    have hext : extsT x p (L.map Prod.fst) (e + 1) = (L2 ++ [((⟨p.tr ++ [(e : Int)], aft x p.s e⟩ : TN), AV.lst 1 ((p.tr ++ [(e : Int)]).map intR) (.live H1.next))]).map Prod.fst := by
                      rw [extsT_succ, ← hl2, extT, if_neg hz, List.map_append]; rfl
                    rcases hg2 with ⟨hge, hge'⟩ | ⟨t, s, s1, s2, s3, hge, hge', s4, s5⟩
                    · simp only [AV.lst.injEq, true_and] at hge hge'
                      subst hge; subst hge'
                      simp only [nilS, show roomA 8 1 = true from rfl, List.length_map, hr24, hr8L, inR hil2, Int.toNat_natCast, f0, f1, f6, f7, f8, f30, f31, hds, Cd.cd83, Tk.t83, base0, base1, base2, base3, Option.isNone_none, Option.isNone_some, Nat.reduceBEq, true_or, or_true, false_or, or_false, Nat.reduceLT, Nat.reduceMod, Nat.reducePow, rmaps, nsucc, List.flatten_cons, List.flatten_nil, Nat.reduceEqDiff, Nat.reduceLeDiff, Nat.reduceAdd, Nat.reduceMul, Nat.reduceSub, ↓reduceIte, reduceCtorEq, decide_true, decide_false]
                      exact ⟨_, by omega, e + 1, _, _, _, rfl, by omega, hext.symm, ⟨q ++ [_], by rw [hq, List.append_assoc]⟩, by simp; omega, hI3, .inr ⟨(H1.next + 1), (H1.next + 1) + 1, by show _ < _ + 1 + 1; omega, by show _ < _ + 1; omega, by omega, hr1 _, hr2 _, by simp, by simp⟩, rfl, rfl, by rw [wrapS (by omega)]⟩
                    · simp only [AV.lst.injEq, true_and] at hge hge'
                      subst hge; subst hge'
                      have e1 : (t = H1.next) = False := by simp; omega
                      have e2 : (s = H1.next) = False := by simp; omega
                      have e3 : (s = t) = False := by simp; omega
                      have e4 : (t = s) = False := by simp; omega
                      have s6 : H1.tip t = some L2.length := (hk.tp t s1).trans s4
                      have s7 : H1.tip s = some L2.length := (hk.tp s s2).trans s5
                      simp only [nilS, show roomA 8 1 = true from rfl, List.length_map, e1, e2, e3, e4, s6, s7, hr24, hr8L, inR hil2, Int.toNat_natCast, f0, f1, f6, f7, f8, f30, f31, hds, Cd.cd83, Tk.t83, base0, base1, base2, base3, Option.isNone_none, Option.isNone_some, Nat.reduceBEq, true_or, or_true, false_or, or_false, Nat.reduceLT, Nat.reduceMod, Nat.reducePow, rmaps, nsucc, List.flatten_cons, List.flatten_nil, Nat.reduceEqDiff, Nat.reduceLeDiff, Nat.reduceAdd, Nat.reduceMul, Nat.reduceSub, ↓reduceIte, reduceCtorEq, decide_true, decide_false]
                      exact ⟨_, by omega, e + 1, _, _, _, rfl, by omega, hext.symm, ⟨q ++ [_], by rw [hq, List.append_assoc]⟩, by simp; omega, hI3, .inr ⟨t, s, by first | (show t < H1.next + 1; omega) | (show t < H1.next; omega), by first | (show s < H1.next + 1; omega) | (show s < H1.next; omega), s3, hr1 _, hr2 _, by simp [e4], by simp⟩, rfl, rfl, by rw [wrapS (by omega)]⟩
                  · have hz0 := z0
                    have hz1 := hz0
                    have hnew : AV.lst 1 ((p.tr ++ [(e : Int)]).map intR) (.live H1.next) = .lst 1 ([[AV.v (.int .i64 (e : Nat))]]) (.live H1.next) := by first | rfl | (simp [intR]; done) | (rw [z0]; rfl)
                    have hI3 : TrI x (L2 ++ [(⟨p.tr ++ [(e : Int)], aft x p.s e⟩, .lst 1 ((p.tr ++ [(e : Int)]).map intR) (.live H1.next))]) := by
                      have := hI2.add hx hil2 (e := e) (by omega) (t := H1.next)
                      rw [hp2] at this; exact this
                    have hr1 : ∀ tp : Tip, AV.lst 1 (L2.map enT ++ [[.lst 1 ([[AV.v (.int .i64 (e : Nat))]]) (.live H1.next)]]) tp = .lst 1 ((L2 ++ [((⟨p.tr ++ [(e : Int)], aft x p.s e⟩ : TN), AV.lst 1 ((p.tr ++ [(e : Int)]).map intR) (.live H1.next))]).map enT) tp := fun tp => by
                      rw [List.map_append, ← hnew]; rfl
                    have hr2 : ∀ tp : Tip, AV.lst 1 (L2.map enS2 ++ [[.v (.int .u64 (aft x p.s e : Nat))]]) tp = .lst 1 ((L2 ++ [((⟨p.tr ++ [(e : Int)], aft x p.s e⟩ : TN), AV.lst 1 ((p.tr ++ [(e : Int)]).map intR) (.live H1.next))]).map enS2) tp := fun tp => by
                      rw [List.map_append]; rfl
                    have hext : extsT x p (L.map Prod.fst) (e + 1) = (L2 ++ [((⟨p.tr ++ [(e : Int)], aft x p.s e⟩ : TN), AV.lst 1 ((p.tr ++ [(e : Int)]).map intR) (.live H1.next))]).map Prod.fst := by
                      rw [extsT_succ, ← hl2, extT, if_neg hz, List.map_append]; rfl
                    rcases hg2 with ⟨hge, hge'⟩ | ⟨t, s, s1, s2, s3, hge, hge', s4, s5⟩
                    · simp only [AV.lst.injEq, true_and] at hge hge'
                      subst hge; subst hge'
                      simp only [show roomA 8 1 = true from rfl, List.length_map, hr24, hr8L, inR hil2, Int.toNat_natCast, f0, f1, f6, f7, f8, f30, f31, hds, Cd.cd83, Tk.t83, base0, base1, base2, base3, Option.isNone_none, Option.isNone_some, Nat.reduceBEq, true_or, or_true, false_or, or_false, Nat.reduceLT, Nat.reduceMod, Nat.reducePow, rmaps, nsucc, List.flatten_cons, List.flatten_nil, Nat.reduceEqDiff, Nat.reduceLeDiff, Nat.reduceAdd, Nat.reduceMul, Nat.reduceSub, ↓reduceIte, reduceCtorEq, decide_true, decide_false]
                      exact ⟨_, by omega, e + 1, _, _, _, rfl, by omega, hext.symm, ⟨q ++ [_], by rw [hq, List.append_assoc]⟩, by simp; omega, hI3, .inr ⟨(H1.next + 1), (H1.next + 1) + 1, by show _ < _ + 1 + 1; omega, by show _ < _ + 1; omega, by omega, hr1 _, hr2 _, by simp, by simp⟩, rfl, rfl, by rw [wrapS (by omega)]⟩
                    · simp only [AV.lst.injEq, true_and] at hge hge'
                      subst hge; subst hge'
                      have e1 : (t = H1.next) = False := by simp; omega
                      have e2 : (s = H1.next) = False := by simp; omega
                      have e3 : (s = t) = False := by simp; omega
                      have e4 : (t = s) = False := by simp; omega
                      have s6 : H1.tip t = some L2.length := (hk.tp t s1).trans s4
                      have s7 : H1.tip s = some L2.length := (hk.tp s s2).trans s5
                      simp only [show roomA 8 1 = true from rfl, List.length_map, e1, e2, e3, e4, s6, s7, hr24, hr8L, inR hil2, Int.toNat_natCast, f0, f1, f6, f7, f8, f30, f31, hds, Cd.cd83, Tk.t83, base0, base1, base2, base3, Option.isNone_none, Option.isNone_some, Nat.reduceBEq, true_or, or_true, false_or, or_false, Nat.reduceLT, Nat.reduceMod, Nat.reducePow, rmaps, nsucc, List.flatten_cons, List.flatten_nil, Nat.reduceEqDiff, Nat.reduceLeDiff, Nat.reduceAdd, Nat.reduceMul, Nat.reduceSub, ↓reduceIte, reduceCtorEq, decide_true, decide_false]
                      exact ⟨_, by omega, e + 1, _, _, _, rfl, by omega, hext.symm, ⟨q ++ [_], by rw [hq, List.append_assoc]⟩, by simp; omega, hI3, .inr ⟨t, s, by first | (show t < H1.next + 1; omega) | (show t < H1.next; omega), by first | (show s < H1.next + 1; omega) | (show s < H1.next; omega), s3, hr1 _, hr2 _, by simp [e4], by simp⟩, rfl, rfl, by rw [wrapS (by omega)]⟩
                  · have hz0 := u4
                    have hz1 := hz0
                    have hnew : AV.lst 1 ((p.tr ++ [(e : Int)]).map intR) (.live t') = .lst 1 (p.tr.map intR ++ [[AV.v (.int .i64 (e : Nat))]]) (.live t') := by first | rfl | (simp [intR]; done) | (rw [z0]; rfl)
                    have hI3 : TrI x (L2 ++ [(⟨p.tr ++ [(e : Int)], aft x p.s e⟩, .lst 1 ((p.tr ++ [(e : Int)]).map intR) (.live t'))]) := by
                      have := hI2.add hx hil2 (e := e) (by omega) (t := t')
                      rw [hp2] at this; exact this
                    have hr1 : ∀ tp : Tip, AV.lst 1 (L2.map enT ++ [[.lst 1 (p.tr.map intR ++ [[AV.v (.int .i64 (e : Nat))]]) (.live t')]]) tp = .lst 1 ((L2 ++ [((⟨p.tr ++ [(e : Int)], aft x p.s e⟩ : TN), AV.lst 1 ((p.tr ++ [(e : Int)]).map intR) (.live t'))]).map enT) tp := fun tp => by
                      rw [List.map_append, ← hnew]; rfl
                    have hr2 : ∀ tp : Tip, AV.lst 1 (L2.map enS2 ++ [[.v (.int .u64 (aft x p.s e : Nat))]]) tp = .lst 1 ((L2 ++ [((⟨p.tr ++ [(e : Int)], aft x p.s e⟩ : TN), AV.lst 1 ((p.tr ++ [(e : Int)]).map intR) (.live t'))]).map enS2) tp := fun tp => by
                      rw [List.map_append]; rfl
                    have hext : extsT x p (L.map Prod.fst) (e + 1) = (L2 ++ [((⟨p.tr ++ [(e : Int)], aft x p.s e⟩ : TN), AV.lst 1 ((p.tr ++ [(e : Int)]).map intR) (.live t'))]).map Prod.fst := by
                      rw [extsT_succ, ← hl2, extT, if_neg hz, List.map_append]; rfl
                    rcases hg2 with ⟨hge, hge'⟩ | ⟨t, s, s1, s2, s3, hge, hge', s4, s5⟩
                    · simp only [AV.lst.injEq, true_and] at hge hge'
                      subst hge; subst hge'
                      simp only [u4, hr8, List.length_map, hr24, hr8L, inR hil2, Int.toNat_natCast, f0, f1, f6, f7, f8, f30, f31, hds, Cd.cd83, Tk.t83, base0, base1, base2, base3, Option.isNone_none, Option.isNone_some, Nat.reduceBEq, true_or, or_true, false_or, or_false, Nat.reduceLT, Nat.reduceMod, Nat.reducePow, rmaps, nsucc, List.flatten_cons, List.flatten_nil, Nat.reduceEqDiff, Nat.reduceLeDiff, Nat.reduceAdd, Nat.reduceMul, Nat.reduceSub, ↓reduceIte, reduceCtorEq, decide_true, decide_false]
                      exact ⟨_, by omega, e + 1, _, _, _, rfl, by omega, hext.symm, ⟨q ++ [_], by rw [hq, List.append_assoc]⟩, by simp; omega, hI3, .inr ⟨H1.next, H1.next + 1, by show _ < _ + 1 + 1; omega, by show _ < _ + 1; omega, by omega, hr1 _, hr2 _, by simp, by simp⟩, rfl, rfl, by rw [wrapS (by omega)]⟩
                    · simp only [AV.lst.injEq, true_and] at hge hge'
                      subst hge; subst hge'
                      have e1 : (t = t') = False := by simp; omega
                      have e2 : (s = t') = False := by simp; omega
                      have e3 : (s = t) = False := by simp; omega
                      have e4 : (t = s) = False := by simp; omega
                      have s6 : H1.tip t = some L2.length := (hk.tp t s1).trans s4
                      have s7 : H1.tip s = some L2.length := (hk.tp s s2).trans s5
                      simp only [u4, hr8, List.length_map, e1, e2, e3, e4, s6, s7, hr24, hr8L, inR hil2, Int.toNat_natCast, f0, f1, f6, f7, f8, f30, f31, hds, Cd.cd83, Tk.t83, base0, base1, base2, base3, Option.isNone_none, Option.isNone_some, Nat.reduceBEq, true_or, or_true, false_or, or_false, Nat.reduceLT, Nat.reduceMod, Nat.reducePow, rmaps, nsucc, List.flatten_cons, List.flatten_nil, Nat.reduceEqDiff, Nat.reduceLeDiff, Nat.reduceAdd, Nat.reduceMul, Nat.reduceSub, ↓reduceIte, reduceCtorEq, decide_true, decide_false]
                      exact ⟨_, by omega, e + 1, _, _, _, rfl, by omega, hext.symm, ⟨q ++ [_], by rw [hq, List.append_assoc]⟩, by simp; omega, hI3, .inr ⟨t, s, by first | (show t < H1.next + 1; omega) | (show t < H1.next; omega), by first | (show s < H1.next + 1; omega) | (show s < H1.next; omega), s3, hr1 _, hr2 _, by simp [e4], by simp⟩, rfl, rfl, by rw [wrapS (by omega)]⟩
            · have he' : e = silc x + 1 := by omega
              subst he'
              simp only [ltF hle, f0, f1, f6, f7, f8, f30, f31, hds, Cd.cd83, Tk.t83, base0, base1, base2, base3, Option.isNone_none, Option.isNone_some, Nat.reduceBEq, true_or, or_true, false_or, or_false, Nat.reduceLT, Nat.reduceMod, Nat.reducePow, rmaps, nsucc, List.flatten_cons, List.flatten_nil, Nat.reduceEqDiff, Nat.reduceLeDiff, Nat.reduceAdd, Nat.reduceMul, Nat.reduceSub, ↓reduceIte, reduceCtorEq, decide_true, decide_false]
              exact ⟨_, by omega, i + 1, _, _, L2, rfl, by omega, h15b, hI2, by rw [hl2]; exact hstep.symm, hg2, rfl, rfl, by rw [wrapS (by omega)]⟩
      · have hlen0 := h0
        by_cases hd : (p.tr.length : Int) = d
        · rw [if_pos hd] at hstep
          simp only [List.length_map, ltT hlt, inR hlt, Int.toNat_natCast, hgm, enT, show (((p.tr.length : Nat) : Int) == d) = true from beq_iff_eq.mpr hd, f0, f1, f6, f7, f8, hds, Cd.cd83, Tk.t83, base0, base1, base2, base3, Option.isNone_none, Option.isNone_some, Nat.reduceBEq, true_or, or_true, false_or, or_false, Nat.reduceLT, Nat.reduceMod, Nat.reducePow, rmaps, nsucc, List.flatten_cons, List.flatten_nil, Nat.reduceEqDiff, Nat.reduceLeDiff, Nat.reduceAdd, Nat.reduceMul, Nat.reduceSub, ↓reduceIte, reduceCtorEq, decide_true, decide_false]
          exact ⟨_, by omega, i + 1, _, _, L, rfl, by omega, h15, hI, hstep.symm, hg, rfl, rfl, by rw [wrapS (by omega)]⟩
        · rw [if_neg hd] at hstep
          have hw9 : IntKind.i64.wrap (((silc x : Nat) : Int) + 1) = ((silc x + 1 : Nat) : Int) := wrapS (by omega)
          simp only [List.length_map, ltT hlt, inR hlt, Int.toNat_natCast, hgm, enT, show (((p.tr.length : Nat) : Int) == d) = false from beq_eq_false_iff_ne.mpr hd, f0, f1, f6, f7, f8, hds, Cd.cd83, Tk.t83, base0, base1, base2, base3, Option.isNone_none, Option.isNone_some, Nat.reduceBEq, true_or, or_true, false_or, or_false, Nat.reduceLT, Nat.reduceMod, Nat.reducePow, rmaps, nsucc, List.flatten_cons, List.flatten_nil, Nat.reduceEqDiff, Nat.reduceLeDiff, Nat.reduceAdd, Nat.reduceMul, Nat.reduceSub, ↓reduceIte, reduceCtorEq, decide_true, decide_false]
          first | refine FCall.go (silence73 x hx) (FZs.one (FZ.sysV x)) ?_ | refine FCall.go' (silence73 x hx) (FZs.one (FZ.sysV x)) ?_ | refine FCall.goQ (silence73 x hx) (FZs.one (FZ.sysV x)) ?_
          simp only [hw9, f0, f1, f6, f7, f8, hds, Cd.cd83, Tk.t83, base0, base1, base2, base3, Option.isNone_none, Option.isNone_some, Nat.reduceBEq, true_or, or_true, false_or, or_false, Nat.reduceLT, Nat.reduceMod, Nat.reducePow, rmaps, nsucc, List.flatten_cons, List.flatten_nil, Nat.reduceEqDiff, Nat.reduceLeDiff, Nat.reduceAdd, Nat.reduceMul, Nat.reduceSub, ↓reduceIte, reduceCtorEq, decide_true, decide_false]
          refine LWP.loop [] (fun m f H' => ∃ e a2 b2 L2, m = silc x + 1 - e ∧ (e ≤ silc x + 1) ∧ (List.map Prod.fst (L2 : List (TN × AV)) = extsT x p (L.map Prod.fst) e) ∧ (∃ q, L2 = L ++ q) ∧ (List.length (L2 : List (TN × AV)) ≤ 1500) ∧ (TrI x L2) ∧ (Grow2 H' a2 b2 L2) ∧ f.t 0 = sysV x ∧ f.t 1 = .v (.int .i64 d) ∧ f.t 6 = a2 ∧ f.t 7 = b2 ∧ f.t 8 = .v (.int .i64 (i : Nat)) ∧ f.t 30 = .v (.int .i64 ((silc x + 1 : Nat) : Int)) ∧ f.t 31 = .v (.int .i64 (e : Nat)) ∧ f.ds = [] ∧ True) ?_ ?_ (m := silc x + 1 - (0))
          · exact ⟨0, .lst 1 (L.map enT) ta, .lst 1 (L.map enS2) tb, L, rfl, (by omega), (rfl), (⟨[], by simp⟩), (h15), (hI), (hg), (by first | rfl | exact f0), (by first | rfl | exact f1), (by first | rfl | exact f6), (by first | rfl | exact f7), (by first | rfl | exact f8), (by first | rfl | exact f30), (by first | rfl | exact f31), rfl, trivial⟩
          · rintro m f H' ⟨e, a2, b2, L2, rfl, he, hl2, hpre, h15b, hI2, hg2, f0, f1, f6, f7, f8, f30, f31, hds, hH⟩
            obtain ⟨q, hq⟩ := hpre
            obtain ⟨ta2, tb2, rfl, rfl⟩ := hg2.lst
            have hil2 : i < L2.length := by rw [hq, List.length_append]; omega
            have hp2 : L2.getD i default = (p, .lst 1 (p.tr.map intR) tip) := by rw [hq, getD_append_left _ _ _ hlt, hpe]
            have hgT := getDmap enT L2 i hil2
            have hgS := getDmap enS2 L2 i hil2
            rw [hp2] at hgT hgS
            by_cases hle : e < silc x + 1
            · simp only [ltT hle, List.length_map, inR hil2, Int.toNat_natCast, hgS, enS2, uv, f0, f1, f6, f7, f8, f30, f31, hds, Cd.cd83, Tk.t83, base0, base1, base2, base3, Option.isNone_none, Option.isNone_some, Nat.reduceBEq, true_or, or_true, false_or, or_false, Nat.reduceLT, Nat.reduceMod, Nat.reducePow, rmaps, nsucc, List.flatten_cons, List.flatten_nil, Nat.reduceEqDiff, Nat.reduceLeDiff, Nat.reduceAdd, Nat.reduceMul, Nat.reduceSub, ↓reduceIte, reduceCtorEq, decide_true, decide_false]
              first | refine FCall.go (after74 x hx p.s e hSr.2) (FZs.three (FZ.sysV x) (FZ.v _) (FZ.v _)) ?_ | refine FCall.go' (after74 x hx p.s e hSr.2) (FZs.three (FZ.sysV x) (FZ.v _) (FZ.v _)) ?_ | refine FCall.goQ (after74 x hx p.s e hSr.2) (FZs.three (FZ.sysV x) (FZ.v _) (FZ.v _)) ?_
              by_cases hz : aft x p.s e = 0
              · simp only [uv, eqU0, decide_eq_true hz, f0, f1, f6, f7, f8, f30, f31, hds, Cd.cd83, Tk.t83, base0, base1, base2, base3, Option.isNone_none, Option.isNone_some, Nat.reduceBEq, true_or, or_true, false_or, or_false, Nat.reduceLT, Nat.reduceMod, Nat.reducePow, rmaps, nsucc, List.flatten_cons, List.flatten_nil, Nat.reduceEqDiff, Nat.reduceLeDiff, Nat.reduceAdd, Nat.reduceMul, Nat.reduceSub, ↓reduceIte, reduceCtorEq, decide_true, decide_false]
                exact ⟨_, by omega, e + 1, _, _, L2, rfl, by omega, by rw [extsT_succ, ← hl2, extT, if_pos hz], ⟨q, hq⟩, h15b, hI2, hg2, rfl, rfl, by rw [wrapS (by omega)]⟩
              · by_cases h1500 : L2.length = 1500
                · simp only [uv, eqU0, decide_eq_false hz, List.length_map, show (((L2.length : Nat) : Int) == 1500) = true from by rw [h1500]; rfl, f0, f1, f6, f7, f8, f30, f31, hds, Cd.cd83, Tk.t83, base0, base1, base2, base3, Option.isNone_none, Option.isNone_some, Nat.reduceBEq, true_or, or_true, false_or, or_false, Nat.reduceLT, Nat.reduceMod, Nat.reducePow, rmaps, nsucc, List.flatten_cons, List.flatten_nil, Nat.reduceEqDiff, Nat.reduceLeDiff, Nat.reduceAdd, Nat.reduceMul, Nat.reduceSub, ↓reduceIte, reduceCtorEq, decide_true, decide_false]
                  have hover : trR x d = none := by
                    rw [hstep]
                    refine tgo_over ?_ _
                    have h1 : (extsT x p (L.map Prod.fst) (e + 1)).length = 1501 := by
                      rw [extsT_succ, ← hl2, extT, if_neg hz]; simp; omega
                    have h2 := extsT_mono x p (L.map Prod.fst) (e + 1) (silc x - e)
                    rw [show e + 1 + (silc x - e) = silc x + 1 by omega] at h2
                    omega
                  refine ⟨_, _, rfl, Views.tup (Views.cons nil_view (Views.cons (FZ.v _).view Views.nil)), FZ.tup (FZs.two FZ.nilS (FZ.v _)), ?_⟩
                  rw [hover]; rfl
                · simp only [uv, eqU0, decide_eq_false hz, List.length_map, show (((L2.length : Nat) : Int) == 1500) = false from by simp; omega, inR hil2, Int.toNat_natCast, hgT, enT, f0, f1, f6, f7, f8, f30, f31, hds, Cd.cd83, Tk.t83, base0, base1, base2, base3, Option.isNone_none, Option.isNone_some, Nat.reduceBEq, true_or, or_true, false_or, or_false, Nat.reduceLT, Nat.reduceMod, Nat.reducePow, rmaps, nsucc, List.flatten_cons, List.flatten_nil, Nat.reduceEqDiff, Nat.reduceLeDiff, Nat.reduceAdd, Nat.reduceMul, Nat.reduceSub, ↓reduceIte, reduceCtorEq, decide_true, decide_false]
                  refine GrowN.go (clone111 p.tr _ _ (.inr ⟨h0, _, rfl⟩) (by omega)) fun v H1 hgv hk => ?_
                  have hknx := hk.nx
                  have hr8 : roomA 8 (p.tr.length + 1) = true := room_of (by omega) (by omega)
                  have hr24 : roomA 24 (L2.length + 1) = true := room_of (by omega) (by omega)
                  have hr8L : roomA 8 (L2.length + 1) = true := room_of (by omega) (by omega)
                  rcases hgv with ⟨z0, rfl | rfl⟩ | ⟨t', u1, u2, rfl, u4⟩
                  · have hz0 := z0
                    have hz1 := hz0
                    have hnew : AV.lst 1 ((p.tr ++ [(e : Int)]).map intR) (.live H1.next) = .lst 1 ([[AV.v (.int .i64 (e : Nat))]]) (.live H1.next) := by first | rfl | (simp [intR]; done) | (rw [z0]; rfl)
                    have hI3 : TrI x (L2 ++ [(⟨p.tr ++ [(e : Int)], aft x p.s e⟩, .lst 1 ((p.tr ++ [(e : Int)]).map intR) (.live H1.next))]) := by
                      have := hI2.add hx hil2 (e := e) (by omega) (t := H1.next)
                      rw [hp2] at this; exact this
                    have hr1 : ∀ tp : Tip, AV.lst 1 (L2.map enT ++ [[.lst 1 ([[AV.v (.int .i64 (e : Nat))]]) (.live H1.next)]]) tp = .lst 1 ((L2 ++ [((⟨p.tr ++ [(e : Int)], aft x p.s e⟩ : TN), AV.lst 1 ((p.tr ++ [(e : Int)]).map intR) (.live H1.next))]).map enT) tp := fun tp => by
                      rw [List.map_append, ← hnew]; rfl
                    have hr2 : ∀ tp : Tip, AV.lst 1 (L2.map enS2 ++ [[.v (.int .u64 (aft x p.s e : Nat))]]) tp = .lst 1 ((L2 ++ [((⟨p.tr ++ [(e : Int)], aft x p.s e⟩ : TN), AV.lst 1 ((p.tr ++ [(e : Int)]).map intR) (.live H1.next))]).map enS2) tp := fun tp => by
                      rw [List.map_append]; rfl
                    have hext : extsT x p (L.map Prod.fst) (e + 1) = (L2 ++ [((⟨p.tr ++ [(e : Int)], aft x p.s e⟩ : TN), AV.lst 1 ((p.tr ++ [(e : Int)]).map intR) (.live H1.next))]).map Prod.fst := by
                      rw [extsT_succ, ← hl2, extT, if_neg hz, List.map_append]; rfl
                    rcases hg2 with ⟨hge, hge'⟩ | ⟨t, s, s1, s2, s3, hge, hge', s4, s5⟩
                    · simp only [AV.lst.injEq, true_and] at hge hge'
                      subst hge; subst hge'
                      simp only [nilS, show roomA 8 1 = true from rfl, List.length_map, hr24, hr8L, inR hil2, Int.toNat_natCast, f0, f1, f6, f7, f8, f30, f31, hds, Cd.cd83, Tk.t83, base0, base1, base2, base3, Option.isNone_none, Option.isNone_some, Nat.reduceBEq, true_or, or_true, false_or, or_false, Nat.reduceLT, Nat.reduceMod, Nat.reducePow, rmaps, nsucc, List.flatten_cons, List.flatten_nil, Nat.reduceEqDiff, Nat.reduceLeDiff, Nat.reduceAdd, Nat.reduceMul, Nat.reduceSub, ↓reduceIte, reduceCtorEq, decide_true, decide_false]
                      exact ⟨_, by omega, e + 1, _, _, _, rfl, by omega, hext.symm, ⟨q ++ [_], by rw [hq, List.append_assoc]⟩, by simp; omega, hI3, .inr ⟨(H1.next + 1), (H1.next + 1) + 1, by show _ < _ + 1 + 1; omega, by show _ < _ + 1; omega, by omega, hr1 _, hr2 _, by simp, by simp⟩, rfl, rfl, by rw [wrapS (by omega)]⟩
                    · simp only [AV.lst.injEq, true_and] at hge hge'
                      subst hge; subst hge'
                      have e1 : (t = H1.next) = False := by simp; omega
                      have e2 : (s = H1.next) = False := by simp; omega
                      have e3 : (s = t) = False := by simp; omega
                      have e4 : (t = s) = False := by simp; omega
                      have s6 : H1.tip t = some L2.length := (hk.tp t s1).trans s4
                      have s7 : H1.tip s = some L2.length := (hk.tp s s2).trans s5
                      simp only [nilS, show roomA 8 1 = true from rfl, List.length_map, e1, e2, e3, e4, s6, s7, hr24, hr8L, inR hil2, Int.toNat_natCast, f0, f1, f6, f7, f8, f30, f31, hds, Cd.cd83, Tk.t83, base0, base1, base2, base3, Option.isNone_none, Option.isNone_some, Nat.reduceBEq, true_or, or_true, false_or, or_false, Nat.reduceLT, Nat.reduceMod, Nat.reducePow, rmaps, nsucc, List.flatten_cons, List.flatten_nil, Nat.reduceEqDiff, Nat.reduceLeDiff, Nat.reduceAdd, Nat.reduceMul, Nat.reduceSub, ↓reduceIte, reduceCtorEq, decide_true, decide_false]
                      exact ⟨_, by omega, e + 1, _, _, _, rfl, by omega, hext.symm, ⟨q ++ [_], by rw [hq, List.append_assoc]⟩, by simp; omega, hI3, .inr ⟨t, s, by first | (show t < H1.next + 1; omega) | (show t < H1.next; omega), by first | (show s < H1.next + 1; omega) | (show s < H1.next; omega), s3, hr1 _, hr2 _, by simp [e4], by simp⟩, rfl, rfl, by rw [wrapS (by omega)]⟩
                  · have hz0 := z0
                    have hz1 := hz0
                    have hnew : AV.lst 1 ((p.tr ++ [(e : Int)]).map intR) (.live H1.next) = .lst 1 ([[AV.v (.int .i64 (e : Nat))]]) (.live H1.next) := by first | rfl | (simp [intR]; done) | (rw [z0]; rfl)
                    have hI3 : TrI x (L2 ++ [(⟨p.tr ++ [(e : Int)], aft x p.s e⟩, .lst 1 ((p.tr ++ [(e : Int)]).map intR) (.live H1.next))]) := by
                      have := hI2.add hx hil2 (e := e) (by omega) (t := H1.next)
                      rw [hp2] at this; exact this
                    have hr1 : ∀ tp : Tip, AV.lst 1 (L2.map enT ++ [[.lst 1 ([[AV.v (.int .i64 (e : Nat))]]) (.live H1.next)]]) tp = .lst 1 ((L2 ++ [((⟨p.tr ++ [(e : Int)], aft x p.s e⟩ : TN), AV.lst 1 ((p.tr ++ [(e : Int)]).map intR) (.live H1.next))]).map enT) tp := fun tp => by
                      rw [List.map_append, ← hnew]; rfl
                    have hr2 : ∀ tp : Tip, AV.lst 1 (L2.map enS2 ++ [[.v (.int .u64 (aft x p.s e : Nat))]]) tp = .lst 1 ((L2 ++ [((⟨p.tr ++ [(e : Int)], aft x p.s e⟩ : TN), AV.lst 1 ((p.tr ++ [(e : Int)]).map intR) (.live H1.next))]).map enS2) tp := fun tp => by
                      rw [List.map_append]; rfl
                    have hext : extsT x p (L.map Prod.fst) (e + 1) = (L2 ++ [((⟨p.tr ++ [(e : Int)], aft x p.s e⟩ : TN), AV.lst 1 ((p.tr ++ [(e : Int)]).map intR) (.live H1.next))]).map Prod.fst := by
                      rw [extsT_succ, ← hl2, extT, if_neg hz, List.map_append]; rfl
                    rcases hg2 with ⟨hge, hge'⟩ | ⟨t, s, s1, s2, s3, hge, hge', s4, s5⟩
                    · simp only [AV.lst.injEq, true_and] at hge hge'
                      subst hge; subst hge'
                      simp only [show roomA 8 1 = true from rfl, List.length_map, hr24, hr8L, inR hil2, Int.toNat_natCast, f0, f1, f6, f7, f8, f30, f31, hds, Cd.cd83, Tk.t83, base0, base1, base2, base3, Option.isNone_none, Option.isNone_some, Nat.reduceBEq, true_or, or_true, false_or, or_false, Nat.reduceLT, Nat.reduceMod, Nat.reducePow, rmaps, nsucc, List.flatten_cons, List.flatten_nil, Nat.reduceEqDiff, Nat.reduceLeDiff, Nat.reduceAdd, Nat.reduceMul, Nat.reduceSub, ↓reduceIte, reduceCtorEq, decide_true, decide_false]
                      exact ⟨_, by omega, e + 1, _, _, _, rfl, by omega, hext.symm, ⟨q ++ [_], by rw [hq, List.append_assoc]⟩, by simp; omega, hI3, .inr ⟨(H1.next + 1), (H1.next + 1) + 1, by show _ < _ + 1 + 1; omega, by show _ < _ + 1; omega, by omega, hr1 _, hr2 _, by simp, by simp⟩, rfl, rfl, by rw [wrapS (by omega)]⟩
                    · simp only [AV.lst.injEq, true_and] at hge hge'
                      subst hge; subst hge'
                      have e1 : (t = H1.next) = False := by simp; omega
                      have e2 : (s = H1.next) = False := by simp; omega
                      have e3 : (s = t) = False := by simp; omega
                      have e4 : (t = s) = False := by simp; omega
                      have s6 : H1.tip t = some L2.length := (hk.tp t s1).trans s4
                      have s7 : H1.tip s = some L2.length := (hk.tp s s2).trans s5
                      simp only [show roomA 8 1 = true from rfl, List.length_map, e1, e2, e3, e4, s6, s7, hr24, hr8L, inR hil2, Int.toNat_natCast, f0, f1, f6, f7, f8, f30, f31, hds, Cd.cd83, Tk.t83, base0, base1, base2, base3, Option.isNone_none, Option.isNone_some, Nat.reduceBEq, true_or, or_true, false_or, or_false, Nat.reduceLT, Nat.reduceMod, Nat.reducePow, rmaps, nsucc, List.flatten_cons, List.flatten_nil, Nat.reduceEqDiff, Nat.reduceLeDiff, Nat.reduceAdd, Nat.reduceMul, Nat.reduceSub, ↓reduceIte, reduceCtorEq, decide_true, decide_false]
                      exact ⟨_, by omega, e + 1, _, _, _, rfl, by omega, hext.symm, ⟨q ++ [_], by rw [hq, List.append_assoc]⟩, by simp; omega, hI3, .inr ⟨t, s, by first | (show t < H1.next + 1; omega) | (show t < H1.next; omega), by first | (show s < H1.next + 1; omega) | (show s < H1.next; omega), s3, hr1 _, hr2 _, by simp [e4], by simp⟩, rfl, rfl, by rw [wrapS (by omega)]⟩
                  · have hz0 := u4
                    have hz1 := hz0
                    have hnew : AV.lst 1 ((p.tr ++ [(e : Int)]).map intR) (.live t') = .lst 1 (p.tr.map intR ++ [[AV.v (.int .i64 (e : Nat))]]) (.live t') := by first | rfl | (simp [intR]; done) | (rw [z0]; rfl)
                    have hI3 : TrI x (L2 ++ [(⟨p.tr ++ [(e : Int)], aft x p.s e⟩, .lst 1 ((p.tr ++ [(e : Int)]).map intR) (.live t'))]) := by
                      have := hI2.add hx hil2 (e := e) (by omega) (t := t')
                      rw [hp2] at this; exact this
                    have hr1 : ∀ tp : Tip, AV.lst 1 (L2.map enT ++ [[.lst 1 (p.tr.map intR ++ [[AV.v (.int .i64 (e : Nat))]]) (.live t')]]) tp = .lst 1 ((L2 ++ [((⟨p.tr ++ [(e : Int)], aft x p.s e⟩ : TN), AV.lst 1 ((p.tr ++ [(e : Int)]).map intR) (.live t'))]).map enT) tp := fun tp => by
                      rw [List.map_append, ← hnew]; rfl
                    have hr2 : ∀ tp : Tip, AV.lst 1 (L2.map enS2 ++ [[.v (.int .u64 (aft x p.s e : Nat))]]) tp = .lst 1 ((L2 ++ [((⟨p.tr ++ [(e : Int)], aft x p.s e⟩ : TN), AV.lst 1 ((p.tr ++ [(e : Int)]).map intR) (.live t'))]).map enS2) tp := fun tp => by
                      rw [List.map_append]; rfl
                    have hext : extsT x p (L.map Prod.fst) (e + 1) = (L2 ++ [((⟨p.tr ++ [(e : Int)], aft x p.s e⟩ : TN), AV.lst 1 ((p.tr ++ [(e : Int)]).map intR) (.live t'))]).map Prod.fst := by
                      rw [extsT_succ, ← hl2, extT, if_neg hz, List.map_append]; rfl
                    rcases hg2 with ⟨hge, hge'⟩ | ⟨t, s, s1, s2, s3, hge, hge', s4, s5⟩
                    · simp only [AV.lst.injEq, true_and] at hge hge'
                      subst hge; subst hge'
                      simp only [u4, hr8, List.length_map, hr24, hr8L, inR hil2, Int.toNat_natCast, f0, f1, f6, f7, f8, f30, f31, hds, Cd.cd83, Tk.t83, base0, base1, base2, base3, Option.isNone_none, Option.isNone_some, Nat.reduceBEq, true_or, or_true, false_or, or_false, Nat.reduceLT, Nat.reduceMod, Nat.reducePow, rmaps, nsucc, List.flatten_cons, List.flatten_nil, Nat.reduceEqDiff, Nat.reduceLeDiff, Nat.reduceAdd, Nat.reduceMul, Nat.reduceSub, ↓reduceIte, reduceCtorEq, decide_true, decide_false]
                      exact ⟨_, by omega, e + 1, _, _, _, rfl, by omega, hext.symm, ⟨q ++ [_], by rw [hq, List.append_assoc]⟩, by simp; omega, hI3, .inr ⟨H1.next, H1.next + 1, by show _ < _ + 1 + 1; omega, by show _ < _ + 1; omega, by omega, hr1 _, hr2 _, by simp, by simp⟩, rfl, rfl, by rw [wrapS (by omega)]⟩
                    · simp only [AV.lst.injEq, true_and] at hge hge'
                      subst hge; subst hge'
                      have e1 : (t = t') = False := by simp; omega
                      have e2 : (s = t') = False := by simp; omega
                      have e3 : (s = t) = False := by simp; omega
                      have e4 : (t = s) = False := by simp; omega
                      have s6 : H1.tip t = some L2.length := (hk.tp t s1).trans s4
                      have s7 : H1.tip s = some L2.length := (hk.tp s s2).trans s5
                      simp only [u4, hr8, List.length_map, e1, e2, e3, e4, s6, s7, hr24, hr8L, inR hil2, Int.toNat_natCast, f0, f1, f6, f7, f8, f30, f31, hds, Cd.cd83, Tk.t83, base0, base1, base2, base3, Option.isNone_none, Option.isNone_some, Nat.reduceBEq, true_or, or_true, false_or, or_false, Nat.reduceLT, Nat.reduceMod, Nat.reducePow, rmaps, nsucc, List.flatten_cons, List.flatten_nil, Nat.reduceEqDiff, Nat.reduceLeDiff, Nat.reduceAdd, Nat.reduceMul, Nat.reduceSub, ↓reduceIte, reduceCtorEq, decide_true, decide_false]
                      exact ⟨_, by omega, e + 1, _, _, _, rfl, by omega, hext.symm, ⟨q ++ [_], by rw [hq, List.append_assoc]⟩, by simp; omega, hI3, .inr ⟨t, s, by first | (show t < H1.next + 1; omega) | (show t < H1.next; omega), by first | (show s < H1.next + 1; omega) | (show s < H1.next; omega), s3, hr1 _, hr2 _, by simp [e4], by simp⟩, rfl, rfl, by rw [wrapS (by omega)]⟩
            · have he' : e = silc x + 1 := by omega
              subst he'
              simp only [ltF hle, f0, f1, f6, f7, f8, f30, f31, hds, Cd.cd83, Tk.t83, base0, base1, base2, base3, Option.isNone_none, Option.isNone_some, Nat.reduceBEq, true_or, or_true, false_or, or_false, Nat.reduceLT, Nat.reduceMod, Nat.reducePow, rmaps, nsucc, List.flatten_cons, List.flatten_nil, Nat.reduceEqDiff, Nat.reduceLeDiff, Nat.reduceAdd, Nat.reduceMul, Nat.reduceSub, ↓reduceIte, reduceCtorEq, decide_true, decide_false]
              exact ⟨_, by omega, i + 1, _, _, L2, rfl, by omega, h15b, hI2, by rw [hl2]; exact hstep.symm, hg2, rfl, rfl, by rw [wrapS (by omega)]⟩
    · obtain ⟨ta, tb, rfl, rfl⟩ := hg.lst
      simp only [List.length_map, ltF hlt, f0, f1, f6, f7, f8, hds, Cd.cd83, Tk.t83, base0, base1, base2, base3, Option.isNone_none, Option.isNone_some, Nat.reduceBEq, true_or, or_true, false_or, or_false, Nat.reduceLT, Nat.reduceMod, Nat.reducePow, rmaps, nsucc, List.flatten_cons, List.flatten_nil, Nat.reduceEqDiff, Nat.reduceLeDiff, Nat.reduceAdd, Nat.reduceMul, Nat.reduceSub, ↓reduceIte, reduceCtorEq, decide_true, decide_false]
      have hdn := tgo_done (x := x) (d := d) (l := L.map Prod.fst) (i := i) (by simp; omega) (by simpa using hlt) (by omega)
      rw [hS] at hdn
      refine ⟨_, .tup [tracesV (L.map Prod.fst), .v (.bool true)], rfl, Views.tup (Views.cons (viewTr hI.T) (Views.cons (FZ.v _).view Views.nil)), FZ.tup (FZs.two (FZ.tracesV _) (FZ.v _)), ?_⟩
      rw [hdn]; rfl
end Go.Proofs.YtchpcjmgifnmdaaDoor

/- Walks: the reference's traces. -/
namespace Go.Proofs.YtchpcjmgifnmdaaDoor
open Go Go.Proofs.YtchpcjmgifnmdaaDoor.Ab
set_option maxRecDepth 100000
set_option linter.unusedSimpArgs false

theorem FCall.goA' {P : Program} {m : FuncId} {args args' : List AV} {H : AH} {mu : List Nat} {Kt : Kont} {fm : AF} {dst : Option Nat} {ds : List DOp} {f : AF} {pd : List (Nat × Nat × ABlk)} {rd : List Nat} {v : AV} (h : FCall P m args (· = v)) (hz : FZs args) (hv : ∀ g xs, VRs g args' xs → VRs g args xs)
    (h' : dops P mu Kt fm ds (f.put dst v) H pd rd) : ACall P m args' H (dcallK P mu Kt fm dst ds f pd rd) :=
  ACall.args (h.go' hz h') hv
theorem FCall.goAQ {P : Program} {m : FuncId} {args args' : List AV} {H : AH} {mu : List Nat} {Kt : Kont} {fm : AF} {dst : Option Nat} {ds : List DOp} {f : AF} {pd : List (Nat × Nat × ABlk)} {rd : List Nat} {v : AV} (h : FCall P m args (· = v)) (hz : FZs args) (hv : ∀ g xs, VRs g args' xs → VRs g args xs)
    (h' : dops P mu Kt fm ds (f.put dst v) H pd rd) : ACall P m args' H (dcallQ P mu Kt fm dst ds f H pd rd) :=
  ACall.args (h.goQ hz h') hv
theorem TrOk.vrs2 {a b : AV} {tr : List Int} (h : TrOk a tr) : ∀ g xs, VRs g [b, a] xs → VRs g [b, ints tr] xs := fun g xs hx => ⟨hx.1, fun j hj => by
  match j, hj with
  | 0, _ => exact hx.2 0 (by simp)
  | 1, _ =>
    have h0 := hx.2 1 (by simp)
    simp only [List.getD_cons_zero, List.getD_cons_succ] at h0 ⊢
    rcases h with ⟨rfl, rfl⟩ | ⟨tip, rfl⟩
    · have := h0.of_v
      rw [this]
      exact .lst (a := ⟨0, 0, .none⟩) (xs := fun _ _ => undef) rfl (Nat.le_refl _) (fun _ => rfl) (by simp) (by simp) (by intro i j hi; simp at hi) (by intro i j hi; simp at hi) trivial
    · exact vr_unk h0⟩
def TrR (x : Re) (d : Int) (v : AV) : Prop := match trR x d with
  | some l => v = .tup [tracesV l, .v (.bool true)]
  | none => ∃ l, v = .tup [tracesV l, .v (.bool false)]
set_option maxHeartbeats 8000000 in
theorem rtraces37 (x : Re) (hx : Ok x) (d : Int) : FCall Tryd.prog 37 [reV x, .v (.int .i64 d)] (TrR x d) := by
  have hsc := silc_le hx
  simp only [reV, reL, mvsV]
  refine ACall.enter [] Cd.fn37 (by simp) ?_
  simp only [Cd.cd37, Tk.t37, base0, base1, base2, base3, Option.isNone_none, Option.isNone_some, Nat.reduceBEq, true_or, or_true, false_or, or_false, Nat.reduceLT, Nat.reduceMod, Nat.reducePow, rmaps, nsucc, List.flatten_cons, List.flatten_nil, Nat.reduceEqDiff, Nat.reduceLeDiff, Nat.reduceAdd, Nat.reduceMul, Nat.reduceSub, ↓reduceIte, reduceCtorEq, decide_true, decide_false]
  refine LWP.loop [] (fun m f H' => ∃ i a L, m = 1502 - i ∧ (i ≤ List.length (L : List (TN × AV))) ∧ (i ≤ 1500) ∧ (TrI x L) ∧ (tgo x d (1502 - i) (L.map Prod.fst) i = trR x d) ∧ (GrowG enT 1 H' a L) ∧ f.t 1 = .v (.int .i64 d) ∧ f.t 2 = .box [.v (.int .i64 x.st), .v (.int .i64 x.s0), .v (.int .i64 x.inp), .v (.int .i64 x.out), .lst 4 (x.mv.map mvR) .unk] ∧ f.t 6 = a ∧ f.t 7 = .v (.int .i64 (i : Nat)) ∧ f.ds = [] ∧ True) ?_ ?_ (m := 1502 - (0))
  · exact ⟨0, .lst 1 ([(⟨[], fstM x⟩, nilS)].map enT) .full, [(⟨[], fstM x⟩, nilS)], rfl, (by omega), (by omega), (TrI.start hx), (rfl), (.inl rfl), rfl, rfl, rfl, rfl, rfl, trivial⟩
  · rintro m f H' ⟨i, a, L, rfl, hi, hi2, hI, hS, hg, f1, f2, f6, f7, hds, hH⟩
    obtain ⟨ta, rfl⟩ := hg.lst
    by_cases h15 : 1500 < L.length
    · have hov : trR x d = none := by rw [← hS]; exact tgo_over (by simpa using h15) _
      have fin : ∀ H2 : AH, ∃ v v', AOut.ret (.tup [.lst 1 (L.map enT) ta, .v (.bool false)]) = .ret v ∧ View H2 v v' ∧ FZ v' ∧ TrR x d v' := fun H2 => by
        refine ⟨_, .tup [tracesV (L.map Prod.fst), .v (.bool false)], rfl, Views.tup (Views.cons (viewTr hI.T) (Views.cons (FZ.v _).view Views.nil)), FZ.tup (FZs.two (FZ.tracesV _) (FZ.v _)), ?_⟩
        unfold TrR; rw [hov]; exact ⟨_, rfl⟩
      by_cases hlt : i < L.length
      · simp only [List.length_map, ltT hlt, show decide (((L.length : Nat) : Int) ≤ 1500) = false from decide_eq_false (by omega), f1, f2, f6, f7, hds, Cd.cd37, Tk.t37, base0, base1, base2, base3, Option.isNone_none, Option.isNone_some, Nat.reduceBEq, true_or, or_true, false_or, or_false, Nat.reduceLT, Nat.reduceMod, Nat.reducePow, rmaps, nsucc, List.flatten_cons, List.flatten_nil, Nat.reduceEqDiff, Nat.reduceLeDiff, Nat.reduceAdd, Nat.reduceMul, Nat.reduceSub, ↓reduceIte, reduceCtorEq, decide_true, decide_false]
        exact fin _
      · simp only [List.length_map, ltF hlt, show decide (((L.length : Nat) : Int) ≤ 1500) = false from decide_eq_false (by omega), f1, f2, f6, f7, hds, Cd.cd37, Tk.t37, base0, base1, base2, base3, Option.isNone_none, Option.isNone_some, Nat.reduceBEq, true_or, or_true, false_or, or_false, Nat.reduceLT, Nat.reduceMod, Nat.reducePow, rmaps, nsucc, List.flatten_cons, List.flatten_nil, Nat.reduceEqDiff, Nat.reduceLeDiff, Nat.reduceAdd, Nat.reduceMul, Nat.reduceSub, ↓reduceIte, reduceCtorEq, decide_true, decide_false]
        exact fin _
    · by_cases hlt : i < L.length
      · have hmem := getD_mem (l := L) hlt
        have hTr := hI.T _ hmem
        have hSr := hI.S _ hmem
        have hEr := hI.E _ hmem
        have hBr := hI.B i hlt
        have hfst := fst_getT L hlt
        have hgm := getDmap enT L i hlt
        have hstep := tgo_step (x := x) (d := d) (l := L.map Prod.fst) (i := i) (by simp; omega) (by simpa using hlt)
        rw [hS] at hstep
        unfold nxtT at hstep
        rw [hfst] at hstep
        obtain ⟨⟨p, ap⟩, hpe⟩ : ∃ q, L.getD i default = q := ⟨_, rfl⟩
        rw [hpe] at hmem hTr hSr hEr hBr hfst hgm hstep
        simp only at hTr hSr hEr hBr hfst hgm hstep
        rcases hTr with ⟨rfl, htr0⟩ | ⟨h0, tip, rfl⟩
        · have hlen0 : p.tr.length = 0 := by rw [htr0]; rfl
          by_cases hd : (p.tr.length : Int) = d
          · rw [if_pos hd] at hstep
            simp only [List.length_map, ltT hlt, show decide (((L.length : Nat) : Int) ≤ 1500) = true from decide_eq_true (by omega), inR hlt, Int.toNat_natCast, hgm, enT, nilS, show (((0 : Nat) : Int) == d) = true from beq_iff_eq.mpr (by rw [← hlen0]; exact hd), show ((0 : Int) == d) = true from beq_iff_eq.mpr (by rw [← hd, hlen0]; rfl), f1, f2, f6, f7, hds, Cd.cd37, Tk.t37, base0, base1, base2, base3, Option.isNone_none, Option.isNone_some, Nat.reduceBEq, true_or, or_true, false_or, or_false, Nat.reduceLT, Nat.reduceMod, Nat.reducePow, rmaps, nsucc, List.flatten_cons, List.flatten_nil, Nat.reduceEqDiff, Nat.reduceLeDiff, Nat.reduceAdd, Nat.reduceMul, Nat.reduceSub, ↓reduceIte, reduceCtorEq, decide_true, decide_false]
            exact ⟨_, by omega, i + 1, _, L, rfl, by omega, by omega, hI, hstep.symm, hg, rfl, by rw [wrapS (by omega)]⟩
          · rw [if_neg hd] at hstep
            simp only [List.length_map, ltT hlt, show decide (((L.length : Nat) : Int) ≤ 1500) = true from decide_eq_true (by omega), inR hlt, Int.toNat_natCast, hgm, enT, nilS, show (((0 : Nat) : Int) == d) = false from beq_eq_false_iff_ne.mpr (by rw [← hlen0]; exact hd), show ((0 : Int) == d) = false from beq_eq_false_iff_ne.mpr (by intro e; exact hd (by rw [hlen0]; exact e)), f1, f2, f6, f7, hds, Cd.cd37, Tk.t37, base0, base1, base2, base3, Option.isNone_none, Option.isNone_some, Nat.reduceBEq, true_or, or_true, false_or, or_false, Nat.reduceLT, Nat.reduceMod, Nat.reducePow, rmaps, nsucc, List.flatten_cons, List.flatten_nil, Nat.reduceEqDiff, Nat.reduceLeDiff, Nat.reduceAdd, Nat.reduceMul, Nat.reduceSub, ↓reduceIte, reduceCtorEq, decide_true, decide_false]
            first | refine FCall.goA' (follow31 x hx p.tr (by omega) hEr) (FZs.two (FZ.reV x) (FZ.ints _)) (TrO.ok (.inl ⟨rfl, htr0⟩)).vrs2 ?_ | refine FCall.goAQ (follow31 x hx p.tr (by omega) hEr) (FZs.two (FZ.reV x) (FZ.ints _)) (TrO.ok (.inl ⟨rfl, htr0⟩)).vrs2 ?_
            rw [← hSr.1]
            simp only [f1, f2, f6, f7, hds, Cd.cd37, Tk.t37, base0, base1, base2, base3, Option.isNone_none, Option.isNone_some, Nat.reduceBEq, true_or, or_true, false_or, or_false, Nat.reduceLT, Nat.reduceMod, Nat.reducePow, rmaps, nsucc, List.flatten_cons, List.flatten_nil, Nat.reduceEqDiff, Nat.reduceLeDiff, Nat.reduceAdd, Nat.reduceMul, Nat.reduceSub, ↓reduceIte, reduceCtorEq, decide_true, decide_false]
            refine LWP.loop [] (fun m f H' => ∃ e a2 L2, m = silc x + 1 - e ∧ (e ≤ silc x + 1) ∧ (List.map Prod.fst (L2 : List (TN × AV)) = extsT x p (L.map Prod.fst) e) ∧ (∃ q, L2 = L ++ q) ∧ (TrI x L2) ∧ (GrowG enT 1 H' a2 L2) ∧ (List.length (L2 : List (TN × AV)) ≤ L.length + e) ∧ f.t 1 = .v (.int .i64 d) ∧ f.t 2 = .box [.v (.int .i64 x.st), .v (.int .i64 x.s0), .v (.int .i64 x.inp), .v (.int .i64 x.out), .lst 4 (x.mv.map mvR) .unk] ∧ f.t 6 = a2 ∧ f.t 7 = .v (.int .i64 (i : Nat)) ∧ f.t 8 = setV p.s ∧ f.t 9 = .v (.int .i64 (e : Nat)) ∧ f.ds = [] ∧ True) ?_ ?_ (m := silc x + 1 - (0))
            · exact ⟨0, .lst 1 (L.map enT) ta, L, rfl, (by omega), (rfl), (⟨[], by simp⟩), (hI), (hg), (by omega), (by first | rfl | exact f1), (by first | rfl | exact f2), (by first | rfl | exact f6), (by first | rfl | exact f7), (by first | rfl | exact f8), (by first | rfl | exact f9), rfl, trivial⟩
            · rintro m f H' ⟨e, a2, L2, rfl, he, hl2, hpre, hI2, hg2, hb2, f1, f2, f6, f7, f8, f9, hds, hH⟩
              obtain ⟨q, hq⟩ := hpre
              obtain ⟨ta2, rfl⟩ := hg2.lst
              have hil2 : i < L2.length := by rw [hq, List.length_append]; omega
              have hp2 : L2.getD i default = (p, nilS) := by rw [hq, getD_append_left _ _ _ hlt, hpe]
              have hgT := getDmap enT L2 i hil2
              rw [hp2] at hgT
              simp only [f1, f2, f6, f7, f8, f9, hds, Cd.cd37, Tk.t37, base0, base1, base2, base3, Option.isNone_none, Option.isNone_some, Nat.reduceBEq, true_or, or_true, false_or, or_false, Nat.reduceLT, Nat.reduceMod, Nat.reducePow, rmaps, nsucc, List.flatten_cons, List.flatten_nil, Nat.reduceEqDiff, Nat.reduceLeDiff, Nat.reduceAdd, Nat.reduceMul, Nat.reduceSub, ↓reduceIte, reduceCtorEq, decide_true, decide_false]
              first | refine FCall.go (silence41 x) (FZs.one (FZ.reV x)) ?_ | refine FCall.go' (silence41 x) (FZs.one (FZ.reV x)) ?_ | refine FCall.goQ (silence41 x) (FZs.one (FZ.reV x)) ?_
              by_cases hle : e ≤ silc x
              · simp only [silc_eq hx, show decide (((e : Nat) : Int) ≤ ((silc x : Nat) : Int)) = true from decide_eq_true (by omega), f1, f2, f6, f7, f8, f9, hds, Cd.cd37, Tk.t37, base0, base1, base2, base3, Option.isNone_none, Option.isNone_some, Nat.reduceBEq, true_or, or_true, false_or, or_false, Nat.reduceLT, Nat.reduceMod, Nat.reducePow, rmaps, nsucc, List.flatten_cons, List.flatten_nil, Nat.reduceEqDiff, Nat.reduceLeDiff, Nat.reduceAdd, Nat.reduceMul, Nat.reduceSub, ↓reduceIte, reduceCtorEq, decide_true, decide_false]
                first | refine FCall.go (after64 x hx p.s e hSr.2 hle) (FZs.three (FZ.reV x) (FZ.setV _) (FZ.v _)) ?_ | refine FCall.go' (after64 x hx p.s e hSr.2 hle) (FZs.three (FZ.reV x) (FZ.setV _) (FZ.v _)) ?_ | refine FCall.goQ (after64 x hx p.s e hSr.2 hle) (FZs.three (FZ.reV x) (FZ.setV _) (FZ.v _)) ?_
                by_cases hz : aft x p.s e = 0
                · simp only [setV, ints, List.length_map, bitsI_len, setV_pos hx (aft_lt hx hSr.2 e), show decide (aft x p.s e ≠ 0) = false from decide_eq_false (by simpa using hz), f1, f2, f6, f7, f8, f9, hds, Cd.cd37, Tk.t37, base0, base1, base2, base3, Option.isNone_none, Option.isNone_some, Nat.reduceBEq, true_or, or_true, false_or, or_false, Nat.reduceLT, Nat.reduceMod, Nat.reducePow, rmaps, nsucc, List.flatten_cons, List.flatten_nil, Nat.reduceEqDiff, Nat.reduceLeDiff, Nat.reduceAdd, Nat.reduceMul, Nat.reduceSub, ↓reduceIte, reduceCtorEq, decide_true, decide_false]
                  exact ⟨_, by omega, e + 1, _, L2, rfl, by omega, by rw [extsT_succ, ← hl2, extT, if_pos hz], ⟨q, hq⟩, hI2, hg2, by omega, rfl, by rw [wrapS (by omega)]⟩
                · simp only [setV, ints, List.length_map, bitsI_len, setV_pos hx (aft_lt hx hSr.2 e), decide_eq_true hz, inR hil2, Int.toNat_natCast, hgT, enT, f1, f2, f6, f7, f8, f9, hds, Cd.cd37, Tk.t37, base0, base1, base2, base3, Option.isNone_none, Option.isNone_some, Nat.reduceBEq, true_or, or_true, false_or, or_false, Nat.reduceLT, Nat.reduceMod, Nat.reducePow, rmaps, nsucc, List.flatten_cons, List.flatten_nil, Nat.reduceEqDiff, Nat.reduceLeDiff, Nat.reduceAdd, Nat.reduceMul, Nat.reduceSub, ↓reduceIte, reduceCtorEq, decide_true, decide_false]
                  refine GrowN.go (ACall.args (ownInts30 p.tr _ (by omega)) (TrO.ok (.inl ⟨rfl, htr0⟩)).vrs) fun v H1 hgv hk => ?_
                  have hknx := hk.nx
                  have hr8 : roomA 8 (p.tr.length + 1) = true := room_of (by omega) (by omega)
                  have hr24 : roomA 24 (L2.length + 1) = true := room_of (by omega) (by omega)
                  rcases hgv with ⟨z0, rfl | rfl⟩ | ⟨t', u1, u2, rfl, u4⟩
                  · have hz0 := z0
                    have hnew : AV.lst 1 ((p.tr ++ [(e : Int)]).map intR) (.live H1.next) = .lst 1 ([[AV.v (.int .i64 (e : Nat))]]) (.live H1.next) := by first | rfl | (simp [intR]; done) | (rw [z0]; rfl)
                    have hI3 : TrI x (L2 ++ [(⟨p.tr ++ [(e : Int)], aft x p.s e⟩, .lst 1 ((p.tr ++ [(e : Int)]).map intR) (.live H1.next))]) := by
                      have := hI2.add hx hil2 (e := e) (by omega) (t := H1.next)
                      rw [hp2] at this; exact this
                    have hr1 : ∀ tp : Tip, AV.lst 1 (L2.map enT ++ [[.lst 1 ([[AV.v (.int .i64 (e : Nat))]]) (.live H1.next)]]) tp = .lst 1 ((L2 ++ [((⟨p.tr ++ [(e : Int)], aft x p.s e⟩ : TN), AV.lst 1 ((p.tr ++ [(e : Int)]).map intR) (.live H1.next))]).map enT) tp := fun tp => by
                      rw [List.map_append, ← hnew]; rfl
                    have hext : extsT x p (L.map Prod.fst) (e + 1) = (L2 ++ [((⟨p.tr ++ [(e : Int)], aft x p.s e⟩ : TN), AV.lst 1 ((p.tr ++ [(e : Int)]).map intR) (.live H1.next))]).map Prod.fst := by
                      rw [extsT_succ, ← hl2, extT, if_neg hz, List.map_append]; rfl
                    rcases hg2 with hge | ⟨t, s1, hge, s4⟩
                    · simp only [AV.lst.injEq, true_and] at hge
                      subst hge
                      simp only [nilS, show roomA 8 1 = true from rfl, List.length_map, hr24, inR hil2, Int.toNat_natCast, f1, f2, f6, f7, f8, f9, hds, Cd.cd37, Tk.t37, base0, base1, base2, base3, Option.isNone_none, Option.isNone_some, Nat.reduceBEq, true_or, or_true, false_or, or_false, Nat.reduceLT, Nat.reduceMod, Nat.reducePow, rmaps, nsucc, List.flatten_cons, List.flatten_nil, Nat.reduceEqDiff, Nat.reduceLeDiff, Nat.reduceAdd, Nat.reduceMul, Nat.reduceSub, ↓reduceIte, reduceCtorEq, decide_true, decide_false]
                      exact ⟨_, by omega, e + 1, _, _, rfl, by omega, hext.symm, ⟨q ++ [_], by rw [hq, List.append_assoc]⟩, hI3, .inr ⟨(H1.next + 1), by show _ < _ + 1; omega, hr1 _, by simp⟩, by simp; omega, rfl, rfl, by rw [wrapS (by omega)]⟩
                    · simp only [AV.lst.injEq, true_and] at hge
                      subst hge
                      have e1 : (t = H1.next) = False := by simp; omega
                      have s6 : H1.tip t = some L2.length := (hk.tp t s1).trans s4
                      simp only [nilS, show roomA 8 1 = true from rfl, List.length_map, e1, s6, hr24, inR hil2, Int.toNat_natCast, f1, f2, f6, f7, f8, f9, hds, Cd.cd37, Tk.t37, base0, base1, base2, base3, Option.isNone_none, Option.isNone_some, Nat.reduceBEq, true_or, or_true, false_or, or_false, Nat.reduceLT, Nat.reduceMod, Nat.reducePow, rmaps, nsucc, List.flatten_cons, List.flatten_nil, Nat.reduceEqDiff, Nat.reduceLeDiff, Nat.reduceAdd, Nat.reduceMul, Nat.reduceSub, ↓reduceIte, reduceCtorEq, decide_true, decide_false]
                      exact ⟨_, by omega, e + 1, _, _, rfl, by omega, hext.symm, ⟨q ++ [_], by rw [hq, List.append_assoc]⟩, hI3, .inr ⟨t, by first | (show t < H1.next + 1; omega) | (show t < H1.next; omega), hr1 _, by simp⟩, by simp; omega, rfl, rfl, by rw [wrapS (by omega)]⟩
                  · have hz0 := z0
                    have hnew : AV.lst 1 ((p.tr ++ [(e : Int)]).map intR) (.live H1.next) = .lst 1 ([[AV.v (.int .i64 (e : Nat))]]) (.live H1.next) := by first | rfl | (simp [intR]; done) | (rw [z0]; rfl)
                    have hI3 : TrI x (L2 ++ [(⟨p.tr ++ [(e : Int)], aft x p.s e⟩, .lst 1 ((p.tr ++ [(e : Int)]).map intR) (.live H1.next))]) := by
                      have := hI2.add hx hil2 (e := e) (by omega) (t := H1.next)
                      rw [hp2] at this; exact this
                    have hr1 : ∀ tp : Tip, AV.lst 1 (L2.map enT ++ [[.lst 1 ([[AV.v (.int .i64 (e : Nat))]]) (.live H1.next)]]) tp = .lst 1 ((L2 ++ [((⟨p.tr ++ [(e : Int)], aft x p.s e⟩ : TN), AV.lst 1 ((p.tr ++ [(e : Int)]).map intR) (.live H1.next))]).map enT) tp := fun tp => by
                      rw [List.map_append, ← hnew]; rfl
                    have hext : extsT x p (L.map Prod.fst) (e + 1) = (L2 ++ [((⟨p.tr ++ [(e : Int)], aft x p.s e⟩ : TN), AV.lst 1 ((p.tr ++ [(e : Int)]).map intR) (.live H1.next))]).map Prod.fst := by
                      rw [extsT_succ, ← hl2, extT, if_neg hz, List.map_append]; rfl
                    rcases hg2 with hge | ⟨t, s1, hge, s4⟩
                    · simp only [AV.lst.injEq, true_and] at hge
                      subst hge
                      simp only [show roomA 8 1 = true from rfl, List.length_map, hr24, inR hil2, Int.toNat_natCast, f1, f2, f6, f7, f8, f9, hds, Cd.cd37, Tk.t37, base0, base1, base2, base3, Option.isNone_none, Option.isNone_some, Nat.reduceBEq, true_or, or_true, false_or, or_false, Nat.reduceLT, Nat.reduceMod, Nat.reducePow, rmaps, nsucc, List.flatten_cons, List.flatten_nil, Nat.reduceEqDiff, Nat.reduceLeDiff, Nat.reduceAdd, Nat.reduceMul, Nat.reduceSub, ↓reduceIte, reduceCtorEq, decide_true, decide_false]
                      exact ⟨_, by omega, e + 1, _, _, rfl, by omega, hext.symm, ⟨q ++ [_], by rw [hq, List.append_assoc]⟩, hI3, .inr ⟨(H1.next + 1), by show _ < _ + 1; omega, hr1 _, by simp⟩, by simp; omega, rfl, rfl, by rw [wrapS (by omega)]⟩
                    · simp only [AV.lst.injEq, true_and] at hge
                      subst hge
                      have e1 : (t = H1.next) = False := by simp; omega
                      have s6 : H1.tip t = some L2.length := (hk.tp t s1).trans s4
                      simp only [show roomA 8 1 = true from rfl, List.length_map, e1, s6, hr24, inR hil2, Int.toNat_natCast, f1, f2, f6, f7, f8, f9, hds, Cd.cd37, Tk.t37, base0, base1, base2, base3, Option.isNone_none, Option.isNone_some, Nat.reduceBEq, true_or, or_true, false_or, or_false, Nat.reduceLT, Nat.reduceMod, Nat.reducePow, rmaps, nsucc, List.flatten_cons, List.flatten_nil, Nat.reduceEqDiff, Nat.reduceLeDiff, Nat.reduceAdd, Nat.reduceMul, Nat.reduceSub, ↓reduceIte, reduceCtorEq, decide_true, decide_false]
                      exact ⟨_, by omega, e + 1, _, _, rfl, by omega, hext.symm, ⟨q ++ [_], by rw [hq, List.append_assoc]⟩, hI3, .inr ⟨t, by first | (show t < H1.next + 1; omega) | (show t < H1.next; omega), hr1 _, by simp⟩, by simp; omega, rfl, rfl, by rw [wrapS (by omega)]⟩
                  · have hz0 := u4
                    have hnew : AV.lst 1 ((p.tr ++ [(e : Int)]).map intR) (.live t') = .lst 1 (p.tr.map intR ++ [[AV.v (.int .i64 (e : Nat))]]) (.live t') := by first | rfl | (simp [intR]; done) | (rw [z0]; rfl)
                    have hI3 : TrI x (L2 ++ [(⟨p.tr ++ [(e : Int)], aft x p.s e⟩, .lst 1 ((p.tr ++ [(e : Int)]).map intR) (.live t'))]) := by
                      have := hI2.add hx hil2 (e := e) (by omega) (t := t')
                      rw [hp2] at this; exact this
                    have hr1 : ∀ tp : Tip, AV.lst 1 (L2.map enT ++ [[.lst 1 (p.tr.map intR ++ [[AV.v (.int .i64 (e : Nat))]]) (.live t')]]) tp = .lst 1 ((L2 ++ [((⟨p.tr ++ [(e : Int)], aft x p.s e⟩ : TN), AV.lst 1 ((p.tr ++ [(e : Int)]).map intR) (.live t'))]).map enT) tp := fun tp => by
                      rw [List.map_append, ← hnew]; rfl
                    have hext : extsT x p (L.map Prod.fst) (e + 1) = (L2 ++ [((⟨p.tr ++ [(e : Int)], aft x p.s e⟩ : TN), AV.lst 1 ((p.tr ++ [(e : Int)]).map intR) (.live t'))]).map Prod.fst := by
                      rw [extsT_succ, ← hl2, extT, if_neg hz, List.map_append]; rfl
                    rcases hg2 with hge | ⟨t, s1, hge, s4⟩
                    · simp only [AV.lst.injEq, true_and] at hge
                      subst hge
                      simp only [u4, hr8, List.length_map, hr24, inR hil2, Int.toNat_natCast, f1, f2, f6, f7, f8, f9, hds, Cd.cd37, Tk.t37, base0, base1, base2, base3, Option.isNone_none, Option.isNone_some, Nat.reduceBEq, true_or, or_true, false_or, or_false, Nat.reduceLT, Nat.reduceMod, Nat.reducePow, rmaps, nsucc, List.flatten_cons, List.flatten_nil, Nat.reduceEqDiff, Nat.reduceLeDiff, Nat.reduceAdd, Nat.reduceMul, Nat.reduceSub, ↓reduceIte, reduceCtorEq, decide_true, decide_false]
                      exact ⟨_, by omega, e + 1, _, _, rfl, by omega, hext.symm, ⟨q ++ [_], by rw [hq, List.append_assoc]⟩, hI3, .inr ⟨H1.next, by show _ < _ + 1; omega, hr1 _, by simp⟩, by simp; omega, rfl, rfl, by rw [wrapS (by omega)]⟩
                    · simp only [AV.lst.injEq, true_and] at hge
                      subst hge
                      have e1 : (t = t') = False := by simp; omega
                      have s6 : H1.tip t = some L2.length := (hk.tp t s1).trans s4
                      simp only [u4, hr8, List.length_map, e1, s6, hr24, inR hil2, Int.toNat_natCast, f1, f2, f6, f7, f8, f9, hds, Cd.cd37, Tk.t37, base0, base1, base2, base3, Option.isNone_none, Option.isNone_some, Nat.reduceBEq, true_or, or_true, false_or, or_false, Nat.reduceLT, Nat.reduceMod, Nat.reducePow, rmaps, nsucc, List.flatten_cons, List.flatten_nil, Nat.reduceEqDiff, Nat.reduceLeDiff, Nat.reduceAdd, Nat.reduceMul, Nat.reduceSub, ↓reduceIte, reduceCtorEq, decide_true, decide_false]
                      exact ⟨_, by omega, e + 1, _, _, rfl, by omega, hext.symm, ⟨q ++ [_], by rw [hq, List.append_assoc]⟩, hI3, .inr ⟨t, by first | (show t < H1.next + 1; omega) | (show t < H1.next; omega), hr1 _, by simp⟩, by simp; omega, rfl, rfl, by rw [wrapS (by omega)]⟩
              · have he' : e = silc x + 1 := by omega
                subst he'
                simp only [silc_eq hx, show decide (((silc x + 1 : Nat) : Int) ≤ ((silc x : Nat) : Int)) = false from decide_eq_false (by omega), f1, f2, f6, f7, f8, f9, hds, Cd.cd37, Tk.t37, base0, base1, base2, base3, Option.isNone_none, Option.isNone_some, Nat.reduceBEq, true_or, or_true, false_or, or_false, Nat.reduceLT, Nat.reduceMod, Nat.reducePow, rmaps, nsucc, List.flatten_cons, List.flatten_nil, Nat.reduceEqDiff, Nat.reduceLeDiff, Nat.reduceAdd, Nat.reduceMul, Nat.reduceSub, ↓reduceIte, reduceCtorEq, decide_true, decide_false]
                exact ⟨_, by omega, i + 1, _, L2, rfl, by omega, by omega, hI2, by rw [hl2]; exact hstep.symm, hg2, rfl, by rw [wrapS (by omega)]⟩
        · have hlen0 := h0
          by_cases hd : (p.tr.length : Int) = d
          · rw [if_pos hd] at hstep
            simp only [List.length_map, ltT hlt, show decide (((L.length : Nat) : Int) ≤ 1500) = true from decide_eq_true (by omega), inR hlt, Int.toNat_natCast, hgm, enT, show (((p.tr.length : Nat) : Int) == d) = true from beq_iff_eq.mpr hd, f1, f2, f6, f7, hds, Cd.cd37, Tk.t37, base0, base1, base2, base3, Option.isNone_none, Option.isNone_some, Nat.reduceBEq, true_or, or_true, false_or, or_false, Nat.reduceLT, Nat.reduceMod, Nat.reducePow, rmaps, nsucc, List.flatten_cons, List.flatten_nil, Nat.reduceEqDiff, Nat.reduceLeDiff, Nat.reduceAdd, Nat.reduceMul, Nat.reduceSub, ↓reduceIte, reduceCtorEq, decide_true, decide_false]
            exact ⟨_, by omega, i + 1, _, L, rfl, by omega, by omega, hI, hstep.symm, hg, rfl, by rw [wrapS (by omega)]⟩
          · rw [if_neg hd] at hstep
            simp only [List.length_map, ltT hlt, show decide (((L.length : Nat) : Int) ≤ 1500) = true from decide_eq_true (by omega), inR hlt, Int.toNat_natCast, hgm, enT, show (((p.tr.length : Nat) : Int) == d) = false from beq_eq_false_iff_ne.mpr hd, f1, f2, f6, f7, hds, Cd.cd37, Tk.t37, base0, base1, base2, base3, Option.isNone_none, Option.isNone_some, Nat.reduceBEq, true_or, or_true, false_or, or_false, Nat.reduceLT, Nat.reduceMod, Nat.reducePow, rmaps, nsucc, List.flatten_cons, List.flatten_nil, Nat.reduceEqDiff, Nat.reduceLeDiff, Nat.reduceAdd, Nat.reduceMul, Nat.reduceSub, ↓reduceIte, reduceCtorEq, decide_true, decide_false]
            first | refine FCall.goA' (follow31 x hx p.tr (by omega) hEr) (FZs.two (FZ.reV x) (FZ.ints _)) (TrO.ok (.inr ⟨h0, _, rfl⟩)).vrs2 ?_ | refine FCall.goAQ (follow31 x hx p.tr (by omega) hEr) (FZs.two (FZ.reV x) (FZ.ints _)) (TrO.ok (.inr ⟨h0, _, rfl⟩)).vrs2 ?_
            rw [← hSr.1]
            simp only [f1, f2, f6, f7, hds, Cd.cd37, Tk.t37, base0, base1, base2, base3, Option.isNone_none, Option.isNone_some, Nat.reduceBEq, true_or, or_true, false_or, or_false, Nat.reduceLT, Nat.reduceMod, Nat.reducePow, rmaps, nsucc, List.flatten_cons, List.flatten_nil, Nat.reduceEqDiff, Nat.reduceLeDiff, Nat.reduceAdd, Nat.reduceMul, Nat.reduceSub, ↓reduceIte, reduceCtorEq, decide_true, decide_false]
            refine LWP.loop [] (fun m f H' => ∃ e a2 L2, m = silc x + 1 - e ∧ (e ≤ silc x + 1) ∧ (List.map Prod.fst (L2 : List (TN × AV)) = extsT x p (L.map Prod.fst) e) ∧ (∃ q, L2 = L ++ q) ∧ (TrI x L2) ∧ (GrowG enT 1 H' a2 L2) ∧ (List.length (L2 : List (TN × AV)) ≤ L.length + e) ∧ f.t 1 = .v (.int .i64 d) ∧ f.t 2 = .box [.v (.int .i64 x.st), .v (.int .i64 x.s0), .v (.int .i64 x.inp), .v (.int .i64 x.out), .lst 4 (x.mv.map mvR) .unk] ∧ f.t 6 = a2 ∧ f.t 7 = .v (.int .i64 (i : Nat)) ∧ f.t 8 = setV p.s ∧ f.t 9 = .v (.int .i64 (e : Nat)) ∧ f.ds = [] ∧ True) ?_ ?_ (m := silc x + 1 - (0))
            · exact ⟨0, .lst 1 (L.map enT) ta, L, rfl, (by omega), (rfl), (⟨[], by simp⟩), (hI), (hg), (by omega), (by first | rfl | exact f1), (by first | rfl | exact f2), (by first | rfl | exact f6), (by first | rfl | exact f7), (by first | rfl | exact f8), (by first | rfl | exact f9), rfl, trivial⟩
            · rintro m f H' ⟨e, a2, L2, rfl, he, hl2, hpre, hI2, hg2, hb2, f1, f2, f6, f7, f8, f9, hds, hH⟩
              obtain ⟨q, hq⟩ := hpre
              obtain ⟨ta2, rfl⟩ := hg2.lst
              have hil2 : i < L2.length := by rw [hq, List.length_append]; omega
              have hp2 : L2.getD i default = (p, .lst 1 (p.tr.map intR) tip) := by rw [hq, getD_append_left _ _ _ hlt, hpe]
              have hgT := getDmap enT L2 i hil2
              rw [hp2] at hgT
              simp only [f1, f2, f6, f7, f8, f9, hds, Cd.cd37, Tk.t37, base0, base1, base2, base3, Option.isNone_none, Option.isNone_some, Nat.reduceBEq, true_or, or_true, false_or, or_false, Nat.reduceLT, Nat.reduceMod, Nat.reducePow, rmaps, nsucc, List.flatten_cons, List.flatten_nil, Nat.reduceEqDiff, Nat.reduceLeDiff, Nat.reduceAdd, Nat.reduceMul, Nat.reduceSub, ↓reduceIte, reduceCtorEq, decide_true, decide_false]
              first | refine FCall.go (silence41 x) (FZs.one (FZ.reV x)) ?_ | refine FCall.go' (silence41 x) (FZs.one (FZ.reV x)) ?_ | refine FCall.goQ (silence41 x) (FZs.one (FZ.reV x)) ?_
              by_cases hle : e ≤ silc x
              · simp only [silc_eq hx, show decide (((e : Nat) : Int) ≤ ((silc x : Nat) : Int)) = true from decide_eq_true (by omega), f1, f2, f6, f7, f8, f9, hds, Cd.cd37, Tk.t37, base0, base1, base2, base3, Option.isNone_none, Option.isNone_some, Nat.reduceBEq, true_or, or_true, false_or, or_false, Nat.reduceLT, Nat.reduceMod, Nat.reducePow, rmaps, nsucc, List.flatten_cons, List.flatten_nil, Nat.reduceEqDiff, Nat.reduceLeDiff, Nat.reduceAdd, Nat.reduceMul, Nat.reduceSub, ↓reduceIte, reduceCtorEq, decide_true, decide_false]
                first | refine FCall.go (after64 x hx p.s e hSr.2 hle) (FZs.three (FZ.reV x) (FZ.setV _) (FZ.v _)) ?_ | refine FCall.go' (after64 x hx p.s e hSr.2 hle) (FZs.three (FZ.reV x) (FZ.setV _) (FZ.v _)) ?_ | refine FCall.goQ (after64 x hx p.s e hSr.2 hle) (FZs.three (FZ.reV x) (FZ.setV _) (FZ.v _)) ?_
                by_cases hz : aft x p.s e = 0
                · simp only [setV, ints, List.length_map, bitsI_len, setV_pos hx (aft_lt hx hSr.2 e), show decide (aft x p.s e ≠ 0) = false from decide_eq_false (by simpa using hz), f1, f2, f6, f7, f8, f9, hds, Cd.cd37, Tk.t37, base0, base1, base2, base3, Option.isNone_none, Option.isNone_some, Nat.reduceBEq, true_or, or_true, false_or, or_false, Nat.reduceLT, Nat.reduceMod, Nat.reducePow, rmaps, nsucc, List.flatten_cons, List.flatten_nil, Nat.reduceEqDiff, Nat.reduceLeDiff, Nat.reduceAdd, Nat.reduceMul, Nat.reduceSub, ↓reduceIte, reduceCtorEq, decide_true, decide_false]
                  exact ⟨_, by omega, e + 1, _, L2, rfl, by omega, by rw [extsT_succ, ← hl2, extT, if_pos hz], ⟨q, hq⟩, hI2, hg2, by omega, rfl, by rw [wrapS (by omega)]⟩
                · simp only [setV, ints, List.length_map, bitsI_len, setV_pos hx (aft_lt hx hSr.2 e), decide_eq_true hz, inR hil2, Int.toNat_natCast, hgT, enT, f1, f2, f6, f7, f8, f9, hds, Cd.cd37, Tk.t37, base0, base1, base2, base3, Option.isNone_none, Option.isNone_some, Nat.reduceBEq, true_or, or_true, false_or, or_false, Nat.reduceLT, Nat.reduceMod, Nat.reducePow, rmaps, nsucc, List.flatten_cons, List.flatten_nil, Nat.reduceEqDiff, Nat.reduceLeDiff, Nat.reduceAdd, Nat.reduceMul, Nat.reduceSub, ↓reduceIte, reduceCtorEq, decide_true, decide_false]
                  refine GrowN.go (ACall.args (ownInts30 p.tr _ (by omega)) (TrO.ok (.inr ⟨h0, _, rfl⟩)).vrs) fun v H1 hgv hk => ?_
                  have hknx := hk.nx
                  have hr8 : roomA 8 (p.tr.length + 1) = true := room_of (by omega) (by omega)
                  have hr24 : roomA 24 (L2.length + 1) = true := room_of (by omega) (by omega)
                  rcases hgv with ⟨z0, rfl | rfl⟩ | ⟨t', u1, u2, rfl, u4⟩
                  · have hz0 := z0
                    have hnew : AV.lst 1 ((p.tr ++ [(e : Int)]).map intR) (.live H1.next) = .lst 1 ([[AV.v (.int .i64 (e : Nat))]]) (.live H1.next) := by first | rfl | (simp [intR]; done) | (rw [z0]; rfl)
                    have hI3 : TrI x (L2 ++ [(⟨p.tr ++ [(e : Int)], aft x p.s e⟩, .lst 1 ((p.tr ++ [(e : Int)]).map intR) (.live H1.next))]) := by
                      have := hI2.add hx hil2 (e := e) (by omega) (t := H1.next)
                      rw [hp2] at this; exact this
                    have hr1 : ∀ tp : Tip, AV.lst 1 (L2.map enT ++ [[.lst 1 ([[AV.v (.int .i64 (e : Nat))]]) (.live H1.next)]]) tp = .lst 1 ((L2 ++ [((⟨p.tr ++ [(e : Int)], aft x p.s e⟩ : TN), AV.lst 1 ((p.tr ++ [(e : Int)]).map intR) (.live H1.next))]).map enT) tp := fun tp => by
                      rw [List.map_append, ← hnew]; rfl
                    have hext : extsT x p (L.map Prod.fst) (e + 1) = (L2 ++ [((⟨p.tr ++ [(e : Int)], aft x p.s e⟩ : TN), AV.lst 1 ((p.tr ++ [(e : Int)]).map intR) (.live H1.next))]).map Prod.fst := by
                      rw [extsT_succ, ← hl2, extT, if_neg hz, List.map_append]; rfl
                    rcases hg2 with hge | ⟨t, s1, hge, s4⟩
                    · simp only [AV.lst.injEq, true_and] at hge
                      subst hge
                      simp only [nilS, show roomA 8 1 = true from rfl, List.length_map, hr24, inR hil2, Int.toNat_natCast, f1, f2, f6, f7, f8, f9, hds, Cd.cd37, Tk.t37, base0, base1, base2, base3, Option.isNone_none, Option.isNone_some, Nat.reduceBEq, true_or, or_true, false_or, or_false, Nat.reduceLT, Nat.reduceMod, Nat.reducePow, rmaps, nsucc, List.flatten_cons, List.flatten_nil, Nat.reduceEqDiff, Nat.reduceLeDiff, Nat.reduceAdd, Nat.reduceMul, Nat.reduceSub, ↓reduceIte, reduceCtorEq, decide_true, decide_false]
                      exact ⟨_, by omega, e + 1, _, _, rfl, by omega, hext.symm, ⟨q ++ [_], by rw [hq, List.append_assoc]⟩, hI3, .inr ⟨(H1.next + 1), by show _ < _ + 1; omega, hr1 _, by simp⟩, by simp; omega, rfl, rfl, by rw [wrapS (by omega)]⟩
                    · simp only [AV.lst.injEq, true_and] at hge
                      subst hge
                      have e1 : (t = H1.next) = False := by simp; omega
                      have s6 : H1.tip t = some L2.length := (hk.tp t s1).trans s4
                      simp only [nilS, show roomA 8 1 = true from rfl, List.length_map, e1, s6, hr24, inR hil2, Int.toNat_natCast, f1, f2, f6, f7, f8, f9, hds, Cd.cd37, Tk.t37, base0, base1, base2, base3, Option.isNone_none, Option.isNone_some, Nat.reduceBEq, true_or, or_true, false_or, or_false, Nat.reduceLT, Nat.reduceMod, Nat.reducePow, rmaps, nsucc, List.flatten_cons, List.flatten_nil, Nat.reduceEqDiff, Nat.reduceLeDiff, Nat.reduceAdd, Nat.reduceMul, Nat.reduceSub, ↓reduceIte, reduceCtorEq, decide_true, decide_false]
                      exact ⟨_, by omega, e + 1, _, _, rfl, by omega, hext.symm, ⟨q ++ [_], by rw [hq, List.append_assoc]⟩, hI3, .inr ⟨t, by first | (show t < H1.next + 1; omega) | (show t < H1.next; omega), hr1 _, by simp⟩, by simp; omega, rfl, rfl, by rw [wrapS (by omega)]⟩
                  · have hz0 := z0
                    have hnew : AV.lst 1 ((p.tr ++ [(e : Int)]).map intR) (.live H1.next) = .lst 1 ([[AV.v (.int .i64 (e : Nat))]]) (.live H1.next) := by first | rfl | (simp [intR]; done) | (rw [z0]; rfl)
                    have hI3 : TrI x (L2 ++ [(⟨p.tr ++ [(e : Int)], aft x p.s e⟩, .lst 1 ((p.tr ++ [(e : Int)]).map intR) (.live H1.next))]) := by
                      have := hI2.add hx hil2 (e := e) (by omega) (t := H1.next)
                      rw [hp2] at this; exact this
                    have hr1 : ∀ tp : Tip, AV.lst 1 (L2.map enT ++ [[.lst 1 ([[AV.v (.int .i64 (e : Nat))]]) (.live H1.next)]]) tp = .lst 1 ((L2 ++ [((⟨p.tr ++ [(e : Int)], aft x p.s e⟩ : TN), AV.lst 1 ((p.tr ++ [(e : Int)]).map intR) (.live H1.next))]).map enT) tp := fun tp => by
                      rw [List.map_append, ← hnew]; rfl
                    have hext : extsT x p (L.map Prod.fst) (e + 1) = (L2 ++ [((⟨p.tr ++ [(e : Int)], aft x p.s e⟩ : TN), AV.lst 1 ((p.tr ++ [(e : Int)]).map intR) (.live H1.next))]).map Prod.fst := by
                      rw [extsT_succ, ← hl2, extT, if_neg hz, List.map_append]; rfl
                    rcases hg2 with hge | ⟨t, s1, hge, s4⟩
                    · simp only [AV.lst.injEq, true_and] at hge
                      subst hge
                      simp only [show roomA 8 1 = true from rfl, List.length_map, hr24, inR hil2, Int.toNat_natCast, f1, f2, f6, f7, f8, f9, hds, Cd.cd37, Tk.t37, base0, base1, base2, base3, Option.isNone_none, Option.isNone_some, Nat.reduceBEq, true_or, or_true, false_or, or_false, Nat.reduceLT, Nat.reduceMod, Nat.reducePow, rmaps, nsucc, List.flatten_cons, List.flatten_nil, Nat.reduceEqDiff, Nat.reduceLeDiff, Nat.reduceAdd, Nat.reduceMul, Nat.reduceSub, ↓reduceIte, reduceCtorEq, decide_true, decide_false]
                      exact ⟨_, by omega, e + 1, _, _, rfl, by omega, hext.symm, ⟨q ++ [_], by rw [hq, List.append_assoc]⟩, hI3, .inr ⟨(H1.next + 1), by show _ < _ + 1; omega, hr1 _, by simp⟩, by simp; omega, rfl, rfl, by rw [wrapS (by omega)]⟩
                    · simp only [AV.lst.injEq, true_and] at hge
                      subst hge
                      have e1 : (t = H1.next) = False := by simp; omega
                      have s6 : H1.tip t = some L2.length := (hk.tp t s1).trans s4
                      simp only [show roomA 8 1 = true from rfl, List.length_map, e1, s6, hr24, inR hil2, Int.toNat_natCast, f1, f2, f6, f7, f8, f9, hds, Cd.cd37, Tk.t37, base0, base1, base2, base3, Option.isNone_none, Option.isNone_some, Nat.reduceBEq, true_or, or_true, false_or, or_false, Nat.reduceLT, Nat.reduceMod, Nat.reducePow, rmaps, nsucc, List.flatten_cons, List.flatten_nil, Nat.reduceEqDiff, Nat.reduceLeDiff, Nat.reduceAdd, Nat.reduceMul, Nat.reduceSub, ↓reduceIte, reduceCtorEq, decide_true, decide_false]
                      exact ⟨_, by omega, e + 1, _, _, rfl, by omega, hext.symm, ⟨q ++ [_], by rw [hq, List.append_assoc]⟩, hI3, .inr ⟨t, by first | (show t < H1.next + 1; omega) | (show t < H1.next; omega), hr1 _, by simp⟩, by simp; omega, rfl, rfl, by rw [wrapS (by omega)]⟩
                  · have hz0 := u4
                    have hnew : AV.lst 1 ((p.tr ++ [(e : Int)]).map intR) (.live t') = .lst 1 (p.tr.map intR ++ [[AV.v (.int .i64 (e : Nat))]]) (.live t') := by first | rfl | (simp [intR]; done) | (rw [z0]; rfl)
                    have hI3 : TrI x (L2 ++ [(⟨p.tr ++ [(e : Int)], aft x p.s e⟩, .lst 1 ((p.tr ++ [(e : Int)]).map intR) (.live t'))]) := by
                      have := hI2.add hx hil2 (e := e) (by omega) (t := t')
                      rw [hp2] at this; exact this
                    have hr1 : ∀ tp : Tip, AV.lst 1 (L2.map enT ++ [[.lst 1 (p.tr.map intR ++ [[AV.v (.int .i64 (e : Nat))]]) (.live t')]]) tp = .lst 1 ((L2 ++ [((⟨p.tr ++ [(e : Int)], aft x p.s e⟩ : TN), AV.lst 1 ((p.tr ++ [(e : Int)]).map intR) (.live t'))]).map enT) tp := fun tp => by
                      rw [List.map_append, ← hnew]; rfl
                    have hext : extsT x p (L.map Prod.fst) (e + 1) = (L2 ++ [((⟨p.tr ++ [(e : Int)], aft x p.s e⟩ : TN), AV.lst 1 ((p.tr ++ [(e : Int)]).map intR) (.live t'))]).map Prod.fst := by
                      rw [extsT_succ, ← hl2, extT, if_neg hz, List.map_append]; rfl
                    rcases hg2 with hge | ⟨t, s1, hge, s4⟩
                    · simp only [AV.lst.injEq, true_and] at hge
                      subst hge
                      simp only [u4, hr8, List.length_map, hr24, inR hil2, Int.toNat_natCast, f1, f2, f6, f7, f8, f9, hds, Cd.cd37, Tk.t37, base0, base1, base2, base3, Option.isNone_none, Option.isNone_some, Nat.reduceBEq, true_or, or_true, false_or, or_false, Nat.reduceLT, Nat.reduceMod, Nat.reducePow, rmaps, nsucc, List.flatten_cons, List.flatten_nil, Nat.reduceEqDiff, Nat.reduceLeDiff, Nat.reduceAdd, Nat.reduceMul, Nat.reduceSub, ↓reduceIte, reduceCtorEq, decide_true, decide_false]
                      exact ⟨_, by omega, e + 1, _, _, rfl, by omega, hext.symm, ⟨q ++ [_], by rw [hq, List.append_assoc]⟩, hI3, .inr ⟨H1.next, by show _ < _ + 1; omega, hr1 _, by simp⟩, by simp; omega, rfl, rfl, by rw [wrapS (by omega)]⟩
                    · simp only [AV.lst.injEq, true_and] at hge
                      subst hge
                      have e1 : (t = t') = False := by simp; omega
                      have s6 : H1.tip t = some L2.length := (hk.tp t s1).trans s4
                      simp only [u4, hr8, List.length_map, e1, s6, hr24, inR hil2, Int.toNat_natCast, f1, f2, f6, f7, f8, f9, hds, Cd.cd37, Tk.t37, base0, base1, base2, base3, Option.isNone_none, Option.isNone_some, Nat.reduceBEq, true_or, or_true, false_or, or_false, Nat.reduceLT, Nat.reduceMod, Nat.reducePow, rmaps, nsucc, List.flatten_cons, List.flatten_nil, Nat.reduceEqDiff, Nat.reduceLeDiff, Nat.reduceAdd, Nat.reduceMul, Nat.reduceSub, ↓reduceIte, reduceCtorEq, decide_true, decide_false]
                      exact ⟨_, by omega, e + 1, _, _, rfl, by omega, hext.symm, ⟨q ++ [_], by rw [hq, List.append_assoc]⟩, hI3, .inr ⟨t, by first | (show t < H1.next + 1; omega) | (show t < H1.next; omega), hr1 _, by simp⟩, by simp; omega, rfl, rfl, by rw [wrapS (by omega)]⟩
              · have he' : e = silc x + 1 := by omega
                subst he'
                simp only [silc_eq hx, show decide (((silc x + 1 : Nat) : Int) ≤ ((silc x : Nat) : Int)) = false from decide_eq_false (by omega), f1, f2, f6, f7, f8, f9, hds, Cd.cd37, Tk.t37, base0, base1, base2, base3, Option.isNone_none, Option.isNone_some, Nat.reduceBEq, true_or, or_true, false_or, or_false, Nat.reduceLT, Nat.reduceMod, Nat.reducePow, rmaps, nsucc, List.flatten_cons, List.flatten_nil, Nat.reduceEqDiff, Nat.reduceLeDiff, Nat.reduceAdd, Nat.reduceMul, Nat.reduceSub, ↓reduceIte, reduceCtorEq, decide_true, decide_false]
                exact ⟨_, by omega, i + 1, _, L2, rfl, by omega, by omega, hI2, by rw [hl2]; exact hstep.symm, hg2, rfl, by rw [wrapS (by omega)]⟩
      · simp only [List.length_map, ltF hlt, show decide (((L.length : Nat) : Int) ≤ 1500) = true from decide_eq_true (by omega), f1, f2, f6, f7, hds, Cd.cd37, Tk.t37, base0, base1, base2, base3, Option.isNone_none, Option.isNone_some, Nat.reduceBEq, true_or, or_true, false_or, or_false, Nat.reduceLT, Nat.reduceMod, Nat.reducePow, rmaps, nsucc, List.flatten_cons, List.flatten_nil, Nat.reduceEqDiff, Nat.reduceLeDiff, Nat.reduceAdd, Nat.reduceMul, Nat.reduceSub, ↓reduceIte, reduceCtorEq, decide_true, decide_false]
        have hdn := tgo_done (x := x) (d := d) (l := L.map Prod.fst) (i := i) (by simp; omega) (by simpa using hlt) (by omega)
        rw [hS] at hdn
        refine ⟨_, .tup [tracesV (L.map Prod.fst), .v (.bool true)], rfl, Views.tup (Views.cons (viewTr hI.T) (Views.cons (FZ.v _).view Views.nil)), FZ.tup (FZs.two (FZ.tracesV _) (FZ.v _)), ?_⟩
        unfold TrR; rw [hdn]
end Go.Proofs.YtchpcjmgifnmdaaDoor

/- Walks: TracesTo; the law of traces. -/
namespace Go.Proofs.YtchpcjmgifnmdaaDoor
open Go Go.Proofs.YtchpcjmgifnmdaaDoor.Ab
set_option maxRecDepth 100000
set_option linter.unusedSimpArgs false

theorem orL2 (a b : Int) : orL [a, b] = orI a b := by
  simp only [orL, orI]
  by_cases h1 : a = 0 <;> by_cases h2 : b = 0 <;> simp [h1, h2]
def trtO (o : Option (List TN)) : AV := match o with
  | some l => .tup [tracesV l, .v (.int .i64 0)]
  | none => .tup [nilS, .v (.int .i64 32)]
def trtE (x : Re) (d : Int) : Int := orI (errR x) (if within d 0 6 = true then 0 else 3)
def trtV (x : Re) (d : Int) : AV := if trtE x d ≠ 0 then .tup [nilS, .v (.int .i64 (trtE x d))] else trtO (trR x d)
theorem tracesTo38 (x : Re) (d : Int) : FCall Tryd.prog 38 [reV x, .v (.int .i64 d)] (· = trtV x d) := by
  have h := or82 [errR x, if within d 0 6 = true then 0 else 3] (by simp) .full
  have hz : FZ _ := FZ.intL (l := [errR x, if within d 0 6 = true then 0 else 3]) (tip := .full) rfl
  rw [orL2] at h
  have he : orI (errR x) (if within d 0 6 = true then 0 else 3) = trtE x d := rfl
  rw [he] at h
  simp only [List.map_cons, List.map_nil, intR] at h hz
  simp only [reV, reL, mvsV]
  refine ACall.enter [] Cd.fn38 (by simp) ?_
  simp only [Cd.cd38, Tk.t38, base0, base1, base2, base3, Option.isNone_none, Option.isNone_some, Nat.reduceBEq, true_or, or_true, false_or, or_false, Nat.reduceLT, Nat.reduceMod, Nat.reducePow, rmaps, nsucc, List.flatten_cons, List.flatten_nil, Nat.reduceEqDiff, Nat.reduceLeDiff, Nat.reduceAdd, Nat.reduceMul, Nat.reduceSub, ↓reduceIte, reduceCtorEq, decide_true, decide_false]
  first | refine FCall.go (sysErr70 x) (FZs.one (FZ.reV x)) ?_ | refine FCall.go' (sysErr70 x) (FZs.one (FZ.reV x)) ?_ | refine FCall.goQ (sysErr70 x) (FZs.one (FZ.reV x)) ?_
  simp only [Cd.cd38, Tk.t38, base0, base1, base2, base3, Option.isNone_none, Option.isNone_some, Nat.reduceBEq, true_or, or_true, false_or, or_false, Nat.reduceLT, Nat.reduceMod, Nat.reducePow, rmaps, nsucc, List.flatten_cons, List.flatten_nil, Nat.reduceEqDiff, Nat.reduceLeDiff, Nat.reduceAdd, Nat.reduceMul, Nat.reduceSub, ↓reduceIte, reduceCtorEq, decide_true, decide_false]
  first | refine FCall.go (spans66 _ _ _) (FZs.v3 _ _ _) ?_ | refine FCall.go' (spans66 _ _ _) (FZs.v3 _ _ _) ?_ | refine FCall.goQ (spans66 _ _ _) (FZs.v3 _ _ _) ?_
  simp only [Cd.cd38, Tk.t38, base0, base1, base2, base3, Option.isNone_none, Option.isNone_some, Nat.reduceBEq, true_or, or_true, false_or, or_false, Nat.reduceLT, Nat.reduceMod, Nat.reducePow, rmaps, nsucc, List.flatten_cons, List.flatten_nil, Nat.reduceEqDiff, Nat.reduceLeDiff, Nat.reduceAdd, Nat.reduceMul, Nat.reduceSub, ↓reduceIte, reduceCtorEq, decide_true, decide_false]
  first | refine FCall.go (unless61 _ _) (FZs.v2 _ _) ?_ | refine FCall.go' (unless61 _ _) (FZs.v2 _ _) ?_ | refine FCall.goQ (unless61 _ _) (FZs.v2 _ _) ?_
  simp only [Cd.cd38, Tk.t38, base0, base1, base2, base3, Option.isNone_none, Option.isNone_some, Nat.reduceBEq, true_or, or_true, false_or, or_false, Nat.reduceLT, Nat.reduceMod, Nat.reducePow, rmaps, nsucc, List.flatten_cons, List.flatten_nil, Nat.reduceEqDiff, Nat.reduceLeDiff, Nat.reduceAdd, Nat.reduceMul, Nat.reduceSub, ↓reduceIte, reduceCtorEq, decide_true, decide_false]
  first | refine FCall.go h (FZs.one hz) ?_ | refine FCall.go' h (FZs.one hz) ?_ | refine FCall.goQ h (FZs.one hz) ?_
  by_cases h0 : trtE x d = 0
  · have h1 : errR x = 0 := by
      unfold trtE orI at h0
      by_cases h1 : errR x = 0
      · exact h1
      · rw [if_pos h1] at h0; exact absurd h0 h1
    have hx := ok_of_check h1
    have hv : trtV x d = trtO (trR x d) := by rw [trtV, if_neg (by simpa using h0)]
    rw [hv]
    simp only [show (trtE x d != 0) = false from by rw [h0]; rfl, Cd.cd38, Tk.t38, base0, base1, base2, base3, Option.isNone_none, Option.isNone_some, Nat.reduceBEq, true_or, or_true, false_or, or_false, Nat.reduceLT, Nat.reduceMod, Nat.reducePow, rmaps, nsucc, List.flatten_cons, List.flatten_nil, Nat.reduceEqDiff, Nat.reduceLeDiff, Nat.reduceAdd, Nat.reduceMul, Nat.reduceSub, ↓reduceIte, reduceCtorEq, decide_true, decide_false]
    first | refine FCall.go (system71 x hx) (FZs.one (FZ.reV x)) ?_ | refine FCall.go' (system71 x hx) (FZs.one (FZ.reV x)) ?_ | refine FCall.goQ (system71 x hx) (FZs.one (FZ.reV x)) ?_
    simp only [Cd.cd38, Tk.t38, base0, base1, base2, base3, Option.isNone_none, Option.isNone_some, Nat.reduceBEq, true_or, or_true, false_or, or_false, Nat.reduceLT, Nat.reduceMod, Nat.reducePow, rmaps, nsucc, List.flatten_cons, List.flatten_nil, Nat.reduceEqDiff, Nat.reduceLeDiff, Nat.reduceAdd, Nat.reduceMul, Nat.reduceSub, ↓reduceIte, reduceCtorEq, decide_true, decide_false]
    first | refine FCall.go (traces83 x hx d) (FZs.two (FZ.sysV x) (FZ.v _)) ?_ | refine FCall.go' (traces83 x hx d) (FZs.two (FZ.sysV x) (FZ.v _)) ?_ | refine FCall.goQ (traces83 x hx d) (FZs.two (FZ.sysV x) (FZ.v _)) ?_
    cases ht : trR x d with
    | none =>
      simp only [trV, Cd.cd38, Tk.t38, base0, base1, base2, base3, Option.isNone_none, Option.isNone_some, Nat.reduceBEq, true_or, or_true, false_or, or_false, Nat.reduceLT, Nat.reduceMod, Nat.reducePow, rmaps, nsucc, List.flatten_cons, List.flatten_nil, Nat.reduceEqDiff, Nat.reduceLeDiff, Nat.reduceAdd, Nat.reduceMul, Nat.reduceSub, ↓reduceIte, reduceCtorEq, decide_true, decide_false]
      first | refine FCall.go (unless61 _ _) (FZs.v2 _ _) ?_ | refine FCall.go' (unless61 _ _) (FZs.v2 _ _) ?_ | refine FCall.goQ (unless61 _ _) (FZs.v2 _ _) ?_
      simp only [Cd.cd38, Tk.t38, base0, base1, base2, base3, Option.isNone_none, Option.isNone_some, Nat.reduceBEq, true_or, or_true, false_or, or_false, Nat.reduceLT, Nat.reduceMod, Nat.reducePow, rmaps, nsucc, List.flatten_cons, List.flatten_nil, Nat.reduceEqDiff, Nat.reduceLeDiff, Nat.reduceAdd, Nat.reduceMul, Nat.reduceSub, ↓reduceIte, reduceCtorEq, decide_true, decide_false]
      exact ⟨_, _, rfl, Views.tup (Views.cons nil_view (Views.cons (FZ.v _).view Views.nil)), FZ.tup (FZs.two FZ.nilS (FZ.v _)), rfl⟩
    | some l =>
      simp only [trV, Cd.cd38, Tk.t38, base0, base1, base2, base3, Option.isNone_none, Option.isNone_some, Nat.reduceBEq, true_or, or_true, false_or, or_false, Nat.reduceLT, Nat.reduceMod, Nat.reducePow, rmaps, nsucc, List.flatten_cons, List.flatten_nil, Nat.reduceEqDiff, Nat.reduceLeDiff, Nat.reduceAdd, Nat.reduceMul, Nat.reduceSub, ↓reduceIte, reduceCtorEq, decide_true, decide_false]
      first | refine FCall.go (unless61 _ _) (FZs.v2 _ _) ?_ | refine FCall.go' (unless61 _ _) (FZs.v2 _ _) ?_ | refine FCall.goQ (unless61 _ _) (FZs.v2 _ _) ?_
      simp only [Cd.cd38, Tk.t38, base0, base1, base2, base3, Option.isNone_none, Option.isNone_some, Nat.reduceBEq, true_or, or_true, false_or, or_false, Nat.reduceLT, Nat.reduceMod, Nat.reducePow, rmaps, nsucc, List.flatten_cons, List.flatten_nil, Nat.reduceEqDiff, Nat.reduceLeDiff, Nat.reduceAdd, Nat.reduceMul, Nat.reduceSub, ↓reduceIte, reduceCtorEq, decide_true, decide_false]
      exact ⟨_, _, rfl, Views.tup (Views.cons (FZ.tracesV l).view (Views.cons (FZ.v _).view Views.nil)), FZ.tup (FZs.two (FZ.tracesV l) (FZ.v _)), rfl⟩
  · simp only [bneT h0, Cd.cd38, Tk.t38, base0, base1, base2, base3, Option.isNone_none, Option.isNone_some, Nat.reduceBEq, true_or, or_true, false_or, or_false, Nat.reduceLT, Nat.reduceMod, Nat.reducePow, rmaps, nsucc, List.flatten_cons, List.flatten_nil, Nat.reduceEqDiff, Nat.reduceLeDiff, Nat.reduceAdd, Nat.reduceMul, Nat.reduceSub, ↓reduceIte, reduceCtorEq, decide_true, decide_false]
    refine ⟨_, _, rfl, Views.tup (Views.cons nil_view (Views.cons (FZ.v _).view Views.nil)), FZ.tup (FZs.two FZ.nilS (FZ.v _)), ?_⟩
    rw [trtV, if_pos h0]
theorem tgo_len {x : Re} {d : Int} : ∀ (k : Nat) (l : List TN) (i : Nat) (r : List TN), tgo x d k l i = some r → (∀ j, j < l.length → (l.getD j default).tr.length ≤ j) → i ≤ l.length → r.length ≤ 1500 ∧ ∀ j, j < r.length → (r.getD j default).tr.length ≤ j
  | 0, _, _, _, h, _, _ => by cases h
  | k + 1, l, i, r, h, hB, hi => by
    unfold tgo at h
    split at h
    · cases h
    · rename_i h15
      split at h
      · rename_i hlt
        have hnx : (∀ j, j < (nxtT x d l i).length → ((nxtT x d l i).getD j default).tr.length ≤ j) ∧ l.length ≤ (nxtT x d l i).length := by
          unfold nxtT
          split
          · exact ⟨hB, Nat.le_refl _⟩
          · have key : ∀ n, (∀ j, j < (extsT x (l.getD i default) l n).length → ((extsT x (l.getD i default) l n).getD j default).tr.length ≤ j) ∧ l.length ≤ (extsT x (l.getD i default) l n).length := by
              intro n
              induction n with
              | zero => exact ⟨hB, Nat.le_refl _⟩
              | succ n ih =>
                rw [extsT_succ]
                unfold extT
                split
                · exact ih
                · refine ⟨fun j hj => ?_, by rw [List.length_append]; exact Nat.le_trans ih.2 (Nat.le_add_right _ _)⟩
                  by_cases hj' : j < (extsT x (l.getD i default) l n).length
                  · rw [getD_append_left _ _ _ hj']; exact ih.1 j hj'
                  · have hje : j = (extsT x (l.getD i default) l n).length := by rw [List.length_append, List.length_singleton] at hj; omega
                    rw [hje, getD_append_len]
                    have h1 := hB i hlt
                    have h2 := ih.2
                    simp only [List.length_append, List.length_singleton]
                    exact Nat.le_trans (Nat.succ_le_succ h1) (Nat.le_trans hlt h2)
            exact key _
        exact tgo_len k _ _ _ h hnx.1 (by omega)
      · simp only [Option.some.injEq] at h; subst h; exact ⟨by omega, hB⟩
theorem trR_len {x : Re} {d : Int} {r : List TN} (h : trR x d = some r) : r.length ≤ 1500 ∧ ∀ j, j < r.length → (r.getD j default).tr.length ≤ j :=
  tgo_len _ _ _ _ h (fun j hj => by simp at hj; subst hj; exact Nat.le_refl _) (by simp)
set_option maxHeartbeats 4000000 in
theorem law7 (x : Re) (d : Int) (hx0 : x.mv.length * 32 ≤ 140737488355328) : FCall Tryd.prog 7 [reV x, .v (.int .i64 d)] (· = .v (.bool true)) := by
  have hO := own18 x hx0
  simp only [reV, reL, mvsV]
  refine ACall.enter [] Cd.fn7 (by simp) ?_
  simp only [Cd.cd7, Tk.t7, base0, base1, base2, base3, Option.isNone_none, Option.isNone_some, Nat.reduceBEq, true_or, or_true, false_or, or_false, Nat.reduceLT, Nat.reduceMod, Nat.reducePow, rmaps, nsucc, List.flatten_cons, List.flatten_nil, Nat.reduceEqDiff, Nat.reduceLeDiff, Nat.reduceAdd, Nat.reduceMul, Nat.reduceSub, ↓reduceIte, reduceCtorEq, decide_true, decide_false]
  first | refine FCall.go awake15 (FZs.nil) ?_ | refine FCall.go' awake15 (FZs.nil) ?_ | refine FCall.goQ awake15 (FZs.nil) ?_
  simp only [Cd.cd7, Tk.t7, base0, base1, base2, base3, Option.isNone_none, Option.isNone_some, Nat.reduceBEq, true_or, or_true, false_or, or_false, Nat.reduceLT, Nat.reduceMod, Nat.reducePow, rmaps, nsucc, List.flatten_cons, List.flatten_nil, Nat.reduceEqDiff, Nat.reduceLeDiff, Nat.reduceAdd, Nat.reduceMul, Nat.reduceSub, ↓reduceIte, reduceCtorEq, decide_true, decide_false]
  first | refine FCall.go (err27 x) (FZs.one (FZ.reV x)) ?_ | refine FCall.go' (err27 x) (FZs.one (FZ.reV x)) ?_ | refine FCall.goQ (err27 x) (FZs.one (FZ.reV x)) ?_
  by_cases h1 : errR x = 0
  · have hx := ok_of_check h1
    simp only [h1, show ((0 : Int) == 0) = true from rfl, Cd.cd7, Tk.t7, base0, base1, base2, base3, Option.isNone_none, Option.isNone_some, Nat.reduceBEq, true_or, or_true, false_or, or_false, Nat.reduceLT, Nat.reduceMod, Nat.reducePow, rmaps, nsucc, List.flatten_cons, List.flatten_nil, Nat.reduceEqDiff, Nat.reduceLeDiff, Nat.reduceAdd, Nat.reduceMul, Nat.reduceSub, ↓reduceIte, reduceCtorEq, decide_true, decide_false]
    first | refine FCall.go (few16 x) (FZs.one (FZ.reV x)) ?_ | refine FCall.go' (few16 x) (FZs.one (FZ.reV x)) ?_ | refine FCall.goQ (few16 x) (FZs.one (FZ.reV x)) ?_
    cases hf : fewB x
    · simp only [Cd.cd7, Tk.t7, base0, base1, base2, base3, Option.isNone_none, Option.isNone_some, Nat.reduceBEq, true_or, or_true, false_or, or_false, Nat.reduceLT, Nat.reduceMod, Nat.reducePow, rmaps, nsucc, List.flatten_cons, List.flatten_nil, Nat.reduceEqDiff, Nat.reduceLeDiff, Nat.reduceAdd, Nat.reduceMul, Nat.reduceSub, ↓reduceIte, reduceCtorEq, decide_true, decide_false]
      exact fin_v rfl
    · simp only [h1, show ((0 : Int) == 0) = true from rfl, Cd.cd7, Tk.t7, base0, base1, base2, base3, Option.isNone_none, Option.isNone_some, Nat.reduceBEq, true_or, or_true, false_or, or_false, Nat.reduceLT, Nat.reduceMod, Nat.reducePow, rmaps, nsucc, List.flatten_cons, List.flatten_nil, Nat.reduceEqDiff, Nat.reduceLeDiff, Nat.reduceAdd, Nat.reduceMul, Nat.reduceSub, ↓reduceIte, reduceCtorEq, decide_true, decide_false]
      first | refine FCall.go (within36 _ _ _) (FZs.v3 _ _ _) ?_ | refine FCall.go' (within36 _ _ _) (FZs.v3 _ _ _) ?_ | refine FCall.goQ (within36 _ _ _) (FZs.v3 _ _ _) ?_
      cases hw : within d 0 6
      · have hte : trtE x d = 3 := by unfold trtE; rw [h1, hw]; rfl
        have htv : trtV x d = .tup [nilS, .v (.int .i64 3)] := by rw [trtV, hte, if_pos (by omega)]
        simp only [show ((3 : Int) == 0) = false from rfl, Cd.cd7, Tk.t7, base0, base1, base2, base3, Option.isNone_none, Option.isNone_some, Nat.reduceBEq, true_or, or_true, false_or, or_false, Nat.reduceLT, Nat.reduceMod, Nat.reducePow, rmaps, nsucc, List.flatten_cons, List.flatten_nil, Nat.reduceEqDiff, Nat.reduceLeDiff, Nat.reduceAdd, Nat.reduceMul, Nat.reduceSub, ↓reduceIte, reduceCtorEq, decide_true, decide_false]
        first | refine FCall.go hO (FZs.one (FZ.reV x)) ?_ | refine FCall.go' hO (FZs.one (FZ.reV x)) ?_ | refine FCall.goQ hO (FZs.one (FZ.reV x)) ?_
        simp only [Cd.cd7, Tk.t7, base0, base1, base2, base3, Option.isNone_none, Option.isNone_some, Nat.reduceBEq, true_or, or_true, false_or, or_false, Nat.reduceLT, Nat.reduceMod, Nat.reducePow, rmaps, nsucc, List.flatten_cons, List.flatten_nil, Nat.reduceEqDiff, Nat.reduceLeDiff, Nat.reduceAdd, Nat.reduceMul, Nat.reduceSub, ↓reduceIte, reduceCtorEq, decide_true, decide_false]
        first | refine FCall.go (tracesTo38 x d) (FZs.two (FZ.reV x) (FZ.v _)) ?_ | refine FCall.go' (tracesTo38 x d) (FZs.two (FZ.reV x) (FZ.v _)) ?_ | refine FCall.goQ (tracesTo38 x d) (FZs.two (FZ.reV x) (FZ.v _)) ?_
        rw [htv]
        simp only [nilS, show ((3 : Int) != 3) = false from rfl, show (((0 : Nat) : Int) != ((0 : Nat) : Int)) = false from rfl, Cd.cd7, Tk.t7, base0, base1, base2, base3, Option.isNone_none, Option.isNone_some, Nat.reduceBEq, true_or, or_true, false_or, or_false, Nat.reduceLT, Nat.reduceMod, Nat.reducePow, rmaps, nsucc, List.flatten_cons, List.flatten_nil, Nat.reduceEqDiff, Nat.reduceLeDiff, Nat.reduceAdd, Nat.reduceMul, Nat.reduceSub, ↓reduceIte, reduceCtorEq, decide_true, decide_false]
        refine LWP.loop [] (fun m f H' => ∃ i, m = 1 - i ∧ (i = 0) ∧ f.t 6 = nilS ∧ f.t 9 = nilS ∧ f.t 11 = .v (.int .i64 (i : Nat)) ∧ f.ds = [] ∧ H' = AH.none) ?_ ?_ (m := 1 - (0))
        · exact ⟨0, rfl, (rfl), rfl, rfl, rfl, rfl, rfl⟩
        · rintro m f H' ⟨i, rfl, hi, f6, f9, f11, hds, rfl⟩
          subst hi
          simp only [nilS, show decide (((0 : Nat) : Int) < ((0 : Nat) : Int)) = false from rfl, show decide (((0 : Nat) : Int) < 0) = false from rfl, f6, f9, f11, hds, Cd.cd7, Tk.t7, base0, base1, base2, base3, Option.isNone_none, Option.isNone_some, Nat.reduceBEq, true_or, or_true, false_or, or_false, Nat.reduceLT, Nat.reduceMod, Nat.reducePow, rmaps, nsucc, List.flatten_cons, List.flatten_nil, Nat.reduceEqDiff, Nat.reduceLeDiff, Nat.reduceAdd, Nat.reduceMul, Nat.reduceSub, ↓reduceIte, reduceCtorEq, decide_true, decide_false]
          exact fin_v rfl
      · have hte : trtE x d = 0 := by unfold trtE; rw [h1, hw]; rfl
        have htv : trtV x d = trtO (trR x d) := by rw [trtV, hte]; rfl
        simp only [h1, show ((0 : Int) == 0) = true from rfl, Cd.cd7, Tk.t7, base0, base1, base2, base3, Option.isNone_none, Option.isNone_some, Nat.reduceBEq, true_or, or_true, false_or, or_false, Nat.reduceLT, Nat.reduceMod, Nat.reducePow, rmaps, nsucc, List.flatten_cons, List.flatten_nil, Nat.reduceEqDiff, Nat.reduceLeDiff, Nat.reduceAdd, Nat.reduceMul, Nat.reduceSub, ↓reduceIte, reduceCtorEq, decide_true, decide_false]
        refine (rtraces37 x hx d).some (FZs.two (FZ.reV x) (FZ.v _)) fun v hv hR => ?_
        unfold TrR at hR
        cases ht : trR x d with
        | none =>
          rw [ht] at hR htv
          obtain ⟨l, rfl⟩ := hR
          simp only [Cd.cd7, Tk.t7, base0, base1, base2, base3, Option.isNone_none, Option.isNone_some, Nat.reduceBEq, true_or, or_true, false_or, or_false, Nat.reduceLT, Nat.reduceMod, Nat.reducePow, rmaps, nsucc, List.flatten_cons, List.flatten_nil, Nat.reduceEqDiff, Nat.reduceLeDiff, Nat.reduceAdd, Nat.reduceMul, Nat.reduceSub, ↓reduceIte, reduceCtorEq, decide_true, decide_false]
          first | refine FCall.go hO (FZs.one (FZ.reV x)) ?_ | refine FCall.go' hO (FZs.one (FZ.reV x)) ?_ | refine FCall.goQ hO (FZs.one (FZ.reV x)) ?_
          simp only [Cd.cd7, Tk.t7, base0, base1, base2, base3, Option.isNone_none, Option.isNone_some, Nat.reduceBEq, true_or, or_true, false_or, or_false, Nat.reduceLT, Nat.reduceMod, Nat.reducePow, rmaps, nsucc, List.flatten_cons, List.flatten_nil, Nat.reduceEqDiff, Nat.reduceLeDiff, Nat.reduceAdd, Nat.reduceMul, Nat.reduceSub, ↓reduceIte, reduceCtorEq, decide_true, decide_false]
          first | refine FCall.go (tracesTo38 x d) (FZs.two (FZ.reV x) (FZ.v _)) ?_ | refine FCall.go' (tracesTo38 x d) (FZs.two (FZ.reV x) (FZ.v _)) ?_ | refine FCall.goQ (tracesTo38 x d) (FZs.two (FZ.reV x) (FZ.v _)) ?_
          rw [htv]
          simp only [trtO, nilS, show ((32 : Int) != 32) = false from rfl, show (((0 : Nat) : Int) != ((0 : Nat) : Int)) = false from rfl, Cd.cd7, Tk.t7, base0, base1, base2, base3, Option.isNone_none, Option.isNone_some, Nat.reduceBEq, true_or, or_true, false_or, or_false, Nat.reduceLT, Nat.reduceMod, Nat.reducePow, rmaps, nsucc, List.flatten_cons, List.flatten_nil, Nat.reduceEqDiff, Nat.reduceLeDiff, Nat.reduceAdd, Nat.reduceMul, Nat.reduceSub, ↓reduceIte, reduceCtorEq, decide_true, decide_false]
          refine LWP.loop [] (fun m f H' => ∃ i, m = 1 - i ∧ (i = 0) ∧ f.t 6 = nilS ∧ f.t 9 = nilS ∧ f.t 11 = .v (.int .i64 (i : Nat)) ∧ f.ds = [] ∧ H' = AH.none) ?_ ?_ (m := 1 - (0))
          · exact ⟨0, rfl, (rfl), rfl, rfl, rfl, rfl, rfl⟩
          · rintro m f H' ⟨i, rfl, hi, f6, f9, f11, hds, rfl⟩
            subst hi
            simp only [nilS, show decide (((0 : Nat) : Int) < ((0 : Nat) : Int)) = false from rfl, show decide (((0 : Nat) : Int) < 0) = false from rfl, f6, f9, f11, hds, Cd.cd7, Tk.t7, base0, base1, base2, base3, Option.isNone_none, Option.isNone_some, Nat.reduceBEq, true_or, or_true, false_or, or_false, Nat.reduceLT, Nat.reduceMod, Nat.reducePow, rmaps, nsucc, List.flatten_cons, List.flatten_nil, Nat.reduceEqDiff, Nat.reduceLeDiff, Nat.reduceAdd, Nat.reduceMul, Nat.reduceSub, ↓reduceIte, reduceCtorEq, decide_true, decide_false]
            exact fin_v rfl
        | some l =>
          rw [ht] at hR htv
          subst hR
          obtain ⟨hl1, hl2⟩ := trR_len ht
          simp only [Cd.cd7, Tk.t7, base0, base1, base2, base3, Option.isNone_none, Option.isNone_some, Nat.reduceBEq, true_or, or_true, false_or, or_false, Nat.reduceLT, Nat.reduceMod, Nat.reducePow, rmaps, nsucc, List.flatten_cons, List.flatten_nil, Nat.reduceEqDiff, Nat.reduceLeDiff, Nat.reduceAdd, Nat.reduceMul, Nat.reduceSub, ↓reduceIte, reduceCtorEq, decide_true, decide_false]
          first | refine FCall.go hO (FZs.one (FZ.reV x)) ?_ | refine FCall.go' hO (FZs.one (FZ.reV x)) ?_ | refine FCall.goQ hO (FZs.one (FZ.reV x)) ?_
          simp only [Cd.cd7, Tk.t7, base0, base1, base2, base3, Option.isNone_none, Option.isNone_some, Nat.reduceBEq, true_or, or_true, false_or, or_false, Nat.reduceLT, Nat.reduceMod, Nat.reducePow, rmaps, nsucc, List.flatten_cons, List.flatten_nil, Nat.reduceEqDiff, Nat.reduceLeDiff, Nat.reduceAdd, Nat.reduceMul, Nat.reduceSub, ↓reduceIte, reduceCtorEq, decide_true, decide_false]
          first | refine FCall.go (tracesTo38 x d) (FZs.two (FZ.reV x) (FZ.v _)) ?_ | refine FCall.go' (tracesTo38 x d) (FZs.two (FZ.reV x) (FZ.v _)) ?_ | refine FCall.goQ (tracesTo38 x d) (FZs.two (FZ.reV x) (FZ.v _)) ?_
          rw [htv]
          simp only [trtO, tracesV, List.length_map, show ((0 : Int) != 0) = false from rfl, show (((l.length : Nat) : Int) != ((l.length : Nat) : Int)) = false from by simp, Cd.cd7, Tk.t7, base0, base1, base2, base3, Option.isNone_none, Option.isNone_some, Nat.reduceBEq, true_or, or_true, false_or, or_false, Nat.reduceLT, Nat.reduceMod, Nat.reducePow, rmaps, nsucc, List.flatten_cons, List.flatten_nil, Nat.reduceEqDiff, Nat.reduceLeDiff, Nat.reduceAdd, Nat.reduceMul, Nat.reduceSub, ↓reduceIte, reduceCtorEq, decide_true, decide_false]
          refine LWP.loop [] (fun m f H' => ∃ i, m = l.length - i ∧ (i ≤ l.length) ∧ f.t 6 = .lst 1 (l.map fun t => [ints t.tr]) .unk ∧ f.t 9 = .lst 1 (l.map fun t => [ints t.tr]) .unk ∧ f.t 11 = .v (.int .i64 (i : Nat)) ∧ f.ds = [] ∧ H' = AH.none) ?_ ?_ (m := l.length - (0))
          · exact ⟨0, rfl, (by omega), rfl, rfl, rfl, rfl, rfl⟩
          · rintro m f H' ⟨i, rfl, hi, f6, f9, f11, hds, rfl⟩
            by_cases hlt : i < l.length
            · have hg := getDmap (fun t : TN => [ints t.tr]) l i hlt
              have hb := hl2 i hlt
              generalize l.getD i default = p at hg hb
              simp only [List.length_map, ltT hlt, inR hlt, Int.toNat_natCast, hg, f6, f9, f11, hds, Cd.cd7, Tk.t7, base0, base1, base2, base3, Option.isNone_none, Option.isNone_some, Nat.reduceBEq, true_or, or_true, false_or, or_false, Nat.reduceLT, Nat.reduceMod, Nat.reducePow, rmaps, nsucc, List.flatten_cons, List.flatten_nil, Nat.reduceEqDiff, Nat.reduceLeDiff, Nat.reduceAdd, Nat.reduceMul, Nat.reduceSub, ↓reduceIte, reduceCtorEq, decide_true, decide_false]
              first | refine FCall.go (same22 p.tr p.tr (by omega)) (FZs.two (FZ.ints _) (FZ.ints _)) ?_ | refine FCall.go' (same22 p.tr p.tr (by omega)) (FZs.two (FZ.ints _) (FZ.ints _)) ?_ | refine FCall.goQ (same22 p.tr p.tr (by omega)) (FZs.two (FZ.ints _) (FZ.ints _)) ?_
              simp only [decide_true, f6, f9, f11, hds, Cd.cd7, Tk.t7, base0, base1, base2, base3, Option.isNone_none, Option.isNone_some, Nat.reduceBEq, true_or, or_true, false_or, or_false, Nat.reduceLT, Nat.reduceMod, Nat.reducePow, rmaps, nsucc, List.flatten_cons, List.flatten_nil, Nat.reduceEqDiff, Nat.reduceLeDiff, Nat.reduceAdd, Nat.reduceMul, Nat.reduceSub, ↓reduceIte, reduceCtorEq, decide_true, decide_false]
              refine ⟨_, by omega, i + 1, rfl, ?_⟩
              (repeat' apply And.intro) <;> first | rfl | (rw [wrapS (by omega)]) | omega | assumption
            · simp only [List.length_map, ltF hlt, f6, f9, f11, hds, Cd.cd7, Tk.t7, base0, base1, base2, base3, Option.isNone_none, Option.isNone_some, Nat.reduceBEq, true_or, or_true, false_or, or_false, Nat.reduceLT, Nat.reduceMod, Nat.reducePow, rmaps, nsucc, List.flatten_cons, List.flatten_nil, Nat.reduceEqDiff, Nat.reduceLeDiff, Nat.reduceAdd, Nat.reduceMul, Nat.reduceSub, ↓reduceIte, reduceCtorEq, decide_true, decide_false]
              exact fin_v rfl
  · have hte : trtE x d = errR x := by unfold trtE orI; rw [if_pos h1]
    have htv : trtV x d = .tup [nilS, .v (.int .i64 (errR x))] := by rw [trtV, hte, if_pos h1]
    simp only [show (errR x == 0) = false from beq_eq_false_iff_ne.mpr h1, Cd.cd7, Tk.t7, base0, base1, base2, base3, Option.isNone_none, Option.isNone_some, Nat.reduceBEq, true_or, or_true, false_or, or_false, Nat.reduceLT, Nat.reduceMod, Nat.reducePow, rmaps, nsucc, List.flatten_cons, List.flatten_nil, Nat.reduceEqDiff, Nat.reduceLeDiff, Nat.reduceAdd, Nat.reduceMul, Nat.reduceSub, ↓reduceIte, reduceCtorEq, decide_true, decide_false]
    first | refine FCall.go hO (FZs.one (FZ.reV x)) ?_ | refine FCall.go' hO (FZs.one (FZ.reV x)) ?_ | refine FCall.goQ hO (FZs.one (FZ.reV x)) ?_
    simp only [Cd.cd7, Tk.t7, base0, base1, base2, base3, Option.isNone_none, Option.isNone_some, Nat.reduceBEq, true_or, or_true, false_or, or_false, Nat.reduceLT, Nat.reduceMod, Nat.reducePow, rmaps, nsucc, List.flatten_cons, List.flatten_nil, Nat.reduceEqDiff, Nat.reduceLeDiff, Nat.reduceAdd, Nat.reduceMul, Nat.reduceSub, ↓reduceIte, reduceCtorEq, decide_true, decide_false]
    first | refine FCall.go (tracesTo38 x d) (FZs.two (FZ.reV x) (FZ.v _)) ?_ | refine FCall.go' (tracesTo38 x d) (FZs.two (FZ.reV x) (FZ.v _)) ?_ | refine FCall.goQ (tracesTo38 x d) (FZs.two (FZ.reV x) (FZ.v _)) ?_
    rw [htv]
    simp only [nilS, show (errR x != errR x) = false from by simp, show (((0 : Nat) : Int) != ((0 : Nat) : Int)) = false from rfl, Cd.cd7, Tk.t7, base0, base1, base2, base3, Option.isNone_none, Option.isNone_some, Nat.reduceBEq, true_or, or_true, false_or, or_false, Nat.reduceLT, Nat.reduceMod, Nat.reducePow, rmaps, nsucc, List.flatten_cons, List.flatten_nil, Nat.reduceEqDiff, Nat.reduceLeDiff, Nat.reduceAdd, Nat.reduceMul, Nat.reduceSub, ↓reduceIte, reduceCtorEq, decide_true, decide_false]
    refine LWP.loop [] (fun m f H' => ∃ i, m = 1 - i ∧ (i = 0) ∧ f.t 6 = nilS ∧ f.t 9 = nilS ∧ f.t 11 = .v (.int .i64 (i : Nat)) ∧ f.ds = [] ∧ H' = AH.none) ?_ ?_ (m := 1 - (0))
    · exact ⟨0, rfl, (rfl), rfl, rfl, rfl, rfl, rfl⟩
    · rintro m f H' ⟨i, rfl, hi, f6, f9, f11, hds, rfl⟩
      subst hi
      simp only [nilS, show decide (((0 : Nat) : Int) < ((0 : Nat) : Int)) = false from rfl, show decide (((0 : Nat) : Int) < 0) = false from rfl, f6, f9, f11, hds, Cd.cd7, Tk.t7, base0, base1, base2, base3, Option.isNone_none, Option.isNone_some, Nat.reduceBEq, true_or, or_true, false_or, or_false, Nat.reduceLT, Nat.reduceMod, Nat.reducePow, rmaps, nsucc, List.flatten_cons, List.flatten_nil, Nat.reduceEqDiff, Nat.reduceLeDiff, Nat.reduceAdd, Nat.reduceMul, Nat.reduceSub, ↓reduceIte, reduceCtorEq, decide_true, decide_false]
      exact fin_v rfl
end Go.Proofs.YtchpcjmgifnmdaaDoor

/- Readers of the arguments; what the rows' list of variables gives; room. -/
namespace Go.Proofs.YtchpcjmgifnmdaaDoor
open Go Go.Proofs.YtchpcjmgifnmdaaDoor.Ab Go.ChangeShapes Go.WideShapes Go.ChangeAt Go.RowKit Go.Deep
set_option maxRecDepth 100000

theorem rdI : Rd Tryd.prog 3 (fun n : Int => [.v (.int .i64 n)]) (fun n => IntKind.i64.min ≤ n ∧ n ≤ IntKind.i64.max) := Rd.int Tryd.underlying3
theorem rdMv : Rd Tryd.prog 113 mvR (fun _ => True) :=
  (Rd.struct Tryd.underlying113 rfl (by kernel_rfl) (RdF.cons (s := 1) rfl (by kernel_rfl) rdI (RdF.cons (s := 1) rfl (by kernel_rfl) rdI (RdF.cons (s := 1) rfl (by kernel_rfl) rdI (RdF.cons (s := 1) rfl (by kernel_rfl) rdI RdF.nil))))).map
    (fun p => (⟨p.1, p.2.1, p.2.2.1, p.2.2.2.1⟩ : Mv)) (fun _ => rfl) (fun _ _ => trivial)
theorem rdMvs : Rd Tryd.prog 22 (fun l : List Mv => [mvsV l]) (fun _ => True) :=
  (Rd.slice Tryd.underlying22 (by kernel_rfl) (by decide) rdMv (fun _ => rfl)).map (fun l : List Mv => l) (fun _ => rfl) (fun _ _ => trivial)
theorem rdRe : Rd Tryd.prog 24 reL (fun _ => True) :=
  (Rd.struct Tryd.underlying24 rfl (by kernel_rfl) (RdF.cons (s := 1) rfl (by kernel_rfl) rdI (RdF.cons (s := 1) rfl (by kernel_rfl) rdI (RdF.cons (s := 1) rfl (by kernel_rfl) rdI (RdF.cons (s := 1) rfl (by kernel_rfl) rdI (RdF.cons (s := 1) rfl (by kernel_rfl) rdMvs RdF.nil)))))).map
    (fun p => (⟨p.1, p.2.1, p.2.2.1, p.2.2.2.1, p.2.2.2.2.1⟩ : Re)) (fun _ => rfl) (fun _ _ => trivial)
theorem own : ownKnob Tryd.prog.godebug = none := by kernel_rfl
theorem laidOut : laidOutB Tryd.prog = true := by kernel_rfl
theorem by22 : Tryd.prog.bytesOf 113 = 32 := by kernel_rfl
theorem by27 : Tryd.prog.bytesOf 3 = 8 := by kernel_rfl

/-! room -/
theorem slice_room {H : Type} {enc : TypeId × Value → H} {W : World} {base : Nat} {sp : Nat → Bool} {hd : Bool} {t e : TypeId} {fuel : Nat} {v : Value} {x : DataW H × List MemPlace} {g : G} {k : Nat} {rows : List (List AV)} {tip : Tip} {B R : Nat}
    (ht : Tryd.prog.underlying t = some (.slice e)) (h : DataW.trod enc Tryd.prog W base sp hd fuel t [v] = some x) (hv : VR g (.lst k rows tip) v) (hw : ∀ elems spare, x.1 = .slice elems spare → (elems.length + spare.length) * B ≤ R) : rows.length * B ≤ R := by
  rcases open_slice ht h with ⟨h1, _⟩ | ⟨a, len, cap, m, n, D, Pl, h1, _, _, _, _, hx, _⟩
  · simp only [List.cons.injEq, and_true] at h1
    subst h1
    cases hv with
    | lst q1 q2 => rw [← q1]; simp
  · simp only [List.cons.injEq, and_true] at h1
    subst h1
    cases hv with
    | lst q1 q2 =>
      rw [← q1]
      have := hw _ _ (by rw [hx])
      simp only [List.length_map, List.length_range] at this
      exact Nat.le_trans (Nat.mul_le_mul_right B (Nat.le_add_right _ _)) this
theorem re_room {H : Type} {enc : TypeId × Value → H} {W : World} {base : Nat} {sp : Nat → Bool} {hd : Bool} {v : Value} {d : DataW H} {ps : List MemPlace} {g : G} {y : Re}
    (h : DataW.Trod enc Tryd.prog W base sp hd 24 v d ps) (hv : VR g (reV y) v) (hw : ∀ n ∈ DataW.weights Tryd.prog 24 d, n ≤ reachBytes) : y.mv.length * 32 ≤ 140737488355328 := by
  obtain ⟨fuel, hf⟩ := h
  obtain ⟨xs, n, _, hx, hl, hlen, hfs⟩ := DataW.trod_struct Tryd.underlying24 hf
  have h4 : DataW.trod enc Tryd.prog W base sp hd n 22 ((v.cells.toList.drop 4).take (Tryd.prog.cellsOf 22)) = xs[4]? := hfs 4 _ rfl
  unfold reV at hv
  cases hv with
  | @agg _ arr ha hva =>
    have hsz : arr.size = 5 := ha
    have hv4 := hva 4 (by simp [reL])
    have e4 : ((Value.agg arr).cells.toList.drop 4).take 1 = [arr.getD 4 undef] := by
      show (arr.toList.drop 4).take 1 = _
      apply List.ext_getElem?
      intro i
      cases i with
      | zero =>
        rw [List.getElem?_take_of_lt (by omega), List.getElem?_drop, Array.getElem?_toList, Array.getElem?_eq_getElem (by omega)]
        simp [Array.getD_eq_getD_getElem?, Array.getElem?_eq_getElem (show 4 < arr.size by omega)]
      | succ i => rw [List.getElem?_eq_none (by rw [List.length_take]; omega), List.getElem?_eq_none (by simp)]
    have hc22 : Tryd.prog.cellsOf 22 = 1 := by kernel_rfl
    simp only [hc22] at h4
    rw [e4] at h4
    have hxl : xs.length = 5 := hlen
    rw [List.getElem?_eq_getElem (show 4 < xs.length by omega)] at h4
    have hd1 : d = .agg (xs.map (·.1)) := congrArg Prod.fst hx
    have := slice_room (B := 32) (R := reachBytes) Tryd.underlying22 h4 hv4 fun elems spare he => by
      refine hw _ ?_
      rw [hd1]
      simp only [DataW.weights, Tryd.underlying24]
      refine DataW.weights_mem_each (j := 4) (t := 22) rfl (d := .slice elems spare) ?_ _ ?_
      · rw [List.getElem?_map, List.getElem?_eq_getElem (show 4 < xs.length by omega)]
        exact congrArg some he
      · simp [DataW.weights, Tryd.underlying22, by22]
    rw [List.length_map] at this
    have h2 : reachBytes = 140737488351232 := rfl
    omega

/-! what the rows' list of variables gives -/
theorem gTab : Tryd.prog.globalNamed "math/bits.deBruijn64tab" = some 1 := by kernel_rfl
theorem gTabType : (Tryd.prog.globals[1]?).map (·.type) = some 180 := by kernel_rfl
theorem cells180 : Tryd.prog.cellsOf 180 = 64 := by kernel_rfl
theorem cells5 : Tryd.prog.cellsOf 5 = 1 := by kernel_rfl
theorem laid_cells {W : World} (h : laidMetH Tryd.prog [("math/bits.deBruijn32tab", Rows.laid_math_bits_deBruijn32tab), ("math/bits.deBruijn64tab", Rows.laid_math_bits_deBruijn64tab)] W) : ∀ b o x, gCell b o = Option.some x → W.cell? ⟨b, o, .none⟩ = Option.some x := by
  have h1 := h.filter fun x => x.1 == "math/bits.deBruijn64tab"
  have h2 : laidMet Tryd.prog [("math/bits.deBruijn64tab", Lib.tabData .u8 (tab64.map fun n : Nat => (n : Int)))] W := h1
  have hT := Lib.tabIs_of_head (rest := []) gTab gTabType Tryd.underlying180 Tryd.underlying5 cells5 cells180 h2
  intro b o x e
  unfold gCell at e
  split at e
  · rename_i hc
    obtain ⟨rfl, ho⟩ := hc
    simp only [Option.some.injEq] at e
    subst e
    have := hT.cell gTab o (by simpa [tab64] using ho)
    rw [this]
    congr 2
    rw [List.getD_eq_getElem?_getD, List.getElem?_map, List.getD_eq_getElem?_getD]
    rw [List.getElem?_eq_getElem (show o < tab64.length by simpa [tab64] using ho)]; rfl
  · cases e
end Go.Proofs.YtchpcjmgifnmdaaDoor

/- A world for the rows' witnesses: the tables hold what their initialisers lay. -/
namespace Go.Proofs.YtchpcjmgifnmdaaDoor
open Go Go.Proofs.YtchpcjmgifnmdaaDoor.Ab Go.ChangeShapes Go.WideShapes Go.ChangeAt Go.RowKit
set_option maxRecDepth 100000

def lay32 : Obj → Obj
  | .cells _ t frozen => .cells #[.int .u8 0, .int .u8 1, .int .u8 28, .int .u8 2, .int .u8 29, .int .u8 14, .int .u8 24, .int .u8 3, .int .u8 30, .int .u8 22, .int .u8 20, .int .u8 15, .int .u8 25, .int .u8 17, .int .u8 4, .int .u8 8, .int .u8 31, .int .u8 27, .int .u8 13, .int .u8 23, .int .u8 21, .int .u8 19, .int .u8 16, .int .u8 7, .int .u8 26, .int .u8 12, .int .u8 18, .int .u8 6, .int .u8 11, .int .u8 5, .int .u8 10, .int .u8 9] t frozen
  | o => o
def lay64 : Obj → Obj
  | .cells _ t frozen => .cells ((tab64.map fun n : Nat => Value.int .u8 (n : Int)).toArray) t frozen
  | o => o
/-- a world for the witness: the tables hold what their initialisers lay -/
noncomputable def laidWorld (os : Os) : World :=
  { World.holding Tryd.prog os ⟨#[], #[], []⟩ with heap := ((World.holding Tryd.prog os ⟨#[], #[], []⟩).heap.modify 0 lay32).modify 1 lay64 }
theorem row_le {H : Type} {P : Program} {ts : List TypeId} {ds : List (DataW H)} (h : (DataW.weightsEach P ts ds).all (· ≤ reachBytes) = true) {j : Nat} {t : TypeId} {d : DataW H} (ht : ts[j]? = some t) (hd : ds[j]? = some d) : ∀ n ∈ DataW.weights P t d, n ≤ reachBytes := fun n hn =>
  of_decide_eq_true (List.all_eq_true.1 h n (DataW.weights_mem_each ht hd n hn))
end Go.Proofs.YtchpcjmgifnmdaaDoor

/- The law holds: for every input it returns true, and each argument reads behind the call as it read before; the card ties the table of math/bits to the program's text. No condition. -/
namespace Go.Proofs.YtchpcjmgifnmdaaDoor
open Go Go.Proofs.YtchpcjmgifnmdaaDoor.Ab Go.ChangeShapes Go.WideShapes Go.ChangeAt Go.RowKit
set_option maxRecDepth 100000

def wArgs7 : Array Value := #[.agg #[.int .i64 0, .int .i64 0, .int .i64 0, .int .i64 0, .slice none 0 0], .int .i64 0]
theorem laid_met7 (os : Os) : laidMet Tryd.prog Rows.conformTracesRow.laid ((laidWorld os).forCall (fun _ _ => 0) ⟨#[], wArgs7, []⟩).memory :=
  laidMet_of_run' 66 (by kernel_rfl) (by kernel_rfl)
theorem reads7 (os : Os) {H : Type} (enc : TypeId × Value → H) : ∃ places, DataW.whole enc Tryd.prog ((laidWorld os).forCall (fun _ _ => 0) ⟨#[], wArgs7, []⟩).memory Tryd.f7.params.toList Rows.conformTracesSpec.vars false wArgs7.toList 8 = some ([.agg [.lit (.int .i64 0), .lit (.int .i64 0), .lit (.int .i64 0), .lit (.int .i64 0), .nil], .lit (.int .i64 0)], [], places) :=
  ⟨[], by kernel_rfl⟩
set_option maxHeartbeats 800000 in
theorem lift7 (os : Os) (started : os.Started) (H : Type) (enc : TypeId × Value → H) (F : Stop.Interp) :
    ReturnsInHanded {} Tryd.checked os 7 .any ((OpenSpec.ofChange Rows.conformTracesSpec).preRow enc Tryd.prog Tryd.f7 Rows.conformTracesRow.domain false Rows.conformTracesRow.laid) (((OpenSpec.ofChange Rows.conformTracesSpec).at F).post enc Tryd.prog Tryd.f7 false true false false) := by
  obtain ⟨places, hx⟩ := reads7 os enc
  refine returnsInHanded_of_row (C := Tryd.checked) (s := OpenSpec.ofChange Rows.conformTracesSpec) own started (by kernel_rfl) Tryd.func7
    (witness_row_at (enc := enc) (C := Tryd.checked) false (laidWorld os) wArgs7 rfl (by kernel_rfl) (by kernel_rfl) (by kernel_rfl)
      (OpenSpec.preRow_of_cond 8 hx (by kernel_rfl) (fun k hk => by cases hk) (by kernel_rfl) (laid_met7 os))) ?_
  intro W base args ds gs before hval0 hW _ _ hsz hL _ _
  have hval : ∀ (j : Nat) t v, Tryd.f7.params[j]? = some t → args[j]? = some v → Value.okWide Tryd.prog W .any base t v := hval0
  have hW' := hW
  obtain ⟨p, q, hA0, hV, rfl, _, _⟩ := hW
  have hA : DataW.TrodAll enc Tryd.prog W 0 (fun _ => true) true Tryd.f7.params.toList args.toList ds p := hA0
  rw [Tryd.params7] at hA hval hsz
  obtain ⟨v0, v1, d0, d1, p0, p1, rfl, rfl, rfl, h0, h1⟩ := trodAll_two hA
  obtain ⟨rfl, rfl⟩ := trodVars_none hV
  obtain ⟨c0, -, hc0⟩ := arg_struct rdRe Tryd.underlying24 (hval 0 24 v0 rfl rfl) h0
  have r0 := re_room h0 hc0 (row_le hsz (j := 0) rfl rfl)
  obtain ⟨n1, rfl, rfl, rfl, hn1⟩ := open_int Tryd.underlying3 (hval 1 3 v1 rfl rfl) h1
  have hc1 : VR (gAll W) (.v (.int .i64 n1)) (.int .i64 n1) := .v
  clear hA0 hval0
  simp only [List.append_nil] at hW'
  have hlt : ∀ x ∈ p0 ++ [], x.block < W.heap.size := fun x hx => by simpa using hW'.lt x (by first | exact hx | simpa using hx)
  refine ((law7 c0 n1 r0).true (xs := #[v0, .int .i64 n1]) (W := W) ⟨rfl, fun j hj => ?_⟩ (laid_cells hL)).mono fun e W' ⟨he, hb⟩ => ?_
  · match j, hj with
    | 0, _ => exact hc0
    | 1, _ => exact hc1
  subst he
  have harg0 : DataW.Trod enc Tryd.prog W' 0 (fun b => decide (b < W.heap.size)) true 24 v0 d0 p0 :=
    Below.trod laidOut (by kernel_rfl) (of_decide_eq_true (by kernel_rfl)) h0 hb (fun x hx => hlt x (List.mem_append.2 (.inl hx)))
  have harg1 : DataW.Trod enc Tryd.prog W' 0 (fun b => decide (b < W.heap.size)) true 3 (.int .i64 n1) (.lit (.int .i64 n1)) [] :=
    Below.trod laidOut (by kernel_rfl) (of_decide_eq_true (by kernel_rfl)) h1 hb (fun x hx => hlt x (List.mem_append.2 (.inr hx)))
  refine ⟨_, rfl, _, _, _, [], _, [], hW', ?_, trodAll_mk2 harg0 harg1, rfl, hb.frame _, fun h => by cases h⟩
  exact trodAll_mk1 (shut_bool Tryd.underlying4 _)
theorem conformTracesSaid : Rows.ConformTracesSaid :=
  OpenClaim.holds_of_cond 7 Tryd.f7 rfl rfl rfl rfl rfl rfl rfl ⟨rfl, rfl, rfl, rfl, rfl⟩ rfl rfl rfl rfl rfl (by kernel_rfl) Tryd.func7 (by kernel_rfl)
    (of_decide_eq_true (by kernel_rfl)) (by unfold Func.isWrapper; first | (rw [if_pos (by decide +kernel)]; kernel_rfl) | (rw [if_neg (by decide +kernel)]; exact ⟨rfl, rfl⟩))
    (fun os started H enc _ F => by rw [OpenClaim.pre_eq_preRow]; exact lift7 os started H enc F)
theorem plain7 (f : FuncId) (fn : Func) (hf : Tryd.pinned.checked.prog.funcNamed "examiner/examinerlaw42.ConformTraces" = some f) (hfn : Tryd.pinned.checked.prog.funcs[f]? = some fn) :
    false = Tryd.pinned.checked.prog.looks [] ∧ ∀ (j : Nat) t, fn.params[j]? = some t → Tryd.pinned.checked.prog.wantsStandIn t = false := by
  obtain rfl : f = 7 := Option.some.inj ((show Tryd.prog.funcNamed "examiner/examinerlaw42.ConformTraces" = some 7 by kernel_rfl).symm.trans hf) |>.symm
  obtain rfl : fn = Tryd.f7 := (Option.some.inj (Tryd.func7.symm.trans hfn)).symm
  refine ⟨by kernel_rfl, fun j t ht => ?_⟩
  rw [Tryd.params7] at ht
  have hm := Array.mem_of_getElem? ht
  simp only [List.mem_toArray, List.mem_cons, List.not_mem_nil, or_false] at hm
  rcases hm with rfl | rfl
  · exact (show Tryd.prog.wantsStandIn 24 = false by kernel_rfl)
  · exact (show Tryd.prog.wantsStandIn 3 = false by kernel_rfl)
theorem conformTraces : Rows.ConformTracesCardSaid :=
  Claim7.holds_tied_plain_at .later [] _ _ _ _ conformTracesSaid (fun _ h => by cases h) (by kernel_rfl) (fun _ h => by cases h) conformTraces_row_tie rfl ⟨rfl, rfl⟩ (by kernel_rfl) rfl plain7 (by kernel_rfl)
end Go.Proofs.YtchpcjmgifnmdaaDoor

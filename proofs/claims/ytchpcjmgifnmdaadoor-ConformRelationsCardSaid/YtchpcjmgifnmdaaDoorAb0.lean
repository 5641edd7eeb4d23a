/- Abstract values for walks: frozen slices as lists of rows, frozen boxes, owned blocks by name; what an abstract value and a machine's value have to do with each other. -/
import Derived.Calls
import Derived.Defers
import Derived.Laws.Sem
import Derived.Laws.World
import Derived.Laws.Cells
import Derived.Test.YtchpcjmgifnmdaaDoorGl
namespace Go.Proofs.YtchpcjmgifnmdaaDoor.Ab
open Go

inductive Tip where
  | unk
  | full
  | nn
  | live (t : Nat)
deriving DecidableEq

inductive AV where
  | any
  | v (x : Value)
  | agg (cs : List AV)
  | tup (vs : List AV)
  | lst (k : Nat) (rows : List (List AV)) (tip : Tip)
  | box (cs : List AV)
  | ptr (n o : Nat)
  | sl (k n o len : Nat)
  | fn (f : Fn) (fs cs : List AV)
  | ifc (t : TypeId) (x : AV)
  | map (n : Nat)

instance : Inhabited AV := ⟨.any⟩

/-- a growing list's ghost: its element's cells, its length, its place, its capacity -/
structure TipG where
  k : Nat
  L : Nat
  a : Addr
  cap : Nat

structure G where
  fz : Nat → Nat → Option Value
  mu : Nat → Option Nat
  tp : Nat → Option TipG
  bs : Nat → Option Nat

structure G.le (g g' : G) : Prop where
  fz : ∀ b o x, g.fz b o = some x → g'.fz b o = some x
  mu : ∀ n b, g.mu n = some b → g'.mu n = some b
  tp : ∀ t T, g.tp t = some T → ∃ T', g'.tp t = some T' ∧ T'.k = T.k ∧ T.L ≤ T'.L ∧ (T'.L = T.L → T' = T)
  bs : ∀ n s, g.bs n = some s → g'.bs n = some s

theorem G.le.refl (g : G) : g.le g := ⟨fun _ _ _ h => h, fun _ _ h => h, fun _ T h => ⟨T, h, rfl, Nat.le_refl _, fun _ => rfl⟩, fun _ _ h => h⟩

theorem G.le.trans {a b c : G} (h : a.le b) (h' : b.le c) : a.le c := by
  refine ⟨fun x o v e => h'.fz _ _ _ (h.fz _ _ _ e), fun n m e => h'.mu _ _ (h.mu _ _ e), fun t T e => ?_, fun n s e => h'.bs _ _ (h.bs _ _ e)⟩
  obtain ⟨T1, e1, k1, l1, s1⟩ := h.tp t T e
  obtain ⟨T2, e2, k2, l2, s2⟩ := h'.tp t T1 e1
  refine ⟨T2, e2, k2.trans k1, Nat.le_trans l1 l2, fun hl => ?_⟩
  have h12 : T2.L = T1.L := by omega
  have h1 : T1.L = T.L := by omega
  rw [s2 h12, s1 h1]

def TipOk (g : G) (tip : Tip) (k len : Nat) (ao : Option Addr) (cap : Nat) : Prop :=
  match tip with
  | .unk => True
  | .full => cap = len
  | .nn => ao ≠ none
  | .live t => ∃ T, g.tp t = some T ∧ T.k = k ∧ len ≤ T.L ∧ (len = T.L → ao = some T.a ∧ cap = T.cap)

theorem TipOk.mono {g g' : G} (h : g.le g') {tip : Tip} {k len : Nat} {ao : Option Addr} {cap : Nat} (ht : TipOk g tip k len ao cap) : TipOk g' tip k len ao cap := by
  cases tip with
  | unk => trivial
  | full => exact ht
  | nn => exact ht
  | live t =>
    obtain ⟨T, e, hk, hl, hs⟩ := ht
    obtain ⟨T', e', k', l', s'⟩ := h.tp t T e
    refine ⟨T', e', k'.trans hk, Nat.le_trans hl l', fun hh => ?_⟩
    have : T'.L = T.L := by omega
    rw [s' this] at hh ⊢
    exact hs hh

inductive VR (g : G) : AV → Value → Prop
  | any {x : Value} : VR g .any x
  | v {x : Value} : VR g (.v x) x
  | agg {cs : List AV} {xs : Array Value} (hl : xs.size = cs.length) (hx : ∀ j, j < cs.length → VR g (cs.getD j .any) (xs.getD j undef)) : VR g (.agg cs) (.agg xs)
  | tup {cs : List AV} {xs : Array Value} (hl : xs.size = cs.length) (hx : ∀ j, j < cs.length → VR g (cs.getD j .any) (xs.getD j undef)) : VR g (.tup cs) (.tuple xs)
  | lst {k : Nat} {rows : List (List AV)} {tip : Tip} {ao : Option Addr} {a : Addr} {len cap : Nat} {xs : Nat → Nat → Value}
      (hl : len = rows.length) (hc : len ≤ cap) (hz : ao = none → cap = 0) (ha : 0 < rows.length → ao = some a ∧ a.spot = none)
      (hk : ∀ i, i < rows.length → (rows.getD i []).length = k)
      (hf : ∀ i j, i < rows.length → j < k → g.fz a.block (a.off + i * k + j) = some (xs i j))
      (hx : ∀ i j, i < rows.length → j < k → VR g ((rows.getD i []).getD j .any) (xs i j))
      (ht : TipOk g tip k rows.length ao cap) : VR g (.lst k rows tip) (.slice ao len cap)
  | box {cs : List AV} {a : Addr} {xs : Nat → Value} (ha : a.spot = none)
      (hf : ∀ j, j < cs.length → g.fz a.block (a.off + j) = some (xs j))
      (hx : ∀ j, j < cs.length → VR g (cs.getD j .any) (xs j)) : VR g (.box cs) (.pointer (some a))
  | ptr {n o b : Nat} (h : g.mu n = some b) : VR g (.ptr n o) (.pointer (some ⟨b, o, none⟩))
  | sl {k n o len cap b : Nat} (h : g.mu n = some b) (hc : len ≤ cap) (hb : g.bs n = some (o + cap * k)) : VR g (.sl k n o len) (.slice (some ⟨b, o, none⟩) len cap)
  | fn {f : Fn} {fs cs : List AV} {xs ys : Array Value} (h1 : xs.size = fs.length) (h2 : ys.size = cs.length)
      (hx : ∀ j, j < fs.length → VR g (fs.getD j .any) (xs.getD j undef))
      (hy : ∀ j, j < cs.length → VR g (cs.getD j .any) (ys.getD j undef)) : VR g (.fn f fs cs) (.func f xs ys)
  | ifc {t : TypeId} {x : AV} {y : Value} (h : VR g x y) : VR g (.ifc t x) (.iface t y)
  | map {n b : Nat} (h : g.mu n = some b) : VR g (.map n) (.map (some b))

theorem VR.mono {g g' : G} (h : g.le g') {a : AV} {x : Value} (hx : VR g a x) : VR g' a x := by
  induction hx with
  | any => exact .any
  | v => exact .v
  | agg hl _ ih => exact .agg hl ih
  | tup hl _ ih => exact .tup hl ih
  | lst hl hc hz ha hk hf _ ht ih => exact .lst hl hc hz ha hk (fun i j hi hj => h.fz _ _ _ (hf i j hi hj)) ih (ht.mono h)
  | box ha hf _ ih => exact .box ha (fun j hj => h.fz _ _ _ (hf j hj)) ih
  | ptr e => exact .ptr (h.mu _ _ e)
  | sl e hc hb => exact .sl (h.mu _ _ e) hc (h.bs _ _ hb)
  | fn h1 h2 _ _ ih1 ih2 => exact .fn h1 h2 ih1 ih2
  | ifc _ ih => exact .ifc ih
  | map e => exact .map (h.mu _ _ e)

/-- a list of abstract values and an array of values -/
def VRs (g : G) (cs : List AV) (xs : Array Value) : Prop := xs.size = cs.length ∧ ∀ j, j < cs.length → VR g (cs.getD j .any) (xs.getD j undef)

theorem VRs.mono {g g' : G} (h : g.le g') {cs : List AV} {xs : Array Value} (hx : VRs g cs xs) : VRs g' cs xs :=
  ⟨hx.1, fun j hj => (hx.2 j hj).mono h⟩

/-- blocks -/
inductive ABlk where
  | cells (l : List AV)
  | map (es : List (Value × AV))

def BR (g : G) (n : Nat) : ABlk → Obj → Prop
  | .cells l, .cells c _ fr => fr = (0, 0) ∧ l.length ≤ c.size ∧ g.bs n = some c.size ∧ ∀ j, j < l.length → VR g (l.getD j .any) (c.getD j undef)
  | .map es, .map ents _ => ents.size = es.length ∧ ∀ j, j < es.length → ∃ e, ents[j]? = some e ∧ e.key = (es.getD j (undef, .any)).1 ∧ VR g (es.getD j (undef, .any)).2 e.val
  | _, _ => False

theorem BR.mono {g g' : G} (h : g.le g') {n : Nat} {b : ABlk} {o : Obj} (hb : BR g n b o) : BR g' n b o := by
  cases b with
  | cells l =>
    cases o with
    | cells c e fr => exact ⟨hb.1, hb.2.1, h.bs _ _ hb.2.2.1, fun j hj => (hb.2.2.2 j hj).mono h⟩
    | _ => exact hb
  | map es =>
    cases o with
    | map ents cl =>
      refine ⟨hb.1, fun j hj => ?_⟩
      obtain ⟨e, h1, h2, h3⟩ := hb.2 j hj
      exact ⟨e, h1, h2, h3.mono h⟩
    | _ => exact hb

structure AH where
  next : Nat
  own : Nat → Option ABlk
  tip : Nat → Option Nat

def Mods (g : G) (H : AH) (b : Nat) : Prop :=
  (∃ n, H.own n ≠ none ∧ g.mu n = some b) ∨ (∃ t, H.tip t ≠ none ∧ ∃ T, g.tp t = some T ∧ T.a.block = b)

structure WR (g : G) (H : AH) (w : World) : Prop where
  fz : ∀ b o x, g.fz b o = some x → w.cell? ⟨b, o, none⟩ = some x
  own : ∀ n B, H.own n = some B → ∃ b obj, g.mu n = some b ∧ w.heap[b]? = some obj ∧ BR g n B obj ∧ ∀ o, g.fz b o = none
  inj : ∀ n m b, H.own n ≠ none → H.own m ≠ none → g.mu n = some b → g.mu m = some b → n = m
  tip : ∀ t L, H.tip t = some L → ∃ T c el, g.tp t = some T ∧ T.L = L ∧ T.a.spot = none ∧ L ≤ T.cap ∧ w.heap[T.a.block]? = some (.cells c el (0, 0)) ∧
      T.a.off + T.cap * T.k ≤ c.size ∧ ∀ o, T.a.off + L * T.k ≤ o → g.fz T.a.block o = none
  tinj : ∀ t s T S, H.tip t ≠ none → H.tip s ≠ none → g.tp t = some T → g.tp s = some S → T.a.block = S.a.block → t = s
  town : ∀ t n T b, H.tip t ≠ none → H.own n ≠ none → g.tp t = some T → g.mu n = some b → T.a.block ≠ b
  bmu : ∀ n b, g.mu n = some b → n < H.next
  btp : ∀ t T, g.tp t = some T → t < H.next
  bnext : ∀ n b, g.mu n = some b → b < w.heap.size
  nbs : ∀ n, g.mu n = none → g.bs n = none
  gz : ∀ b o x, gCell b o = some x → g.fz b o = some x

/-- the streams are as they were -/
def Str (w w' : World) : Prop := w'.os = w.os ∧ w'.tape = w.tape ∧ w'.output = w.output

theorem Str.refl (w : World) : Str w w := ⟨rfl, rfl, rfl⟩
theorem Str.trans {a b c : World} (h : Str a b) (h' : Str b c) : Str a c := ⟨h'.1.trans h.1, h'.2.1.trans h.2.1, h'.2.2.trans h.2.2⟩

/-- one step: the ghost has grown, the relation holds, what is not ours to change is as it was -/
structure ST (g : G) (H : AH) (w : World) (g' : G) (H' : AH) (w' : World) : Prop where
  le : g.le g'
  wr : WR g' H' w'
  size : w.heap.size ≤ w'.heap.size
  next : H.next ≤ H'.next
  names : ∀ n, n < H.next → g'.mu n = g.mu n
  tips : ∀ n, n < H.next → g.tp n = none → g'.tp n = none
  same : ∀ b, b < w.heap.size → ¬ Mods g H b → w'.heap[b]? = w.heap[b]? ∧ ¬ Mods g' H' b ∧ ∀ o, g'.fz b o = g.fz b o
  str : Str w w'

theorem ST.refl {g : G} {H : AH} {w : World} (h : WR g H w) : ST g H w g H w :=
  ⟨.refl g, h, Nat.le_refl _, Nat.le_refl _, fun _ _ => rfl, fun _ _ h => h, fun _ _ hm => ⟨rfl, hm, fun _ => rfl⟩, .refl w⟩

theorem ST.trans {g1 g2 g3 : G} {H1 H2 H3 : AH} {w1 w2 w3 : World} (h : ST g1 H1 w1 g2 H2 w2) (h' : ST g2 H2 w2 g3 H3 w3) : ST g1 H1 w1 g3 H3 w3 := by
  refine ⟨h.le.trans h'.le, h'.wr, Nat.le_trans h.size h'.size, Nat.le_trans h.next h'.next, fun n hn => ?_, fun n hn ht => ?_, fun b hb hm => ?_, h.str.trans h'.str⟩
  · rw [h'.names n (Nat.lt_of_lt_of_le hn h.next), h.names n hn]
  · exact h'.tips n (Nat.lt_of_lt_of_le hn h.next) (h.tips n hn ht)
  · obtain ⟨e1, m1, z1⟩ := h.same b hb hm
    obtain ⟨e2, m2, z2⟩ := h'.same b (Nat.lt_of_lt_of_le hb h.size) m1
    exact ⟨e2.trans e1, m2, fun o => (z2 o).trans (z1 o)⟩

end Go.Proofs.YtchpcjmgifnmdaaDoor.Ab

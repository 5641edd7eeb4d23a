/- Worlds: new frozen blocks, new owned blocks, stores; frames of abstract values. -/
import Derived.Test.YtchpcjmgifnmdaaDoorAb0
namespace Go.Proofs.YtchpcjmgifnmdaaDoor.Ab
open Go

theorem WR.of_heap {g : G} {H : AH} {w w' : World} (h : WR g H w) (e : w'.heap = w.heap) : WR g H w' := by
  have hc : ∀ p : Addr, w'.cell? p = w.cell? p := fun p => by simp only [World.cell?, e]
  exact ⟨fun b o x hx => by rw [hc]; exact h.fz b o x hx, by rw [e]; exact h.own, h.inj, by rw [e]; exact h.tip, h.tinj, h.town, h.bmu, h.btp, by rw [e]; exact h.bnext, h.nbs, h.gz⟩

theorem ST.of_heap {g : G} {H : AH} {w w' : World} (h : WR g H w) (e : w'.heap = w.heap) (es : Str w w') : ST g H w g H w' :=
  ⟨.refl g, h.of_heap e, by rw [e]; exact Nat.le_refl _, Nat.le_refl _, fun _ _ => rfl, fun _ _ h => h, fun b _ hm => ⟨by rw [e], hm, fun _ => rfl⟩, es⟩

theorem cell_lt {w : World} {b o : Nat} {x : Value} (h : w.cell? ⟨b, o, none⟩ = some x) : b < w.heap.size := World.block_lt_of_cell? (a := ⟨b, o, none⟩) w h

theorem WR.fz_lt {g : G} {H : AH} {w : World} (h : WR g H w) {b o : Nat} {x : Value} (e : g.fz b o = some x) : b < w.heap.size := cell_lt (h.fz b o x e)

theorem WR.fz_none {g : G} {H : AH} {w : World} (h : WR g H w) {b : Nat} (hb : w.heap.size ≤ b) (o : Nat) : g.fz b o = none := by
  cases e : g.fz b o with
  | none => rfl
  | some x => exact absurd (h.fz_lt e) (by omega)

/-- the ghost with a block frozen -/
def G.frz (g : G) (b : Nat) (c : Array Value) : G := { g with fz := fun b' o => if b' = b then c[o]? else g.fz b' o }

theorem G.le_frz {g : G} {b : Nat} {c : Array Value} (h : ∀ o, g.fz b o = none) : g.le (g.frz b c) :=
  ⟨fun b' o x e => by
    by_cases hb : b' = b
    · subst hb; rw [h o] at e; cases e
    · simp only [G.frz, hb, if_false]; exact e, fun _ _ e => e, fun _ T e => ⟨T, e, rfl, Nat.le_refl _, fun _ => rfl⟩, fun _ _ e => e⟩

theorem heap_alloc_lt {w : World} {o : Obj} {b : Nat} (h : b < w.heap.size) : (w.alloc o).heap[b]? = w.heap[b]? := by
  simp only [World.alloc, Array.getElem?_push]
  rw [if_neg (by omega)]

theorem heap_alloc_new {w : World} {o : Obj} : (w.alloc o).heap[w.heap.size]? = some o := by simp only [World.alloc, Array.getElem?_push, if_true]

theorem ST.frz {g : G} {H : AH} {w : World} (h : WR g H w) (c : Array Value) (el : TypeId) :
    ST g H w (g.frz w.heap.size c) H (w.alloc (.cells c el)) := by
  have hn := h.fz_none (Nat.le_refl w.heap.size)
  have hle := G.le_frz (c := c) hn
  have hgt : ∀ n B, H.own n = some B → ∀ b, g.mu n = some b → b < w.heap.size := fun n B _ b e => h.bnext n b e
  refine ⟨hle, ⟨?_, ?_, h.inj, ?_, h.tinj, h.town, h.bmu, h.btp, ?_, h.nbs, fun b o x e => hle.fz _ _ _ (h.gz b o x e)⟩, by simp, Nat.le_refl _, fun _ _ => rfl, fun _ _ h => h, fun b hb hm => ⟨heap_alloc_lt hb, fun hm' => hm ?_, fun o => by simp only [G.frz]; rw [if_neg (by omega)]⟩, ⟨rfl, rfl, rfl⟩⟩
  · intro b o x e
    by_cases hb : b = w.heap.size
    · subst hb
      simp only [G.frz, if_true] at e
      rw [World.cell?_alloc_new]; exact e
    · simp only [G.frz, hb, if_false] at e
      rw [World.cell?_alloc_lt _ _ _ (h.fz_lt e)]; exact h.fz b o x e
  · intro n B hB
    obtain ⟨b, obj, e1, e2, e3, e4⟩ := h.own n B hB
    have hb := h.bnext n b e1
    refine ⟨b, obj, e1, by rw [heap_alloc_lt hb]; exact e2, e3.mono hle, fun o => ?_⟩
    simp only [G.frz]; rw [if_neg (by omega)]; exact e4 o
  · intro t L hL
    obtain ⟨T, c', el', e1, e2, e3, e4, e5, e6, e7⟩ := h.tip t L hL
    have hb : T.a.block < w.heap.size := by
      rcases Nat.lt_or_ge T.a.block w.heap.size with h' | h'
      · exact h'
      · rw [Array.getElem?_eq_none h'] at e5; cases e5
    refine ⟨T, c', el', e1, e2, e3, e4, by rw [heap_alloc_lt hb]; exact e5, e6, fun o ho => ?_⟩
    simp only [G.frz]; rw [if_neg (by omega)]; exact e7 o ho
  · intro n b e; simp; have := h.bnext n b e; omega
  · rcases hm' with ⟨n, h1, h2⟩ | ⟨t, h1, T, h2, h3⟩
    · exact .inl ⟨n, h1, h2⟩
    · exact .inr ⟨t, h1, T, h2, h3⟩

/-- a new owned block -/
def AH.add (H : AH) (B : ABlk) : AH := { H with next := H.next + 1, own := fun n => if n = H.next then some B else H.own n }

def G.name (g : G) (n b s : Nat) : G := { g with mu := fun m => if m = n then some b else g.mu m, bs := fun m => if m = n then some s else g.bs m }

theorem G.nbs_name {g : G} {n b s : Nat} (h : ∀ n, g.mu n = none → g.bs n = none) : ∀ m, (g.name n b s).mu m = none → (g.name n b s).bs m = none := by
  intro m hm
  by_cases e : m = n
  · subst e; simp [G.name] at hm
  · simp only [G.name, e, if_false] at hm ⊢; exact h m hm

theorem WR.own_lt {g : G} {H : AH} {w : World} (h : WR g H w) {n : Nat} (e : H.own n ≠ none) : n < H.next := by
  cases hB : H.own n with
  | none => exact absurd hB e
  | some B => obtain ⟨b, _, e1, _⟩ := h.own n B hB; exact h.bmu n b e1

theorem WR.mu_none {g : G} {H : AH} {w : World} (h : WR g H w) {n : Nat} (hn : H.next ≤ n) : g.mu n = none := by
  cases e : g.mu n with
  | none => rfl
  | some b => have := h.bmu n b e; omega

theorem WR.tp_none {g : G} {H : AH} {w : World} (h : WR g H w) {n : Nat} (hn : H.next ≤ n) : g.tp n = none := by
  cases e : g.tp n with
  | none => rfl
  | some b => have := h.btp n b e; omega

theorem WR.tip_lt {g : G} {H : AH} {w : World} (h : WR g H w) {t L : Nat} (e : H.tip t = some L) : ∀ T, g.tp t = some T → T.a.block < w.heap.size := by
  intro T hT
  obtain ⟨T', c', el', e1, _, _, _, e5, _⟩ := h.tip t L e
  rw [hT] at e1; cases e1
  rcases Nat.lt_or_ge T.a.block w.heap.size with h' | h'
  · exact h'
  · rw [Array.getElem?_eq_none h'] at e5; cases e5

theorem G.le_name {g : G} {n b s : Nat} (h : g.mu n = none) (hb : g.bs n = none) : g.le (g.name n b s) :=
  ⟨fun _ _ _ e => e, fun m b' e => by
    by_cases hm : m = n
    · subst hm; rw [h] at e; cases e
    · simp only [G.name, hm, if_false]; exact e, fun _ T e => ⟨T, e, rfl, Nat.le_refl _, fun _ => rfl⟩, fun m b' e => by
    by_cases hm : m = n
    · subst hm; rw [hb] at e; cases e
    · simp only [G.name, hm, if_false]; exact e⟩

theorem ST.add {g : G} {H : AH} {w : World} (h : WR g H w) (B : ABlk) (o : Obj) (s : Nat) (hB : BR (g.name H.next w.heap.size s) H.next B o) :
    ST g H w (g.name H.next w.heap.size s) (H.add B) (w.alloc o) := by
  have hn := h.mu_none (Nat.le_refl H.next)
  have hle := G.le_name (b := w.heap.size) (s := s) hn (h.nbs _ hn)
  refine ⟨hle, ⟨?_, ?_, ?_, ?_, h.tinj, ?_, ?_, ?_, ?_, G.nbs_name h.nbs, h.gz⟩, by simp, by simp [AH.add], fun m hm => by simp only [G.name]; rw [if_neg (by omega)], fun _ _ h => h, fun b hb hm => ⟨heap_alloc_lt hb, fun hm' => hm ?_, fun _ => rfl⟩, ⟨rfl, rfl, rfl⟩⟩
  · intro b o' x e
    have e' : g.fz b o' = some x := e
    rw [World.cell?_alloc_lt _ _ _ (h.fz_lt e')]; exact h.fz b o' x e'
  · intro n B' hB'
    by_cases hnn : n = H.next
    · subst hnn
      simp only [AH.add, if_true, Option.some.injEq] at hB'; subst hB'
      exact ⟨w.heap.size, o, by simp [G.name], heap_alloc_new, hB, fun o' => h.fz_none (Nat.le_refl _) o'⟩
    · simp only [AH.add, hnn, if_false] at hB'
      obtain ⟨b, obj, e1, e2, e3, e4⟩ := h.own n B' hB'
      exact ⟨b, obj, by simp only [G.name, hnn, if_false]; exact e1, by rw [heap_alloc_lt (h.bnext n b e1)]; exact e2, e3.mono hle, e4⟩
  · intro n m b h1 h2 h3 h4
    by_cases hn1 : n = H.next <;> by_cases hm1 : m = H.next
    · omega
    · subst hn1
      simp only [G.name, if_true, Option.some.injEq] at h3
      simp only [G.name, hm1, if_false] at h4
      have := h.bnext m b h4; omega
    · subst hm1
      simp only [G.name, if_true, Option.some.injEq] at h4
      simp only [G.name, hn1, if_false] at h3
      have := h.bnext n b h3; omega
    · simp only [AH.add, hn1, hm1, if_false] at h1 h2
      simp only [G.name, hn1, hm1, if_false] at h3 h4
      exact h.inj n m b h1 h2 h3 h4
  · intro t L hL
    obtain ⟨T, c', el', e1, e2, e3, e4, e5, e6, e7⟩ := h.tip t L hL
    exact ⟨T, c', el', e1, e2, e3, e4, by rw [heap_alloc_lt (h.tip_lt hL T e1)]; exact e5, e6, e7⟩
  · intro t n T b h1 h2 h3 h4
    by_cases hn1 : n = H.next
    · subst hn1
      simp only [G.name, if_true, Option.some.injEq] at h4
      cases hL : H.tip t with
      | none => exact absurd hL h1
      | some L => have := h.tip_lt hL T h3; omega
    · simp only [AH.add, hn1, if_false] at h2
      simp only [G.name, hn1, if_false] at h4
      exact h.town t n T b h1 h2 h3 h4
  · intro n b e
    simp only [AH.add]
    by_cases hn1 : n = H.next
    · omega
    · simp only [G.name, hn1, if_false] at e
      have := h.bmu n b e; omega
  · intro t T e; simp only [AH.add]; have := h.btp t T e; omega
  · intro n b e
    simp only [World.size_alloc]
    by_cases hn1 : n = H.next
    · subst hn1; simp only [G.name, if_true, Option.some.injEq] at e; omega
    · simp only [G.name, hn1, if_false] at e; have := h.bnext n b e; omega
  · rcases hm' with ⟨n, h1, h2⟩ | ⟨t, h1, T, h2, h3⟩
    · by_cases hn1 : n = H.next
      · subst hn1; simp only [G.name, if_true, Option.some.injEq] at h2; omega
      · simp only [AH.add, hn1, if_false] at h1
        simp only [G.name, hn1, if_false] at h2
        exact .inl ⟨n, h1, h2⟩
    · exact .inr ⟨t, h1, T, h2, h3⟩

/-- an owned block is written -/
def AH.set (H : AH) (n : Nat) (B : ABlk) : AH := { H with own := fun m => if m = n then some B else H.own m }

theorem ST.set {g : G} {H : AH} {w w' : World} (h : WR g H w) {n b : Nat} {B B' : ABlk} {o' : Obj} (hn : H.own n = some B) (hb : g.mu n = some b)
    (hs : w'.heap.size = w.heap.size) (h1 : w'.heap[b]? = some o') (h2 : ∀ c, c ≠ b → w'.heap[c]? = w.heap[c]?) (hB : BR g n B' o') (es : Str w w') :
    ST g H w g (H.set n B') w' := by
  obtain ⟨b0, obj, e1, e2, e3, e4⟩ := h.own n B hn
  rw [hb] at e1; cases e1
  have hcell : ∀ c o, c ≠ b → w'.cell? ⟨c, o, none⟩ = w.cell? ⟨c, o, none⟩ := fun c o hc => by simp only [World.cell?, h2 c hc]
  have hown : ∀ m, (H.set n B').own m ≠ none → H.own m ≠ none := by
    intro m hm
    by_cases hmn : m = n
    · subst hmn; rw [hn]; simp
    · simpa only [AH.set, hmn, if_false] using hm
  refine ⟨.refl g, ⟨?_, ?_, ?_, ?_, h.tinj, ?_, h.bmu, h.btp, by rw [hs]; exact h.bnext, h.nbs, h.gz⟩, by omega, Nat.le_refl _, fun _ _ => rfl, fun _ _ h => h, fun c hc hm => ⟨h2 c ?_, fun hm' => hm ?_, fun _ => rfl⟩, es⟩
  · intro c o x e
    have : c ≠ b := by intro hc; subst hc; rw [e4 o] at e; cases e
    rw [hcell c o this]; exact h.fz c o x e
  · intro m B1 hm
    by_cases hmn : m = n
    · subst hmn
      simp only [AH.set, if_true, Option.some.injEq] at hm; subst hm
      exact ⟨b, o', hb, h1, hB, e4⟩
    · simp only [AH.set, hmn, if_false] at hm
      obtain ⟨b1, obj1, f1, f2, f3, f4⟩ := h.own m B1 hm
      have : b1 ≠ b := by intro hc; subst hc; exact hmn (h.inj m n b1 (by rw [hm]; simp) (by rw [hn]; simp) f1 hb)
      exact ⟨b1, obj1, f1, by rw [h2 b1 this]; exact f2, f3, f4⟩
  · intro m k c q1 q2 q3 q4
    exact h.inj m k c (hown m q1) (hown k q2) q3 q4
  · intro t L hL
    obtain ⟨T, c', el', f1, f2, f3, f4, f5, f6, f7⟩ := h.tip t L hL
    have : T.a.block ≠ b := h.town t n T b (by rw [show H.tip t = some L from hL]; simp) (by rw [hn]; simp) f1 hb
    exact ⟨T, c', el', f1, f2, f3, f4, by rw [h2 _ this]; exact f5, f6, f7⟩
  · intro t m T c q1 q2 q3 q4
    exact h.town t m T c q1 (hown m q2) q3 q4
  · intro hc; subst hc; exact hm (.inl ⟨n, by rw [hn]; simp, hb⟩)
  · rcases hm' with ⟨m, q1, q2⟩ | ⟨t, q1, T, q2, q3⟩
    · exact .inl ⟨m, hown m q1, q2⟩
    · exact .inr ⟨t, q1, T, q2, q3⟩

/-- forgetting names -/
structure AH.le (H' H : AH) : Prop where   -- H' knows less
  own : ∀ n B, H'.own n = some B → H.own n = some B
  tip : ∀ n L, H'.tip n = some L → H.tip n = some L
  next : H.next ≤ H'.next

/-! frames -/
structure ADef where
  f : Fn
  cap : List AV
  args : List AV

structure AF where
  t : Nat → AV
  ds : List ADef

def upd (t : Nat → AV) (d : Nat) (v : AV) : Nat → AV := fun i => if i = d then v else t i

def AF.put (f : AF) (dst : Option Nat) (v : AV) : AF :=
  match dst with
  | none => f
  | some d => { f with t := upd f.t d v }

def DR (g : G) (d : ADef) (d' : Deferred) : Prop := ∃ cs, d'.target = .fn d.f cs ∧ VRs g d.cap cs ∧ VRs g d.args d'.args

inductive DRs (g : G) : List ADef → List Deferred → Prop
  | nil : DRs g [] []
  | cons {d d' l l'} (h : DR g d d') (h' : DRs g l l') : DRs g (d :: l) (d' :: l')

theorem DRs.mono {g g' : G} (h : g.le g') {l : List ADef} {l' : List Deferred} (hx : DRs g l l') : DRs g' l l' := by
  induction hx with
  | nil => exact .nil
  | cons hd _ ih => obtain ⟨cs, e1, e2, e3⟩ := hd; exact .cons ⟨cs, e1, e2.mono h, e3.mono h⟩ ih

structure TR (g : G) (n : Nat) (f : AF) (a : Act) : Prop where
  size : a.tmps.size = n
  t : ∀ i, VR g (f.t i) (a.tmps.getD i undef)
  ds : DRs g f.ds a.defers

theorem TR.mono {g g' : G} (h : g.le g') {n : Nat} {f : AF} {a : Act} (hx : TR g n f a) : TR g' n f a := ⟨hx.size, fun i => (hx.t i).mono h, hx.ds.mono h⟩

/-- is a slot one of the frame's? -/
def slotOk (n : Nat) : Option Nat → Bool
  | none => true
  | some d => decide (d < n)

theorem TR.put {g : G} {n : Nat} {f : AF} {a : Act} (h : TR g n f a) {dst : Option Nat} (hd : slotOk n dst = true) {v : AV} {x : Value} (hv : VR g v x) : TR g n (f.put dst v) (a.put dst x) := by
  cases dst with
  | none => exact h
  | some d =>
    have hd : d < n := by simpa [slotOk] using hd
    refine ⟨by simp [Act.put, h.size], fun i => ?_, h.ds⟩
    simp only [AF.put, upd, Act.put]
    by_cases hi : i = d
    · subst hi
      rw [if_pos rfl]
      have : (a.tmps.setIfInBounds i x).getD i undef = x := by
        have hs : i < a.tmps.size := by rw [h.size]; exact hd
        simp [Array.getD, hs]
      rw [this]; exact hv
    · rw [if_neg hi]
      have : (a.tmps.setIfInBounds d x).getD i undef = a.tmps.getD i undef := by
        simp only [Array.getD_eq_getD_getElem?, Array.getElem?_setIfInBounds]
        rw [if_neg (fun hc => hi hc.symm)]
      rw [this]; exact h.t i

def aev (f : AF) : Operand → AV
  | .tmp t => f.t t
  | .const v => .v v
  | .global g => .v (.pointer (some ⟨g, 0, none⟩))
  | .func fn => .fn (.func fn) [] []

theorem TR.ev {g : G} {n : Nat} {f : AF} {a : Act} (h : TR g n f a) (o : Operand) : VR g (aev f o) (a.eval o) := by
  cases o with
  | tmp t => exact h.t t
  | const v => exact .v
  | global _ => exact .v
  | func fn => exact .fn (by simp) (by simp) (fun j hj => by simp at hj) (fun j hj => by simp at hj)

end Go.Proofs.YtchpcjmgifnmdaaDoor.Ab

/- Calls whose arguments and results are frozen: they need to know nothing of the caller's blocks. -/
import Derived.Test.YtchpcjmgifnmdaaDoorAb16
namespace Go.Proofs.YtchpcjmgifnmdaaDoor.Ab
open Go

def AH.none : AH := ⟨0, fun _ => .none, fun _ => .none⟩

open Classical in
/-- the ghost in which all that is owned is frozen -/
noncomputable def frzAll (g : G) (H : AH) (w : World) : G :=
  { fz := fun b o => if ∃ n, H.own n ≠ .none ∧ g.mu n = some b then w.cell? ⟨b, o, .none⟩ else g.fz b o, mu := fun _ => .none, tp := fun _ => .none, bs := fun _ => .none }

section
variable {P : Program} {w : World} {g : G} {H : AH}

theorem not_mods_none {b : Nat} : ¬ Mods g AH.none b := by
  rintro (⟨n, h, _⟩ | ⟨t, h, _⟩)
  · exact h rfl
  · exact h rfl

theorem wr_none {fz : Nat → Nat → Option Value} (h : ∀ b o x, fz b o = some x → w.cell? ⟨b, o, .none⟩ = some x) (hz : ∀ b o x, gCell b o = some x → fz b o = some x) : WR ⟨fz, fun _ => .none, fun _ => .none, fun _ => .none⟩ AH.none w :=
  ⟨h, (fun _ _ e => by cases e), (fun _ _ _ e => (e rfl).elim), (fun _ _ e => by cases e), (fun _ _ _ _ e => (e rfl).elim), (fun _ _ _ _ e => (e rfl).elim), (fun _ _ e => by cases e), (fun _ _ e => by cases e), (fun _ _ e => by cases e), fun _ _ => rfl, hz⟩

theorem frzAll_fz (hw : WR g H w) : ∀ b o x, (frzAll g H w).fz b o = some x → w.cell? ⟨b, o, .none⟩ = some x := by
  intro b o x e
  simp only [frzAll] at e
  split at e
  · exact e
  · exact hw.fz b o x e

theorem frzAll_le (hw : WR g H w) {b o : Nat} {x : Value} (e : g.fz b o = some x) : (frzAll g H w).fz b o = some x := by
  simp only [frzAll]
  split
  · rename_i h
    obtain ⟨n, h1, h2⟩ := h
    cases hB : H.own n with
    | none => exact absurd hB h1
    | some B =>
      obtain ⟨b', _, e1, _, _, e4⟩ := hw.own n B hB
      rw [h2] at e1; cases e1
      rw [e4 o] at e; cases e
  · exact e

theorem frzAll_wr (hw : WR g H w) : WR (frzAll g H w) AH.none w := wr_none (frzAll_fz hw) fun _ _ _ e => frzAll_le hw (hw.gz _ _ _ e)

def View (H : AH) (a a' : AV) : Prop := ∀ g w x, WR g H w → VR g a x → VR (frzAll g H w) a' x

/-- frozen through and through -/
def FZ (a : AV) : Prop := ∀ (g g' : G) x, (∀ b o y, g.fz b o = some y → g'.fz b o = some y) → VR g a x → VR g' a x

/-- no cells at all -/
def Ground (a : AV) : Prop := ∀ (g g' : G) x, VR g a x → VR g' a x

theorem Ground.fz {a : AV} (h : Ground a) : FZ a := fun g g' x _ hx => h g g' x hx

theorem FZ.view {a : AV} (h : FZ a) : View H a a := fun g _ x hw hx => h g _ x (fun _ _ _ e => frzAll_le hw e) hx

def FCall (P : Program) (m : FuncId) (args : List AV) (R : AV → Prop) : Prop :=
  ACall P m args AH.none fun out H' => ∃ v v', out = .ret v ∧ View H' v v' ∧ FZ v' ∧ R v'

theorem FCall.mono {m : FuncId} {args : List AV} {R R' : AV → Prop} (h : FCall P m args R) (hr : ∀ v, R v → R' v) : FCall P m args R' :=
  ACall.mono h fun _ _ ⟨v, v', h1, h2, h3, h4⟩ => ⟨v, v', h1, h2, h3, hr _ h4⟩

def FZs (args : List AV) : Prop := ∀ a ∈ args, FZ a

theorem FZs.nil : FZs [] := fun _ h => by cases h
theorem FZs.cons {a : AV} {l : List AV} (h : FZ a) (h' : FZs l) : FZs (a :: l) := fun b hb => by
  rcases List.mem_cons.mp hb with rfl | hb
  · exact h
  · exact h' b hb

theorem VRs.of_fz {args : List AV} {xs : Array Value} {g' : G} (hz : FZs args) (h : VRs g args xs) (hg : ∀ b o y, g.fz b o = some y → g'.fz b o = some y) : VRs g' args xs :=
  ⟨h.1, fun j hj => by
    have := h.2 j hj
    rw [List.getD_eq_getElem?_getD, List.getElem?_eq_getElem hj] at this ⊢
    exact hz _ (List.getElem_mem hj) g g' _ hg this⟩

/-- what the caller owns stays as it was, where a call owned nothing -/
theorem keep {g1 : G} {H1 : AH} {w1 : World} {fz0 fz' : Nat → Nat → Option Value} (hw : WR g H w) (hst : ST ⟨fz0, fun _ => .none, fun _ => .none, fun _ => .none⟩ AH.none w g1 H1 w1)
    (hle : ∀ b o x, g.fz b o = some x → fz' b o = some x) (hcell : ∀ b o x, fz' b o = some x → w1.cell? ⟨b, o, .none⟩ = some x) (hsame : ∀ b o, b < w.heap.size → fz' b o = g.fz b o) :
    ST g H w { g with fz := fz' } H w1 := by
  have hheap : ∀ b, b < w.heap.size → w1.heap[b]? = w.heap[b]? := fun b hb => (hst.same b hb not_mods_none).1
  have hgl : g.le { g with fz := fz' } := ⟨hle, fun _ _ e => e, fun _ T e => ⟨T, e, rfl, Nat.le_refl _, fun _ => rfl⟩, fun _ _ e => e⟩
  refine ⟨hgl, ⟨hcell, ?_, hw.inj, ?_, hw.tinj, hw.town, hw.bmu, hw.btp, ?_, hw.nbs, fun b o x e => hgl.fz _ _ _ (hw.gz b o x e)⟩, hst.size, Nat.le_refl _, fun _ _ => rfl, fun _ _ h => h, ?_, hst.str⟩
  · intro n B hB
    obtain ⟨b, obj, e1, e2, e3, e4⟩ := hw.own n B hB
    have hb := hw.bnext n b e1
    exact ⟨b, obj, e1, by rw [hheap b hb]; exact e2, e3.mono hgl, fun o => (hsame b o hb).trans (e4 o)⟩
  · intro t L hL
    obtain ⟨T, c, el, e1, e2, e3, e4, e5, e6, e7⟩ := hw.tip t L hL
    have hb := hw.tip_lt hL T e1
    exact ⟨T, c, el, e1, e2, e3, e4, by rw [hheap _ hb]; exact e5, e6, fun o ho => (hsame _ o hb).trans (e7 o ho)⟩
  · intro n b e; have := hw.bnext n b e; have := hst.size; omega
  · intro b hb hm
    exact ⟨hheap b hb, fun hm' => hm hm', fun o => hsame b o hb⟩

theorem FCall.lift {m : FuncId} {args : List AV} {R : AV → Prop} (h : FCall P m args R) (hz : FZs args) (H : AH) :
    ACall P m args H fun out H' => ∃ v, out = .ret v ∧ FZ v ∧ R v ∧ H' = H := by
  refine ⟨h.1, fun g xs w hw hx => ?_⟩
  refine (h.2 ⟨g.fz, fun _ => .none, fun _ => .none, fun _ => .none⟩ xs w (wr_none hw.fz hw.gz) (hx.of_fz hz fun _ _ _ e => e)).mono fun e w1 hp => ?_
  obtain ⟨o, H1, g1, ⟨v, v', rfl, h2, h3, h4⟩, h5, h6⟩ := hp
  · have hfz : ∀ b o, b < w.heap.size → (frzAll g1 H1 w1).fz b o = g.fz b o := by
      intro b o hb
      obtain ⟨_, q2, q3⟩ := h6.same b hb not_mods_none
      simp only [frzAll]
      rw [if_neg (fun ⟨n, r1, r2⟩ => q2 (.inl ⟨n, r1, r2⟩))]
      exact q3 o
    have hst := keep (fz' := (frzAll g1 H1 w1).fz) hw h6 (fun b o x e => by rw [hfz b o (hw.fz_lt e)]; exact e) (frzAll_fz h6.wr) hfz
    cases e with
    | returned x =>
      exact ⟨.ret v', H, { g with fz := (frzAll g1 H1 w1).fz }, ⟨v', rfl, h3, h4, rfl⟩, h3 (frzAll g1 H1 w1) _ x (fun _ _ _ e => e) (h2 g1 w1 x h6.wr h5), hst⟩
    | _ => exact h5.elim

theorem FCall.borrow {m : FuncId} {args args' : List AV} {R : AV → Prop} (h : FCall P m args' R) (hl : args.length = args'.length) (hv : ∀ j, j < args.length → View H (args.getD j .any) (args'.getD j .any)) (hG : ∀ v, R v → Ground v) :
    ACall P m args H fun out H' => ∃ v, out = .ret v ∧ R v ∧ H' = H := by
  refine ⟨h.1, fun g xs w hw hx => ?_⟩
  refine (h.2 (frzAll g H w) xs w (frzAll_wr hw) ⟨by rw [hx.1, hl], fun j hj => hv j (by rw [hl]; exact hj) g w _ hw (hx.2 j (by rw [hl]; exact hj))⟩).mono fun e w1 hp => ?_
  obtain ⟨o, H1, g1, ⟨v, v', rfl, h2, h3, h4⟩, h5, h6⟩ := hp
  · have hst := keep (fz' := g.fz) hw h6 (fun b o x e => e) (fun b o x e => by
      have hb := hw.fz_lt e
      have := hw.fz b o x e
      simp only [World.cell?, (h6.same b hb not_mods_none).1] at this ⊢; exact this) (fun _ _ _ => rfl)
    cases e with
    | returned x =>
      exact ⟨.ret v', H, g, ⟨v', rfl, h4, rfl⟩, hG _ h4 _ _ x (h2 g1 w1 x h6.wr h5), hst⟩
    | _ => exact h5.elim

theorem FCall.one {m : FuncId} {args : List AV} {v : AV} {K : AOut → AH → Prop} (h : FCall P m args (· = v)) (hz : FZs args) (k : K (.ret v) H) : ACall P m args H K :=
  (h.lift hz H).mono fun o H' ⟨v', h1, _, h3, h4⟩ => by subst h1; subst h3; subst h4; exact k

theorem FCall.all {m : FuncId} {args : List AV} {R : AV → Prop} {K : AOut → AH → Prop} (h : FCall P m args R) (hz : FZs args) (k : ∀ v, FZ v → R v → K (.ret v) H) : ACall P m args H K :=
  (h.lift hz H).mono fun o H' ⟨v', h1, h2, h3, h4⟩ => by subst h1; subst h4; exact k v' h2 h3

/-- behind a call whose answer is known -/
theorem FCall.go {mu : List Nat} {Kt : Kont} {m : FuncId} {args : List AV} {dst : Option Nat} {os : List COp} {f : AF} {v : AV} (h : FCall P m args (· = v)) (hz : FZs args)
    (h' : cops P mu Kt os (f.put dst v) H) : ACall P m args H (callK P mu Kt dst os f) :=
  (h.lift hz H).mono fun o H1 ⟨v', h1, _, h3, h4⟩ => by subst h1; subst h3; subst h4; exact h'
theorem FCall.go' {mu : List Nat} {Kt : Kont} {m : FuncId} {args : List AV} {fm : AF} {dst : Option Nat} {ds : List DOp} {f : AF} {pd : List (Nat × Nat × ABlk)} {rd : List Nat} {v : AV} (h : FCall P m args (· = v)) (hz : FZs args)
    (h' : dops P mu Kt fm ds (f.put dst v) H pd rd) : ACall P m args H (dcallK P mu Kt fm dst ds f pd rd) :=
  (h.lift hz H).mono fun o H1 ⟨v', h1, _, h3, h4⟩ => by subst h1; subst h3; subst h4; exact h'
/-- behind a call of which something is known -/
theorem FCall.some {mu : List Nat} {Kt : Kont} {m : FuncId} {args : List AV} {dst : Option Nat} {os : List COp} {f : AF} {R : AV → Prop} (h : FCall P m args R) (hz : FZs args)
    (h' : ∀ v, FZ v → R v → cops P mu Kt os (f.put dst v) H) : ACall P m args H (callK P mu Kt dst os f) :=
  (h.lift hz H).mono fun o H1 ⟨v', h1, h2, h3, h4⟩ => by subst h1; subst h4; exact h' v' h2 h3
theorem FCall.some' {mu : List Nat} {Kt : Kont} {m : FuncId} {args : List AV} {fm : AF} {dst : Option Nat} {ds : List DOp} {f : AF} {pd : List (Nat × Nat × ABlk)} {rd : List Nat} {R : AV → Prop} (h : FCall P m args R) (hz : FZs args)
    (h' : ∀ v, FZ v → R v → dops P mu Kt fm ds (f.put dst v) H pd rd) : ACall P m args H (dcallK P mu Kt fm dst ds f pd rd) :=
  (h.lift hz H).mono fun o H1 ⟨v', h1, h2, h3, h4⟩ => by subst h1; subst h4; exact h' v' h2 h3

/-- behind a quiet call -/
theorem FCall.goQ {mu : List Nat} {Kt : Kont} {m : FuncId} {args : List AV} {fm : AF} {dst : Option Nat} {ds : List DOp} {f : AF} {pd : List (Nat × Nat × ABlk)} {rd : List Nat} {v : AV} (h : FCall P m args (· = v)) (hz : FZs args) (h' : dops P mu Kt fm ds (f.put dst v) H pd rd) :
    ACall P m args H (dcallQ P mu Kt fm dst ds f H pd rd) :=
  h.one hz ⟨fun _ _ => rfl, h'⟩
/-! what is frozen -/
theorem Ground.v (x : Value) : Ground (.v x) := fun _ _ _ h => by have := h.of_v; subst this; exact .v
theorem Ground.any : Ground .any := fun _ _ _ _ => .any
theorem FZ.v (x : Value) : FZ (.v x) := (Ground.v x).fz
theorem FZ.any : FZ .any := Ground.any.fz
theorem FZ.agg {cs : List AV} (h : FZs cs) : FZ (.agg cs) := by
  intro g g' x hg hx
  cases hx with
  | @agg _ xs hl hx =>
    have := VRs.of_fz (xs := xs) h ⟨hl, hx⟩ hg
    exact .agg this.1 this.2
theorem FZ.tup {cs : List AV} (h : FZs cs) : FZ (.tup cs) := by
  intro g g' x hg hx
  cases hx with
  | @tup _ xs hl hx =>
    have := VRs.of_fz (xs := xs) h ⟨hl, hx⟩ hg
    exact .tup this.1 this.2
theorem Ground.tup {cs : List AV} (h : ∀ c ∈ cs, Ground c) : Ground (.tup cs) := by
  intro g g' x hx
  cases hx with
  | @tup _ xs hl hx =>
    refine .tup hl fun j hj => ?_
    have := hx j hj
    rw [List.getD_eq_getElem?_getD, List.getElem?_eq_getElem hj] at this ⊢
    exact h _ (List.getElem_mem hj) g g' _ this
theorem FZ.box {cs : List AV} (h : FZs cs) : FZ (.box cs) := by
  intro g g' x hg hx
  cases hx with
  | @box _ a xs ha hf hx =>
    refine .box ha (fun j hj => hg _ _ _ (hf j hj)) fun j hj => ?_
    have := hx j hj
    rw [List.getD_eq_getElem?_getD, List.getElem?_eq_getElem hj] at this ⊢
    exact h _ (List.getElem_mem hj) g g' _ hg this

theorem FZ.fn {f : Fn} {fs cs : List AV} (h : FZs fs) (h' : FZs cs) : FZ (.fn f fs cs) := by
  intro g g' x hg hx
  cases hx with
  | @fn _ _ _ xs ys h1 h2 hx hy =>
    have e1 := VRs.of_fz (xs := xs) h ⟨h1, hx⟩ hg
    have e2 := VRs.of_fz (xs := ys) h' ⟨h2, hy⟩ hg
    exact .fn e1.1 e2.1 e1.2 e2.2

/-- tips that say the same in every ghost -/
def Tip.stays : Tip → Bool
  | .live _ => false
  | _ => true

theorem TipOk.stays {g g' : G} {tip : Tip} (h : tip.stays = true) {k len : Nat} {ao : Option Addr} {cap : Nat} (ht : TipOk g tip k len ao cap) : TipOk g' tip k len ao cap := by
  cases tip with
  | live t => cases h
  | _ => exact ht

theorem FZ.lst {k : Nat} {rows : List (List AV)} {tip : Tip} (ht : tip.stays = true) (h : ∀ r ∈ rows, FZs r) : FZ (.lst k rows tip) := by
  intro g g' x hg hx
  cases hx with
  | @lst _ _ _ ao a len cap xs hl hc hz ha hk hf hv htp =>
    refine .lst hl hc hz ha hk (fun i j hi hj => hg _ _ _ (hf i j hi hj)) (fun i j hi hj => ?_) (htp.stays ht)
    have h1 := hv i j hi hj
    have hlen := hk i hi
    rw [List.getD_eq_getElem?_getD (l := rows), List.getElem?_eq_getElem hi] at h1 hlen ⊢
    simp only [Option.getD_some] at h1 hlen ⊢
    rw [List.getD_eq_getElem?_getD, List.getElem?_eq_getElem (by omega)] at h1 ⊢
    exact h _ (List.getElem_mem hi) _ (List.getElem_mem (by omega)) g g' _ hg h1

/-! views -/
theorem View.agg {cs ds : List AV} (hl : cs.length = ds.length) (h : ∀ j, j < cs.length → View H (cs.getD j .any) (ds.getD j .any)) : View H (.agg cs) (.agg ds) := by
  intro g w x hw hx
  cases hx with
  | agg h1 h2 => exact .agg (by rw [h1, hl]) fun j hj => h j (by omega) g w _ hw (h2 j (by omega))
theorem View.tup {cs ds : List AV} (hl : cs.length = ds.length) (h : ∀ j, j < cs.length → View H (cs.getD j .any) (ds.getD j .any)) : View H (.tup cs) (.tup ds) := by
  intro g w x hw hx
  cases hx with
  | tup h1 h2 => exact .tup (by rw [h1, hl]) fun j hj => h j (by omega) g w _ hw (h2 j (by omega))

def Views (H : AH) (cs ds : List AV) : Prop := cs.length = ds.length ∧ ∀ j, j < cs.length → View H (cs.getD j .any) (ds.getD j .any)
theorem Views.nil : Views H [] [] := ⟨rfl, fun j hj => by simp at hj⟩
theorem Views.cons {a b : AV} {cs ds : List AV} (h : View H a b) (h' : Views H cs ds) : Views H (a :: cs) (b :: ds) := by
  refine ⟨by simp [h'.1], fun j hj => ?_⟩
  cases j with
  | zero => exact h
  | succ j => simpa using h'.2 j (by simpa using hj)
theorem Views.agg {cs ds : List AV} (h : Views H cs ds) : View H (.agg cs) (.agg ds) := View.agg h.1 h.2
theorem Views.tup {cs ds : List AV} (h : Views H cs ds) : View H (.tup cs) (.tup ds) := View.tup h.1 h.2

theorem View.lst {k : Nat} {rows rows' : List (List AV)} {tip : Tip} (hl : rows.length = rows'.length) (hk : ∀ i, i < rows.length → (rows'.getD i []).length = (rows.getD i []).length)
    (h : ∀ i j, i < rows.length → j < k → View H ((rows.getD i []).getD j .any) ((rows'.getD i []).getD j .any)) : View H (.lst k rows tip) (.lst k rows' .unk) := by
  intro g w x hw hx
  cases hx with
  | @lst _ _ _ ao a len cap xs q1 q2 q3 q4 q5 q6 q7 q8 =>
    exact .lst (by rw [q1, hl]) q2 q3 (by rw [← hl]; exact q4) (fun i hi => by rw [hk i (by omega)]; exact q5 i (by omega)) (fun i j hi hj => frzAll_le hw (q6 i j (by omega) hj))
      (fun i j hi hj => h i j (by omega) hj g w _ hw (q7 i j (by omega) hj)) trivial

theorem View.tip {k : Nat} {rows : List (List AV)} {tip : Tip} (h : ∀ r ∈ rows, FZs r) : View H (.lst k rows tip) (.lst k rows .unk) := by
  intro g w x hw hx
  cases hx with
  | @lst _ _ _ ao a len cap xs q1 q2 q3 q4 q5 q6 q7 q8 =>
    refine .lst q1 q2 q3 q4 q5 (fun i j hi hj => frzAll_le hw (q6 i j hi hj)) (fun i j hi hj => ?_) trivial
    have h1 := q7 i j hi hj
    have hlen := q5 i hi
    rw [List.getD_eq_getElem?_getD (l := rows), List.getElem?_eq_getElem hi] at h1 hlen ⊢
    simp only [Option.getD_some] at h1 hlen ⊢
    rw [List.getD_eq_getElem?_getD, List.getElem?_eq_getElem (by omega)] at h1 ⊢
    exact h _ (List.getElem_mem hi) _ (List.getElem_mem (by omega)) g _ _ (fun b o y e => frzAll_le hw e) h1

theorem View.nil (k : Nat) : View H (.v (.slice .none 0 0)) (.lst k [] .unk) := by
  intro g w x hw hx
  have := hx.of_v; subst this
  exact .lst (a := ⟨0, 0, .none⟩) (xs := fun _ _ => undef) rfl (Nat.le_refl _) (fun _ => rfl) (by simp) (by simp) (by intro i j hi; simp at hi) (by intro i j hi; simp at hi) trivial

theorem frzAll_own (hw : WR g H w) {n b : Nat} {l : List AV} (hn : H.own n = some (.cells l)) (hb : g.mu n = some b) :
    ∃ c el, w.heap[b]? = some (.cells c el (0, 0)) ∧ l.length ≤ c.size ∧ ∀ j, j < l.length → (frzAll g H w).fz b j = some (c.getD j undef) ∧ VR g (l.getD j .any) (c.getD j undef) := by
  obtain ⟨b', c, el, e1, e2, hb', hl, hbs, hx⟩ := own_cells (n := n) (o := 0) (y := .pointer (some ⟨b, 0, .none⟩)) hw (.ptr hb) hn
  rw [hb] at e2; cases e2
  refine ⟨c, el, hb', hl, fun j hj => ⟨?_, hx j hj⟩⟩
  simp only [frzAll]
  rw [if_pos ⟨n, by rw [hn]; simp, hb⟩]
  have hj' : j < c.size := by omega
  simp [World.cell?, hb', hj']

theorem View.sl {k n o len : Nat} {l : List AV} {rows : List (List AV)} (hn : H.own n = some (.cells l)) (hle : o + len * k ≤ l.length) (hl : rows.length = len) (hk : ∀ i, i < len → (rows.getD i []).length = k)
    (h : ∀ i j, i < len → j < k → View H (l.getD (o + i * k + j) .any) ((rows.getD i []).getD j .any)) : View H (.sl k n o len) (.lst k rows .unk) := by
  intro g w x hw hx
  cases hx with
  | @sl _ _ _ _ cap b hb hc hS =>
    obtain ⟨c, el, q1, q2, q3⟩ := frzAll_own hw hn hb
    have hlt : ∀ i j, i < len → j < k → o + i * k + j < l.length := fun i j hi hj => by
      have : (i + 1) * k ≤ len * k := Nat.mul_le_mul_right k hi
      rw [Nat.add_mul] at this; omega
    exact .lst (a := ⟨b, o, .none⟩) (xs := fun i j => c.getD (o + i * k + j) undef) hl.symm hc (fun h => by cases h) (fun _ => ⟨rfl, rfl⟩) (fun i hi => hk i (by omega))
      (fun i j hi hj => (q3 _ (hlt i j (by omega) hj)).1) (fun i j hi hj => h i j (by omega) hj g w _ hw (q3 _ (hlt i j (by omega) hj)).2) trivial

theorem View.ptr {n o : Nat} {l cs : List AV} (hn : H.own n = some (.cells l)) (hle : o + cs.length ≤ l.length) (h : ∀ j, j < cs.length → View H (l.getD (o + j) .any) (cs.getD j .any)) : View H (.ptr n o) (.box cs) := by
  intro g w x hw hx
  cases hx with
  | @ptr _ _ b hb =>
    obtain ⟨c, el, q1, q2, q3⟩ := frzAll_own hw hn hb
    exact .box (a := ⟨b, o, .none⟩) (xs := fun j => c.getD (o + j) undef) rfl (fun j hj => (q3 (o + j) (by omega)).1) (fun j hj => h j hj g w _ hw (q3 (o + j) (by omega)).2)

/-! calls that look at what the caller owns -/
theorem FCall.bor {m : FuncId} {args args' : List AV} {v : AV} {K : AOut → AH → Prop} (h : FCall P m args' (· = v)) (hv : Views H args args') (hG : Ground v) (k : K (.ret v) H) : ACall P m args H K :=
  (h.borrow hv.1 hv.2 (fun _ e => e ▸ hG)).mono fun o H' hx => by
    obtain ⟨v', rfl, rfl, rfl⟩ := hx
    exact k
theorem FCall.bgo {mu : List Nat} {Kt : Kont} {m : FuncId} {args args' : List AV} {dst : Option Nat} {os : List COp} {f : AF} {v : AV} (h : FCall P m args' (· = v)) (hv : Views H args args') (hG : Ground v) (h' : cops P mu Kt os (f.put dst v) H) :
    ACall P m args H (callK P mu Kt dst os f) := h.bor hv hG h'
theorem FCall.bgo' {mu : List Nat} {Kt : Kont} {m : FuncId} {args args' : List AV} {fm : AF} {dst : Option Nat} {ds : List DOp} {f : AF} {pd : List (Nat × Nat × ABlk)} {rd : List Nat} {v : AV} (h : FCall P m args' (· = v)) (hv : Views H args args') (hG : Ground v) (h' : dops P mu Kt fm ds (f.put dst v) H pd rd) :
    ACall P m args H (dcallK P mu Kt fm dst ds f pd rd) := h.bor hv hG h'
theorem FCall.bgoQ {mu : List Nat} {Kt : Kont} {m : FuncId} {args args' : List AV} {fm : AF} {dst : Option Nat} {ds : List DOp} {f : AF} {pd : List (Nat × Nat × ABlk)} {rd : List Nat} {v : AV} (h : FCall P m args' (· = v)) (hv : Views H args args') (hG : Ground v) (h' : dops P mu Kt fm ds (f.put dst v) H pd rd) :
    ACall P m args H (dcallQ P mu Kt fm dst ds f H pd rd) := h.bor hv hG ⟨fun _ _ => rfl, h'⟩
/-! an empty list that may be nil or not -/
theorem ACall.split {P : Program} {n k : Nat} {H : AH} {R : AOut → AH → Prop} (h1 : ACall P n [.v (.slice .none 0 0)] H R) (h2 : ACall P n [.lst k [] .nn] H R) : ACall P n [.lst k [] .unk] H R := by
  refine ⟨h1.1, fun g xs w hw hv => ?_⟩
  obtain ⟨hl, hx⟩ := hv
  have h0 := hx 0 (by simp)
  simp only [List.getD_cons_zero] at h0
  have e : ∀ a, VR g a (xs.getD 0 undef) → VRs g [a] xs := fun a ha => ⟨hl, fun j hj => by
    have : j = 0 := by simp at hj; omega
    subst this; exact ha⟩
  generalize hy : xs.getD 0 undef = y at h0 e
  cases h0 with
  | lst hlen hc hz ha hk hf hx' ht =>
    rename_i ao a len cap ys
    simp only [List.length_nil] at hlen
    subst hlen
    cases ao with
    | none => rw [hz rfl] at e; exact h1.2 g xs w hw (e _ .v)
    | some b => exact h2.2 g xs w hw (e _ (.lst rfl hc hz (fun h => by simp at h) hk hf hx' (by simp [TipOk])))
end
end Go.Proofs.YtchpcjmgifnmdaaDoor.Ab

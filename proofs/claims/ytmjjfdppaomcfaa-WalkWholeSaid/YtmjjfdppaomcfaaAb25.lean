/- A range over a function that hands out a list's elements from the end: the part of the steps, in a round and behind it. -/
import Derived.Test.YtmjjfdppaomcfaaAb24
import Derived.RangeFuncRecord
import Derived.RangeFuncSeq
import Derived.OrdersIn
namespace Go.Proofs.Ytmjjfdppaomcfaa.Ab
open Go

def Fro (ro : Option Nat) : Fence := { Fence.wide with round := ro }

theorem fro_calls {ro : Option Nat} {m : Nat} {P : Program} {f : FuncId} {args : Array Value} {w : World} {R : Ending → World → Prop} (h : Calls P f args w R) : CallsIn (Fro ro) m P f args w R := by
  have h' : CallsIn Fence.wide m P f args w R := callsIn_wide.2 h
  exact h'

/-- more deferred calls below -/
def wM (M : List Deferred) (a : Act) : Act := { a with defers := a.defers ++ M }
def QM (M : List Deferred) (Q : Exit → Act → World → Prop) : Exit → Act → World → Prop := fun e a' w' => ∃ a0, a' = wM M a0 ∧ Q e a0 w'

theorem wM_put {M : List Deferred} {a : Act} {dst : Option Tmp} {v : Value} : (wM M a).put dst v = wM M (a.put dst v) := by cases dst <;> rfl
theorem wM_eval {M : List Deferred} {a : Act} : (wM M a).eval = a.eval := by
  funext x; cases x <;> rfl

theorem upon_M {ro : Option Nat} {m : Nat} {P : Program} {o : Oper} {a : Act} {M : List Deferred} {next next' : Act → World → Prop} {Q : Exit → Act → World → Prop} (hq : ¬ LetsOut Q)
    (hn : ∀ a w, next a w → next' (wM M a) w) {r : Result Next} (h : o.upon P a next Q r) : o.uponIn (Fro ro) m P (wM M a) next' (QM M Q) r := by
  cases r with
  | ok x w' =>
    cases x with
    | value v => simp only [Oper.upon] at h; simp only [Oper.uponIn]; rw [wM_put]; exact hn _ _ h
    | skip => simp only [Oper.upon] at h; simp only [Oper.uponIn]; rw [wM_put]; exact hn _ _ h
    | defer d =>
      simp only [Oper.upon] at h; simp only [Oper.uponIn]
      have := hn _ _ h
      rw [← wM_put] at this
      exact this
    | enter f args =>
      simp only [Oper.upon] at h; simp only [Oper.uponIn]
      refine ⟨fun hd => by simp [Fro, Fence.wide] at hd, fro_calls (h.mono fun e w'' he => ?_)⟩
      cases e with
      | returned v => show next' _ _; rw [wM_put]; exact hn _ _ he
      | panicked ch => exact ⟨a, rfl, he⟩
      | outgrown => exact absurd he hq
    | row row args =>
      simp only [Oper.upon] at h; simp only [Oper.uponIn]
      refine ⟨fun hd => by simp [Fro, Fence.wide] at hd, fun c cs _ => ?_⟩
      obtain ⟨v, w'', h1, h2⟩ := h c cs
      refine ⟨v, w'', by show next' _ _; rw [wM_put]; exact hn _ _ h1, ?_⟩
      have : StepsIn (Machine.fenced P Fence.wide) P (lone (Frame.ofRow P row args .normal) (c :: cs) w') (lone (c.finish v) cs w'') := stepsIn_wide.2 h2
      exact this
    | _ => exact h.elim
  | halt x w' =>
    cases x with
    | panic v => simp only [Oper.upon] at h; simp only [Oper.uponIn]; exact ⟨a, rfl, h⟩
    | _ => exact h.elim

/-- no deferred call is made -/
def ndOp (o : Oper) : Bool := match o.op with | .defer _ => false | _ => true
def ndOps (ops : Array Oper) : Bool := ops.toList.all ndOp

theorem ndOps_get {ops : Array Oper} (h : ndOps ops = true) {i : Nat} {o : Oper} (hi : ops[i]? = some o) : ∀ c, o.op ≠ .defer c := by
  intro c hc
  have hm : o ∈ ops.toList := by
    rw [← Array.getElem?_toList] at hi; exact List.mem_of_getElem? hi
  have := List.all_eq_true.mp h o hm
  simp [ndOp, hc] at this

section
variable {ro : Option Nat} {m : Nat} {P : Program} {M : List Deferred} {Q : Exit → Act → World → Prop} {ops : Array Oper}

theorem oper_M (hq : ¬ LetsOut Q) {o : Oper} (hnd : ∀ c, o.op ≠ .defer c) {a : Act} {w : World} {next next' : Act → World → Prop} (hn : ∀ a w, next a w → next' (wM M a) w) (h : o.wp P a w next Q) :
    o.wpIn (Fro ro) m P (wM M a) w next' (QM M Q) := by
  refine ⟨fun _ _ => trivial, ?_⟩
  rw [Oper.semAt_eq _ _ _ hnd, wM_eval]
  exact upon_M hq hn h

theorem wpOp_M (hq : ¬ LetsOut Q) (hnd : ndOps ops = true) {i : Nat} {K K' : Act → World → Prop} (hn : ∀ a w, K a w → K' (wM M a) w) {a : Act} {w : World} (h : wpOp P ops Q i K a w) :
    wpOpIn (Fro ro) m P ops (QM M Q) i K' (wM M a) w := by
  unfold wpOp at h
  unfold wpOpIn
  cases hi : ops[i]? with
  | none => rw [hi] at h; exact hn _ _ h
  | some o =>
    rw [hi] at h
    simp only at h ⊢
    show if Region.wanted o (yielded ops a.tmps) then _ else _
    split
    · rename_i hw
      rw [if_pos hw] at h
      rcases h with h | ⟨_, h⟩
      · exact oper_M hq (ndOps_get hnd hi) hn h
      · exact absurd h hq
    · rename_i hw
      rw [if_neg hw] at h
      refine ⟨fun _ _ => trivial, ?_⟩
      rw [wM_put]; exact hn _ _ h

theorem wpOps_M (hq : ¬ LetsOut Q) (hnd : ndOps ops = true) : ∀ (l : List Nat) (a : Act) (w : World), wpOps P ops Q l a w → wpOpsIn (Fro ro) m P ops (QM M Q) l (wM M a) w
  | [], a, w, h => ⟨a, rfl, h⟩
  | i :: l, a, w, h => by
    rw [wpOps_cons] at h
    rw [wpOpsIn_cons]
    exact wpOp_M hq hnd (fun a w => wpOps_M hq hnd l a w) h

theorem wpAny_M (hq : ¬ LetsOut Q) (hnd : ndOps ops = true) {md : Region.Mode} : ∀ (fuel : Nat) (li : Array Bool) (a : Act) (w : World), wpAny P md ops Q fuel li a w → wpAnyIn (Fro ro) m P md ops (QM M Q) fuel li (wM M a) w
  | 0, _, a, _, h => ⟨h.1, a, rfl, h.2⟩
  | fuel + 1, _, a, _, h => ⟨fun e => ⟨a, rfl, h.1 e⟩, fun i hi => wpOp_M hq hnd (fun a w => wpAny_M hq hnd fuel _ a w) (h.2 i hi)⟩
end

theorem post_out {n : Nat} {Q : AX → AF → AH → Prop} {g : G} {H : AH} {w : World} : ¬ LetsOut (Post n Q g H w) := by
  rintro ⟨a, w', x, f', H', g', _, h, _⟩
  cases x <;> exact h

theorem draw_any {P : Program} {mu : List Nat} {Q : Kont} {n : Nat} {ops : Array Oper} {B : Nat → List Nat} {ord : List DOp} (h : DOk n ops B ord) {f : AF} {H : AH}
    (ob : dops P mu Q (maskA ord f) ord f H [] []) {g : G} {a : Act} {w : World} (hw : WR g H w) (ht : TR g n f a) :
    wpAny P .any ops (Post n Q.run g H w) ops.size (Array.replicate ops.size false) a { w with drawn := w.drawn + 1 } := by
  have hl0 : ∀ i, lis (Array.replicate ops.size false) i = false := fun i => by
    simp only [lis, Array.getD_eq_getD_getElem?, Array.getElem?_replicate]
    split <;> rfl
  have hF : FS ord f (fun _ => .any) (lis (Array.replicate ops.size false)) = f := by
    refine AF_eq (fun x => ?_) rfl
    simp only [FS]
    cases wrOf ord x with
    | none => rfl
    | some q => simp only [hl0, Bool.false_eq_true, if_false]
  have hF' : FS ord f (fun _ => .any) (inC []) = f := by
    refine AF_eq (fun x => ?_) rfl
    simp only [FS]
    cases wrOf ord x with
    | none => rfl
    | some q => simp [inC]
  have hst : ST g H w g H { w with drawn := w.drawn + 1 } := ST.of_heap hw rfl ⟨rfl, rfl, rfl⟩
  have s : DSt P mu Q n ops B ord f g H w (Array.replicate ops.size false) [] ord (fun _ => .any) f H [] [] g a { w with drawn := w.drawn + 1 } :=
    ⟨rfl, by rw [hF]; exact ht, hF'.symm, (fun i hi => by rw [hl0] at hi; cases hi), (fun i o hi => by rw [hl0] at hi; cases hi), (fun d hd => by cases hd), (fun d hd => by cases hd), (fun d hd => by cases hd), (fun d hd => by cases hd), ob, (fun d hd => by cases hd), hst,
      fun p hp => (by cases hp), fun p hp => (by cases hp), fun p hp => (by cases hp), fun p hp => (by cases hp), fun p hp => (by cases hp), (by simp), (by simp)⟩
  refine DSt.any h ops.size _ [] ord _ _ _ _ _ _ _ _ s ?_
  have := List.countP_le_length (p := fun j => !lis (Array.replicate ops.size false) j) (l := List.range ops.size)
  simpa using this

def ndC : Code → Bool
  | .skip => true
  | .ret => true
  | .region _ ops _ => ndOps ops
  | .seq a b => ndC a && ndC b
  | .cond _ a b => ndC a && ndC b
  | .block _ a => ndC a
  | _ => false
def ccOk : CC → Bool
  | .skip => true
  | .ret => true
  | .reg _ => true
  | .dr _ => true
  | .seq a b => ccOk a && ccOk b
  | .cond _ a b => ccOk a && ccOk b
  | .block _ a => ccOk a
  | _ => false

/-- code without deferred calls, in a round or with more deferred calls below -/
theorem cwp_in {P : Program} {mu : List Nat} {n : Nat} (hm : P.follows .mixedOrders = true) (hs : List Hint) (ro : Option Nat) (M : List Deferred) (m : Nat) (c : Code) : ∀ (cc : CC) (K : Kont) (f : AF) (H : AH), cmp n hs c = some cc → ndC c = true → ccOk cc = true → cwp P mu n cc K f H →
    ∀ g a w, WR g H w → TR g n f a → c.wpIn (Fro ro) m P (QM M (Post n K.run g H w)) (wM M a) w := by
  induction c with
  | skip => intro cc K f H hc _ _ h g a w hw ht; simp only [cmp, Option.some.injEq] at hc; subst hc; exact wpIn_skip ⟨a, rfl, .normal, f, H, g, h, trivial, .refl hw, ht⟩
  | ret => intro cc K f H hc _ _ h g a w hw ht; simp only [cmp, Option.some.injEq] at hc; subst hc; exact wpIn_ret ⟨a, rfl, .ret, f, H, g, h, trivial, .refl hw, ht⟩
  | region id ops d =>
    intro cc K f H hc hnd hok h g a w hw ht
    simp only [ndC] at hnd
    cases d with
    | false =>
      simp only [cmp] at hc
      cases ha : allSome (ops.toList.map (cmpOp n ops)) with
      | none => rw [ha] at hc; cases hc
      | some cs =>
        rw [ha] at hc; simp only [Option.map_some, Option.some.injEq] at hc; subst hc
        refine wpIn_region (wpOps_M post_out hnd _ _ _ ?_)
        have := cops_sound (l0 := ops.toList) rfl ops.toList cs 0 f H rfl ha h g H w g a w (ST.refl hw) ht
        rw [List.range_eq_range']
        simpa using this
    | true =>
      simp only [cmp] at hc
      split at hc
      · rename_i hh hf
        cases hd : cmpD n ops hh.2.1 hh.2.2 with
        | none => rw [hd] at hc; cases hc
        | some ord =>
          rw [hd] at hc; simp only [Option.map_some, Option.some.injEq] at hc; subst hc
          exact wpIn_region_any hm (wpAny_M post_out hnd _ _ _ _ (draw_any (cmpD_sound hd) h hw ht))
      · simp only [Option.some.injEq] at hc; subst hc
        cases hok
  | seq x y ihx ihy =>
    intro cc K f H hc hnd hok h g a w hw ht
    simp only [ndC, Bool.and_eq_true] at hnd
    simp only [cmp] at hc
    split at hc
    · rename_i x' y' hx hy
      simp only [Option.some.injEq] at hc; subst hc
      simp only [ccOk, Bool.and_eq_true] at hok
      refine wpIn_seq (wpIn_mono (ihx _ _ _ _ hx hnd.1 hok.1 h g a w hw ht) fun e a1 w1 hp => ?_)
      obtain ⟨a0, rfl, x1, f1, H1, g1, h1, h2, h3, h4⟩ := hp
      cases e with
      | normal =>
        cases x1 with
        | normal =>
          refine wpIn_mono (ihy _ _ _ _ hy hnd.2 hok.2 h1 g1 a0 w1 h3.wr h4) fun e a2 w2 hp => ?_
          obtain ⟨a3, rfl, x2, f2, H2, g2, q1, q2, q3, q4⟩ := hp
          exact ⟨a3, rfl, x2, f2, H2, g2, q1, q2, h3.trans q3, q4⟩
        | _ => exact h2.elim
      | _ =>
        cases x1 with
        | normal => exact h2.elim
        | _ => exact ⟨a0, rfl, _, f1, H1, g1, h1, h2, h3, h4⟩
    · cases hc
  | cond c x y ihx ihy =>
    intro cc K f H hc hnd hok h g a w hw ht
    simp only [ndC, Bool.and_eq_true] at hnd
    simp only [cmp] at hc
    split at hc
    · rename_i x' y' hx hy
      simp only [Option.some.injEq] at hc; subst hc
      simp only [ccOk, Bool.and_eq_true] at hok
      simp only [cwp] at h
      split at h
      · rename_i b hb
        have := ht.ev c
        rw [hb] at this
        have e := this.of_v
        refine wpIn_cond (t := b) (by rw [wM_eval]; exact e) ?_
        cases b
        · simp only [Bool.false_eq_true, if_false] at h ⊢; exact ihy _ _ _ _ hy hnd.2 hok.2 h g a w hw ht
        · simp only [if_true] at h ⊢; exact ihx _ _ _ _ hx hnd.1 hok.1 h g a w hw ht
      · exact h.elim
    · cases hc
  | block id c ih =>
    intro cc K f H hc hnd hok h g a w hw ht
    simp only [ndC] at hnd
    simp only [cmp] at hc
    cases hx : cmp n hs c with
    | none => rw [hx] at hc; cases hc
    | some x =>
      rw [hx] at hc; simp only [Option.map_some, Option.some.injEq] at hc; subst hc
      simp only [ccOk] at hok
      refine wpIn_block (wpIn_mono (ih _ _ _ _ hx hnd hok h g a w hw ht) fun e a1 w1 hp => ?_)
      obtain ⟨a0, rfl, x1, f1, H1, g1, h1, h2, h3, h4⟩ := hp
      cases e <;> cases x1 <;> first
        | exact h2.elim
        | (simp only [XR] at h2
           subst h2
           simp only [Exit.inBlock, AX.blk] at h1 ⊢
           split
           · rename_i hid; rw [if_pos hid] at h1; exact ⟨a0, rfl, .normal, f1, H1, g1, h1, trivial, h3, h4⟩
           · rename_i hid; rw [if_neg hid] at h1; exact ⟨a0, rfl, .exit _, f1, H1, g1, h1, rfl, h3, h4⟩)
        | exact ⟨a0, rfl, _, f1, H1, g1, h1, h2, h3, h4⟩
  | _ => intro cc K f H hc hnd; cases hnd

/-! blocks that nothing speaks of -/
def plainO : Obj → Bool
  | .loop _ => true
  | .deferred _ => true
  | _ => false

theorem WR.plain {g : G} {H : AH} {w : World} (h : WR g H w) {l : Nat} {o : Obj} (ho : w.heap[l]? = some o) (hp : plainO o = true) : ¬ Mods g H l := by
  rintro (⟨n, hn, e⟩ | ⟨t, ht, T, e, rfl⟩)
  · cases hB : H.own n with
    | none => exact hn hB
    | some B =>
      obtain ⟨b, obj, e1, e2, e3, _⟩ := h.own n B hB
      rw [e] at e1; cases e1
      rw [ho] at e2; cases e2
      cases o with
      | loop r => cases B <;> exact e3.elim
      | deferred r => cases B <;> exact e3.elim
      | _ => cases hp
  · cases hL : H.tip t with
    | none => exact ht hL
    | some L =>
      obtain ⟨T', c, el, e1, _, _, _, e5, _⟩ := h.tip t L hL
      rw [e] at e1; cases e1
      rw [ho] at e5; cases e5; cases hp

theorem WR.plain_fz {g : G} {H : AH} {w : World} (h : WR g H w) {l : Nat} {o : Obj} (ho : w.heap[l]? = some o) (hp : plainO o = true) (j : Nat) : g.fz l j = none := by
  cases e : g.fz l j with
  | none => rfl
  | some x =>
    have := h.fz l j x e
    simp only [World.cell?, ho] at this
    cases o with
    | loop r => cases this
    | deferred r => cases this
    | _ => cases hp

theorem WR.putO {g : G} {H : AH} {w : World} (h : WR g H w) {l : Nat} {o : Obj} (o' : Obj) (ho : w.heap[l]? = some o) (hp : plainO o = true) : WR g H (w.putObj l o') := by
  have hm := h.plain ho hp
  refine ⟨?_, ?_, h.inj, ?_, h.tinj, h.town, h.bmu, h.btp, ?_, h.nbs⟩
  · intro b j x e
    have hb : b ≠ l := by
      rintro rfl
      rw [h.plain_fz ho hp] at e; cases e
    have := h.fz b j x e
    simp only [World.cell?] at this ⊢
    rw [World.putObj_heap_other hb]; exact this
  · intro n B hB
    obtain ⟨b, obj, e1, e2, e3, e4⟩ := h.own n B hB
    have hb : b ≠ l := by
      rintro rfl
      exact hm (.inl ⟨n, by rw [hB]; simp, e1⟩)
    exact ⟨b, obj, e1, by rw [World.putObj_heap_other hb]; exact e2, e3, e4⟩
  · intro t L hL
    obtain ⟨T, c, el, e1, e2, e3, e4, e5, e6, e7⟩ := h.tip t L hL
    have hb : T.a.block ≠ l := fun hh => hm (.inr ⟨t, by rw [hL]; simp, T, e1, hh⟩)
    exact ⟨T, c, el, e1, e2, e3, e4, by rw [World.putObj_heap_other hb]; exact e5, e6, e7⟩
  · intro n b e
    rw [World.putObj_size]; exact h.bnext n b e

theorem ST.putO {g g' : G} {H H' : AH} {w W : World} (h : ST g H w g' H' W) {l : Nat} {o : Obj} (o' : Obj) (hl : w.heap.size ≤ l) (ho : W.heap[l]? = some o) (hp : plainO o = true) : ST g H w g' H' (W.putObj l o') :=
  ⟨h.le, h.wr.putO o' ho hp, by rw [World.putObj_size]; exact h.size, h.next, h.names, h.tips,
    fun b hb hm => ⟨by rw [World.putObj_heap_other (by omega)]; exact (h.same b hb hm).1, (h.same b hb hm).2⟩, h.str⟩

theorem WR.allocO {g : G} {H : AH} {w : World} (h : WR g H w) (o : Obj) : WR g H (w.alloc o) := by
  refine ⟨?_, ?_, h.inj, ?_, h.tinj, h.town, h.bmu, h.btp, ?_, h.nbs⟩
  · intro b j x e
    rw [World.cell?_alloc_lt _ _ _ (h.fz_lt e)]; exact h.fz b j x e
  · intro n B hB
    obtain ⟨b, obj, e1, e2, e3, e4⟩ := h.own n B hB
    exact ⟨b, obj, e1, by rw [heap_alloc_lt (h.bnext n b e1)]; exact e2, e3, e4⟩
  · intro t L hL
    obtain ⟨T, c', el', e1, e2, e3, e4, e5, e6, e7⟩ := h.tip t L hL
    exact ⟨T, c', el', e1, e2, e3, e4, by rw [heap_alloc_lt (h.tip_lt hL T e1)]; exact e5, e6, e7⟩
  · intro n b e; simp; have := h.bnext n b e; omega

theorem ST.allocO {g g' : G} {H H' : AH} {w W : World} (h : ST g H w g' H' W) (o : Obj) : ST g H w g' H' (W.alloc o) :=
  ⟨h.le, h.wr.allocO o, by simp; have := h.size; omega, h.next, h.names, h.tips,
    fun b hb hm => ⟨by rw [heap_alloc_lt (Nat.lt_of_lt_of_le hb h.size)]; exact (h.same b hb hm).1, (h.same b hb hm).2⟩, h.str⟩

/-- a plain block lies as it lay -/
theorem ST.plain {g g' : G} {H H' : AH} {w W : World} (h : ST g H w g' H' W) (hw : WR g H w) {l : Nat} {o : Obj} (ho : w.heap[l]? = some o) (hp : plainO o = true) : W.heap[l]? = some o := by
  have hl : l < w.heap.size := by
    rcases Nat.lt_or_ge l w.heap.size with h' | h'
    · exact h'
    · rw [Array.getElem?_eq_none h'] at ho; cases ho
  exact (h.same l hl (hw.plain ho hp)).1.trans ho

end Go.Proofs.Ytmjjfdppaomcfaa.Ab

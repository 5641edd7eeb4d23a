/- A range over a function that hands out a list's elements from the end: the statement, and a function that ends with it. -/
import Derived.Test.YtmjjfdppaomcfaaAb25
namespace Go.Proofs.Ytmjjfdppaomcfaa.Ab
open Go

/-- the iterator's word: every element with its index, from the end, if the rounds keep what it reads -/
def Back (P : Program) (gf : FuncId) : Prop := ∀ (l : Nat) (ad : Addr) (ao : Option Addr) (len cap : Nat) (xs : Nat → Value) (J : Nat → World → Prop) (W : World), ad.spot = none → (0 < len → ∃ a, ao = some a ∧ a.spot = none) → len < 4611686018427387904 →
  (∀ k W, J k W → W.cell? ad = some (.slice ao len cap)) → (∀ k W a j, J k W → ao = some a → j < len → W.cell? ⟨a.block, a.off + j, none⟩ = some (xs j)) →
  (∀ k W, k < len → J (k + 1) W → YieldAt Fence.wide 0 P l #[.int .i64 k, xs k] W fun e W' => e = .returned (.bool true) ∧ J k W') → J len W →
  CallsIn Fence.wide 0 P gf #[.func (.yield l) #[] #[], .pointer (some ad)] W fun e W' => (∃ v, e = .returned v) ∧ J 0 W'

/-- on as usual alone -/
def KN (φ : AF → AH → Prop) : Kont := ⟨fun x f H => match x with | .normal => φ f H | _ => False⟩
theorem KN_normal {φ : AF → AH → Prop} {f : AF} {H : AH} : (KN φ).run .normal f H = φ f H := rfl
theorem KN_ret {φ : AF → AH → Prop} {f : AF} {H : AH} : (KN φ).run .ret f H = False := rfl
theorem KN_panic {φ : AF → AH → Prop} {f : AF} {H : AH} {v : AV} : (KN φ).run (.panic v) f H = False := rfl
theorem KN_exit {φ : AF → AH → Prop} {f : AF} {H : AH} {i : Nat} : (KN φ).run (.exit i) f H = False := rfl

theorem KN_post {n : Nat} {φ : AF → AH → Prop} {g : G} {H : AH} {w : World} {e : Exit} {a : Act} {w' : World} (h : Post n (KN φ).run g H w e a w') :
    e = .normal ∧ ∃ f' H' g', φ f' H' ∧ ST g H w g' H' w' ∧ TR g' n f' a := by
  obtain ⟨x, f', H', g', h1, h2, h3, h4⟩ := h
  cases x with
  | normal => cases e <;> first | exact h2.elim | exact ⟨rfl, f', H', g', h1, h3, h4⟩
  | _ => exact h1.elim

structure RBack (P : Program) (mu : List Nat) (nt : Nat) (gf : FuncId) (x : Operand) (p1 p2 : Nat) (cG cD : CC) (f : AF) (H : AH) (Z : AH → Prop) where
  tip : Tip
  rows : List AV
  I : Nat → AH → Prop
  hx : aev f x = .fn (.func gf) [] [.box [.lst 1 (rows.map fun r => [r]) tip]]
  hlen : rows.length < 4611686018427387904
  hds : f.ds = []
  h0 : I rows.length H
  round : ∀ k H, k < rows.length → I (k + 1) H → cwp P mu nt cG (KN fun f1 H1 => cwp P mu nt cD (KN fun _ H2 => I k H2) f1 H1) ((f.put (some p1) (.v (.int .i64 (k : Int)))).put (some p2) (rows.getD k .any)) H
  done : ∀ H, I 0 H → Z H

theorem rng_back {P : Program} {mu : List Nat} {nt : Nat} {gf : FuncId} (hm : P.follows .mixedOrders = true) (hB : Back P gf) (hcal : callable P gf = true) {hs : List Hint} {x : Operand} {p1 p2 : Nat} (hp1 : p1 < nt) (hp2 : p2 < nt) {asg body : Code} {cG cD : CC}
    (hG : cmp nt hs asg = some cG) (hD : cmp nt hs body = some cD) (ndG : ndC asg = true) (ndD : ndC body = true) (okG : ccOk cG = true) (okD : ccOk cD = true)
    {f : AF} {H : AH} {Z : AH → Prop} (r : RBack P mu nt gf x p1 p2 cG cD f H Z) {g : G} {a : Act} {w : World} (hw : WR g H w) (ht : TR g nt f a)
    {Q : Exit → Act → World → Prop}
    (hQ : ∀ H' g' W, Z H' → ST g H w g' H' W → W.heap[w.heap.size]? = some (.deferred (some [])) → Q .normal (wM [{ target := .collected w.heap.size, args := #[] }] a) W) :
    (Code.rangeFunc x #[p1, p2] asg body).wpIn (Fro none) 0 P Q a w := by
  obtain ⟨tip, rows, I, hx, hlen, hds, h0, round, done⟩ := r
  have had : a.defers = [] := by
    have := ht.ds; rw [hds] at this; generalize a.defers = l at this ⊢; cases this; rfl
  -- the function's value
  have hxv := ht.ev x
  rw [hx] at hxv
  generalize hev : a.eval x = y at hxv
  cases hxv with
  | @fn _ _ _ ys zs q1 q2 q3 q4 =>
  have hys : ys = #[] := Array.eq_empty_of_size_eq_zero (by simpa using q1)
  subst hys
  have hz := q4 0 (by simp)
  have hzs : zs = #[zs.getD 0 undef] := by
    simp only [List.length_cons, List.length_nil, Nat.zero_add] at q2
    apply Array.ext
    · simp [q2]
    · intro i h1 h2
      have : i = 0 := by omega
      subst this
      simp [Array.getD_eq_getD_getElem?, h1]
  simp only [List.getD_cons_zero] at hz
  generalize zs.getD 0 undef = z at hz hzs
  subst hzs
  cases hz with
  | @box _ ad bx hspot hf hxx =>
  have hf0 := hf 0 (by simp)
  have hx0 := hxx 0 (by simp)
  simp only [List.getD_cons_zero] at hx0
  generalize bx 0 = sv at hf0 hx0
  cases hx0 with
  | @lst _ _ _ ao a1 len cap xs hl hc hz ha hk hfz hxs htip =>
  simp only [List.length_map] at hl ha hk hfz hxs
  subst hl
  have hrow : ∀ k, k < rows.length → (rows.map fun r => [r]).getD k [] = [rows.getD k .any] := fun k hk => by
    rw [List.getD_eq_getElem?_getD, List.getElem?_map, List.getD_eq_getElem?_getD, List.getElem?_eq_getElem hk]; rfl
  have hread : ∀ {g' : G} {H' : AH} {W : World}, ST g H w g' H' W → W.cell? ad = some (.slice ao rows.length cap) := by
    intro g' H' W st
    have := st.wr.fz _ _ _ (st.le.fz _ _ _ hf0)
    obtain ⟨b1, o1, s1⟩ := ad
    simp only at hspot
    subst hspot
    simpa using this
  have hreadx : ∀ {g' : G} {H' : AH} {W : World} (a' : Addr) (j : Nat), ST g H w g' H' W → ao = some a' → j < rows.length → W.cell? ⟨a'.block, a'.off + j, none⟩ = some (xs j 0) := by
    intro g' H' W a' j st ea hj
    obtain ⟨e1, e2⟩ := ha (by omega)
    rw [ea] at e1; cases e1
    have := st.wr.fz _ _ _ (st.le.fz _ _ _ (hfz j 0 hj (by omega)))
    simpa using this
  refine wpIn_rangeFunc ?_
  intro fn hfn
  obtain ⟨rec, hrec⟩ : ∃ rec : LoopState → Option Code → Loop, rec = fun st pe => { state := st, pending := pe, fn, tmps := a.tmps, params := #[p1, p2], assign := asg, body, defers := w.heap.size } := ⟨_, rfl⟩
  obtain ⟨W1, hW1⟩ : ∃ W1, (w.alloc (.deferred (some []))).alloc (.loop (rec .ready none)) = W1 := ⟨_, rfl⟩
  have hL1 : W1.heap[w.heap.size + 1]? = some (.loop (rec .ready none)) := by
    rw [← hW1]; have := World.alloc_heap_new (w.alloc (.deferred (some []))) (.loop (rec .ready none)); rwa [World.size_alloc] at this
  have hK1 : W1.heap[w.heap.size]? = some (.deferred (some [])) := by
    rw [← hW1, heap_alloc_lt (by simp)]; exact World.alloc_heap_new w _
  have st1 : ST g H w g H W1 := by rw [← hW1]; exact ((ST.refl hw).allocO _).allocO _
  refine ⟨w.heap.size + 1, [{ target := .collected w.heap.size, args := #[] }], W1, { target := .fn (.func gf) #[.pointer (some ad)], args := #[.func (.yield (w.heap.size + 1)) #[] #[]] }, W1, gf,
    #[.func (.yield (w.heap.size + 1)) #[] #[], .pointer (some ad)], W1, ?_, ?_, fun _ _ => trivial, ?_, fun hd => by simp [Fro, Fence.wide] at hd, ?_⟩
  · rw [← hW1, hrec]; exact run_enterLoop_outer _ _ _ _ _
  · simp only [resolve, hev]
    simp [go_sem]
  · simp only [invoke]; exact callFunc_run hcal
  · have hb := hB (w.heap.size + 1) ad ao rows.length cap (fun k => xs k 0)
      (fun k W => ∃ H' g', I k H' ∧ ST g H w g' H' W ∧ W.heap[w.heap.size + 1]? = some (.loop (rec .ready none)) ∧ W.heap[w.heap.size]? = some (.deferred (some [])))
      W1 hspot (fun h => ⟨a1, ha h⟩) hlen
      (fun k W ⟨H', g', _, st, _⟩ => hread st) (fun k W a' j ⟨H', g', _, st, _⟩ ea hj => hreadx a' j st ea hj) ?_ ⟨H, g, h0, st1, hL1, hK1⟩
    · have hb' : CallsIn (Fro none) 0 P gf #[.func (.yield (w.heap.size + 1)) #[] #[], .pointer (some ad)] W1 _ := hb
      refine hb'.mono ?_
      rintro e W2 ⟨⟨v, rfl⟩, H', g', hI, st, hl, hk⟩
      refine ⟨none, _, by have := run_endLoop (P := P) hl (by rw [hrec]; simp); rw [hrec] at this; exact this, ?_⟩
      have := hQ H' g' _ (done _ hI) (st.putO (.loop { state := .exhausted, pending := none, fn, tmps := a.tmps, params := #[p1, p2], assign := asg, body, defers := w.heap.size }) (by omega) hl rfl) (by rw [World.putObj_heap_other (by omega)]; exact hk)
      simp only [wM, had] at this ⊢
      exact this
    · rintro k W hk ⟨H2, g2, hI, st, hl, hdf⟩
      have hy := run_yield (P := P) (args := #[.int .i64 (k : Int), xs k 0]) hl (by rw [hrec]; rfl)
      refine ⟨_, _, _, _, hy, ?_⟩
      rw [hrec]
      refine roundIn_of_wpIn hfn ?_
      have ht2 : TR g2 nt ((f.put (some p1) (.v (.int .i64 (k : Int)))).put (some p2) (rows.getD k .any)) ((a.put (some p1) (.int .i64 (k : Int))).put (some p2) (xs k 0)) := by
        refine ((ht.mono st.le).put (by simpa [slotOk] using hp1) .v).put (by simpa [slotOk] using hp2) ?_
        have := hxs k 0 hk (by omega)
        rw [hrow k hk] at this
        exact this.mono st.le
      have hact : ({ tmps := (#[p1, p2].zip #[.int .i64 (k : Int), xs k 0]).foldl (fun tmps (t, a) => tmps.setIfInBounds t a) a.tmps, defers := [] } : Act) = wM [] ((a.put (some p1) (.int .i64 (k : Int))).put (some p2) (xs k 0)) := by
        simp [wM, Act.put, had]
      have hcg := cwp_in (M := []) (ro := some (w.heap.size + 1)) (m := 0) hm hs asg cG _ _ _ hG ndG okG (round k H2 hk hI) g2 _ W st.wr ht2
      rw [← hact] at hcg
      refine wpIn_mono hcg ?_
      rintro e a1 w1 ⟨a0, rfl, hp⟩
      obtain ⟨rfl, f3, H3, g3, h3, st3, ht3⟩ := KN_post hp
      have hl3 := st3.plain st.wr hl rfl
      have hd3 := st3.plain st.wr hdf rfl
      refine ⟨_, run_beginRound hl3 (by rw [hrec]), ?_⟩
      have st4 : ST g H w g3 H3 w1 := st.trans st3
      have hlt : w.heap.size + 1 < w1.heap.size := (Array.getElem?_eq_some_iff.1 hl3).1
      have hcd := cwp_in (M := []) (ro := some (w.heap.size + 1)) (m := 0) hm hs body cD _ _ _ hD ndD okD h3 g3 a0 _ (st4.wr.putO (.loop { rec .ready none with state := .busy }) hl3 rfl) ht3
      refine wpIn_mono hcd ?_
      rintro e a2 w2 ⟨a5, rfl, hp⟩
      obtain ⟨rfl, f5, H5, g5, h5, st5, ht5⟩ := KN_post hp
      have hl5 := st5.plain (st4.wr.putO (.loop { rec .ready none with state := .busy }) hl3 rfl) (World.putObj_heap_same hlt) rfl
      have hd5 := st5.plain (st4.wr.putO (.loop { rec .ready none with state := .busy }) hl3 rfl) ((World.putObj_heap_other (by omega)).trans hd3) rfl
      have st6 := (st4.putO (.loop { rec .ready none with state := .busy }) (by omega) hl3 rfl).trans st5
      refine ⟨_, _, run_endRound none hl5, rfl, H5, g5, h5, st6.putO _ (by omega) hl5 rfl, ?_, ?_⟩
      · have := World.putObj_heap_same (w := w2) (o := .loop (rec .ready none)) (Array.getElem?_eq_some_iff.1 hl5).1
        rw [hrec] at this ⊢
        exact this
      · exact (World.putObj_heap_other (by omega)).trans hd5

/-- what is known of a function that ranges over a list from its end -/
structure FnB (P : Program) (n : FuncId) (nt : Nat) (hs : List Hint) (rs : List ResultVar) (c0 c1 c2 : CC) (x : Operand) (p1 p2 : Nat) (cG cD cC : CC) : Prop where
  mixed : P.follows .mixedOrders = true
  fn : ∃ fn, P.funcs[n]? = some fn ∧ (∃ a0 a1 a2 id asg body b0, fn.body = some (.seq a0 (.seq a1 (.seq (.seq a2 (.block id (.rangeFunc x #[p1, p2] asg body))) b0))) ∧
    cmp nt hs a0 = some c0 ∧ cmp nt hs a1 = some c1 ∧ cmp nt hs a2 = some c2 ∧ cmp nt hs asg = some cG ∧ cmp nt hs body = some cD ∧ cmp nt hs b0 = some cC ∧
    (ndC a0 && ndC a1 && ndC a2 && ndC asg && ndC body && ndC b0) = true ∧ (ccOk c0 && ccOk c1 && ccOk c2 && ccOk cG && ccOk cD && ccOk cC) = true) ∧
    (fn.name != "runtime.NumGoroutine") = true ∧ fn.ntmps = nt ∧ fn.results.toList = rs
  p1 : p1 < nt
  p2 : p2 < nt

theorem ACall.enterB {P : Program} {n gf : FuncId} {nt : Nat} {hs : List Hint} {rs : List ResultVar} {c0 c1 c2 : CC} {x : Operand} {p1 p2 : Nat} {cG cD cC : CC} (mu : List Nat) {args : List AV} {H : AH} {R : AOut → AH → Prop}
    (hB : Back P gf) (hcal : callable P gf = true) (hfn : FnB P n nt hs rs c0 c1 c2 x p1 p2 cG cD cC) (ha : args.length ≤ nt)
    (h : cwp P mu nt (.seq c0 (.seq c1 c2)) (KN fun f H => Nonempty (RBack P mu nt gf x p1 p2 cG cD f H (fun H' => cwp P mu nt cC (Kont.fin P rs R) f H'))) (enterA args) H) : ACall P n args H R := by
  obtain ⟨fn, hf, ⟨a0, a1, a2, id, asg, body, b0, hb, e0, e1, e2, eG, eD, eC, hnd, hok⟩, hname, hn, hr⟩ := hfn.fn
  have hp1 := hfn.p1
  have hp2 := hfn.p2
  simp only [Bool.and_eq_true] at hnd hok
  obtain ⟨⟨⟨⟨⟨n0, n1⟩, n2⟩, nG⟩, nD⟩, nC⟩ := hnd
  obtain ⟨⟨⟨⟨⟨k0, k1⟩, k2⟩, kG⟩, kD⟩, kC⟩ := hok
  refine ⟨by simp only [callable, hf, hname, hb]; rfl, fun g xs w hw hx => (callsIn_wide (n := 0)).1 (callsIn_of_wp_marks hf hb trivial ?_ rfl)⟩
  subst hn; subst hr
  have ht : TR g fn.ntmps (enterA args) { tmps := xs ++ Array.replicate (fn.ntmps - xs.size) undef, defers := [] } := by
    refine ⟨by simp [hx.1]; omega, fun i => ?_, .nil⟩
    simp only [enterA]
    by_cases hi : i < args.length
    · have := hx.2 i hi
      have hi' : i < xs.size := by rw [hx.1]; exact hi
      rw [Array.getD_eq_getD_getElem?, Array.getElem?_append_left hi', ← Array.getD_eq_getD_getElem?]; exact this
    · rw [List.getD_eq_getElem?_getD, List.getElem?_eq_none (by omega)]; exact .any
  show Code.wpIn (Fro none) 0 P _ _ (wM [] { tmps := xs ++ Array.replicate (fn.ntmps - xs.size) undef, defers := [] }) w
  have hm := hfn.mixed
  -- what stands ahead of the loop
  refine wpIn_seq (wpIn_mono (cwp_in hm hs none [] 0 a0 _ _ _ _ e0 n0 k0 h g _ w hw ht) ?_)
  rintro e _ w1 ⟨b1, rfl, x1, f1, H1, g1, h1, hx1, st1, ht1⟩
  cases x1 with
  | normal =>
    cases e <;> first | exact hx1.elim | skip
    refine wpIn_seq (wpIn_mono (cwp_in hm hs none [] 0 a1 _ _ _ _ e1 n1 k1 h1 g1 _ w1 st1.wr ht1) ?_)
    rintro e _ w2 ⟨b2, rfl, x2, f2, H2, g2, h2, hx2, st2, ht2⟩
    cases x2 with
    | normal =>
      cases e <;> first | exact hx2.elim | skip
      refine wpIn_seq (wpIn_seq (wpIn_mono (cwp_in hm hs none [] 0 a2 _ _ _ _ e2 n2 k2 h2 g2 _ w2 st2.wr ht2) ?_))
      rintro e _ w3 ⟨b3, rfl, x3, f3, H3, g3, h3, hx3, st3, ht3⟩
      cases x3 with
      | normal =>
        cases e <;> first | exact hx3.elim | skip
        obtain ⟨r⟩ := h3
        have st0 := (st1.trans st2).trans st3
        have hb3 : b3.defers = [] := by
          have := ht3.ds; rw [r.hds] at this; generalize b3.defers = l at this ⊢; cases this; rfl
        have hw3 : wM [] b3 = b3 := by simp [wM]
        rw [hw3]
        refine wpIn_block (rng_back hm hB hcal hp1 hp2 eG eD nG nD kG kD r st0.wr ht3 ?_)
        intro H' g' W hZ st hk
        -- behind the loop
        show Code.wpIn (Fro none) 0 P b0 _ (wM _ b3) W
        refine wpIn_mono (cwp_in hm hs none _ 0 b0 _ _ _ _ eC nC kC hZ g' b3 W st.wr (ht3.mono st.le)) ?_
        rintro e _ w4 ⟨b4, rfl, x4, f4, H4, g4, h4, hx4, st4, ht4⟩
        have hk4 := st4.plain st.wr hk rfl
        have st5 := ((st0.trans st).trans st4).putO (.deferred none) (by have := st0.size; omega) hk4 rfl
        have hds : f4.ds = [] → (wM [{ target := .collected w3.heap.size, args := #[] }] b4).defers = [{ target := .collected w3.heap.size, args := #[] }] := fun hd => by
          have := ht4.ds; rw [hd] at this
          have h0 : b4.defers = [] := by generalize b4.defers = l at this ⊢; cases this; rfl
          simp [wM, h0]
        cases x4 with
        | normal =>
          cases e <;> first | exact hx4.elim | skip
          obtain ⟨q1, q2⟩ := h4
          split at q2
          · rename_i v hv
            obtain ⟨y, hy, hvv⟩ := results_sound st5.wr ht4 hv
            show LeavesInM _ _ _ _ _ _ (wM _ b4).defers _ _
            rw [hds q1]
            exact ⟨by simp, .inl ⟨_, _, rfl, run_takeDeferred hk4, y, hy, .ret v, H4, g4, q2, hvv, st5⟩⟩
          · exact q2.elim
        | ret =>
          cases e <;> first | exact hx4.elim | skip
          obtain ⟨q1, q2⟩ := h4
          split at q2
          · rename_i v hv
            obtain ⟨y, hy, hvv⟩ := results_sound st5.wr ht4 hv
            show LeavesInM _ _ _ _ _ _ (wM _ b4).defers _ _
            rw [hds q1]
            exact ⟨by simp, .inl ⟨_, _, rfl, run_takeDeferred hk4, y, hy, .ret v, H4, g4, q2, hvv, st5⟩⟩
          · exact q2.elim
        | panic v =>
          cases e <;> first | exact hx4.elim | skip
          obtain ⟨q1, q2⟩ := h4
          show LeavesInM _ _ _ _ _ _ (wM _ b4).defers _ _
          rw [hds q1]
          obtain ⟨z, rfl, hz⟩ := hx4
          exact ⟨by simp, .inl ⟨_, _, rfl, run_takeDeferred hk4, .pan v, H4, g4, q2, ⟨z, rfl, hz⟩, st5⟩⟩
        | exit i => exact h4.elim
      | _ => exact h3.elim
    | _ => exact h2.elim
  | _ => exact h1.elim

end Go.Proofs.Ytmjjfdppaomcfaa.Ab

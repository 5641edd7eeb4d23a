/- Functions with a deferred call that recovers. -/
import Derived.Test.YtchpcjmgifnmdaaDoorAb17
import Derived.Recover
namespace Go.Proofs.YtchpcjmgifnmdaaDoor.Ab
open Go

def pmode (g : G) (pv : Option AV) (u : FrameMode) : Prop := match pv with
  | none => u = .returning
  | some v => ∃ x, u = .panicking [{ v := x, recovered := false }] ∧ VR g v x
def qmode (pv : Option AV) (u : FrameMode) : Prop := match pv with
  | none => u = .returning
  | some _ => ∃ x, u = .panicking [{ v := x, recovered := true }]
/-- a deferred call that returns, and recovers what was raised -/
def ADefer (P : Program) (m : FuncId) (args : List AV) (pv : Option AV) (H : AH) (R : AH → Prop) : Prop :=
  callable P m = true ∧ ∀ g xs w u, WR g H w → VRs g args xs → pmode g pv u →
    CallsD P m xs u w fun e u' w' => (∃ y, e = .returned y) ∧ qmode pv u' ∧ ∃ H' g', R H' ∧ ST g H w g' H' w'

def aresD (P : Program) (rs : List ResultVar) (R : AOut → AH → Prop) (f : AF) (H : AH) : Prop := match aresults P rs f H with
  | some v => R (.ret v) H
  | none => False
def retDv (P : Program) (rs : List ResultVar) (R : AOut → AH → Prop) (pv : Option AV) (f : AF) (H : AH) : List ADef → Prop
    | [] => match pv with | none => aresD P rs R f H | some v => R (.pan v) H
    | [⟨.func m, cap, args⟩] => ADefer P m (args ++ cap) pv H (aresD P rs R f)
    | _ => False
def retD (P : Program) (rs : List ResultVar) (R : AOut → AH → Prop) : AX → AF → AH → Prop
  | .exit _, _, _ => False
  | .panic v, f, H => retDv P rs R (some v) f H f.ds
  | .ret, f, H => retDv P rs R none f H f.ds
  | .normal, f, H => retDv P rs R none f H f.ds
def Kont.finD (P : Program) (rs : List ResultVar) (R : AOut → AH → Prop) : Kont := ⟨retD P rs R⟩
section
variable {P : Program} {rs : List ResultVar} {R : AOut → AH → Prop} {f : AF} {H : AH}
theorem finD_ret : (Kont.finD P rs R).run .ret f H = retDv P rs R none f H f.ds := rfl
theorem finD_normal : (Kont.finD P rs R).run .normal f H = retDv P rs R none f H f.ds := rfl
theorem finD_panic {v : AV} : (Kont.finD P rs R).run (.panic v) f H = retDv P rs R (some v) f H f.ds := rfl
theorem retDv_nil : retDv P rs R none f H [] = aresD P rs R f H := rfl
theorem retDv_one {pv : Option AV} {m : FuncId} {cap args : List AV} : retDv P rs R pv f H [⟨.func m, cap, args⟩] = ADefer P m (args ++ cap) pv H (aresD P rs R f) := rfl

theorem aresD_sound {n : Nat} {g : G} {w : World} {a : Act} (hw : WR g H w) (ht : TR g n f a) {fn : Func} (hr : fn.results.toList = rs) (h : aresD P rs R f H) :
    ∃ x v, (results fn a.tmps).run P w = .ok x w ∧ VR g v x ∧ R (.ret v) H := by
  subst hr
  unfold aresD at h
  split at h
  · rename_i v hv
    obtain ⟨y, hy, hvv⟩ := results_sound hw ht hv
    exact ⟨y, v, hy, hvv, h⟩
  · exact h.elim

theorem retDv_sound {n : Nat} {g g0 : G} {H0 : AH} {w w0 : World} {a : Act} {fn : Func} (hr : fn.results.toList = rs) (hst : ST g0 H0 w0 g H w) (ht : TR g n f a) {pv : Option AV} {u : FrameMode} (hu : pmode g pv u)
    (h : retDv P rs R pv f H f.ds) : Leaves P fn a.tmps (CPost R g0 H0 w0) a.defers u w := by
  have hds := ht.ds
  generalize f.ds = l at h hds
  generalize a.defers = l' at hds
  unfold retDv at h
  split at h
  · cases hds
    cases pv with
    | none =>
      obtain ⟨x, v, h1, h2, h3⟩ := aresD_sound hst.wr ht hr h
      cases hu
      exact ⟨x, h1, .ret v, H, g, h3, h2, hst⟩
    | some v =>
      obtain ⟨x, rfl, hx⟩ := hu
      exact ⟨.pan v, H, g, h, ⟨x, rfl, hx⟩, hst⟩
  · rename_i m cap args
    cases hds with
    | cons hd htl =>
      cases htl
      rename_i d'
      obtain ⟨tg, da⟩ := d'
      obtain ⟨cs, e1, e2, e3⟩ := hd
      simp only at e1; subst e1
      have hrun : u ≠ .run := by
        cases pv with
        | none => cases hu; simp
        | some v => obtain ⟨x, rfl, _⟩ := hu; simp
      refine leaves_cons hrun (f := m) (args := da ++ cs) ?_ ?_
      · simp only [invoke]; exact callFunc_run h.1
      refine (h.2 g _ w u hst.wr (VRs.append e3 e2) hu).mono fun e u' w' hp => ?_
      obtain ⟨⟨y, rfl⟩, hq, H', g', hR, hst'⟩ := hp
      obtain ⟨x, v, h1, h2, h3⟩ := aresD_sound hst'.wr (ht.mono hst'.le) hr hR
      have hs : settle u' = .returning := by
        cases pv with
        | none => cases hq; rfl
        | some v => obtain ⟨x, rfl⟩ := hq; rfl
      simp only [hs]
      exact ⟨x, h1, .ret v, H', g', h3, h2, hst.trans hst'⟩
  · exact h.elim

/-- a function that may have one deferred call -/
theorem ACall.enterD {n : FuncId} {cc : CC} {nt : Nat} {hs : List Hint} (mu : List Nat) {args : List AV} (hfn : FnFact P n nt hs rs cc) (ha : args.length ≤ nt)
    (h : cwp P mu nt cc (Kont.finD P rs R) (enterA args) H) : ACall P n args H R := by
  obtain ⟨fn, hf, hbc, hname, hn, hr⟩ := hfn.fn
  obtain ⟨c, hb, hc⟩ : ∃ c, fn.body = some c ∧ cmp nt hs c = some cc := by
    cases hb : fn.body with
    | none => rw [hb] at hbc; cases hbc
    | some c => rw [hb] at hbc; exact ⟨c, rfl, hbc⟩
  refine ⟨by simp only [callable, hf, hname, hb]; rfl, fun g xs w hw hx => ?_⟩
  subst hn
  refine calls_of_wp_defers hf hb ?_
  have ht : TR g fn.ntmps (enterA args) { tmps := xs ++ Array.replicate (fn.ntmps - xs.size) undef, defers := [] } := by
    refine ⟨by simp [hx.1]; omega, fun i => ?_, .nil⟩
    simp only [enterA]
    by_cases hi : i < args.length
    · have := hx.2 i hi
      have hi' : i < xs.size := by rw [hx.1]; exact hi
      rw [Array.getD_eq_getD_getElem?, Array.getElem?_append_left hi', ← Array.getD_eq_getD_getElem?]; exact this
    · rw [List.getD_eq_getElem?_getD, List.getElem?_eq_none (by omega)]; exact .any
  refine wp_mono (cwp_sound hfn.mixed hs c cc _ _ _ hc h g _ w hw ht) fun e a' w' hp => ?_
  obtain ⟨x, f', H', g', h1, h2, h3, h4⟩ := hp
  cases x with
  | normal =>
    cases e <;> first | exact h2.elim | skip
    rw [finD_normal] at h1
    exact retDv_sound (pv := none) hr h3 h4 rfl h1
  | ret =>
    cases e <;> first | exact h2.elim | skip
    rw [finD_ret] at h1
    exact retDv_sound (pv := none) hr h3 h4 rfl h1
  | panic v =>
    cases e <;> first | exact h2.elim | skip
    rw [finD_panic] at h1
    obtain ⟨x, rfl, hx⟩ := h2
    exact retDv_sound (pv := some v) hr h3 h4 ⟨x, rfl, hx⟩ h1
  | exit id => exact h1.elim
end

/-! code that begins with recover -/
def isRec (o : COp) : Bool := o.guard.isNone && match o.op with
  | .call c => (match c.callee with | .builtin .recover => true | _ => false)
  | _ => false
def unrec : CC → Option (Option Nat × CC)
  | .reg (o :: os) => if isRec o then some (o.dst, .reg os) else none
  | .seq a b => (unrec a).map fun p => (p.1, .seq p.2 b)
  | _ => none

section
variable {P : Program} {mu : List Nat} {n : Nat}
def QS (n : Nat) (Q : AX → AF → AH → Prop) (g : G) (H : AH) (w : World) (cs1 : List Frame) : Exit → Act → List Frame → World → Prop := fun e a' cs' w' => Post n Q g H w e a' w' ∧ cs' = cs1

theorem copsS_sound {Q : Kont} {ops : Array Oper} {l0 : List Oper} {cs1 : List Frame} (hl0 : l0 = ops.toList) : ∀ (os : List Oper) (cs : List COp) (i : Nat) (f : AF) (H : AH), os = l0.drop i →
    allSome (os.map (cmpOp n ops)) = some cs → cops P mu Q cs f H →
    ∀ g0 H0 w0 g a w, ST g0 H0 w0 g H w → TR g n f a → wpOpsS P ops (QS n Q.run g0 H0 w0 cs1) (List.range' i os.length) a cs1 w
  | [], cs, i, f, H, _, hc, h, g0, H0, w0, g, a, w, hst, ht => by
    simp only [List.map_nil, allSome, Option.some.injEq] at hc; subst hc
    exact ⟨⟨.normal, f, H, g, h, trivial, hst, ht⟩, rfl⟩
  | o :: os, cs, i, f, H, hos, hc, h, g0, H0, w0, g, a, w, hst, ht => by
    have hget : ops[i]? = some o := by
      have : l0[i]? = some o := by
        have h1 : (l0.drop i)[0]? = some o := by rw [← hos]; rfl
        rw [List.getElem?_drop] at h1; simpa using h1
      rw [hl0, Array.getElem?_toList] at this; exact this
    have hos' : os = l0.drop (i + 1) := by
      have : (l0.drop i).drop 1 = os := by rw [← hos]; rfl
      rw [List.drop_drop] at this; exact this.symm
    simp only [List.map_cons] at hc
    cases hco : cmpOp n ops o with
    | none => rw [hco] at hc; cases hc
    | some c =>
      rw [hco] at hc
      simp only [allSome] at hc
      cases hcs : allSome (os.map (cmpOp n ops)) with
      | none => rw [hcs] at hc; cases hc
      | some cs' =>
        rw [hcs] at hc
        simp only [Option.map_some, Option.some.injEq] at hc
        subst hc
        obtain ⟨s1, s2, s3⟩ := cmpOp_slot hco
        simp only [List.length_cons, List.range'_succ, wpOpsS, hget]
        simp only [cops] at h
        split at h
        · exact h.elim
        · rename_i b hb
          rw [guardC_sound ht hco hb]
          cases b with
          | true =>
            simp only [if_true] at h ⊢
            rw [s2, s3] at h
            have hwp : o.wp P a w (fun a' w' => wpOpsS P ops (QS n Q.run g0 H0 w0 cs1) (List.range' (i + 1) os.length) a' cs1 w') (fun e a' w' => QS n Q.run g0 H0 w0 cs1 e a' cs1 w') :=
              astep_sound hst.wr ht s1 h (fun f' H' g' a' w' hK h1 h2 => copsS_sound hl0 os cs' (i + 1) f' H' hos' hcs hK g0 H0 w0 g' a' w' (hst.trans h1) h2)
                (fun v H' g' w' ch hq hx h1 => ⟨⟨.panic v, f, H', g', hq, hx, hst.trans h1, ht.mono h1.le⟩, rfl⟩)
            unfold Oper.wp at hwp
            generalize (execOp a.eval o).run P w = r at hwp ⊢
            split
            · exact False.elim hwp
            · exact hwp
          | false =>
            simp only [Bool.false_eq_true, if_false] at h ⊢
            rw [s2] at h
            exact copsS_sound hl0 os cs' (i + 1) _ H hos' hcs h g0 H0 w0 g _ w hst (ht.put s1 (x := undef) .v)

theorem wpS_mono {c : Code} {Q Q' : Exit → Act → List Frame → World → Prop} {a : Act} {cs : List Frame} {w : World} (h : c.wpS P Q a cs w) (hq : ∀ e a cs w, Q e a cs w → Q' e a cs w) : c.wpS P Q' a cs w :=
  fun b k hb hr => let ⟨e, a', cs', w', q, r⟩ := h b k hb hr; ⟨e, a', cs', w', hq _ _ _ _ q, r⟩

theorem isRec_run {o : COp} {oo : Oper} {ops : Array Oper} {a : Act} {w : World} (hc : cmpOp n ops oo = some o) (h : isRec o = true) : oo.guard = none ∧ (execOp a.eval oo).run P w = .ok .recover w := by
  obtain ⟨s1, s2, s3⟩ := cmpOp_slot hc
  simp only [isRec, Bool.and_eq_true] at h
  obtain ⟨h1, h2⟩ := h
  constructor
  · unfold cmpOp at hc
    rw [if_pos s1] at hc
    split at hc
    · assumption
    · split at hc
      · split at hc
        · simp only [Option.some.injEq] at hc; subst hc; cases h1
        · cases hc
      · cases hc
  · rw [s3] at h2
    split at h2
    · rename_i c hop
      split at h2
      · rename_i hcal
        simp only [execOp, hop, resolve, hcal]
        rfl
      · cases h2
    · cases h2

theorem unrec_sound (hm : P.follows .mixedOrders = true) (hs : List Hint) (c : Code) : ∀ (cc : CC) (dst : Option Nat) (cc' : CC) (K : Kont) (f : AF) (H : AH) (v : AV), cmp n hs c = some cc → unrec cc = some (dst, cc') → cwp P mu n cc' K (f.put dst v) H →
    ∀ g a cs cs1 w y, WR g H w → TR g n f a → VR g v y → (recoverD cs = some (y, cs1) ∨ (recoverD cs = none ∧ y = .nilIface ∧ cs = cs1)) → c.wpS P (QS n K.run g H w cs1) a cs w := by
  induction c with
  | region id ops d =>
    intro cc dst cc' K f H v hc hu h g a cs cs1 w y hw ht hv hrec
    cases d with
    | true =>
      simp only [cmp] at hc
      split at hc
      · rename_i hh hf
        cases hd : cmpD n ops hh.2.1 hh.2.2 with
        | none => rw [hd] at hc; cases hc
        | some ord => rw [hd] at hc; simp only [Option.map_some, Option.some.injEq] at hc; subst hc; cases hu
      · simp only [Option.some.injEq] at hc; subst hc; cases hu
    | false =>
      simp only [cmp] at hc
      cases ha : allSome (ops.toList.map (cmpOp n ops)) with
      | none => rw [ha] at hc; cases hc
      | some cl =>
        rw [ha] at hc; simp only [Option.map_some, Option.some.injEq] at hc; subst hc
        cases cl with
        | nil => cases hu
        | cons o os =>
          simp only [unrec] at hu
          split at hu
          · rename_i hr
            simp only [Option.some.injEq, Prod.mk.injEq] at hu
            obtain ⟨rfl, rfl⟩ := hu
            cases hol : ops.toList with
            | nil => rw [hol] at ha; cases ha
            | cons oo rest =>
              rw [hol] at ha
              simp only [List.map_cons] at ha
              cases hco : cmpOp n ops oo with
              | none => rw [hco] at ha; cases ha
              | some c0 =>
                rw [hco] at ha
                simp only [allSome] at ha
                cases hcs : allSome (rest.map (cmpOp n ops)) with
                | none => rw [hcs] at ha; cases ha
                | some cs' =>
                  rw [hcs] at ha
                  simp only [Option.map_some, Option.some.injEq, List.cons.injEq] at ha
                  obtain ⟨rfl, rfl⟩ := ha
                  obtain ⟨s1, s2, s3⟩ := cmpOp_slot hco
                  obtain ⟨hg, hrun⟩ := isRec_run (P := P) (a := a) (w := w) hco hr
                  have hget : ops[0]? = some oo := by rw [← Array.getElem?_toList, hol]; rfl
                  have hsize : ops.size = rest.length + 1 := by rw [← Array.length_toList, hol]; rfl
                  refine wpS_region ?_
                  rw [List.range_eq_range', hsize, List.range'_succ]
                  simp only [wpOpsS, hget]
                  have hwant : Region.wanted oo (yielded ops a.tmps) = true := by unfold Region.wanted; rw [hg]
                  rw [hwant, hrun]
                  simp only [if_true]
                  rw [s2] at h
                  have hend : wpOpsS P ops (QS n K.run g H w cs1) (List.range' 1 rest.length) (a.put oo.dst y) cs1 w :=
                    copsS_sound rfl rest cs' 1 _ H (by rw [hol]; rfl) hcs h g H w g _ w (ST.refl hw) (ht.put s1 hv)
                  rcases hrec with hrec | ⟨hrec, rfl, rfl⟩
                  · rw [hrec]; exact hend
                  · rw [hrec]; exact hend
          · cases hu
  | seq c1 c2 ih1 _ =>
    intro cc dst cc' K f H v hc hu h g a cs cs1 w y hw ht hv hrec
    simp only [cmp] at hc
    split at hc
    · rename_i x1 x2 hx1 hx2
      simp only [Option.some.injEq] at hc; subst hc
      simp only [unrec] at hu
      cases hu1 : unrec x1 with
      | none => rw [hu1] at hu; cases hu
      | some p =>
        rw [hu1] at hu
        simp only [Option.map_some, Option.some.injEq, Prod.mk.injEq] at hu
        obtain ⟨rfl, rfl⟩ := hu
        refine wpS_seq (wpS_mono (ih1 x1 p.1 p.2 (Kont.seq P mu n x2 K) f H v hx1 (by rw [hu1]) h g a cs cs1 w y hw ht hv hrec) fun e a1 cs2 w1 hp => ?_)
        obtain ⟨⟨x, f1, H1, g1, h1, h2, h3, h4⟩, rfl⟩ := hp
        cases e with
        | normal =>
          cases x with
          | normal =>
            refine wpS_of_wp (wp_mono (cwp_sound hm hs c2 x2 K f1 H1 hx2 h1 g1 a1 w1 h3.wr h4) fun e a2 w2 hp => ?_)
            obtain ⟨x2', f2, H2, g2, q1, q2, q3, q4⟩ := hp
            exact ⟨⟨x2', f2, H2, g2, q1, q2, h3.trans q3, q4⟩, rfl⟩
          | _ => exact h2.elim
        | _ =>
          cases x with
          | normal => exact h2.elim
          | _ => exact ⟨⟨_, f1, H1, g1, h1, h2, h3, h4⟩, rfl⟩
    · cases hc
  | skip => intro cc dst cc' K f H v hc hu; simp only [cmp, Option.some.injEq] at hc; subst hc; cases hu
  | cond c x y _ _ =>
    intro cc dst cc' K f H v hc hu
    simp only [cmp] at hc
    split at hc
    · simp only [Option.some.injEq] at hc; subst hc; cases hu
    · cases hc
  | block _ c _ =>
    intro cc dst cc' K f H v hc hu
    simp only [cmp] at hc
    cases hx : cmp n hs c with
    | none => rw [hx] at hc; cases hc
    | some x => rw [hx] at hc; simp only [Option.map_some, Option.some.injEq] at hc; subst hc; cases hu
  | loop c _ =>
    intro cc dst cc' K f H v hc hu
    simp only [cmp] at hc
    cases hx : cmp n hs c with
    | none => rw [hx] at hc; cases hc
    | some x => rw [hx] at hc; simp only [Option.map_some, Option.some.injEq] at hc; subst hc; cases hu
  | exit id => intro cc dst cc' K f H v hc hu; simp only [cmp, Option.some.injEq] at hc; subst hc; cases hu
  | ret => intro cc dst cc' K f H v hc hu; simp only [cmp, Option.some.injEq] at hc; subst hc; cases hu
  | _ => intro cc dst cc' K f H v hc hu; simp only [cmp, Option.some.injEq] at hc; subst hc; cases hu

/-- a deferred function that begins with recover -/
theorem ADefer.enter {m : FuncId} {cc cc' : CC} {nt : Nat} {hs : List Hint} {rs : List ResultVar} {dst : Option Nat} (mu : List Nat) {args : List AV} {pv : Option AV} {H : AH} {R : AH → Prop} (hfn : FnFact P m nt hs rs cc) (hu : unrec cc = some (dst, cc')) (ha : args.length ≤ nt)
    (h : cwp P mu nt cc' (Kont.fin P rs (fun o H' => (match o with | .ret _ => True | .pan _ => False) ∧ R H')) ((enterA args).put dst (pv.getD (.v .nilIface))) H) : ADefer P m args pv H R := by
  obtain ⟨fn, hf, hbc, hname, hn, hr⟩ := hfn.fn
  obtain ⟨c, hb, hc⟩ : ∃ c, fn.body = some c ∧ cmp nt hs c = some cc := by
    cases hb : fn.body with
    | none => rw [hb] at hbc; cases hbc
    | some c => rw [hb] at hbc; exact ⟨c, rfl, hbc⟩
  refine ⟨by simp only [callable, hf, hname, hb]; rfl, fun g xs w u hw hx hm => ?_⟩
  subst hn; subst hr
  refine callsD_of_wpS hf hb fun c₀ cs hc₀ => ?_
  have ht : TR g fn.ntmps (enterA args) { tmps := xs ++ Array.replicate (fn.ntmps - xs.size) undef, defers := [] } := by
    refine ⟨by simp [hx.1]; omega, fun i => ?_, .nil⟩
    simp only [enterA]
    by_cases hi : i < args.length
    · have := hx.2 i hi
      have hi' : i < xs.size := by rw [hx.1]; exact hi
      rw [Array.getD_eq_getD_getElem?, Array.getElem?_append_left hi', ← Array.getD_eq_getD_getElem?]; exact this
    · rw [List.getD_eq_getElem?_getD, List.getElem?_eq_none (by omega)]; exact .any
  have key : ∃ u' y, qmode pv u' ∧ VR g (pv.getD (.v .nilIface)) y ∧ (recoverD (c₀ :: cs) = some (y, { c₀ with mode := u' } :: cs) ∨ (recoverD (c₀ :: cs) = none ∧ y = .nilIface ∧ c₀ :: cs = { c₀ with mode := u' } :: cs)) := by
    cases pv with
    | none =>
      simp only [pmode] at hm
      subst hm
      refine ⟨.returning, .nilIface, rfl, .v, .inr ⟨by simp only [recoverD, hc₀], rfl, by rw [← hc₀]⟩⟩
    | some v =>
      obtain ⟨x, rfl, hv⟩ := hm
      exact ⟨_, x, ⟨x, rfl⟩, hv, .inl (by simp only [recoverD, hc₀])⟩
  obtain ⟨u', y, hq, hy, hrec⟩ := key
  refine wpS_mono (unrec_sound hfn.mixed hs c cc dst cc' _ _ H _ hc hu h g _ (c₀ :: cs) ({ c₀ with mode := u' } :: cs) w y hw ht hy hrec) fun e a' cs' w' hp => ?_
  obtain ⟨⟨x, f', H', g', h1, h2, h3, h4⟩, rfl⟩ := hp
  have hds : f'.ds = [] → a'.defers = [] := fun hd => by
    have := h4.ds; rw [hd] at this; generalize a'.defers = l at this ⊢; cases this; rfl
  cases x with
  | normal =>
    cases e <;> first | exact h2.elim | skip
    obtain ⟨q1, q2⟩ := h1
    split at q2
    · rename_i v hv
      obtain ⟨y, hy, hvv⟩ := results_sound h3.wr h4 hv
      exact ⟨hds q1, u', rfl, y, hy, ⟨y, rfl⟩, hq, H', g', q2.2, h3⟩
    · exact q2.elim
  | ret =>
    cases e <;> first | exact h2.elim | skip
    obtain ⟨q1, q2⟩ := h1
    split at q2
    · rename_i v hv
      obtain ⟨y, hy, hvv⟩ := results_sound h3.wr h4 hv
      exact ⟨hds q1, u', rfl, y, hy, ⟨y, rfl⟩, hq, H', g', q2.2, h3⟩
    · exact q2.elim
  | panic v => exact h1.2.1.elim
  | exit id => exact h1.elim
end
end Go.Proofs.YtchpcjmgifnmdaaDoor.Ab

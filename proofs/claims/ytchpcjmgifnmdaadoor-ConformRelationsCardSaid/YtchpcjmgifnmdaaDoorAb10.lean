/- Regions in the order of the text, calls, the whole of a function's code. -/
import Derived.Test.YtchpcjmgifnmdaaDoorAb9
namespace Go.Proofs.YtchpcjmgifnmdaaDoor.Ab
open Go

/-- an operation without what an evaluation has no need of; its guard by the slot -/
structure COp where
  dst : Option Nat
  op : Op
  guard : Option (Nat × Bool)

def cmpOp (n : Nat) (ops : Array Oper) (o : Oper) : Option COp :=
  if slotOk n o.dst then
    match o.guard with
    | none => some ⟨o.dst, o.op, none⟩
    | some (j, want) => match (ops[j]?).bind (·.dst) with
      | some d => if d < n then some ⟨o.dst, o.op, some (d, want)⟩ else none
      | none => none
  else none

/-- is an operation wanted? -/
def guardC (f : AF) (g : Option (Nat × Bool)) : Option Bool :=
  match g with
  | none => some true
  | some (d, want) => match f.t d with | .v (.bool b) => some (b == want) | .v (.tuple _) => some false | _ => none

def callOf (e : Operand → AV) (op : Op) : Option (FuncId × List AV) :=
  match op with
  | .call c => match c.callee with
    | .value x => match e x with
      | .fn (.func n) fs cs => some (n, fs ++ (c.args.toList.map e ++ cs))
      | _ => none
    | _ => none
  | _ => none

def panicOf (e : Operand → AV) (op : Op) : Option AV :=
  match op with
  | .panic x => match e x with
    | .ifc t v => some (.ifc t v)
    | _ => none
  | _ => none

def deferOf (e : Operand → AV) (op : Op) : Option ADef :=
  match op with
  | .defer c => match c.callee with
    | .value x => match e x with
      | .fn fn fs cs => some ⟨fn, cs, fs ++ c.args.toList.map e⟩
      | _ => none
    | _ => none
  | _ => none

structure Kont where
  run : AX → AF → AH → Prop

/-- one operation, then K; Q behind a panic -/
def astep (P : Program) (mu : List Nat) (Q : Kont) (dst : Option Nat) (op : Op) (f : AF) (H : AH) (K : AF → AH → Prop) : Prop :=
  match aflo P mu (aev f) dst op with
  | some v => K (f.put dst v) H
  | none => match aown P mu (aev f) H dst op with
    | some (v, H') => K (f.put dst v) H'
    | none => match callOf (aev f) op with
      | some (n, args) => ACall P n args H fun out H' => match out with
        | .ret v => K (f.put dst v) H'
        | .pan v => Q.run (.panic v) f H'
      | none => match panicOf (aev f) op with
        | some v => Q.run (.panic v) f H
        | none => match deferOf (aev f) op with
          | some d => K ({ f with ds := d :: f.ds }.put dst .any) H
          | none => False

def cops (P : Program) (mu : List Nat) (Q : Kont) : List COp → AF → AH → Prop
  | [], f, H => Q.run .normal f H
  | o :: os, f, H => match guardC f o.guard with
    | none => False
    | some b => if b = true then astep P mu Q o.dst o.op f H (cops P mu Q os) else cops P mu Q os (f.put o.dst (.v (.tuple #[]))) H

section
variable {P : Program} {mu : List Nat} {Q : Kont} {n : Nat}

theorem guardC_sound {ops : Array Oper} {g : G} {f : AF} {a : Act} {o : Oper} {c : COp} {b : Bool} (ht : TR g n f a) (hc : cmpOp n ops o = some c) (h : guardC f c.guard = some b) :
    Region.wanted o (yielded ops a.tmps) = b := by
  unfold cmpOp at hc
  unfold Region.wanted
  split at hc
  · split at hc
    · rename_i hg
      simp only [Option.some.injEq] at hc; subst hc
      rw [hg]; simpa [guardC] using h
    · rename_i j want hg
      rw [hg]
      split at hc
      · rename_i d hd
        split at hc
        · rename_i hn
          simp only [Option.some.injEq] at hc; subst hc
          simp only [guardC] at h
          split at h
          · rename_i b' hb'
            have h1 := ht.t d
            rw [hb'] at h1
            have h2 := h1.of_v
            have hs : d < a.tmps.size := by rw [ht.size]; exact hn
            have h3 : a.tmps[d]? = some (.bool b') := by
              rw [Array.getElem?_eq_getElem hs]
              rw [Array.getD_eq_getD_getElem?, Array.getElem?_eq_getElem hs] at h2
              simpa using h2
            have h4 : yielded ops a.tmps j = some b' := by
              unfold yielded
              rw [hd]; simp only [Option.bind_some, h3]
            simp only [h4]
            simp only [Option.some.injEq] at h
            rw [← h]
            cases b' <;> cases want <;> rfl
          · rename_i vs hvs
            simp only [Option.some.injEq] at h; subst h
            have h1 := ht.t d
            rw [hvs] at h1
            have h2 := h1.of_v
            have hs : d < a.tmps.size := by rw [ht.size]; exact hn
            have h3 : a.tmps[d]? = some (.tuple vs) := by
              rw [Array.getElem?_eq_getElem hs]
              rw [Array.getD_eq_getD_getElem?, Array.getElem?_eq_getElem hs] at h2
              simpa using h2
            have h4 : yielded ops a.tmps j = none := by
              unfold yielded
              rw [hd]; simp only [Option.bind_some, h3]
            simp only [h4]
            rfl
          · cases h
        · cases hc
      · cases hc
  · cases hc

theorem cmpOp_slot {ops : Array Oper} {o : Oper} {c : COp} (hc : cmpOp n ops o = some c) : slotOk n o.dst = true ∧ c.dst = o.dst ∧ c.op = o.op := by
  unfold cmpOp at hc
  split at hc
  · rename_i hs
    split at hc
    · simp only [Option.some.injEq] at hc; subst hc; exact ⟨hs, rfl, rfl⟩
    · split at hc
      · split at hc
        · simp only [Option.some.injEq] at hc; subst hc; exact ⟨hs, rfl, rfl⟩
        · cases hc
      · cases hc
  · cases hc

theorem callFunc_run {w : World} {n : FuncId} {args : Array Value} (h : callable P n = true) : (callFunc n args).run P w = .ok (.enter n args) w := by
  unfold callable at h
  cases hf : P.funcs[n]? with
  | none => rw [hf] at h; cases h
  | some fn =>
    rw [hf] at h
    simp only [Bool.and_eq_true, bne_iff_ne, ne_eq] at h
    obtain ⟨h1, h2⟩ := h
    cases hb : fn.body with
    | none => rw [hb] at h2; cases h2
    | some c => simp [callFunc, hf, h1, hb]

theorem astep_sound {g : G} {f : AF} {a : Act} {H : AH} {w : World} {o : Oper} {K : AF → AH → Prop} (hw : WR g H w) (ht : TR g n f a) (hd : slotOk n o.dst = true) (h : astep P mu Q o.dst o.op f H K)
    {next : Act → World → Prop} {R : Exit → Act → World → Prop}
    (hn : ∀ f' H' g' a' w', K f' H' → ST g H w g' H' w' → TR g' n f' a' → next a' w')
    (hp : ∀ v H' g' w' ch, Q.run (.panic v) f H' → (∃ x, ch = [{ v := x, recovered := false }] ∧ VR g' v x) → ST g H w g' H' w' → R (.panic ch) a w')
    : o.wp P a w next R := by
  unfold astep at h
  unfold Oper.wp
  split at h
  · rename_i v hv
    obtain ⟨x, w', g', h1, h2, h3⟩ := aflo_sound (P := P) (ρ := a.eval) ht.ev hw hv
    rw [h1, Oper.upon_value]
    exact hn _ _ g' _ w' h h3 ((ht.mono h3.le).put hd h2)
  · split at h
    · rename_i v H' hv
      obtain ⟨nx, x, w', g', h1, h2, h3, h4⟩ := aown_sound (P := P) (ρ := a.eval) ht.ev hw hv
      rw [h1]
      rcases h2 with rfl | ⟨rfl, rfl⟩
      · rw [Oper.upon_value]; exact hn _ _ g' _ w' h h4 ((ht.mono h4.le).put hd h3)
      · rw [Oper.upon_skip]; exact hn _ _ g' _ w' h h4 ((ht.mono h4.le).put hd h3)
    · split at h
      · rename_i m0 args hc
        unfold callOf at hc
        split at hc
        · rename_i c hop
          split at hc
          · rename_i x hcal
            split at hc
            · rename_i m fs cs hx
              simp only [Option.some.injEq, Prod.mk.injEq] at hc
              obtain ⟨rfl, rfl⟩ := hc
              have hxv := ht.ev x
              rw [hx] at hxv
              generalize hev : a.eval x = y at hxv
              cases hxv with
              | @fn _ _ _ xs ys q1 q2 q3 q4 =>
              have hargs := VRs.of_map (g := g) (ρ := a.eval) ht.ev c.args
              have hall : VRs g (fs ++ (c.args.toList.map (aev f) ++ cs)) (xs ++ (c.args.map a.eval ++ ys)) := VRs.append ⟨q1, q3⟩ (hargs.append ⟨q2, q4⟩)
              have hrun : (execOp a.eval o).run P w = .ok (.enter m (xs ++ (c.args.map a.eval ++ ys))) w := by
                simp only [execOp, hop, resolve, hcal, hev, Deferred.ofValue, Sem.run_bind, Sem.run_pure, Result.andThen_ok, invoke]
                rw [callFunc_run h.1, Array.append_assoc]
              rw [hrun, Oper.upon_enter]
              refine (h.2 g _ w hw hall).mono fun e w' hq => ?_
              obtain ⟨out, H', g', h1, h2, h3⟩ := hq
              · cases e with
                | returned v =>
                  cases out with
                  | ret v' => exact hn _ _ g' _ w' h1 h3 ((ht.mono h3.le).put hd h2)
                  | pan _ => exact h2.elim
                | panicked ch =>
                  cases out with
                  | ret _ => exact h2.elim
                  | pan v' => exact hp v' H' g' w' ch h1 h2 h3
                | outgrown => exact (by cases out <;> exact h2.elim)
            · cases hc
          · cases hc
        · cases hc
      · split at h
        · rename_i v hv
          unfold panicOf at hv
          split at hv
          · rename_i x hop
            split at hv
            · rename_i t u hx
              simp only [Option.some.injEq] at hv; subst hv
              have hxv := ht.ev x
              rw [hx] at hxv
              generalize hev : a.eval x = y at hxv
              cases hxv with
              | @ifc _ _ z hz =>
              have hrun : (execOp a.eval o).run P w = .halt (.panic (.iface t z)) w := by
                simp only [execOp, hop, hev, Instr.panic, Sem.run_bind, run_goPanic, Result.andThen_halt]
              rw [hrun, Oper.upon_panic]
              exact hp _ H g w _ h ⟨_, rfl, .ifc hz⟩ (ST.refl hw)
            · cases hv
          · cases hv
        · split at h
          · rename_i d hdd
            unfold deferOf at hdd
            split at hdd
            · rename_i c hop
              split at hdd
              · rename_i x hcal
                split at hdd
                · rename_i fn fs cs hx
                  simp only [Option.some.injEq] at hdd; subst hdd
                  have hxv := ht.ev x
                  rw [hx] at hxv
                  generalize hev : a.eval x = y at hxv
                  cases hxv with
                  | @fn _ _ _ xs ys q1 q2 q3 q4 =>
                  have hargs := VRs.of_map (g := g) (ρ := a.eval) ht.ev c.args
                  have hrun : (execOp a.eval o).run P w = .ok (.defer { target := .fn fn ys, args := xs ++ c.args.map a.eval }) w := by
                    simp only [execOp, hop, resolve, hcal, hev, Deferred.ofValue, Sem.run_bind, Sem.run_pure, Result.andThen_ok]
                  rw [hrun, Oper.upon_defer]
                  have ht2 : TR g n { f with ds := ⟨fn, cs, fs ++ c.args.toList.map (aev f)⟩ :: f.ds } { a with defers := { target := .fn fn ys, args := xs ++ c.args.map a.eval } :: a.defers } :=
                    ⟨ht.size, ht.t, .cons ⟨ys, rfl, ⟨q2, q4⟩, VRs.append ⟨q1, q3⟩ hargs⟩ ht.ds⟩
                  exact hn _ _ g _ w h (ST.refl hw) (ht2.put hd .any)
                · cases hdd
              · cases hdd
            · cases hdd
          · exact h.elim

theorem cops_sound {ops : Array Oper} {l0 : List Oper} (hl0 : l0 = ops.toList) : ∀ (os : List Oper) (cs : List COp) (i : Nat) (f : AF) (H : AH), os = l0.drop i →
    allSome (os.map (cmpOp n ops)) = some cs → cops P mu Q cs f H →
    ∀ g0 H0 w0 g a w, ST g0 H0 w0 g H w → TR g n f a → wpOps P ops (Post n Q.run g0 H0 w0) (List.range' i os.length) a w
  | [], cs, i, f, H, _, hc, h, g0, H0, w0, g, a, w, hst, ht => by
    simp only [List.map_nil, allSome, Option.some.injEq] at hc; subst hc
    exact ⟨.normal, f, H, g, h, trivial, hst, ht⟩
  | o :: os, cs, i, f, H, hos, hc, h, g0, H0, w0, g, a, w, hst, ht => by
    have hget : ops[i]? = some o := by
      have : l0[i]? = some o := by
        have h1 : (l0.drop i)[0]? = some o := by rw [← hos]; rfl
        rw [List.getElem?_drop] at h1; simpa using h1
      rw [hl0, Array.getElem?_toList] at this; exact this
    have hos' : os = l0.drop (i + 1) := by
      have : (l0.drop i).drop 1 = os := by rw [← hos]; rfl
      rw [List.drop_drop] at this; exact this.symm
    simp only [List.map_cons] at hc
    cases hco : cmpOp n ops o with
    | none => rw [hco] at hc; cases hc
    | some c =>
      rw [hco] at hc
      simp only [allSome] at hc
      cases hcs : allSome (os.map (cmpOp n ops)) with
      | none => rw [hcs] at hc; cases hc
      | some cs' =>
        rw [hcs] at hc
        simp only [Option.map_some, Option.some.injEq] at hc
        subst hc
        obtain ⟨s1, s2, s3⟩ := cmpOp_slot hco
        simp only [List.length_cons, List.range'_succ, wpOps, hget]
        simp only [cops] at h
        split at h
        · exact h.elim
        · rename_i b hb
          rw [guardC_sound ht hco hb]
          cases b with
          | true =>
            simp only [if_true] at h ⊢
            rw [s2, s3] at h
            refine .inl (astep_sound hst.wr ht s1 h (fun f' H' g' a' w' hK h1 h2 => ?_) (fun v H' g' w' ch hq hx h1 => ?_))
            · exact cops_sound hl0 os cs' (i + 1) f' H' hos' hcs hK g0 H0 w0 g' a' w' (hst.trans h1) h2
            · exact ⟨.panic v, f, H', g', hq, hx, hst.trans h1, ht.mono h1.le⟩
          | false =>
            simp only [Bool.false_eq_true, if_false] at h ⊢
            rw [s2] at h
            exact cops_sound hl0 os cs' (i + 1) _ H hos' hcs h g0 H0 w0 g _ w hst (ht.put s1 (x := undef) .v)

theorem AWP.region {id : Nat} {ops : Array Oper} {cs : List COp} {f : AF} {H : AH} (hc : allSome (ops.toList.map (cmpOp n ops)) = some cs) (h : cops P mu Q cs f H) :
    AWP P n (.region id ops false) Q.run f H := by
  intro g a w hw ht
  refine wp_region ?_
  have := cops_sound (l0 := ops.toList) rfl ops.toList cs 0 f H rfl hc h g H w g a w (ST.refl hw) ht
  rw [List.range_eq_range']
  simpa using this

end

end Go.Proofs.YtchpcjmgifnmdaaDoor.Ab

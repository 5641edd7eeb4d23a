/- Compact code: the whole of a function's code, evaluated. -/
import Derived.Test.YtchpcjmgifnmdaaDoorAb15
namespace Go.Proofs.YtchpcjmgifnmdaaDoor.Ab
open Go

/-! compact code -/
inductive CC where
  | skip
  | reg (os : List COp)
  | dr (os : List DOp)
  | seq (a b : CC)
  | cond (c : Operand) (a b : CC)
  | block (id : Nat) (a : CC)
  | loop (a : CC)
  | exit (id : Nat)
  | ret
  | other (c : Code)

/-- a drawn region's canonical order: indexes with their kinds (0: floats, 1: a new block, 2: ordered), and what surely lies before each operation -/
abbrev Hint := Nat × List (Nat × Nat) × List (List Nat)

def kindOf : Nat → K3
  | 0 => .F
  | 1 => .A
  | 3 => .R
  | _ => .E

def nodupB : List Nat → Bool
  | [] => true
  | x :: l => !l.contains x && nodupB l
def linB (B : Nat → List Nat) : List Nat → List DOp → Bool
  | _, [] => true
  | seen, d :: R => (B d.i).all seen.contains && linB B (d.i :: seen) R
def chainB (B : Nat → List Nat) : List DOp → Bool
  | [] => true
  | d :: R => (match d.kd with | .E => R.all (fun q => (B q.i).contains d.i) | _ => true) && chainB B R

def chainRB (B : Nat → List Nat) : List DOp → List DOp → Bool
  | _, [] => true
  | C, d :: R => (match d.kd with | .E => d.qt || C.all (fun q => (match q.kd with | .R => (B d.i).contains q.i | _ => true)) | _ => true) && chainRB B (C ++ [d]) R
def dchk (ops : Array Oper) (B : Nat → List Nat) (ord : List DOp) : Bool :=
  (List.range ops.size).all (fun i => ord.any fun d => d.i == i) &&
  (nodupB (ord.map (·.i)) &&
  ((List.range ops.size).all (fun i => match ops[i]? with
    | some o => (B i).all fun j => o.after.toList.any fun e => Region.binds .any e && (e.on == j || (B e.on).contains j)
    | none => true) &&
  ((List.range ops.size).all (fun i => match ops[i]? with
    | some o => o.after.toList.all fun e => !Region.binds .any e || decide (e.on < i)
    | none => true) &&
  (ord.all (fun d => ord.all fun d' => d.i == d'.i || (match d.op.dst, d'.op.dst with | some x, some y => x != y | _, _ => true)) &&
  (linB B [] ord && (chainRB B [] ord && (chainB B ord &&
  (ord.all (fun d => (slotsOf d.op).all fun s => ord.all fun q => (match q.op.dst with | some x => x != s | none => true) || (q.i == d.i || ((B d.i).contains q.i || (B q.i).contains d.i))) &&
  ord.all (fun d => d.bef.all (B d.i).contains)))))))))

def cmpD (n : Nat) (ops : Array Oper) (hint : List (Nat × Nat)) (Bt : List (List Nat)) : Option (List DOp) :=
  match allSome (hint.map fun p => (ops[p.1]?).bind fun o => (cmpOp n ops o).map fun c =>
      DOp.mk p.1 (kindOf p.2) c (if p.2 = 2 ∨ p.2 = 4 then (hint.filter fun q => q.2 == 1 && (Bt.getD p.1 []).contains q.1).map (·.1) else []) (p.2 == 4)) with
  | some ord => if dchk ops (fun i => Bt.getD i []) ord then some ord else none
  | none => none

def cmp (n : Nat) (hs : List Hint) : Code → Option CC
  | .skip => some .skip
  | .region _ ops false => (allSome (ops.toList.map (cmpOp n ops))).map .reg
  | .region id ops true => match hs.find? (fun h => h.1 == id) with
    | some h => (cmpD n ops h.2.1 h.2.2).map .dr
    | none => some (.other (.region id ops true))
  | .seq a b => match cmp n hs a, cmp n hs b with
    | some x, some y => some (.seq x y)
    | _, _ => none
  | .cond c a b => match cmp n hs a, cmp n hs b with
    | some x, some y => some (.cond c x y)
    | _, _ => none
  | .block id a => (cmp n hs a).map (.block id)
  | .loop a => (cmp n hs a).map .loop
  | .exit id => some (.exit id)
  | .ret => some .ret
  | c => some (.other c)

/-! the check of a canonical order -/
theorem nodupB_sound : ∀ (l : List Nat), nodupB l = true → l.Nodup
  | [], _ => by simp
  | x :: l, h => by
    simp only [nodupB, Bool.and_eq_true, Bool.not_eq_true'] at h
    rw [List.nodup_cons]
    exact ⟨by simpa using h.1, nodupB_sound l h.2⟩

theorem linB_sound (B : Nat → List Nat) : ∀ (ord : List DOp) (seen : List Nat), linB B seen ord = true → ∀ C d R, ord = C ++ d :: R → ∀ j ∈ B d.i, j ∈ seen ∨ ∃ c ∈ C, c.i = j
  | [], _, _, C, d, R, e, _, _ => by simp at e
  | q :: ord, seen, h, C, d, R, e, j, hj => by
    simp only [linB, Bool.and_eq_true, List.all_eq_true] at h
    cases C with
    | nil =>
      simp only [List.nil_append, List.cons.injEq] at e
      obtain ⟨rfl, rfl⟩ := e
      have := h.1 j hj
      exact .inl (by simpa using this)
    | cons c C =>
      simp only [List.cons_append, List.cons.injEq] at e
      obtain ⟨rfl, rfl⟩ := e
      rcases linB_sound B _ _ h.2 C d R rfl j hj with h1 | ⟨c', hc', hci⟩
      · rcases List.mem_cons.mp h1 with rfl | h1
        · exact .inr ⟨q, by simp, rfl⟩
        · exact .inl h1
      · exact .inr ⟨c', by simp [hc'], hci⟩

theorem chainB_sound (B : Nat → List Nat) : ∀ (ord : List DOp), chainB B ord = true → ∀ C d R, ord = C ++ d :: R → (match d.kd with | .E => True | _ => False) → ∀ q ∈ R, d.i ∈ B q.i
  | [], _, C, d, R, e, _, _, _ => by simp at e
  | x :: ord, h, C, d, R, e, hk, q, hq => by
    simp only [chainB, Bool.and_eq_true] at h
    cases C with
    | nil =>
      simp only [List.nil_append, List.cons.injEq] at e
      obtain ⟨rfl, rfl⟩ := e
      have h1 := h.1
      cases hkd : x.kd with
      | E =>
        rw [hkd] at h1
        simp only [List.all_eq_true] at h1
        simpa using h1 q hq
      | F => rw [hkd] at hk; exact hk.elim
      | A => rw [hkd] at hk; exact hk.elim
      | R => rw [hkd] at hk; exact hk.elim
    | cons c C =>
      simp only [List.cons_append, List.cons.injEq] at e
      obtain ⟨rfl, rfl⟩ := e
      exact chainB_sound B _ h.2 C d R rfl hk q hq

theorem chainRB_sound (B : Nat → List Nat) : ∀ (ord C0 : List DOp), chainRB B C0 ord = true → ∀ C d R, ord = C ++ d :: R → (match d.kd with | .E => True | _ => False) → d.qt = false → ∀ q ∈ C0 ++ C, (match q.kd with | .R => True | _ => False) → q.i ∈ B d.i
  | [], _, _, C, d, R, e, _, _, _, _, _ => by simp at e
  | x :: ord, C0, h, C, d, R, e, hk, hqt, q, hq, hqr => by
    simp only [chainRB, Bool.and_eq_true] at h
    cases C with
    | nil =>
      simp only [List.nil_append, List.cons.injEq] at e
      obtain ⟨rfl, rfl⟩ := e
      have h1 := h.1
      cases hkd : x.kd with
      | E =>
        rw [hkd] at h1
        simp only [hqt, Bool.false_or, List.all_eq_true] at h1
        have h2 := h1 q (by simpa using hq)
        cases hqd : q.kd with
        | R => rw [hqd] at h2; simpa using h2
        | F => rw [hqd] at hqr; exact hqr.elim
        | A => rw [hqd] at hqr; exact hqr.elim
        | E => rw [hqd] at hqr; exact hqr.elim
      | F => rw [hkd] at hk; exact hk.elim
      | A => rw [hkd] at hk; exact hk.elim
      | R => rw [hkd] at hk; exact hk.elim
    | cons c C =>
      simp only [List.cons_append, List.cons.injEq] at e
      obtain ⟨rfl, rfl⟩ := e
      exact chainRB_sound B _ (C0 ++ [x]) h.2 C d R rfl hk hqt q (by simpa using hq) hqr

theorem cmpD_sound {n : Nat} {ops : Array Oper} {hint : List (Nat × Nat)} {Bt : List (List Nat)} {ord : List DOp} (h : cmpD n ops hint Bt = some ord) :
    DOk n ops (fun i => Bt.getD i []) ord := by
  unfold cmpD at h
  split at h
  · rename_i ord' ha
    split at h
    · rename_i hc
      simp only [Option.some.injEq] at h; subst h
      simp only [dchk, Bool.and_eq_true] at hc
      obtain ⟨h1, h2, h3, h4, h5, h6, h6r, h7, h8, h9⟩ := hc
      simp only [List.all_eq_true, List.mem_range] at h1 h3 h4 h5 h8 h9
      refine ⟨fun d hd => ?_, fun i hi => ?_, nodupB_sound _ h2, fun i o ho j hj => ?_, fun i o ho e he hb => ?_, fun d hd d' hd' x hx hx' => ?_, fun C d R e j hj => ?_, chainB_sound _ _ h7, fun C d R e hk hqt q hq hr => chainRB_sound _ _ [] h6r C d R e hk hqt q (by simpa using hq) hr, fun d hd s hs q hq hqs => ?_, fun d hd j hj => ?_⟩
      · obtain ⟨k, hk⟩ := List.mem_iff_getElem?.mp hd
        have hg := allSome_get _ _ ha k
        rw [hk, List.getElem?_map] at hg
        cases hh : hint[k]? with
        | none => rw [hh] at hg; cases hg
        | some p =>
          rw [hh] at hg
          simp only [Option.map_some, Option.some.injEq] at hg
          cases ho : ops[p.1]? with
          | none => rw [ho] at hg; cases hg
          | some o =>
            rw [ho] at hg
            simp only [Option.bind_some] at hg
            cases hco : cmpOp n ops o with
            | none => rw [hco] at hg; cases hg
            | some c =>
              rw [hco] at hg
              simp only [Option.map_some, Option.some.injEq] at hg
              subst hg
              exact ⟨o, ho, hco⟩
      · have := h1 i hi
        simp only [List.any_eq_true, beq_iff_eq] at this
        exact this
      · have := h3 i (Array.getElem?_eq_some_iff.mp ho).1
        rw [ho] at this
        simp only [List.all_eq_true, List.any_eq_true, Bool.and_eq_true, Bool.or_eq_true, beq_iff_eq] at this
        obtain ⟨e, he, hb, hor⟩ := this j hj
        refine ⟨e, by simpa using he, hb, ?_⟩
        rcases hor with h | h
        · exact .inl h
        · exact .inr (by simpa using h)
      · have := h4 i (Array.getElem?_eq_some_iff.mp ho).1
        rw [ho] at this
        simp only [List.all_eq_true, Bool.or_eq_true, Bool.not_eq_true', decide_eq_true_eq] at this
        rcases this e (by simpa using he) with h | h
        · rw [hb] at h; cases h
        · exact h
      · have := h5 d hd d' hd'
        rw [hx, hx'] at this
        simpa using this
      · rcases linB_sound _ _ _ h6 C d R e j hj with h | h
        · cases h
        · exact h
      · have := h8 d hd s hs q hq
        rw [hqs] at this
        simp only [bne_self_eq_false, Bool.false_or, Bool.or_eq_true, beq_iff_eq] at this
        rcases this with h | h | h
        · exact .inl h
        · exact .inr (.inl (by simpa using h))
        · exact .inr (.inr (by simpa using h))
      · simpa using h9 d hd j hj
    · cases h
  · cases h

def LWP (P : Program) (n : Nat) (cc : CC) (K : Kont) (f : AF) (H : AH) : Prop := ∀ hs c, P.follows .mixedOrders = true → cmp n hs c = some cc → AWP P n (.loop c) K.run f H

def cwp (P : Program) (mu : List Nat) (n : Nat) : CC → Kont → AF → AH → Prop
  | .skip, K, f, H => K.run .normal f H
  | .reg os, K, f, H => cops P mu K os f H
  | .dr os, K, f, H => dops P mu K (maskA os f) os f H [] []
  | .seq a b, K, f, H => cwp P mu n a ⟨AX.seq (cwp P mu n b K) K.run⟩ f H
  | .cond c a b, K, f, H => match aev f c with
    | .v (.bool t) => if t = true then cwp P mu n a K f H else cwp P mu n b K f H
    | _ => False
  | .block id a, K, f, H => cwp P mu n a ⟨AX.blk id K.run⟩ f H
  | .loop a, K, f, H => LWP P n a K f H
  | .exit id, K, f, H => K.run (.exit id) f H
  | .ret, K, f, H => K.run .ret f H
  | .other c, K, f, H => AWP P n c K.run f H

def Kont.seq (P : Program) (mu : List Nat) (n : Nat) (b : CC) (K : Kont) : Kont := ⟨AX.seq (cwp P mu n b K) K.run⟩
def Kont.blk (id : Nat) (K : Kont) : Kont := ⟨AX.blk id K.run⟩
def Kont.rnd (I : Nat → AF → AH → Prop) (m : Nat) (K : Kont) : Kont := ⟨AX.seq (fun f H => ∃ m', m' < m ∧ I m' f H) K.run⟩

theorem AX.seq_mono {k k' : AF → AH → Prop} {Q : AX → AF → AH → Prop} (h : ∀ f H, k f H → k' f H) : ∀ x f H, AX.seq k Q x f H → AX.seq k' Q x f H := by
  intro x f H hx
  cases x with
  | normal => exact h _ _ hx
  | _ => exact hx

theorem cwp_sound {P : Program} {mu : List Nat} {n : Nat} (hm : P.follows .mixedOrders = true) (hs : List Hint) (c : Code) : ∀ (cc : CC) (K : Kont) (f : AF) (H : AH), cmp n hs c = some cc → cwp P mu n cc K f H → AWP P n c K.run f H := by
  induction c with
  | skip => intro cc K f H hc h; simp only [cmp, Option.some.injEq] at hc; subst hc; exact .skip h
  | region id ops d =>
    intro cc K f H hc h
    cases d with
    | false =>
      simp only [cmp] at hc
      cases ha : allSome (ops.toList.map (cmpOp n ops)) with
      | none => rw [ha] at hc; cases hc
      | some cs => rw [ha] at hc; simp only [Option.map_some, Option.some.injEq] at hc; subst hc; exact .region (mu := mu) ha h
    | true =>
      simp only [cmp] at hc
      split at hc
      · rename_i hh hf
        cases hd : cmpD n ops hh.2.1 hh.2.2 with
        | none => rw [hd] at hc; cases hc
        | some ord => rw [hd] at hc; simp only [Option.map_some, Option.some.injEq] at hc; subst hc; exact .draw hm (cmpD_sound hd) h
      · simp only [Option.some.injEq] at hc; subst hc; exact h
  | seq a b iha ihb =>
    intro cc K f H hc h
    simp only [cmp] at hc
    split at hc
    · rename_i x y hx hy
      simp only [Option.some.injEq] at hc; subst hc
      exact .seq ((iha _ _ _ _ hx h).mono (AX.seq_mono fun f H => ihb _ _ _ _ hy))
    · cases hc
  | cond c x y ihx ihy =>
    intro cc K f H hc h
    simp only [cmp] at hc
    split at hc
    · rename_i x' y' hx hy
      simp only [Option.some.injEq] at hc; subst hc
      simp only [cwp] at h
      split at h
      · rename_i b hb
        refine .cond hb ?_
        cases b
        · simp only [Bool.false_eq_true, if_false] at h ⊢; exact ihy _ _ _ _ hy h
        · simp only [if_true] at h ⊢; exact ihx _ _ _ _ hx h
      · exact h.elim
    · cases hc
  | block _ c ih =>
    intro cc K f H hc h
    simp only [cmp] at hc
    cases hx : cmp n hs c with
    | none => rw [hx] at hc; cases hc
    | some x => rw [hx] at hc; simp only [Option.map_some, Option.some.injEq] at hc; subst hc; exact .block (ih _ _ _ _ hx h)
  | loop c ih =>
    intro cc K f H hc h
    simp only [cmp] at hc
    cases hx : cmp n hs c with
    | none => rw [hx] at hc; cases hc
    | some x => rw [hx] at hc; simp only [Option.map_some, Option.some.injEq] at hc; subst hc; exact h hs c hm hx
  | exit id => intro cc K f H hc h; simp only [cmp, Option.some.injEq] at hc; subst hc; exact .exit h
  | ret => intro cc K f H hc h; simp only [cmp, Option.some.injEq] at hc; subst hc; exact .ret h
  | _ => intro cc K f H hc h; simp only [cmp, Option.some.injEq] at hc; subst hc; exact h

/-- a loop -/
theorem LWP.loop {P : Program} (mu : List Nat) {n : Nat} {cc : CC} {K : Kont} {f : AF} {H : AH} (I : Nat → AF → AH → Prop) {m : Nat} (h0 : I m f H)
    (round : ∀ m f H, I m f H → cwp P mu n cc (Kont.rnd I m K) f H) : LWP P n cc K f H :=
  fun hs c hm hc => AWP.loop I h0 fun m f H hI => cwp_sound hm hs c cc (Kont.rnd I m K) f H hc (round m f H hI)

/-! the rules as equations -/
section
variable {P : Program} {mu : List Nat} {n : Nat} {K : Kont} {f : AF} {H : AH}
theorem cwp_skip : cwp P mu n .skip K f H = K.run .normal f H := rfl
theorem cwp_dr {os : List DOp} : cwp P mu n (.dr os) K f H = dops P mu K (maskA os f) os f H [] [] := rfl
theorem cwp_reg {os : List COp} : cwp P mu n (.reg os) K f H = cops P mu K os f H := rfl
theorem cwp_seq {a b : CC} : cwp P mu n (.seq a b) K f H = cwp P mu n a (Kont.seq P mu n b K) f H := rfl
theorem cwp_cond {c : Operand} {a b : CC} : cwp P mu n (.cond c a b) K f H = match aev f c with
    | .v (.bool t) => if t = true then cwp P mu n a K f H else cwp P mu n b K f H
    | _ => False := rfl
theorem cwp_block {id : Nat} {a : CC} : cwp P mu n (.block id a) K f H = cwp P mu n a (Kont.blk id K) f H := rfl
theorem cwp_loop {a : CC} : cwp P mu n (.loop a) K f H = LWP P n a K f H := rfl
theorem cwp_exit {id : Nat} : cwp P mu n (.exit id) K f H = K.run (.exit id) f H := rfl
theorem cwp_ret : cwp P mu n .ret K f H = K.run .ret f H := rfl
theorem seq_normal {b : CC} : (Kont.seq P mu n b K).run .normal f H = cwp P mu n b K f H := rfl
theorem seq_exit {b : CC} {id : Nat} : (Kont.seq P mu n b K).run (.exit id) f H = K.run (.exit id) f H := rfl
theorem seq_ret {b : CC} : (Kont.seq P mu n b K).run .ret f H = K.run .ret f H := rfl
theorem seq_panic {b : CC} {v : AV} : (Kont.seq P mu n b K).run (.panic v) f H = K.run (.panic v) f H := rfl
theorem blk_normal {id : Nat} : (Kont.blk id K).run .normal f H = K.run .normal f H := rfl
theorem blk_exit {id i : Nat} : (Kont.blk id K).run (.exit i) f H = if i = id then K.run .normal f H else K.run (.exit i) f H := rfl
theorem blk_ret {id : Nat} : (Kont.blk id K).run .ret f H = K.run .ret f H := rfl
theorem blk_panic {id : Nat} {v : AV} : (Kont.blk id K).run (.panic v) f H = K.run (.panic v) f H := rfl
theorem rnd_normal {I : Nat → AF → AH → Prop} {m : Nat} : (Kont.rnd I m K).run .normal f H = ∃ m', m' < m ∧ I m' f H := rfl
theorem rnd_exit {I : Nat → AF → AH → Prop} {m i : Nat} : (Kont.rnd I m K).run (.exit i) f H = K.run (.exit i) f H := rfl
theorem rnd_ret {I : Nat → AF → AH → Prop} {m : Nat} : (Kont.rnd I m K).run .ret f H = K.run .ret f H := rfl
theorem rnd_panic {I : Nat → AF → AH → Prop} {m : Nat} {v : AV} : (Kont.rnd I m K).run (.panic v) f H = K.run (.panic v) f H := rfl

/-- behind a call -/
def callK (P : Program) (mu : List Nat) (Q : Kont) (dst : Option Nat) (os : List COp) (f : AF) : AOut → AH → Prop := fun out H' => match out with
  | .ret v => cops P mu Q os (f.put dst v) H'
  | .pan v => Q.run (.panic v) f H'

theorem cops_nil : cops P mu K [] f H = K.run .normal f H := rfl
theorem cops_cons {o : COp} {os : List COp} : cops P mu K (o :: os) f H = match guardC f o.guard with
    | none => False
    | some b => if b = true then (match aflo P mu (aev f) o.dst o.op with
      | some v => cops P mu K os (f.put o.dst v) H
      | none => match aown P mu (aev f) H o.dst o.op with
        | some (v, H') => cops P mu K os (f.put o.dst v) H'
        | none => match callOf (aev f) o.op with
          | some (m, args) => ACall P m args H (callK P mu K o.dst os f)
          | none => match panicOf (aev f) o.op with
            | some v => K.run (.panic v) f H
            | none => match deferOf (aev f) o.op with
              | some d => cops P mu K os ({ f with ds := d :: f.ds }.put o.dst .any) H
              | none => False) else cops P mu K os (f.put o.dst (.v (.tuple #[]))) H := rfl

/-- behind a call in a region whose order is open -/
def dcallK (P : Program) (mu : List Nat) (Q : Kont) (fm : AF) (dst : Option Nat) (ds : List DOp) (f : AF) (pd : List (Nat × Nat × ABlk)) (rd : List Nat) : AOut → AH → Prop := fun out H' => match out with
  | .ret v => dops P mu Q fm ds (f.put dst v) H' pd rd
  | .pan v => Q.run (.panic v) fm H'

theorem dops_nil {fm : AF} {pd : List (Nat × Nat × ABlk)} {rd : List Nat} : dops P mu K fm [] f H pd rd = K.run .normal f (H.bindAll (pd.map (·.2))) := rfl
theorem dops_F {q : Bool} {fm : AF} {pd : List (Nat × Nat × ABlk)} {rd : List Nat} {i : Nat} {o : COp} {b : List Nat} {ds : List DOp} : dops P mu K fm (⟨i, .F, o, b, q⟩ :: ds) f H pd rd = match fstep P mu f o with
      | some v => dops P mu K fm ds (f.put o.dst v) H pd rd
      | none => False := rfl
theorem dops_R {q : Bool} {fm : AF} {pd : List (Nat × Nat × ABlk)} {rd : List Nat} {i : Nat} {o : COp} {b : List Nat} {ds : List DOp} : dops P mu K fm (⟨i, .R, o, b, q⟩ :: ds) f H pd rd = match rstep P mu f H o with
      | some v => dops P mu K fm ds (f.put o.dst v) H pd (areadN (aev f) o.op ++ rd)
      | none => False := rfl
theorem dops_A {q : Bool} {fm : AF} {pd : List (Nat × Nat × ABlk)} {rd : List Nat} {i : Nat} {o : COp} {b : List Nat} {ds : List DOp} : dops P mu K fm (⟨i, .A, o, b, q⟩ :: ds) f H pd rd = match o.guard, aall P mu (aev f) H.next o.dst o.op with
      | none, some (v, B) => dops P mu K fm ds (f.put o.dst v) { H with next := H.next + 1 } ((i, H.next, B) :: pd) rd
      | _, _ => False := rfl
def dstepE (P : Program) (mu : List Nat) (K : Kont) (fm : AF) (o : COp) (ds : List DOp) (f : AF) (H : AH) (pd : List (Nat × Nat × ABlk)) (rd : List Nat) : Prop :=
  match guardC f o.guard with
    | none => False
    | some b => if b = true then (match aflo P mu (aev f) o.dst o.op with
      | some v => dops P mu K fm ds (f.put o.dst v) H pd rd
      | none => match aown P mu (aev f) H o.dst o.op with
        | some (v, H') => dops P mu K fm ds (f.put o.dst v) H' pd rd
        | none => match callOf (aev f) o.op with
          | some (m, args) => ACall P m args H (dcallK P mu K fm o.dst ds f pd rd)
          | none => match panicOf (aev f) o.op with
            | some v => K.run (.panic v) fm H
            | none => False) else dops P mu K fm ds (f.put o.dst (.v (.tuple #[]))) H pd rd
theorem dops_E {fm : AF} {pd : List (Nat × Nat × ABlk)} {rd : List Nat} {i : Nat} {o : COp} {b : List Nat} {ds : List DOp} : dops P mu K fm (⟨i, .E, o, b, false⟩ :: ds) f H pd rd =
    dstepE P mu K fm o ds f (H.bindAll ((pd.filter fun p => b.contains p.1).map (·.2))) (pd.filter fun p => !b.contains p.1) [] := rfl
/-- behind a quiet call -/
def dcallQ (P : Program) (mu : List Nat) (Q : Kont) (fm : AF) (dst : Option Nat) (ds : List DOp) (f : AF) (H0 : AH) (pd : List (Nat × Nat × ABlk)) (rd : List Nat) : AOut → AH → Prop := fun out H' => match out with
  | .ret v => (∀ n ∈ rd, H'.own n = H0.own n) ∧ dops P mu Q fm ds (f.put dst v) H' pd rd
  | .pan v => Q.run (.panic v) fm H'
def dstepQ (P : Program) (mu : List Nat) (K : Kont) (fm : AF) (o : COp) (ds : List DOp) (f : AF) (H : AH) (pd : List (Nat × Nat × ABlk)) (rd : List Nat) : Prop :=
  match guardC f o.guard with
    | none => False
    | some b => if b = true then (match aflo P mu (aev f) o.dst o.op with
      | some v => dops P mu K fm ds (f.put o.dst v) H pd rd
      | none => match aown P mu (aev f) H o.dst o.op with
        | some (v, H') => (∀ n ∈ rd, H'.own n = H.own n) ∧ dops P mu K fm ds (f.put o.dst v) H' pd rd
        | none => match callOf (aev f) o.op with
          | some (m, args) => ACall P m args H (dcallQ P mu K fm o.dst ds f H pd rd)
          | none => match panicOf (aev f) o.op with
            | some v => K.run (.panic v) fm H
            | none => False) else dops P mu K fm ds (f.put o.dst (.v (.tuple #[]))) H pd rd
theorem dops_Q {fm : AF} {pd : List (Nat × Nat × ABlk)} {rd : List Nat} {i : Nat} {o : COp} {b : List Nat} {ds : List DOp} : dops P mu K fm (⟨i, .E, o, b, true⟩ :: ds) f H pd rd =
    dstepQ P mu K fm o ds f (H.bindAll ((pd.filter fun p => b.contains p.1).map (·.2))) (pd.filter fun p => !b.contains p.1) rd := by
  show (match guardC f o.guard with | none => False | some b => _) = dstepQ P mu K fm o ds f _ _ rd
  unfold dstepQ
  cases guardC f o.guard with
  | none => rfl
  | some b => cases b with
    | false => exact propext ⟨fun h => h.2, fun h => ⟨fun _ _ => rfl, h⟩⟩
    | true =>
      simp only [if_true]
      cases aflo P mu (aev f) o.dst o.op with
      | some v => exact propext ⟨fun h => h.2, fun h => ⟨fun _ _ => rfl, h⟩⟩
      | none => rfl

/-- behind a call whose answer is known -/
theorem ACall.one {m : FuncId} {args : List AV} {dst : Option Nat} {os : List COp} {v : AV} {H' : AH} (h : ACall P m args H fun o H1 => o = .ret v ∧ H1 = H')
    (h' : cops P mu K os (f.put dst v) H') : ACall P m args H (callK P mu K dst os f) :=
  h.mono fun o H1 => by rintro ⟨rfl, rfl⟩; exact h'
theorem ACall.one' {m : FuncId} {args : List AV} {fm : AF} {dst : Option Nat} {ds : List DOp} {pd : List (Nat × Nat × ABlk)} {rd : List Nat} {v : AV} {H' : AH} (h : ACall P m args H fun o H1 => o = .ret v ∧ H1 = H')
    (h' : dops P mu K fm ds (f.put dst v) H' pd rd) : ACall P m args H (dcallK P mu K fm dst ds f pd rd) :=
  h.mono fun o H1 => by rintro ⟨rfl, rfl⟩; exact h'
end

/-! functions -/
def aresult (P : Program) (f : AF) (H : AH) : ResultVar → Option AV
  | .tmp t => some (f.t t)
  | .cell a t => match f.t a with
    | .box cs => apart P t cs 0
    | .ptr n o => match H.own n with
      | some (.cells l) => apart P t (l.drop o) 0
      | _ => none
    | _ => none

def aresults (P : Program) (rs : List ResultVar) (f : AF) (H : AH) : Option AV :=
  match allSome (rs.map (aresult P f H)) with
  | some [v] => some v
  | some vs => some (.tup vs)
  | none => none

/-- what is to be shown behind a body without deferred calls -/
def retPost (P : Program) (rs : List ResultVar) (R : AOut → AH → Prop) : AX → AF → AH → Prop
  | .normal, f, H => f.ds = [] ∧ match aresults P rs f H with | some v => R (.ret v) H | none => False
  | .ret, f, H => f.ds = [] ∧ match aresults P rs f H with | some v => R (.ret v) H | none => False
  | .panic v, f, H => f.ds = [] ∧ R (.pan v) H
  | .exit _, _, _ => False

def enterA (args : List AV) : AF := { t := fun i => args.getD i .any, ds := [] }

def Kont.fin (P : Program) (rs : List ResultVar) (R : AOut → AH → Prop) : Kont := ⟨retPost P rs R⟩

theorem fin_ret {P : Program} {rs : List ResultVar} {R : AOut → AH → Prop} {f : AF} {H : AH} : (Kont.fin P rs R).run .ret f H = (f.ds = [] ∧ match aresults P rs f H with | some v => R (.ret v) H | none => False) := rfl
theorem fin_normal {P : Program} {rs : List ResultVar} {R : AOut → AH → Prop} {f : AF} {H : AH} : (Kont.fin P rs R).run .normal f H = (f.ds = [] ∧ match aresults P rs f H with | some v => R (.ret v) H | none => False) := rfl
theorem fin_panic {P : Program} {rs : List ResultVar} {R : AOut → AH → Prop} {f : AF} {H : AH} {v : AV} : (Kont.fin P rs R).run (.panic v) f H = (f.ds = [] ∧ R (.pan v) H) := rfl

section
variable {P : Program}

def resSem (tmps : Array Value) : ResultVar → Sem Value
  | .tmp t => pure (tmps.getD t undef)
  | .cell b t => do loadVar t (← asAddr (tmps.getD b undef))

theorem results_eq (fn : Func) (tmps : Array Value) :
    results fn tmps = (do let vs ← fn.results.mapM (resSem tmps); pure (if h : vs.size = 1 then vs[0] else .tuple vs)) := by
  unfold results
  congr 1

theorem aresult_sound {n : Nat} {g : G} {H : AH} {w : World} {f : AF} {a : Act} (hw : WR g H w) (ht : TR g n f a) {r : ResultVar} {v : AV} (h : aresult P f H r = some v) :
    ∃ x, (resSem a.tmps r).run P w = .ok x w ∧ VR g v x := by
  cases r with
  | tmp t => simp only [aresult, Option.some.injEq] at h; subst h; exact ⟨_, rfl, ht.t t⟩
  | cell b t =>
    simp only [aresult] at h
    have h1 := ht.t b
    split at h
    · rename_i cs hb
      rw [hb] at h1
      obtain ⟨ad, e1, e2, xs, e3, e4⟩ := box_cells hw h1
      obtain ⟨x, hx, hv⟩ := loadVar_sound (P := P) e3 (fun j y hy => (e4 j y hy).1) h
      exact ⟨x, by simp [resSem, e1, asAddr, hx], hv⟩
    · rename_i n o hb
      rw [hb] at h1
      split at h
      · rename_i l hn
        obtain ⟨x, hr, hv⟩ := load_own (P := P) (t := t) hw h1 hn h
        obtain ⟨b', c, el, e1, _⟩ := own_cells hw h1 hn
        refine ⟨x, ?_, hv⟩
        simp only [Instr.loadAt, e1, Instr.sureAddr, Sem.run_bind, Sem.run_pure, Result.andThen_ok] at hr
        simp only [resSem, e1, asAddr, Sem.run_bind, Sem.run_pure, Result.andThen_ok]
        exact hr
      · cases h
    · cases h

theorem results_sound {n : Nat} {g : G} {H : AH} {w : World} {f : AF} {a : Act} (hw : WR g H w) (ht : TR g n f a) {fn : Func} {v : AV} (h : aresults P fn.results.toList f H = some v) :
    ∃ x, (results fn a.tmps).run P w = .ok x w ∧ VR g v x := by
  have key : ∀ (rs : List ResultVar) (vs : List AV), allSome (rs.map (aresult P f H)) = some vs →
      ∃ xs : List Value, (rs.mapM (resSem a.tmps)).run P w = .ok xs w ∧ VRs g vs xs.toArray := by
    intro rs
    induction rs with
    | nil => intro vs h; simp only [List.map_nil, allSome, Option.some.injEq] at h; subst h; exact ⟨[], rfl, rfl, fun j hj => by simp at hj⟩
    | cons r rs ih =>
      intro vs h
      simp only [List.map_cons] at h
      cases hr : aresult P f H r with
      | none => rw [hr] at h; cases h
      | some v =>
        rw [hr] at h
        simp only [allSome] at h
        cases hrs : allSome (rs.map (aresult P f H)) with
        | none => rw [hrs] at h; cases h
        | some vs' =>
          rw [hrs] at h
          simp only [Option.map_some, Option.some.injEq] at h
          subst h
          obtain ⟨x, hx, hv⟩ := aresult_sound hw ht hr
          obtain ⟨xs, hxs, hvs⟩ := ih vs' hrs
          refine ⟨x :: xs, ?_, ?_⟩
          · simp only [List.mapM_cons, Sem.run_bind, hx, Result.andThen_ok, hxs, Sem.run_pure]
          · have := VRs.append (g := g) (cs := [v]) (xs := #[x]) ⟨rfl, fun j hj => by
              have : j = 0 := by simpa using hj
              subst this; exact hv⟩ hvs
            simpa using this
  unfold aresults at h
  cases hr : allSome (fn.results.toList.map (aresult P f H)) with
  | none => rw [hr] at h; cases h
  | some vs =>
    rw [hr] at h
    obtain ⟨xs, hxs, hvs⟩ := key _ vs hr
    have hrun : (results fn a.tmps).run P w = .ok (if h : xs.toArray.size = 1 then xs.toArray[0] else .tuple xs.toArray) w := by
      rw [results_eq, Array.mapM_eq_mapM_toList]
      simp only [Sem.run_bind, Sem.run_map, hxs, Result.andThen_ok, Sem.run_pure]
    refine ⟨_, hrun, ?_⟩
    have hl := hvs.1
    match vs, h, hvs, hl with
    | [], h, hvs, hl =>
      simp only [Option.some.injEq] at h; subst h
      rw [dif_neg (by rw [hl]; simp)]
      exact .tup hvs.1 hvs.2
    | [v'], h, hvs, hl =>
      simp only [Option.some.injEq] at h; subst h
      rw [dif_pos (by rw [hl]; rfl)]
      obtain ⟨y, hy, hv⟩ := hvs.get (j := 0) (c := v') rfl
      have hs : 0 < xs.toArray.size := by rw [hl]; simp
      rw [Array.getElem?_eq_getElem hs] at hy
      cases hy; exact hv
    | v1 :: v2 :: vs', h, hvs, hl =>
      simp only [Option.some.injEq] at h; subst h
      rw [dif_neg (by rw [hl]; simp)]
      exact .tup hvs.1 hvs.2

/-- what is known of a function, closed -/
structure FnFact (P : Program) (n : FuncId) (nt : Nat) (hs : List Hint) (rs : List ResultVar) (cc : CC) : Prop where
  mixed : P.follows .mixedOrders = true
  fn : ∃ fn, P.funcs[n]? = some fn ∧ fn.body.bind (cmp nt hs) = some cc ∧ (fn.name != "runtime.NumGoroutine") = true ∧ fn.ntmps = nt ∧ fn.results.toList = rs

/-- a function without deferred calls -/
theorem ACall.enter {n : FuncId} {cc : CC} {nt : Nat} {hs : List Hint} {rs : List ResultVar} (mu : List Nat) {args : List AV} {H : AH} {R : AOut → AH → Prop} (hfn : FnFact P n nt hs rs cc) (ha : args.length ≤ nt)
    (h : cwp P mu nt cc (Kont.fin P rs R) (enterA args) H) : ACall P n args H R := by
  obtain ⟨fn, hf, hbc, hname, hn, hr⟩ := hfn.fn
  obtain ⟨c, hb, hc⟩ : ∃ c, fn.body = some c ∧ cmp nt hs c = some cc := by
    cases hb : fn.body with
    | none => rw [hb] at hbc; cases hbc
    | some c => rw [hb] at hbc; exact ⟨c, rfl, hbc⟩
  refine ⟨by simp only [callable, hf, hname, hb]; rfl, fun g xs w hw hx => ?_⟩
  subst hn; subst hr
  refine calls_of_wp hf hb ?_
  have ht : TR g fn.ntmps (enterA args) { tmps := xs ++ Array.replicate (fn.ntmps - xs.size) undef, defers := [] } := by
    refine ⟨by simp [hx.1]; omega, fun i => ?_, .nil⟩
    simp only [enterA]
    by_cases hi : i < args.length
    · have := hx.2 i hi
      have hi' : i < xs.size := by rw [hx.1]; exact hi
      rw [Array.getD_eq_getD_getElem?, Array.getElem?_append_left hi', ← Array.getD_eq_getD_getElem?]; exact this
    · rw [List.getD_eq_getElem?_getD, List.getElem?_eq_none (by omega)]; exact .any
  refine wp_mono (cwp_sound hfn.mixed hs c cc _ _ _ hc h g _ w hw ht) fun e a' w' hp => ?_
  obtain ⟨x, f', H', g', h1, h2, h3, h4⟩ := hp
  · have hds : f'.ds = [] → a'.defers = [] := fun hd => by
      have := h4.ds; rw [hd] at this; generalize a'.defers = l at this ⊢; cases this; rfl
    cases x with
    | normal =>
      cases e <;> first | exact h2.elim | skip
      obtain ⟨q1, q2⟩ := h1
      split at q2
      · rename_i v hv
        obtain ⟨y, hy, hvv⟩ := results_sound h3.wr h4 hv
        exact ⟨hds q1, y, hy, ⟨.ret v, H', g', q2, hvv, h3⟩⟩
      · exact q2.elim
    | ret =>
      cases e <;> first | exact h2.elim | skip
      obtain ⟨q1, q2⟩ := h1
      split at q2
      · rename_i v hv
        obtain ⟨y, hy, hvv⟩ := results_sound h3.wr h4 hv
        exact ⟨hds q1, y, hy, ⟨.ret v, H', g', q2, hvv, h3⟩⟩
      · exact q2.elim
    | panic v =>
      cases e <;> first | exact h2.elim | skip
      exact ⟨hds h1.1, ⟨.pan v, H', g', h1.2, h2, h3⟩⟩
    | exit id => exact h1.elim

end
end Go.Proofs.YtchpcjmgifnmdaaDoor.Ab

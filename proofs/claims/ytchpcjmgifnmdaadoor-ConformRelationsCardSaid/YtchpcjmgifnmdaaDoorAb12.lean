/- A region whose order is open: one canonical order of its operations is enough. Part one: worlds and lists. -/
import Derived.Test.YtchpcjmgifnmdaaDoorAb11
namespace Go.Proofs.YtchpcjmgifnmdaaDoor.Ab
open Go

inductive K3 where
  | F
  | A
  | E
  | R

structure DOp where
  i : Nat
  kd : K3
  op : COp
  bef : List Nat
  qt : Bool

def fstep (P : Program) (mu : List Nat) (f : AF) (o : COp) : Option AV :=
  match guardC f o.guard with
  | none => none
  | some b => if b = true then aflo P mu (aev f) o.dst o.op else some (.v (.tuple #[]))

/-- a block of the call's own is read -/
def aread (P : Program) (e : Operand → AV) (H : AH) (op : Op) : Option AV :=
  match op with
  | .load t a => match e a with
    | .ptr n k => match H.own n with
      | some (.cells l) => apart P t (l.drop k) 0
      | _ => none
    | _ => none
  | _ => none
/-- the block that an operation reads -/
def areadN (e : Operand → AV) (op : Op) : List Nat :=
  match op with
  | .load _ a => match e a with
    | .ptr n _ => [n]
    | _ => []
  | _ => []
def rstep (P : Program) (mu : List Nat) (f : AF) (H : AH) (o : COp) : Option AV :=
  match guardC f o.guard with
  | none => none
  | some b => if b = true then (match aflo P mu (aev f) o.dst o.op with
    | some v => some v
    | none => aread P (aev f) H o.op) else some (.v (.tuple #[]))
def AH.bindAll (H : AH) : List (Nat × ABlk) → AH
  | [] => H
  | p :: l => (H.set p.1 p.2).bindAll l

def estep (P : Program) (mu : List Nat) (Q : Kont) (fm : AF) (o : COp) (f : AF) (H : AH) (K : AF → AH → Prop) : Prop :=
  match guardC f o.guard with
  | none => False
  | some b => if b = true then (match aflo P mu (aev f) o.dst o.op with
      | some v => K (f.put o.dst v) H
      | none => match aown P mu (aev f) H o.dst o.op with
        | some (v, H') => K (f.put o.dst v) H'
        | none => match callOf (aev f) o.op with
          | some (m, args) => ACall P m args H fun out H' => match out with
            | .ret v => K (f.put o.dst v) H'
            | .pan v => Q.run (.panic v) fm H'
          | none => match panicOf (aev f) o.op with
            | some v => Q.run (.panic v) fm H
            | none => False) else K (f.put o.dst (.v (.tuple #[]))) H

/-- a quiet one leaves all blocks as they were -/
def qand (q : Bool) (rd : List Nat) (H1 H' : AH) (X : Prop) : Prop := if q = true then (∀ n ∈ rd, H'.own n = H1.own n) ∧ X else X
theorem qand_snd {q : Bool} {rd : List Nat} {H1 H' : AH} {X : Prop} (h : qand q rd H1 H' X) : X := by
  unfold qand at h; split at h
  · exact h.2
  · exact h
def dops (P : Program) (mu : List Nat) (Q : Kont) (fm : AF) : List DOp → AF → AH → List (Nat × Nat × ABlk) → List Nat → Prop
  | [], f, H, pd, _ => Q.run .normal f (H.bindAll (pd.map (·.2)))
  | d :: ds, f, H, pd, rd => match d.kd with
    | .F => match fstep P mu f d.op with
      | some v => dops P mu Q fm ds (f.put d.op.dst v) H pd rd
      | none => False
    | .R => match rstep P mu f H d.op with
      | some v => dops P mu Q fm ds (f.put d.op.dst v) H pd (areadN (aev f) d.op.op ++ rd)
      | none => False
    | .A => match d.op.guard, aall P mu (aev f) H.next d.op.dst d.op.op with
      | none, some (v, B) => dops P mu Q fm ds (f.put d.op.dst v) { H with next := H.next + 1 } ((d.i, H.next, B) :: pd) rd
      | _, _ => False
    | .E => estep P mu Q fm d.op f (H.bindAll ((pd.filter fun p => d.bef.contains p.1).map (·.2))) fun f' H' => qand d.qt rd (H.bindAll ((pd.filter fun p => d.bef.contains p.1).map (·.2))) H' (dops P mu Q fm ds f' H' (pd.filter fun p => !d.bef.contains p.1) (if d.qt then rd else []))
def maskA (ord : List DOp) (f : AF) : AF := { t := fun x => if ord.any (fun d => d.op.dst == some x) then .any else f.t x, ds := f.ds }

/-! worlds -/
theorem ST.bump {g0 g : G} {H0 H : AH} {w0 w : World} (h : ST g0 H0 w0 g H w) : ST g0 H0 w0 g { H with next := H.next + 1 } w := by
  refine ⟨h.le, ⟨h.wr.fz, h.wr.own, h.wr.inj, h.wr.tip, h.wr.tinj, h.wr.town, fun n b e => ?_, fun t T e => ?_, h.wr.bnext, h.wr.nbs, h.wr.gz⟩, h.size, ?_, h.names, h.tips, h.same, h.str⟩
  · have := h.wr.bmu n b e; simp only; omega
  · have := h.wr.btp t T e; simp only; omega
  · have := h.next; simp only; omega

/-- a reserved name gets its block -/
theorem ST.lay {g0 g : G} {H0 H : AH} {w0 w : World} (h : ST g0 H0 w0 g H w) {nm : Nat} (h0 : H0.next ≤ nm) (h1 : nm < H.next) (h2 : g.mu nm = none) (o : Obj) (s : Nat) :
    ST g0 H0 w0 (g.name nm w.heap.size s) H (w.alloc o) := by
  have hw := h.wr
  have hle := G.le_name (b := w.heap.size) (s := s) h2 (hw.nbs _ h2)
  have hno : H.own nm = none := by
    cases ho : H.own nm with
    | none => rfl
    | some B => obtain ⟨b, _, e1, _⟩ := hw.own nm B ho; rw [h2] at e1; cases e1
  have hmu : ∀ n, n ≠ nm → (g.name nm w.heap.size s).mu n = g.mu n := fun n hn => by simp only [G.name, hn, if_false]
  refine ⟨h.le.trans hle, ⟨?_, ?_, ?_, ?_, hw.tinj, ?_, ?_, hw.btp, ?_, G.nbs_name hw.nbs, hw.gz⟩, ?_, h.next, ?_, h.tips, ?_, h.str.trans ⟨rfl, rfl, rfl⟩⟩
  · intro b o' x e
    have e' : g.fz b o' = some x := e
    rw [World.cell?_alloc_lt _ _ _ (hw.fz_lt e')]; exact hw.fz b o' x e'
  · intro n B hB
    have hn : n ≠ nm := by intro hc; subst hc; rw [hno] at hB; cases hB
    obtain ⟨b, obj, e1, e2, e3, e4⟩ := hw.own n B hB
    exact ⟨b, obj, by rw [hmu n hn]; exact e1, by rw [heap_alloc_lt (hw.bnext n b e1)]; exact e2, e3.mono hle, e4⟩
  · intro n m b q1 q2 q3 q4
    have hn : n ≠ nm := by intro hc; subst hc; exact q1 hno
    have hm : m ≠ nm := by intro hc; subst hc; exact q2 hno
    rw [hmu n hn] at q3; rw [hmu m hm] at q4
    exact hw.inj n m b q1 q2 q3 q4
  · intro t L hL
    obtain ⟨T, c', el', e1, e2, e3, e4, e5, e6, e7⟩ := hw.tip t L hL
    exact ⟨T, c', el', e1, e2, e3, e4, by rw [heap_alloc_lt (hw.tip_lt hL T e1)]; exact e5, e6, e7⟩
  · intro t n T b q1 q2 q3 q4
    have hn : n ≠ nm := by intro hc; subst hc; exact q2 hno
    rw [hmu n hn] at q4
    exact hw.town t n T b q1 q2 q3 q4
  · intro n b e
    by_cases hn : n = nm
    · omega
    · rw [hmu n hn] at e; exact hw.bmu n b e
  · intro n b e
    simp only [World.size_alloc]
    by_cases hn : n = nm
    · subst hn; simp only [G.name, if_true, Option.some.injEq] at e; omega
    · rw [hmu n hn] at e; have := hw.bnext n b e; omega
  · have := h.size; simp only [World.size_alloc]; omega
  · intro n hn
    rw [hmu n (by omega)]; exact h.names n hn
  · intro b hb hm
    obtain ⟨e1, e2, e3⟩ := h.same b hb hm
    have := h.size
    refine ⟨by rw [heap_alloc_lt (by omega)]; exact e1, fun hm' => e2 ?_, e3⟩
    rcases hm' with ⟨n, q1, q2⟩ | q
    · have hn : n ≠ nm := by intro hc; subst hc; exact q1 hno
      rw [hmu n hn] at q2
      exact .inl ⟨n, q1, q2⟩
    · exact .inr q

/-- a laid block is taken over -/
theorem ST.bind {g0 g : G} {H0 H : AH} {w0 w : World} (h : ST g0 H0 w0 g H w) {nm b : Nat} {B : ABlk} {obj : Obj} (hno : H.own nm = none) (hmu : g.mu nm = some b) (hb : w.heap[b]? = some obj)
    (hB : BR g nm B obj) (hf : ∀ o, g.fz b o = none) (hm : ¬ Mods g H b) (h0 : w0.heap.size ≤ b) : ST g0 H0 w0 g (H.set nm B) w := by
  have hw := h.wr
  have hne : ∀ m, (H.set nm B).own m ≠ none → m ≠ nm → H.own m ≠ none := fun m hmm hn => by simpa only [AH.set, hn, if_false] using hmm
  refine ⟨h.le, ⟨hw.fz, ?_, ?_, hw.tip, hw.tinj, ?_, hw.bmu, hw.btp, hw.bnext, hw.nbs, hw.gz⟩, h.size, h.next, h.names, h.tips, ?_, h.str⟩
  · intro n B' hB'
    by_cases hn : n = nm
    · subst hn
      simp only [AH.set, if_true, Option.some.injEq] at hB'; subst hB'
      exact ⟨b, obj, hmu, hb, hB, hf⟩
    · simp only [AH.set, hn, if_false] at hB'; exact hw.own n B' hB'
  · intro n m c q1 q2 q3 q4
    by_cases hn : n = nm <;> by_cases hm' : m = nm
    · omega
    · subst hn; rw [hmu] at q3; cases q3
      exact absurd (.inl ⟨m, hne m q2 hm', q4⟩) hm
    · subst hm'; rw [hmu] at q4; cases q4
      exact absurd (.inl ⟨n, hne n q1 hn, q3⟩) hm
    · exact hw.inj n m c (hne n q1 hn) (hne m q2 hm') q3 q4
  · intro t n T c q1 q2 q3 q4
    by_cases hn : n = nm
    · subst hn; rw [hmu] at q4; cases q4
      intro hc
      exact hm (.inr ⟨t, q1, T, q3, hc⟩)
    · exact hw.town t n T c q1 (hne n q2 hn) q3 q4
  · intro c hc hmc
    obtain ⟨e1, e2, e3⟩ := h.same c hc hmc
    refine ⟨e1, fun hm' => e2 ?_, e3⟩
    rcases hm' with ⟨n, q1, q2⟩ | q
    · by_cases hn : n = nm
      · subst hn; rw [hmu] at q2; cases q2; omega
      · exact .inl ⟨n, hne n q1 hn, q2⟩
    · exact .inr q

/-! lists -/
theorem inj_of_nodup {α β : Type} (f : α → β) : ∀ (l : List α), (l.map f).Nodup → ∀ a ∈ l, ∀ b ∈ l, f a = f b → a = b
  | [], _, a, ha, _, _, _ => by cases ha
  | x :: l, h, a, ha, b, hb, he => by
    simp only [List.map_cons, List.nodup_cons] at h
    rcases List.mem_cons.mp ha with rfl | ha'
    · rcases List.mem_cons.mp hb with rfl | hb'
      · rfl
      · exact absurd (he ▸ List.mem_map.mpr ⟨b, hb', rfl⟩) h.1
    · rcases List.mem_cons.mp hb with rfl | hb'
      · exact absurd (he ▸ List.mem_map.mpr ⟨a, ha', rfl⟩) h.1
      · exact inj_of_nodup f l h.2 a ha' b hb' he

structure DOk (n : Nat) (ops : Array Oper) (B : Nat → List Nat) (ord : List DOp) : Prop where
  op : ∀ d ∈ ord, ∃ o, ops[d.i]? = some o ∧ cmpOp n ops o = some d.op
  cover : ∀ i, i < ops.size → ∃ d ∈ ord, d.i = i
  nodup : (ord.map (·.i)).Nodup
  just : ∀ i o, ops[i]? = some o → ∀ j ∈ B i, ∃ e ∈ o.after, Region.binds .any e = true ∧ (e.on = j ∨ j ∈ B e.on)
  down : ∀ i o, ops[i]? = some o → ∀ e ∈ o.after, Region.binds .any e = true → e.on < i
  single : ∀ d ∈ ord, ∀ d' ∈ ord, ∀ x, d.op.dst = some x → d'.op.dst = some x → d.i = d'.i
  lin : ∀ C d R, ord = C ++ d :: R → ∀ j ∈ B d.i, ∃ c ∈ C, c.i = j
  chain : ∀ C d R, ord = C ++ d :: R → (match d.kd with | .E => True | _ => False) → ∀ q ∈ R, d.i ∈ B q.i
  chainR : ∀ C d R, ord = C ++ d :: R → (match d.kd with | .E => True | _ => False) → d.qt = false → ∀ q ∈ C, (match q.kd with | .R => True | _ => False) → q.i ∈ B d.i
  comp : ∀ d ∈ ord, ∀ s ∈ slotsOf d.op, ∀ q ∈ ord, q.op.dst = some s → q.i = d.i ∨ q.i ∈ B d.i ∨ d.i ∈ B q.i
  bef : ∀ d ∈ ord, ∀ j ∈ d.bef, j ∈ B d.i

section
variable {n : Nat} {ops : Array Oper} {B : Nat → List Nat} {ord : List DOp}

theorem DOk.asym (h : DOk n ops B ord) {d q : DOp} (hd : d ∈ ord) (hq : q ∈ ord) (h1 : q.i ∈ B d.i) : d.i ∉ B q.i := by
  intro h2
  obtain ⟨C, R, e⟩ := List.append_of_mem hd
  obtain ⟨c, hc, hci⟩ := h.lin C d R e _ h1
  have : c = q := inj_of_nodup (·.i) ord h.nodup c (by rw [e]; simp [hc]) q hq hci
  subst this
  obtain ⟨C1, C2, e2⟩ := List.append_of_mem hc
  obtain ⟨c', hc', hci'⟩ := h.lin C1 c (C2 ++ d :: R) (by rw [e, e2]; simp) _ h2
  have hn := h.nodup
  rw [e, e2] at hn
  simp only [List.map_append, List.map_cons, List.append_assoc, List.cons_append] at hn
  rw [List.nodup_append] at hn
  exact hn.2.2 _ (List.mem_map.mpr ⟨c', hc', rfl⟩) d.i (by simp) hci'

theorem DOk.irr (h : DOk n ops B ord) {d : DOp} (hd : d ∈ ord) : d.i ∉ B d.i := fun h1 => h.asym hd hd h1 h1

def wrOf (ord : List DOp) (x : Nat) : Option DOp := ord.find? fun d => d.op.dst == some x

def FS (ord : List DOp) (f0 : AF) (vals : Nat → AV) (S : Nat → Bool) : AF :=
  { t := fun x => match wrOf ord x with | some d => if S d.i = true then vals d.i else f0.t x | none => f0.t x, ds := f0.ds }

theorem wrOf_some {x : Nat} {d : DOp} (h : wrOf ord x = some d) : d ∈ ord ∧ d.op.dst = some x := by
  unfold wrOf at h
  exact ⟨List.mem_of_find?_eq_some h, by simpa using List.find?_some h⟩

theorem wrOf_none {x : Nat} (h : wrOf ord x = none) : ∀ d ∈ ord, d.op.dst ≠ some x := by
  unfold wrOf at h
  intro d hd hx
  have := List.find?_eq_none.mp h d hd
  simp [hx] at this

theorem wrOf_of (h : DOk n ops B ord) {d : DOp} (hd : d ∈ ord) {x : Nat} (hx : d.op.dst = some x) : wrOf ord x = some d := by
  cases hw : wrOf ord x with
  | none => exact absurd hx (wrOf_none hw d hd)
  | some q =>
    obtain ⟨h1, h2⟩ := wrOf_some hw
    rw [inj_of_nodup (·.i) ord h.nodup q h1 d hd (h.single q h1 d hd x h2 hx)]

theorem FS_agree (h : DOk n ops B ord) {f0 : AF} {vals : Nat → AV} {d : DOp} (hd : d ∈ ord) {S : Nat → Bool} (h1 : ∀ j ∈ B d.i, S j = true) (h2 : S d.i = false)
    (h3 : ∀ q ∈ ord, d.i ∈ B q.i → S q.i = false) : ∀ s ∈ slotsOf d.op, (FS ord f0 vals S).t s = (FS ord f0 vals fun i => (B d.i).contains i).t s := by
  intro s hs
  simp only [FS]
  cases hw : wrOf ord s with
  | none => rfl
  | some q =>
    obtain ⟨hq, hqs⟩ := wrOf_some hw
    simp only
    rcases h.comp d hd s hs q hq hqs with e | e | e
    · have : (B d.i).contains d.i = false := by simpa using h.irr hd
      simp only [e, h2, this]
    · have : (B d.i).contains q.i = true := by simpa using e
      simp only [h1 _ e, this]
    · have : (B d.i).contains q.i = false := by simpa using h.asym hq hd e
      simp only [h3 q hq e, this]

/-- one value more -/
def setV (vals : Nat → AV) (i : Nat) (v : AV) : Nat → AV := fun j => if j = i then v else vals j

theorem FS_setV {f0 : AF} {vals : Nat → AV} {S : Nat → Bool} {i : Nat} {v : AV} (h : S i = false) : FS ord f0 (setV vals i v) S = FS ord f0 vals S := by
  unfold FS
  congr 1
  funext x
  cases wrOf ord x with
  | none => rfl
  | some d =>
    simp only [setV]
    by_cases hd : d.i = i
    · simp only [hd, h, Bool.false_eq_true, if_false]
    · simp only [hd, if_false]

/-- an operation's value is put -/
theorem FS_put (h : DOk n ops B ord) {f0 : AF} {vals : Nat → AV} {d : DOp} (hd : d ∈ ord) {S S' : Nat → Bool} (hS : ∀ q ∈ ord, q.i ≠ d.i → S' q.i = S q.i) (hd1 : S' d.i = true) :
    ∀ x, ((FS ord f0 vals S).put d.op.dst (vals d.i)).t x = (FS ord f0 vals S').t x := by
  intro x
  cases hdst : d.op.dst with
  | none =>
    simp only [AF.put, FS]
    cases hw : wrOf ord x with
    | none => rfl
    | some q =>
      obtain ⟨hq, hqs⟩ := wrOf_some hw
      have : q.i ≠ d.i := by
        intro he
        rw [inj_of_nodup (·.i) ord h.nodup q hq d hd he, hdst] at hqs; cases hqs
      simp only [hS q hq this]
  | some y =>
    simp only [AF.put, upd]
    by_cases hx : x = y
    · subst hx
      rw [if_pos rfl]
      simp only [FS]
      rw [wrOf_of h hd hdst]; simp only [hd1, if_true]
    · rw [if_neg hx]
      simp only [FS]
      cases hw : wrOf ord x with
      | none => rfl
      | some q =>
        obtain ⟨hq, hqs⟩ := wrOf_some hw
        have : q.i ≠ d.i := by
          intro he
          rw [inj_of_nodup (·.i) ord h.nodup q hq d hd he, hdst] at hqs
          simp only [Option.some.injEq] at hqs; exact hx hqs.symm
        simp only [hS q hq this]

end
end Go.Proofs.YtchpcjmgifnmdaaDoor.Ab

/- A region whose order is open: one canonical order of its operations is enough. Part two: the state of a run in whatever order. -/
import Derived.Test.YtchpcjmgifnmdaaDoorAb12
namespace Go.Proofs.YtchpcjmgifnmdaaDoor.Ab
open Go

section
variable {P : Program} {mu : List Nat} {Q : Kont} {n : Nat} {ops : Array Oper} {B : Nat → List Nat} {ord : List DOp} {f0 : AF} {g0 : G} {H0 : AH} {w0 : World}

def inC (C : List DOp) (i : Nat) : Bool := C.any fun d => d.i == i
def lis (l : Array Bool) (i : Nat) : Bool := l.getD i false

theorem inC_true {C : List DOp} {i : Nat} : inC C i = true ↔ ∃ d ∈ C, d.i = i := by simp [inC]

structure DSt (P : Program) (mu : List Nat) (Q : Kont) (n : Nat) (ops : Array Oper) (B : Nat → List Nat) (ord : List DOp) (f0 : AF) (g0 : G) (H0 : AH) (w0 : World)
    (listed : Array Bool) (C R : List DOp) (vals : Nat → AV) (f : AF) (H : AH) (pd : List (Nat × Nat × ABlk)) (rd : List Nat) (g : G) (a : Act) (w : World) : Prop where
  split : ord = C ++ R
  tr : TR g n (FS ord f0 vals (lis listed)) a
  fc : f = FS ord f0 vals (inC C)
  dc : ∀ i, lis listed i = true → ∃ d ∈ C, d.i = i
  clo : ∀ i o, lis listed i = true → ops[i]? = some o → ∀ e ∈ o.after, Region.binds .any e = true → lis listed e.on = true
  lagE : ∀ d ∈ C, lis listed d.i = false → d.kd ≠ .E
  lagF : ∀ d ∈ C, d.kd = .F → lis listed d.i = false → fstep P mu (FS ord f0 vals fun i => (B d.i).contains i) d.op = some (vals d.i)
  lagR : ∀ d ∈ C, d.kd = .R → lis listed d.i = false → rstep P mu (FS ord f0 vals fun i => (B d.i).contains i) H d.op = some (vals d.i)
  lagA : ∀ d ∈ C, d.kd = .A → lis listed d.i = false → ∃ nm B', (d.i, nm, B') ∈ pd ∧ d.op.guard = none ∧ aall P mu (aev (FS ord f0 vals fun i => (B d.i).contains i)) nm d.op.dst d.op.op = some (vals d.i, B')
  ob : dops P mu Q (maskA ord f0) R f H pd rd
  rdn : ∀ d ∈ C, d.kd = .R → lis listed d.i = false → ∀ n ∈ areadN (aev (FS ord f0 vals fun i => (B d.i).contains i)) d.op.op, n ∈ rd
  st : ST g0 H0 w0 g H w
  pdn : ∀ p ∈ pd, H0.next ≤ p.2.1 ∧ p.2.1 < H.next ∧ H.own p.2.1 = none ∧ ∃ d ∈ C, d.i = p.1 ∧ d.kd = .A
  pdl : ∀ p ∈ pd, lis listed p.1 = false → g.mu p.2.1 = none
  pdx : ∀ p ∈ pd, lis listed p.1 = true → ∃ b obj, g.mu p.2.1 = some b ∧ w.heap[b]? = some obj ∧ BR g p.2.1 p.2.2 obj ∧ (∀ o, g.fz b o = none) ∧ ¬ Mods g H b ∧ w0.heap.size ≤ b
  pdu : ∀ p ∈ pd, ∀ q ∈ pd, p.2.1 = q.2.1 → p = q
  pdb : ∀ p ∈ pd, ∀ q ∈ pd, ∀ b, g.mu p.2.1 = some b → g.mu q.2.1 = some b → p = q
  pdd : (pd.map (·.1)).Nodup
  sz : listed.size = ops.size

variable (h : DOk n ops B ord)
include h

theorem in_C_not_R {C R : List DOp} (e : ord = C ++ R) {d q : DOp} (hd : d ∈ C) (hq : q ∈ R) : d.i ≠ q.i := by
  have hn := h.nodup
  rw [e, List.map_append, List.nodup_append] at hn
  exact hn.2.2 _ (List.mem_map.mpr ⟨d, hd, rfl⟩) _ (List.mem_map.mpr ⟨q, hq, rfl⟩)

theorem C_before {C R : List DOp} {d : DOp} (e : ord = C ++ d :: R) {q : DOp} (hq : q ∈ C) : d.i ∉ B q.i := by
  intro hb
  obtain ⟨C1, C2, e2⟩ := List.append_of_mem hq
  obtain ⟨c, hc, hci⟩ := h.lin C1 q (C2 ++ d :: R) (by rw [e, e2]; simp) _ hb
  exact in_C_not_R h e (d := c) (q := d) (by rw [e2]; simp [hc]) (by simp) hci

theorem agree_C {C R : List DOp} {d : DOp} (e : ord = C ++ d :: R) {vals : Nat → AV} :
    ∀ s ∈ slotsOf d.op, (FS ord f0 vals (inC C)).t s = (FS ord f0 vals fun i => (B d.i).contains i).t s := by
  refine FS_agree h (by rw [e]; simp) (fun j hj => ?_) ?_ (fun q hq hb => ?_)
  · obtain ⟨c, hc, hci⟩ := h.lin C d R e j hj
    exact inC_true.mpr ⟨c, hc, hci⟩
  · cases hx : inC C d.i with
    | false => rfl
    | true =>
      obtain ⟨c, hc, hci⟩ := inC_true.mp hx
      exact absurd hci (in_C_not_R h e hc (by simp))
  · cases hx : inC C q.i with
    | false => rfl
    | true =>
      obtain ⟨c, hc, hci⟩ := inC_true.mp hx
      have : c = q := inj_of_nodup (·.i) ord h.nodup c (by rw [e]; simp [hc]) q hq hci
      subst this
      exact absurd hb (C_before h e hc)

/-- what lies before a listed operation is listed -/
theorem listed_B {listed : Array Bool} (hdc : ∀ i, lis listed i = true → ∃ o, ops[i]? = some o)
    (hclo : ∀ i o, lis listed i = true → ops[i]? = some o → ∀ e ∈ o.after, Region.binds .any e = true → lis listed e.on = true) :
    ∀ i o, ops[i]? = some o → (∀ e ∈ o.after, Region.binds .any e = true → lis listed e.on = true) → ∀ j ∈ B i, lis listed j = true := by
  intro i
  induction i using Nat.strongRecOn with
  | _ i ih =>
    intro o ho he j hj
    obtain ⟨e, he1, he2, he3⟩ := h.just i o ho j hj
    have hl := he e he1 he2
    rcases he3 with rfl | he3
    · exact hl
    · obtain ⟨o', ho'⟩ := hdc _ hl
      exact ih e.on (h.down i o ho e he1 he2) o' ho' (hclo e.on o' hl ho') j he3

theorem agree_D {listed : Array Bool} {C R : List DOp} {vals : Nat → AV} (e : ord = C ++ R) (hdc : ∀ i, lis listed i = true → ∃ d ∈ C, d.i = i)
    (hclo : ∀ i o, lis listed i = true → ops[i]? = some o → ∀ e ∈ o.after, Region.binds .any e = true → lis listed e.on = true)
    {d : DOp} (hd : d ∈ ord) {o : Oper} (ho : ops[d.i]? = some o) (hnl : lis listed d.i = false) (hr : ∀ e ∈ o.after, Region.binds .any e = true → lis listed e.on = true) :
    ∀ s ∈ slotsOf d.op, (FS ord f0 vals (lis listed)).t s = (FS ord f0 vals fun i => (B d.i).contains i).t s := by
  have hdo : ∀ i, lis listed i = true → ∃ o, ops[i]? = some o := fun i hi => by
    obtain ⟨c, hc, hci⟩ := hdc i hi
    obtain ⟨o', ho', _⟩ := h.op c (by rw [e]; simp [hc])
    exact ⟨o', by rw [← hci]; exact ho'⟩
  refine FS_agree h hd (fun j hj => listed_B h hdo hclo d.i o ho hr j hj) hnl (fun q hq hb => ?_)
  cases hx : lis listed q.i with
  | false => rfl
  | true =>
    obtain ⟨o', ho'⟩ := hdo q.i hx
    have := listed_B h hdo hclo q.i o' ho' (hclo q.i o' hx ho') d.i hb
    rw [hnl] at this; cases this

omit h in
theorem fstep_agree {f f' : AF} {c : COp} (hs : ∀ s ∈ slotsOf c, f.t s = f'.t s) : fstep P mu f c = fstep P mu f' c := by
  unfold fstep
  rw [guardC_agree hs, aflo_congr (aev_agree hs)]

omit h in
theorem aread_congr {e e' : Operand → AV} {H : AH} {op : Op} (h : ∀ x ∈ op.operands.toList, e x = e' x) : aread P e H op = aread P e' H op := by
  cases op with
  | load t a =>
    have : e a = e' a := h a (by simp [Op.operands])
    simp only [aread, this]
  | _ => rfl
omit h in
theorem rstep_agree {f f' : AF} {H : AH} {c : COp} (hs : ∀ s ∈ slotsOf c, f.t s = f'.t s) : rstep P mu f H c = rstep P mu f' H c := by
  unfold rstep
  rw [guardC_agree hs, aflo_congr (aev_agree hs), aread_congr (aev_agree hs)]

omit h in
theorem rstep_own {f : AF} {H H1 : AH} {c : COp} {v : AV} (h : rstep P mu f H c = some v) (ho : ∀ n ∈ areadN (aev f) c.op, ∀ B, H.own n = some B → H1.own n = some B) : rstep P mu f H1 c = some v := by
  unfold rstep at h ⊢
  cases hg : guardC f c.guard with
  | none => rw [hg] at h; cases h
  | some b =>
    rw [hg] at h
    cases b with
    | false => exact h
    | true =>
      simp only [if_true] at h ⊢
      cases ha : aflo P mu (aev f) c.dst c.op with
      | some x => rw [ha] at h; exact h
      | none =>
        rw [ha] at h
        simp only at h ⊢
        unfold aread at h ⊢
        unfold areadN at ho
        split at h
        · rename_i t a hop
          rw [hop] at ho
          simp only at ho
          try (rw [hop]; simp only)
          split at h
          · rename_i n k hv
            rw [hv] at ho
            simp only [List.mem_singleton, forall_eq] at ho
            try (rw [hv]; simp only)
            split at h
            · rename_i l hl
              rw [ho _ hl]; exact h
            · cases h
          · cases h
        · cases h
omit h in
theorem areadN_congr {e e' : Operand → AV} {op : Op} (h : ∀ x ∈ op.operands.toList, e x = e' x) : areadN e op = areadN e' op := by
  cases op with
  | load t a =>
    have : e a = e' a := h a (by simp [Op.operands])
    simp only [areadN, this]
  | _ => rfl
omit h in
theorem AF_eq {f f' : AF} (ht : ∀ x, f.t x = f'.t x) (hd : f.ds = f'.ds) : f = f' := by
  cases f; cases f'
  simp only at hd
  have : ‹Nat → AV› = ‹Nat → AV› := rfl
  subst hd
  congr 1
  funext x; exact ht x

/-- the canonical order goes one on -/
theorem DSt.adv {listed : Array Bool} {C R : List DOp} {d : DOp} {vals : Nat → AV} {f : AF} {H : AH} {pd : List (Nat × Nat × ABlk)} {rd : List Nat} {g : G} {a : Act} {w : World}
    (s : DSt P mu Q n ops B ord f0 g0 H0 w0 listed C (d :: R) vals f H pd rd g a w) (hk : d.kd ≠ .E) :
    ∃ vals' f' H' pd' rd', DSt P mu Q n ops B ord f0 g0 H0 w0 listed (C ++ [d]) R vals' f' H' pd' rd' g a w := by
  have hord : d ∈ ord := by rw [s.split]; simp
  have hnl : lis listed d.i = false := by
    cases hx : lis listed d.i with
    | false => rfl
    | true =>
      obtain ⟨c, hc, hci⟩ := s.dc _ hx
      exact absurd hci (in_C_not_R h s.split hc (by simp))
  have hnC : inC C d.i = false := by
    cases hx : inC C d.i with
    | false => rfl
    | true =>
      obtain ⟨c, hc, hci⟩ := inC_true.mp hx
      exact absurd hci (in_C_not_R h s.split hc (by simp))
  have hsp : ord = (C ++ [d]) ++ R := by rw [s.split]; simp
  have hBd : (B d.i).contains d.i = false := by simpa using h.irr hord
  have hCB : ∀ c ∈ C, (B c.i).contains d.i = false := fun c hc => by simpa using C_before h s.split hc
  have hCi : ∀ c ∈ C, c.i ≠ d.i := fun c hc => in_C_not_R h s.split hc (by simp)
  have hag := agree_C h (f0 := f0) (vals := vals) s.split
  have hfc' : ∀ v, f.put d.op.dst v = FS ord f0 (setV vals d.i v) (inC (C ++ [d])) := fun v => by
    refine AF_eq (fun x => ?_) (by rw [s.fc]; cases d.op.dst <;> rfl)
    have h1 := FS_put h (f0 := f0) (vals := setV vals d.i v) hord (S := inC C) (S' := inC (C ++ [d])) (fun q hq hqi => by simp [inC, List.any_append]; intro hc; exact absurd hc.symm hqi) (by simp [inC]) x
    rw [FS_setV hnC] at h1
    have h2 : setV vals d.i v d.i = v := by simp [setV]
    rw [h2, ← s.fc] at h1
    exact h1
  cases hkd : d.kd with
  | E => exact absurd hkd hk
  | F =>
    have ob := s.ob
    simp only [dops, hkd] at ob
    split at ob
    · rename_i v hv
      refine ⟨setV vals d.i v, f.put d.op.dst v, H, pd, rd, ⟨hsp, by rw [FS_setV hnl]; exact s.tr, hfc' v, fun i hi => ?_, s.clo, fun c hc hcl => ?_, fun c hc hck hcl => ?_, fun c hc hck hcl => ?_, fun c hc hck hcl => ?_, ob, fun c hc hck hcl m hm => ?_, s.st, fun p hp => ?_, s.pdl, s.pdx, s.pdu, s.pdb, s.pdd, s.sz⟩⟩
      · obtain ⟨c, hc, hci⟩ := s.dc i hi; exact ⟨c, by simp [hc], hci⟩
      · rcases List.mem_append.mp hc with hc | hc
        · exact s.lagE c hc hcl
        · rw [List.mem_singleton.mp hc]; exact hk
      · rcases List.mem_append.mp hc with hc | hc
        · rw [FS_setV (hCB c hc)]
          have : setV vals d.i v c.i = vals c.i := by simp only [setV, hCi c hc, if_false]
          rw [this]; exact s.lagF c hc hck hcl
        · rw [List.mem_singleton.mp hc]
          rw [FS_setV hBd, ← fstep_agree hag, ← s.fc, hv]
          simp [setV]
      · rcases List.mem_append.mp hc with hc | hc
        · rw [FS_setV (hCB c hc)]
          have : setV vals d.i v c.i = vals c.i := by simp only [setV, hCi c hc, if_false]
          rw [this]; exact s.lagR c hc hck hcl
        · rw [List.mem_singleton.mp hc] at hck; rw [hkd] at hck; cases hck
      · rcases List.mem_append.mp hc with hc | hc
        · rw [FS_setV (hCB c hc)]
          have : setV vals d.i v c.i = vals c.i := by simp only [setV, hCi c hc, if_false]
          rw [this]; exact s.lagA c hc hck hcl
        · rw [List.mem_singleton.mp hc] at hck; rw [hkd] at hck; cases hck
      · rcases List.mem_append.mp hc with hc | hc
        · rw [FS_setV (hCB c hc)] at hm
          exact (s.rdn c hc hck hcl m hm)
        · rw [List.mem_singleton.mp hc] at hck; rw [hkd] at hck; cases hck
      · obtain ⟨q0, q1, q2, c, q3, q4, q5⟩ := s.pdn p hp
        exact ⟨q0, q1, q2, c, by simp [q3], q4, q5⟩
    · exact ob.elim
  | R =>
    have ob := s.ob
    simp only [dops, hkd] at ob
    split at ob
    · rename_i v hv
      refine ⟨setV vals d.i v, f.put d.op.dst v, H, pd, areadN (aev f) d.op.op ++ rd, ⟨hsp, by rw [FS_setV hnl]; exact s.tr, hfc' v, fun i hi => ?_, s.clo, fun c hc hcl => ?_, fun c hc hck hcl => ?_, fun c hc hck hcl => ?_, fun c hc hck hcl => ?_, ob, fun c hc hck hcl m hm => ?_, s.st, fun p hp => ?_, s.pdl, s.pdx, s.pdu, s.pdb, s.pdd, s.sz⟩⟩
      · obtain ⟨c, hc, hci⟩ := s.dc i hi; exact ⟨c, by simp [hc], hci⟩
      · rcases List.mem_append.mp hc with hc | hc
        · exact s.lagE c hc hcl
        · rw [List.mem_singleton.mp hc]; exact hk
      · rcases List.mem_append.mp hc with hc | hc
        · rw [FS_setV (hCB c hc)]
          have : setV vals d.i v c.i = vals c.i := by simp only [setV, hCi c hc, if_false]
          rw [this]; exact s.lagF c hc hck hcl
        · rw [List.mem_singleton.mp hc] at hck; rw [hkd] at hck; cases hck
      · rcases List.mem_append.mp hc with hc | hc
        · rw [FS_setV (hCB c hc)]
          have : setV vals d.i v c.i = vals c.i := by simp only [setV, hCi c hc, if_false]
          rw [this]; exact s.lagR c hc hck hcl
        · rw [List.mem_singleton.mp hc]
          rw [FS_setV hBd, ← rstep_agree hag, ← s.fc, hv]
          simp [setV]
      · rcases List.mem_append.mp hc with hc | hc
        · rw [FS_setV (hCB c hc)]
          have : setV vals d.i v c.i = vals c.i := by simp only [setV, hCi c hc, if_false]
          rw [this]; exact s.lagA c hc hck hcl
        · rw [List.mem_singleton.mp hc] at hck; rw [hkd] at hck; cases hck
      · rcases List.mem_append.mp hc with hc | hc
        · rw [FS_setV (hCB c hc)] at hm
          exact List.mem_append_right _ (s.rdn c hc hck hcl m hm)
        · rw [List.mem_singleton.mp hc] at hm
          rw [FS_setV hBd, ← areadN_congr (aev_agree hag), ← s.fc] at hm
          exact List.mem_append_left _ hm
      · obtain ⟨q0, q1, q2, c, q3, q4, q5⟩ := s.pdn p hp
        exact ⟨q0, q1, q2, c, by simp [q3], q4, q5⟩
    · exact ob.elim
  | A =>
    have ob := s.ob
    simp only [dops, hkd] at ob
    split at ob
    · rename_i v B' hg hv
      have hnone : H.own H.next = none := by
        cases hx : H.own H.next with
        | none => rfl
        | some _ => exact absurd (s.st.wr.own_lt (n := H.next) (by rw [hx]; simp)) (by omega)
      have hmn : g.mu H.next = none := s.st.wr.mu_none (Nat.le_refl _)
      refine ⟨setV vals d.i v, f.put d.op.dst v, { H with next := H.next + 1 }, (d.i, H.next, B') :: pd, rd,
        ⟨hsp, by rw [FS_setV hnl]; exact s.tr, hfc' v, fun i hi => ?_, s.clo, fun c hc hcl => ?_, fun c hc hck hcl => ?_, fun c hc hck hcl => ?_, fun c hc hck hcl => ?_, ob, fun c hc hck hcl m hm => ?_, s.st.bump, fun p hp => ?_, fun p hp hpl => ?_, fun p hp hpl => ?_, fun p hp q hq hpq => ?_, fun p hp q hq b hb hb' => ?_, ?_, s.sz⟩⟩
      · obtain ⟨c, hc, hci⟩ := s.dc i hi; exact ⟨c, by simp [hc], hci⟩
      · rcases List.mem_append.mp hc with hc | hc
        · exact s.lagE c hc hcl
        · rw [List.mem_singleton.mp hc]; exact hk
      · rcases List.mem_append.mp hc with hc | hc
        · rw [FS_setV (hCB c hc)]
          have : setV vals d.i v c.i = vals c.i := by simp only [setV, hCi c hc, if_false]
          rw [this]; exact s.lagF c hc hck hcl
        · rw [List.mem_singleton.mp hc] at hck; rw [hkd] at hck; cases hck
      · rcases List.mem_append.mp hc with hc | hc
        · rw [FS_setV (hCB c hc)]
          have : setV vals d.i v c.i = vals c.i := by simp only [setV, hCi c hc, if_false]
          rw [this]; exact s.lagR c hc hck hcl
        · rw [List.mem_singleton.mp hc] at hck; rw [hkd] at hck; cases hck
      · rcases List.mem_append.mp hc with hc | hc
        · rw [FS_setV (hCB c hc)]
          have : setV vals d.i v c.i = vals c.i := by simp only [setV, hCi c hc, if_false]
          rw [this]
          obtain ⟨nm, B1, q1, q2, q3⟩ := s.lagA c hc hck hcl
          exact ⟨nm, B1, by simp [q1], q2, q3⟩
        · rw [List.mem_singleton.mp hc]
          refine ⟨H.next, B', by simp, hg, ?_⟩
          rw [FS_setV hBd, ← aall_congr (aev_agree hag), ← s.fc, hv]
          simp [setV]
      · rcases List.mem_append.mp hc with hc | hc
        · rw [FS_setV (hCB c hc)] at hm
          exact (s.rdn c hc hck hcl m hm)
        · rw [List.mem_singleton.mp hc] at hck; rw [hkd] at hck; cases hck
      · rcases List.mem_cons.mp hp with rfl | hp
        · exact ⟨s.st.next, by simp only; omega, hnone, d, by simp, rfl, hkd⟩
        · obtain ⟨q0, q1, q2, c, q3, q4, q5⟩ := s.pdn p hp
          exact ⟨q0, by simp only; omega, q2, c, by simp [q3], q4, q5⟩
      · rcases List.mem_cons.mp hp with rfl | hp
        · exact hmn
        · exact s.pdl p hp hpl
      · rcases List.mem_cons.mp hp with rfl | hp
        · simp only at hpl; rw [hnl] at hpl; cases hpl
        · exact s.pdx p hp hpl
      · rcases List.mem_cons.mp hp with rfl | hp <;> rcases List.mem_cons.mp hq with rfl | hq
        · rfl
        · have := (s.pdn q hq).2.1; simp only at hpq; omega
        · have := (s.pdn p hp).2.1; simp only at hpq; omega
        · exact s.pdu p hp q hq hpq
      · rcases List.mem_cons.mp hp with rfl | hp <;> rcases List.mem_cons.mp hq with rfl | hq
        · rfl
        · simp only at hb; rw [hmn] at hb; cases hb
        · simp only at hb'; rw [hmn] at hb'; cases hb'
        · exact s.pdb p hp q hq b hb hb'
      · simp only [List.map_cons, List.nodup_cons]
        refine ⟨fun hm => ?_, s.pdd⟩
        obtain ⟨p, hp, hpi⟩ := List.mem_map.mp hm
        obtain ⟨_, _, _, c, q3, q4, _⟩ := s.pdn p hp
        exact hCi c q3 (q4.trans hpi)
    · exact ob.elim

end
end Go.Proofs.YtchpcjmgifnmdaaDoor.Ab

/- A region whose order is open: one canonical order of its operations is enough. Part four: the theorem. -/
import Derived.Test.YtchpcjmgifnmdaaDoorAb14
namespace Go.Proofs.YtchpcjmgifnmdaaDoor.Ab
open Go

section
variable {P : Program} {mu : List Nat} {Q : Kont} {n : Nat} {ops : Array Oper} {B : Nat → List Nat} {ord : List DOp} {f0 : AF} {g0 : G} {H0 : AH} {w0 : World}

theorem estep_astep {c : COp} {f fD fm : AF} {H : AH} {K : AF → AH → Prop} (hs : ∀ s ∈ slotsOf c, f.t s = fD.t s) (hg : guardC f c.guard = some true)
    (h : estep P mu Q fm c f H K) : astep P mu ⟨fun x _ H => Q.run x fm H⟩ c.dst c.op fD H (fun fX H' => ∃ v, fX = fD.put c.dst v ∧ K (f.put c.dst v) H') := by
  unfold estep at h
  rw [hg] at h
  simp only [if_true] at h
  have ha := aev_agree hs
  unfold astep
  rw [← aflo_congr ha, ← aown_congr ha, ← callOf_congr ha, ← panicOf_congr ha]
  split at h
  · rename_i v hv; rw [hv]; exact ⟨v, rfl, h⟩
  · rename_i hv
    rw [hv]
    split at h
    · rename_i v H' hv2; rw [hv2]; exact ⟨v, rfl, h⟩
    · rename_i hv2
      rw [hv2]
      split at h
      · rename_i m args hc
        rw [hc]
        refine ACall.mono h fun o H' hq => ?_
        cases o with
        | ret v => exact ⟨v, rfl, hq⟩
        | pan v => exact hq
      · rename_i hc
        rw [hc]
        split at h
        · rename_i v hp; rw [hp]; exact h
        · exact h.elim

variable (h : DOk n ops B ord)
include h

theorem DSt.all_done {listed : Array Bool} {C R : List DOp} {vals : Nat → AV} {f : AF} {H : AH} {pd : List (Nat × Nat × ABlk)} {rd : List Nat} {g : G} {a : Act} {w : World}
    (s : DSt P mu Q n ops B ord f0 g0 H0 w0 listed C R vals f H pd rd g a w) (hall : ∀ i, i < ops.size → lis listed i = true) : Post n Q.run g0 H0 w0 .normal a w := by
  have hR : R = [] := by
    cases R with
    | nil => rfl
    | cons d R =>
      obtain ⟨o, ho, _⟩ := h.op d (by rw [s.split]; simp)
      obtain ⟨c, hc, hci⟩ := s.dc _ (hall d.i (Array.getElem?_eq_some_iff.mp ho).1)
      exact absurd hci (in_C_not_R h s.split hc (by simp))
  subst hR
  have hl : ∀ d ∈ ord, lis listed d.i = true := fun d hd => by
    obtain ⟨o, ho, _⟩ := h.op d hd
    exact hall _ (Array.getElem?_eq_some_iff.mp ho).1
  have hord : ord = C := by rw [s.split]; simp
  have ob := s.ob
  simp only [dops] at ob
  have hpl : ∀ p ∈ pd, lis listed p.1 = true := fun p hp => by
    obtain ⟨_, _, _, c, q3, q4, _⟩ := s.pdn p hp
    rw [← q4]; exact hl c (by rw [hord]; exact q3)
  have hnd : (pd.map (·.2.1)).Nodup := by
    have h1 := s.pdd
    have h2 := s.pdu
    clear ob hpl
    generalize pd = l at h1 h2
    induction l with
    | nil => simp
    | cons p l ih =>
      simp only [List.map_cons, List.nodup_cons] at h1 ⊢
      refine ⟨fun hm => ?_, ih h1.2 (fun a ha b hb => h2 a (by simp [ha]) b (by simp [hb]))⟩
      obtain ⟨q, hq, hqe⟩ := List.mem_map.mp hm
      have := h2 q (by simp [hq]) p (by simp) hqe
      subst this
      exact h1.1 (List.mem_map.mpr ⟨q, hq, rfl⟩)
  obtain ⟨r1, _⟩ := bindAll_sound pd H s.st (fun p hp => ⟨(s.pdn p hp).2.2.1, s.pdx p hp (hpl p hp)⟩) hnd (fun p hp q hq b hb hb' => by rw [s.pdb p hp q hq b hb hb'])
  refine ⟨.normal, f, _, g, ob, trivial, r1, s.tr.of_t (fun x => ?_) (by rw [s.fc]; rfl)⟩
  rw [s.fc]
  simp only [FS]
  cases hw : wrOf ord x with
  | none => rfl
  | some q =>
    obtain ⟨hq, _⟩ := wrOf_some hw
    have : inC C q.i = true := inC_true.mpr ⟨q, by rw [← hord]; exact hq, rfl⟩
    simp only [hl q hq, this]

/-- the canonical order's next operation of the ordered kind is done -/
theorem DSt.run_E {listed : Array Bool} {C R : List DOp} {d : DOp} {vals : Nat → AV} {f : AF} {H : AH} {pd : List (Nat × Nat × ABlk)} {rd : List Nat} {g : G} {a : Act} {w : World}
    (s : DSt P mu Q n ops B ord f0 g0 H0 w0 listed C (d :: R) vals f H pd rd g a w) (hk : d.kd = .E)
    {o : Oper} (ho : ops[d.i]? = some o) (hr : ∀ e ∈ o.after, Region.binds .any e = true → lis listed e.on = true)
    {K : Act → World → Prop}
    (hK : ∀ vals' f' H' pd' rd' g' a' w', DSt P mu Q n ops B ord f0 g0 H0 w0 (listed.setIfInBounds d.i true) (C ++ [d]) R vals' f' H' pd' rd' g' a' w' → K a' w') :
    wpOp P ops (Post n Q.run g0 H0 w0) d.i K a w := by
  have hord : d ∈ ord := by rw [s.split]; simp
  obtain ⟨o', ho', hco⟩ := h.op d hord
  rw [ho] at ho'; cases ho'
  obtain ⟨c1, c2, c3⟩ := cmpOp_slot hco
  have hi : d.i < listed.size := by rw [s.sz]; exact (Array.getElem?_eq_some_iff.mp ho).1
  have hnl : lis listed d.i = false := by
    cases hx : lis listed d.i with
    | false => rfl
    | true =>
      obtain ⟨c, hc, hci⟩ := s.dc _ hx
      exact absurd hci (in_C_not_R h s.split hc (by simp))
  have hnC : inC C d.i = false := by
    cases hx : inC C d.i with
    | false => rfl
    | true =>
      obtain ⟨c, hc, hci⟩ := inC_true.mp hx
      exact absurd hci (in_C_not_R h s.split hc (by simp))
  have hdo : ∀ i, lis listed i = true → ∃ o, ops[i]? = some o := fun i hi => by
    obtain ⟨c, hc, hci⟩ := s.dc i hi
    obtain ⟨o', ho', _⟩ := h.op c (by rw [s.split]; simp [hc])
    exact ⟨o', by rw [← hci]; exact ho'⟩
  have hagD := agree_D h (f0 := f0) (vals := vals) s.split s.dc s.clo hord ho hnl hr
  have hagC := agree_C h (f0 := f0) (vals := vals) s.split
  have hag : ∀ x ∈ slotsOf d.op, f.t x = (FS ord f0 vals (lis listed)).t x := fun x hx => by rw [s.fc, hagC x hx, hagD x hx]
  have hCi : ∀ c ∈ C, c.i ≠ d.i := fun c hc => in_C_not_R h s.split hc (by simp)
  have hBd : (B d.i).contains d.i = false := by simpa using h.irr hord
  have hCB : ∀ c ∈ C, (B c.i).contains d.i = false := fun c hc => by simpa using C_before h s.split hc
  have hsp : ord = (C ++ [d]) ++ R := by rw [s.split]; simp
  have ob := s.ob
  simp only [dops, hk] at ob
  -- what is laid before it is taken over
  have hl1 : ∀ p ∈ pd.filter fun p => d.bef.contains p.1, p ∈ pd ∧ lis listed p.1 = true := fun p hp => by
    rw [List.mem_filter] at hp
    exact ⟨hp.1, listed_B h hdo s.clo d.i o ho hr p.1 (h.bef d hord p.1 (by simpa using hp.2))⟩
  have hnd : ∀ l : List (Nat × Nat × ABlk), (l.map (·.1)).Nodup → (∀ p ∈ l, p ∈ pd) → (l.map (·.2.1)).Nodup := by
    intro l
    induction l with
    | nil => intro _ _; simp
    | cons p l ih =>
      intro h1 h2
      simp only [List.map_cons, List.nodup_cons] at h1 ⊢
      refine ⟨fun hm => ?_, ih h1.2 (fun a ha => h2 a (by simp [ha]))⟩
      obtain ⟨q, hq, hqe⟩ := List.mem_map.mp hm
      have := s.pdu q (h2 q (by simp [hq])) p (h2 p (by simp)) hqe
      subst this
      exact h1.1 (List.mem_map.mpr ⟨q, hq, rfl⟩)
  have hfn : ∀ (q : Nat × Nat × ABlk → Bool), ((pd.filter q).map (·.1)).Nodup := fun q =>
    List.Sublist.nodup (List.Sublist.map (fun p : Nat × Nat × ABlk => p.1) (List.filter_sublist (p := q) (l := pd))) s.pdd
  obtain ⟨r1, r2, r3, r4⟩ := bindAll_sound (pd.filter fun p => d.bef.contains p.1) H s.st (fun p hp => ⟨(s.pdn p (hl1 p hp).1).2.2.1, s.pdx p (hl1 p hp).1 (hl1 p hp).2⟩)
    (hnd _ (hfn _) (fun p hp => (hl1 p hp).1)) (fun p hp q hq b hb hb' => by rw [s.pdb p (hl1 p hp).1 q (hl1 q hq).1 b hb hb'])
  generalize hH1 : H.bindAll ((pd.filter fun p => d.bef.contains p.1).map (·.2)) = H1 at ob r1 r2 r3 r4
  have hl2 : ∀ p ∈ pd.filter fun p => !d.bef.contains p.1, p ∈ pd ∧ ∀ q ∈ pd.filter fun p => d.bef.contains p.1, q.2.1 ≠ p.2.1 := fun p hp => by
    rw [List.mem_filter] at hp
    refine ⟨hp.1, fun q hq hc => ?_⟩
    rw [List.mem_filter] at hq
    have := s.pdu q hq.1 p hp.1 hc
    subst this
    have h1 := hp.2; rw [hq.2] at h1; cases h1
  have hx2 : ∀ p ∈ pd.filter fun p => !d.bef.contains p.1, lis listed p.1 = true →
      ∃ b obj, g.mu p.2.1 = some b ∧ w.heap[b]? = some obj ∧ BR g p.2.1 p.2.2 obj ∧ (∀ o, g.fz b o = none) ∧ ¬ Mods g H1 b ∧ w0.heap.size ≤ b := fun p hp hpl => by
    obtain ⟨b, obj, e1, e2, e3, e4, e5, e6⟩ := s.pdx p (hl2 p hp).1 hpl
    refine ⟨b, obj, e1, e2, e3, e4, r4 b e5 (fun q hq hqb => ?_), e6⟩
    have := s.pdb q (hl1 q hq).1 p (hl2 p hp).1 b hqb e1
    exact (hl2 p hp).2 q hq (by rw [this])
  -- the state behind it
  have next : ∀ v H' g' a' w', qand d.qt rd H1 H' (dops P mu Q (maskA ord f0) R (f.put d.op.dst v) H' (pd.filter fun p => !d.bef.contains p.1) (if d.qt then rd else [])) → ST g H1 w g' H' w' →
      TR g' n ((FS ord f0 vals (lis listed)).put d.op.dst v) a' → K a' w' := by
    intro v H' g' a' w' hob hst htr
    refine hK (setV vals d.i v) (f.put d.op.dst v) H' (pd.filter fun p => !d.bef.contains p.1) (if d.qt then rd else []) g' _ w' ⟨hsp, ?_, ?_, fun j hj => ?_, clo_set ho hr hi s.clo, fun c hc hcl => ?_, fun c hc hck hcl => ?_, fun c hc hck hcl => ?_, fun c hc hck hcl => ?_, qand_snd hob, fun c hc hck hcl m hm => ?_, r1.trans hst, fun p hp => ?_, fun p hp hpl => ?_, fun p hp hpl => ?_,
      fun p hp q hq => s.pdu p (hl2 p hp).1 q (hl2 q hq).1, fun p hp q hq b hb hb' => ?_, hfn _, by simp [s.sz]⟩
    · refine htr.of_t (fun x => ?_) (by cases d.op.dst <;> rfl)
      have h1 := FS_put h (f0 := f0) (vals := setV vals d.i v) hord (S := lis listed) (S' := lis (listed.setIfInBounds d.i true)) (fun q hq hqi => lis_set_ne (fun hc => hqi hc.symm)) (lis_set_eq hi) x
      rw [FS_setV hnl] at h1
      have h2 : setV vals d.i v d.i = v := by simp [setV]
      rw [h2] at h1; exact h1
    · refine AF_eq (fun x => ?_) (by rw [s.fc]; cases d.op.dst <;> rfl)
      have h1 := FS_put h (f0 := f0) (vals := setV vals d.i v) hord (S := inC C) (S' := inC (C ++ [d])) (fun q hq hqi => by simp [inC, List.any_append]; intro hc; exact absurd hc.symm hqi) (by simp [inC]) x
      rw [FS_setV hnC] at h1
      have h2 : setV vals d.i v d.i = v := by simp [setV]
      rw [h2, ← s.fc] at h1
      exact h1
    · by_cases hij : d.i = j
      · exact ⟨d, by simp, hij⟩
      · rw [lis_set_ne hij] at hj
        obtain ⟨c, hc, hci⟩ := s.dc j hj; exact ⟨c, by simp [hc], hci⟩
    · by_cases hij : d.i = c.i
      · rw [← hij, lis_set_eq hi] at hcl; cases hcl
      · rw [lis_set_ne hij] at hcl
        rcases List.mem_append.mp hc with hc | hc
        · exact s.lagE c hc hcl
        · exact absurd (by rw [List.mem_singleton.mp hc]) hij
    · by_cases hij : d.i = c.i
      · rw [← hij, lis_set_eq hi] at hcl; cases hcl
      · rw [lis_set_ne hij] at hcl
        rcases List.mem_append.mp hc with hc | hc
        · rw [FS_setV (hCB c hc)]
          have : setV vals d.i v c.i = vals c.i := by simp only [setV, hCi c hc, if_false]
          rw [this]; exact s.lagF c hc hck hcl
        · exact absurd (by rw [List.mem_singleton.mp hc]) hij
    · by_cases hij : d.i = c.i
      · rw [← hij, lis_set_eq hi] at hcl; cases hcl
      · rw [lis_set_ne hij] at hcl
        rcases List.mem_append.mp hc with hc | hc
        · cases hqt : d.qt with
          | false =>
            have hb := h.chainR C d R s.split (by rw [hk]; trivial) hqt c hc (by rw [hck]; trivial)
            have := listed_B h hdo s.clo d.i o ho hr c.i hb
            rw [hcl] at this; cases this
          | true =>
            rw [hqt] at hob
            unfold qand at hob
            simp only [if_true] at hob
            rw [FS_setV (hCB c hc)]
            have : setV vals d.i v c.i = vals c.i := by simp only [setV, hCi c hc, if_false]
            rw [this]
            refine rstep_own (s.lagR c hc hck hcl) fun m hmr B' hm => ?_
            have hlt : m < H.next := s.st.wr.own_lt (by rw [hm]; simp)
            rw [hob.1 m (s.rdn c hc hck hcl m hmr), r3 m fun p hp hpm => by
              have := (s.pdn p (hl1 p hp).1).2.2.1
              rw [hpm, hm] at this; cases this]
            exact hm
        · exact absurd (by rw [List.mem_singleton.mp hc]) hij
    · by_cases hij : d.i = c.i
      · rw [← hij, lis_set_eq hi] at hcl; cases hcl
      · rw [lis_set_ne hij] at hcl
        rcases List.mem_append.mp hc with hc | hc
        · rw [FS_setV (hCB c hc)]
          have : setV vals d.i v c.i = vals c.i := by simp only [setV, hCi c hc, if_false]
          rw [this]
          obtain ⟨nm, B1, q1, q2, q3⟩ := s.lagA c hc hck hcl
          refine ⟨nm, B1, ?_, q2, q3⟩
          rw [List.mem_filter]
          refine ⟨q1, ?_⟩
          cases hb : d.bef.contains c.i with
          | false => rfl
          | true =>
            have := listed_B h hdo s.clo d.i o ho hr c.i (h.bef d hord c.i (by simpa using hb))
            rw [hcl] at this; cases this
        · exact absurd (by rw [List.mem_singleton.mp hc]) hij
    · by_cases hij : d.i = c.i
      · rw [← hij, lis_set_eq hi] at hcl; cases hcl
      · rw [lis_set_ne hij] at hcl
        rcases List.mem_append.mp hc with hc | hc
        · rw [FS_setV (hCB c hc)] at hm
          have hin := s.rdn c hc hck hcl m hm
          cases hqt : d.qt with
          | true => simp only [if_true]; exact hin
          | false =>
            have hb := h.chainR C d R s.split (by rw [hk]; trivial) hqt c hc (by rw [hck]; trivial)
            have := listed_B h hdo s.clo d.i o ho hr c.i hb
            rw [hcl] at this; cases this
        · exact absurd (by rw [List.mem_singleton.mp hc]) hij
    · obtain ⟨q0, q1, q2, c, q3, q4, q5⟩ := s.pdn p (hl2 p hp).1
      have hown1 : H1.own p.2.1 = none := by rw [r3 _ (hl2 p hp).2]; exact q2
      refine ⟨q0, Nat.lt_of_lt_of_le (by rw [r2]; exact q1) hst.next, ?_, c, by simp [q3], q4, q5⟩
      cases hx : H'.own p.2.1 with
      | none => rfl
      | some B1 =>
        obtain ⟨b, obj, e1, _⟩ := hst.wr.own _ _ hx
        have e2 := e1
        rw [hst.names _ (by rw [r2]; exact q1)] at e1
        by_cases hpl : lis listed p.1 = true
        · obtain ⟨b', ob', f1, f2, f3, f4, f5, f6⟩ := hx2 p hp hpl
          rw [e1] at f1; cases f1
          have := (hst.same b (r1.wr.bnext _ b e1) f5).2.1
          exact absurd (.inl ⟨p.2.1, by rw [hx]; simp, e2⟩) this
        · rw [s.pdl p (hl2 p hp).1 (by simpa using hpl)] at e1; cases e1
    · have hpne : d.i ≠ p.1 := fun hc => by
        obtain ⟨_, _, _, c, q3, q4, _⟩ := s.pdn p (hl2 p hp).1
        exact hCi c q3 (q4.trans hc.symm)
      rw [lis_set_ne hpne] at hpl
      rw [hst.names _ (by rw [r2]; exact (s.pdn p (hl2 p hp).1).2.1)]; exact s.pdl p (hl2 p hp).1 hpl
    · have hpne : d.i ≠ p.1 := fun hc => by
        obtain ⟨_, _, _, c, q3, q4, _⟩ := s.pdn p (hl2 p hp).1
        exact hCi c q3 (q4.trans hc.symm)
      rw [lis_set_ne hpne] at hpl
      exact pdx_step hst (by rw [r2]; exact (s.pdn p (hl2 p hp).1).2.1) (hx2 p hp hpl) r1.wr
    · rw [hst.names _ (by rw [r2]; exact (s.pdn p (hl2 p hp).1).2.1)] at hb
      rw [hst.names _ (by rw [r2]; exact (s.pdn q (hl2 q hq).1).2.1)] at hb'
      exact s.pdb p (hl2 p hp).1 q (hl2 q hq).1 b hb hb'
  unfold wpOp
  rw [ho]
  simp only
  have hgg : guardC f d.op.guard = guardC (FS ord f0 vals (lis listed)) d.op.guard := guardC_agree hag
  cases hgv : guardC f d.op.guard with
  | none => unfold estep at ob; rw [hgv] at ob; exact ob.elim
  | some b =>
    rw [guardC_sound s.tr hco (by rw [← hgg]; exact hgv)]
    cases b with
    | true =>
      simp only [if_true]
      have hast := estep_astep hag hgv ob
      rw [c2, c3] at hast
      refine .inl (astep_sound (n := n) r1.wr s.tr c1 hast (fun f' H' g' a' w' hK' hst' htr' => ?_) (fun v H' g' w' ch hq hx hst' => ?_))
      · obtain ⟨v, rfl, hK'⟩ := hK'
        rw [← c2] at hK' htr'
        exact next v H' g' a' w' hK' hst' htr'
      · refine ⟨.panic v, maskA ord f0, H', g', hq, hx, r1.trans hst', ⟨s.tr.size, fun x => ?_, s.tr.ds.mono hst'.le⟩⟩
        simp only [maskA]
        split
        · exact .any
        · rename_i hany
          have := (s.tr.t x).mono hst'.le
          simp only [FS] at this
          cases hw : wrOf ord x with
          | none => rw [hw] at this; exact this
          | some q =>
            obtain ⟨hq1, hq2⟩ := wrOf_some hw
            exact absurd (List.any_eq_true.mpr ⟨q, hq1, by simp [hq2]⟩) hany
    | false =>
      simp only [Bool.false_eq_true, if_false]
      have ob' := ob
      unfold estep at ob'
      rw [hgv] at ob'
      simp only [Bool.false_eq_true, if_false] at ob'
      rw [← c2]
      exact next (.v (.tuple #[])) H1 g _ w ob' (ST.refl r1.wr) (s.tr.put (by rw [c2]; exact c1) .v)

/-- whatever is ready is done -/
theorem DSt.any : ∀ (fuel : Nat) (listed : Array Bool) (C R : List DOp) (vals : Nat → AV) (f : AF) (H : AH) (pd : List (Nat × Nat × ABlk)) (rd : List Nat) (g : G) (a : Act) (w : World),
    DSt P mu Q n ops B ord f0 g0 H0 w0 listed C R vals f H pd rd g a w → (List.range ops.size).countP (fun j => !lis listed j) ≤ fuel →
    wpAny P .any ops (Post n Q.run g0 H0 w0) fuel listed a w := by
  have hready : ∀ {listed : Array Bool} {C R : List DOp} {vals : Nat → AV} {f : AF} {H : AH} {pd : List (Nat × Nat × ABlk)} {rd : List Nat} {g : G} {a : Act} {w : World},
      DSt P mu Q n ops B ord f0 g0 H0 w0 listed C R vals f H pd rd g a w → Region.ready .any ops listed = [] → ∀ i, i < ops.size → lis listed i = true := by
    intro listed C R vals f H pd rd g a w s hr i
    induction i using Nat.strongRecOn with
    | _ i ih =>
      intro hi
      cases hx : lis listed i with
      | true => rfl
      | false =>
        obtain ⟨o, ho⟩ : ∃ o, ops[i]? = some o := ⟨ops[i], Array.getElem?_eq_getElem hi⟩
        have : i ∈ Region.ready .any ops listed := by
          rw [mem_ready]
          refine ⟨?_, o, ho, fun e he hb => ih e.on (h.down i o ho e he hb) (Nat.lt_trans (h.down i o ho e he hb) hi)⟩
          have hs : i < listed.size := by rw [s.sz]; exact hi
          simp only [lis, Array.getD_eq_getD_getElem?, Array.getElem?_eq_getElem hs, Option.getD_some] at hx ⊢
          exact hx
        rw [hr] at this; cases this
  intro fuel
  induction fuel with
  | zero =>
    intro listed C R vals f H pd rd g a w s hc
    have hall : ∀ i, i < ops.size → lis listed i = true := fun i hi => by
      have h0 : (List.range ops.size).countP (fun j => !lis listed j) = 0 := by omega
      rw [List.countP_eq_zero] at h0
      have := h0 i (List.mem_range.mpr hi)
      simpa using this
    refine ⟨?_, s.all_done h hall⟩
    cases hr : Region.ready .any ops listed with
    | nil => rfl
    | cons i l =>
      have hi : i ∈ Region.ready .any ops listed := by rw [hr]; simp
      rw [mem_ready] at hi
      obtain ⟨h1, o, ho, _⟩ := hi
      have hs := (Array.getElem?_eq_some_iff.mp ho).1
      have h2 := hall i hs
      have hs' : i < listed.size := by rw [s.sz]; exact hs
      simp only [lis, Array.getD_eq_getD_getElem?, Array.getElem?_eq_getElem hs', Option.getD_some] at h1 h2
      rw [h1] at h2; cases h2
  | succ fuel ih =>
    intro listed C R vals f H pd rd g a w s hc
    refine ⟨fun hr => s.all_done h (hready s hr), fun i hi => ?_⟩
    rw [mem_ready] at hi
    obtain ⟨h1, o, ho, hr⟩ := hi
    have hs := (Array.getElem?_eq_some_iff.mp ho).1
    have hs' : i < listed.size := by rw [s.sz]; exact hs
    have hnl : lis listed i = false := by
      simp only [lis, Array.getD_eq_getD_getElem?, Array.getElem?_eq_getElem hs', Option.getD_some] at h1 ⊢
      exact h1
    have hcount : (List.range ops.size).countP (fun j => !lis (listed.setIfInBounds i true) j) ≤ fuel := by
      have hlt : (List.range ops.size).countP (fun j => !lis (listed.setIfInBounds i true) j) < (List.range ops.size).countP (fun j => !lis listed j) := by
        have gen : ∀ (l : List Nat), i ∈ l → l.countP (fun j => !lis (listed.setIfInBounds i true) j) < l.countP (fun j => !lis listed j) := by
          have le : ∀ (l : List Nat), l.countP (fun j => !lis (listed.setIfInBounds i true) j) ≤ l.countP (fun j => !lis listed j) := fun l =>
            List.countP_mono_left fun j _ hj => by
              by_cases hij : i = j
              · subst hij; rw [lis_set_eq hs'] at hj; cases hj
              · rw [lis_set_ne hij] at hj; exact hj
          intro l
          induction l with
          | nil => intro hm; cases hm
          | cons j l ihl =>
            intro hm
            simp only [List.countP_cons]
            by_cases hij : i = j
            · subst hij
              rw [lis_set_eq hs', hnl]
              have := le l
              simp; omega
            · have := ihl (by rcases List.mem_cons.mp hm with hm | hm
                              · exact absurd hm hij
                              · exact hm)
              rw [lis_set_ne hij]
              omega
        exact gen _ (List.mem_range.mpr hs)
      omega
    -- the canonical order goes on up to it
    have key : ∀ (R : List DOp) (C : List DOp) (vals : Nat → AV) (f : AF) (H : AH) (pd : List (Nat × Nat × ABlk)) (rd : List Nat),
        DSt P mu Q n ops B ord f0 g0 H0 w0 listed C R vals f H pd rd g a w → wpOp P ops (Post n Q.run g0 H0 w0) i (wpAny P .any ops (Post n Q.run g0 H0 w0) fuel (listed.setIfInBounds i true)) a w := by
      have inCase : ∀ (C R : List DOp) (vals : Nat → AV) (f : AF) (H : AH) (pd : List (Nat × Nat × ABlk)) (rd : List Nat), DSt P mu Q n ops B ord f0 g0 H0 w0 listed C R vals f H pd rd g a w → ∀ d ∈ C, d.i = i →
          wpOp P ops (Post n Q.run g0 H0 w0) i (wpAny P .any ops (Post n Q.run g0 H0 w0) fuel (listed.setIfInBounds i true)) a w := by
        intro C R vals f H pd rd s d hd hdi
        subst hdi
        cases hk : d.kd with
        | E => exact absurd hk (s.lagE d hd hnl)
        | F => exact s.lagF_run h hd hk hnl ho hr fun g' a' w' s' => ih _ _ _ _ _ _ _ _ _ _ _ s' hcount
        | A => exact s.lagA_run h hd hk hnl ho hr fun g' a' w' s' => ih _ _ _ _ _ _ _ _ _ _ _ s' hcount
        | R => exact s.lagR_run h hd hk hnl ho hr fun g' a' w' s' => ih _ _ _ _ _ _ _ _ _ _ _ s' hcount
      intro R
      induction R with
      | nil =>
        intro C vals f H pd rd s
        obtain ⟨d, hd, hdi⟩ := h.cover i hs
        have e := s.split
        rw [List.append_nil] at e
        exact inCase C [] vals f H pd rd s d (by rw [← e]; exact hd) hdi
      | cons d R ihR =>
        intro C vals f H pd rd s
        by_cases hdi : d.i = i
        · cases hk : d.kd with
          | E =>
            subst hdi
            exact s.run_E h hk ho hr fun vals' f' H' pd' rd' g' a' w' s' => ih _ _ _ _ _ _ _ _ _ _ _ s' hcount
          | F =>
            obtain ⟨vals', f', H', pd', rd', s'⟩ := s.adv h (by rw [hk]; simp)
            exact inCase _ _ _ _ _ _ _ s' d (by simp) hdi
          | A =>
            obtain ⟨vals', f', H', pd', rd', s'⟩ := s.adv h (by rw [hk]; simp)
            exact inCase _ _ _ _ _ _ _ s' d (by simp) hdi
          | R =>
            obtain ⟨vals', f', H', pd', rd', s'⟩ := s.adv h (by rw [hk]; simp)
            exact inCase _ _ _ _ _ _ _ s' d (by simp) hdi
        · by_cases hin : ∃ c ∈ C, c.i = i
          · obtain ⟨c, hc, hci⟩ := hin
            exact inCase _ _ _ _ _ _ _ s c hc hci
          · have hne : d.kd ≠ .E := by
              intro hk
              obtain ⟨q, hq, hqi⟩ := h.cover i hs
              have hqR : q ∈ R := by
                rw [s.split] at hq
                rcases List.mem_append.mp hq with hq | hq
                · exact absurd ⟨q, hq, hqi⟩ hin
                · rcases List.mem_cons.mp hq with rfl | hq
                  · exact absurd hqi hdi
                  · exact hq
              have hb := h.chain C d R s.split (by rw [hk]; trivial) q hqR
              rw [hqi] at hb
              have hdo : ∀ i, lis listed i = true → ∃ o, ops[i]? = some o := fun i hi => by
                obtain ⟨c, hc, hci⟩ := s.dc i hi
                obtain ⟨o', ho', _⟩ := h.op c (by rw [s.split]; simp [hc])
                exact ⟨o', by rw [← hci]; exact ho'⟩
              have hld := listed_B h hdo s.clo i o ho hr d.i hb
              obtain ⟨c, hc, hci⟩ := s.dc _ hld
              exact absurd hci (in_C_not_R h s.split hc (by simp))
            obtain ⟨vals', f', H', pd', rd', s'⟩ := s.adv h hne
            exact ihR _ _ _ _ _ _ s'
    exact key R C vals f H pd rd s

end

/-- a region whose order is open -/
theorem AWP.draw {P : Program} {mu : List Nat} {Q : Kont} {n : Nat} {ops : Array Oper} {B : Nat → List Nat} {ord : List DOp} (hm : P.follows .mixedOrders = true) (h : DOk n ops B ord) {id : Nat} {f : AF} {H : AH}
    (ob : dops P mu Q (maskA ord f) ord f H [] []) : AWP P n (.region id ops true) Q.run f H := by
  intro g a w hw ht
  refine wp_region_any hm ?_
  have hw' : WR g H { w with drawn := w.drawn + 1 } := hw.of_heap rfl
  have hl0 : ∀ i, lis (Array.replicate ops.size false) i = false := fun i => by
    simp only [lis, Array.getD_eq_getD_getElem?, Array.getElem?_replicate]
    split <;> rfl
  have hF : FS ord f (fun _ => .any) (lis (Array.replicate ops.size false)) = f := by
    refine AF_eq (fun x => ?_) rfl
    simp only [FS]
    cases wrOf ord x with
    | none => rfl
    | some q => simp only [hl0, Bool.false_eq_true, if_false]
  have hF' : FS ord f (fun _ => .any) (inC []) = f := by
    refine AF_eq (fun x => ?_) rfl
    simp only [FS]
    cases wrOf ord x with
    | none => rfl
    | some q => simp [inC]
  have hst : ST g H w g H { w with drawn := w.drawn + 1 } := ST.of_heap hw rfl ⟨rfl, rfl, rfl⟩
  have s : DSt P mu Q n ops B ord f g H w (Array.replicate ops.size false) [] ord (fun _ => .any) f H [] [] g a { w with drawn := w.drawn + 1 } :=
    ⟨rfl, by rw [hF]; exact ht, hF'.symm, (fun i hi => by rw [hl0] at hi; cases hi), (fun i o hi => by rw [hl0] at hi; cases hi), (fun d hd => by cases hd), (fun d hd => by cases hd), (fun d hd => by cases hd), (fun d hd => by cases hd), ob, (fun d hd => by cases hd), hst,
      fun p hp => (by cases hp), fun p hp => (by cases hp), fun p hp => (by cases hp), fun p hp => (by cases hp), fun p hp => (by cases hp), (by simp), (by simp)⟩
  refine DSt.any h ops.size _ [] ord _ _ _ _ _ _ _ _ s ?_
  have := List.countP_le_length (p := fun j => !lis (Array.replicate ops.size false) j) (l := List.range ops.size)
  simpa using this

end Go.Proofs.YtchpcjmgifnmdaaDoor.Ab

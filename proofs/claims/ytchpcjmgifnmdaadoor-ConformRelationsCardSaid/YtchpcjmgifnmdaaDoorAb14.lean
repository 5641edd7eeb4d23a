/- A region whose order is open: one canonical order of its operations is enough. Part three: a run in whatever order. -/
import Derived.Test.YtchpcjmgifnmdaaDoorAb13
namespace Go.Proofs.YtchpcjmgifnmdaaDoor.Ab
open Go

section
variable {P : Program} {mu : List Nat} {Q : Kont} {n : Nat} {ops : Array Oper} {B : Nat → List Nat} {ord : List DOp} {f0 : AF} {g0 : G} {H0 : AH} {w0 : World}
variable (h : DOk n ops B ord)

theorem lis_set_ne {l : Array Bool} {i j : Nat} (hij : i ≠ j) : lis (l.setIfInBounds i true) j = lis l j := getD_set_ne false hij
theorem lis_set_eq {l : Array Bool} {i : Nat} (hi : i < l.size) : lis (l.setIfInBounds i true) i = true := by simp [lis, hi]

/-- a region's operation, done: what an operation leaves, in the listed state -/
theorem TR.of_t {g : G} {n : Nat} {f f' : AF} {a : Act} (ht : TR g n f a) (hx : ∀ x, f.t x = f'.t x) (hd : f.ds = f'.ds) : TR g n f' a := by
  rw [AF_eq hx hd] at ht; exact ht

include h in
theorem tr_listed {listed : Array Bool} {vals : Nat → AV} {d : DOp} (hd : d ∈ ord) (hi : d.i < listed.size) {g : G} {a : Act} {x : Value}
    (ht : TR g n (FS ord f0 vals (lis listed)) a) (hs : slotOk n d.op.dst = true) (hv : VR g (vals d.i) x) :
    TR g n (FS ord f0 vals (lis (listed.setIfInBounds d.i true))) (a.put d.op.dst x) := by
  refine (ht.put hs hv).of_t (FS_put h hd (fun q hq hqi => lis_set_ne (fun hc => hqi hc.symm)) (lis_set_eq hi)) ?_
  cases d.op.dst <;> rfl

theorem clo_set {listed : Array Bool} {i : Nat} {o : Oper} (ho : ops[i]? = some o) (hr : ∀ e ∈ o.after, Region.binds .any e = true → lis listed e.on = true) (hi : i < listed.size)
    (hclo : ∀ i o, lis listed i = true → ops[i]? = some o → ∀ e ∈ o.after, Region.binds .any e = true → lis listed e.on = true) :
    ∀ j o, lis (listed.setIfInBounds i true) j = true → ops[j]? = some o → ∀ e ∈ o.after, Region.binds .any e = true → lis (listed.setIfInBounds i true) e.on = true := by
  intro j o' hj ho' e he hb
  have key : lis listed e.on = true := by
    by_cases hij : i = j
    · subst hij; rw [ho] at ho'; cases ho'; exact hr e he hb
    · rw [lis_set_ne hij] at hj; exact hclo j o' hj ho' e he hb
  by_cases hie : i = e.on
  · rw [← hie]; exact lis_set_eq hi
  · rw [lis_set_ne hie]; exact key

/-- what a step of the machine leaves of what is laid and not yet taken over -/
theorem pdx_step {g g' : G} {H H' : AH} {w w' : World} {nm : Nat} {B' : ABlk} (hst : ST g H w g' H' w') (hn : nm < H.next)
    (hx : ∃ b obj, g.mu nm = some b ∧ w.heap[b]? = some obj ∧ BR g nm B' obj ∧ (∀ o, g.fz b o = none) ∧ ¬ Mods g H b ∧ w0.heap.size ≤ b) (hw : WR g H w) :
    ∃ b obj, g'.mu nm = some b ∧ w'.heap[b]? = some obj ∧ BR g' nm B' obj ∧ (∀ o, g'.fz b o = none) ∧ ¬ Mods g' H' b ∧ w0.heap.size ≤ b := by
  obtain ⟨b, obj, e1, e2, e3, e4, e5, e6⟩ := hx
  obtain ⟨s1, s2, s3⟩ := hst.same b (hw.bnext nm b e1) e5
  exact ⟨b, obj, by rw [hst.names nm hn]; exact e1, by rw [s1]; exact e2, e3.mono hst.le, fun o => by rw [s3 o]; exact e4 o, s2, e6⟩

/-- a block of the call's own is read -/
theorem aread_sound {g : G} {H : AH} {w : World} {e : Operand → AV} {ρ : Operand → Value} (he : ∀ x, VR g (e x) (ρ x)) (hw : WR g H w) {o : Oper} {v : AV} (h : aread P e H o.op = some v) :
    ∃ x, (execOp ρ o).run P w = .ok (.value x) w ∧ VR g v x := by
  unfold aread at h
  split at h
  · rename_i t a hop
    split at h
    · rename_i n k ha
      split at h
      · rename_i l hl
        have hv := he a
        rw [ha] at hv
        obtain ⟨x, h1, h2⟩ := load_own (P := P) hw hv hl h
        refine ⟨x, ?_, h2⟩
        unfold execOp
        rw [hop]
        simp only [Sem.run_bind, h1, Result.andThen_ok]
        rfl
      · cases h
    · cases h
  · cases h

include h in
/-- an operation that the canonical order has behind it is done -/
theorem DSt.lagF_run {listed : Array Bool} {C R : List DOp} {vals : Nat → AV} {f : AF} {H : AH} {pd : List (Nat × Nat × ABlk)} {rd : List Nat} {g : G} {a : Act} {w : World}
    (s : DSt P mu Q n ops B ord f0 g0 H0 w0 listed C R vals f H pd rd g a w) {d : DOp} (hd : d ∈ C) (hk : d.kd = .F) (hnl : lis listed d.i = false)
    {o : Oper} (ho : ops[d.i]? = some o) (hr : ∀ e ∈ o.after, Region.binds .any e = true → lis listed e.on = true)
    {K : Act → World → Prop} {R' : Exit → Act → World → Prop}
    (hK : ∀ g' a' w', DSt P mu Q n ops B ord f0 g0 H0 w0 (listed.setIfInBounds d.i true) C R vals f H pd rd g' a' w' → K a' w') :
    wpOp P ops R' d.i K a w := by
  have hord : d ∈ ord := by rw [s.split]; simp [hd]
  obtain ⟨o', ho', hco⟩ := h.op d hord
  rw [ho] at ho'; cases ho'
  obtain ⟨c1, c2, c3⟩ := cmpOp_slot hco
  have hi : d.i < listed.size := by rw [s.sz]; exact (Array.getElem?_eq_some_iff.mp ho).1
  have hag := agree_D h (f0 := f0) (vals := vals) s.split s.dc s.clo hord ho hnl hr
  have hf := s.lagF d hd hk hnl
  rw [← fstep_agree hag] at hf
  unfold fstep at hf
  have next : ∀ g' x w', ST g H w g' H w' → VR g' (vals d.i) x → DSt P mu Q n ops B ord f0 g0 H0 w0 (listed.setIfInBounds d.i true) C R vals f H pd rd g' (a.put d.op.dst x) w' := by
    intro g' x w' hst hv
    have hpne : ∀ p ∈ pd, d.i ≠ p.1 := fun p hp hc => by
      obtain ⟨_, _, _, c, q3, q4, q5⟩ := s.pdn p hp
      have : c = d := inj_of_nodup (·.i) ord h.nodup c (by rw [s.split]; simp [q3]) d hord (q4.trans hc.symm)
      subst this; rw [hk] at q5; cases q5
    refine ⟨s.split, tr_listed h hord hi (s.tr.mono hst.le) (by rw [c2]; exact c1) hv, s.fc, fun j hj => ?_, clo_set ho hr hi s.clo, fun c hc hcl => ?_, fun c hc hck hcl => ?_, fun c hc hck hcl => ?_, fun c hc hck hcl => ?_, s.ob, fun c hc hck hcl => ?_, s.st.trans hst, s.pdn, fun p hp hpl => ?_, fun p hp hpl => ?_, s.pdu, fun p hp q hq b hb hb' => ?_, s.pdd, by simp [s.sz]⟩
    · by_cases hij : d.i = j
      · exact ⟨d, hd, hij⟩
      · rw [lis_set_ne hij] at hj; exact s.dc j hj
    · by_cases hij : d.i = c.i
      · rw [← hij, lis_set_eq hi] at hcl; cases hcl
      · rw [lis_set_ne hij] at hcl; exact s.lagE c hc hcl
    · by_cases hij : d.i = c.i
      · rw [← hij, lis_set_eq hi] at hcl; cases hcl
      · rw [lis_set_ne hij] at hcl; exact s.lagF c hc hck hcl
    · by_cases hij : d.i = c.i
      · rw [← hij, lis_set_eq hi] at hcl; cases hcl
      · rw [lis_set_ne hij] at hcl; exact s.lagR c hc hck hcl
    · by_cases hij : d.i = c.i
      · rw [← hij, lis_set_eq hi] at hcl; cases hcl
      · rw [lis_set_ne hij] at hcl; exact s.lagA c hc hck hcl
    · by_cases hij : d.i = c.i
      · rw [← hij, lis_set_eq hi] at hcl; cases hcl
      · rw [lis_set_ne hij] at hcl; exact s.rdn c hc hck hcl
    · rw [lis_set_ne (hpne p hp)] at hpl
      rw [hst.names _ (s.pdn p hp).2.1]; exact s.pdl p hp hpl
    · rw [lis_set_ne (hpne p hp)] at hpl
      exact pdx_step hst (s.pdn p hp).2.1 (s.pdx p hp hpl) s.st.wr
    · rw [hst.names _ (s.pdn p hp).2.1] at hb
      rw [hst.names _ (s.pdn q hq).2.1] at hb'
      exact s.pdb p hp q hq b hb hb'
  unfold wpOp
  rw [ho]
  simp only
  split at hf
  · cases hf
  · rename_i b hb
    rw [guardC_sound s.tr hco hb]
    cases b with
    | true =>
      simp only [if_true] at hf ⊢
      rw [c2, c3] at hf
      obtain ⟨x, w', g', h1, h2, h3⟩ := aflo_sound (P := P) (ρ := a.eval) s.tr.ev s.st.wr hf
      refine .inl ?_
      unfold Oper.wp
      rw [h1, Oper.upon_value, ← c2]
      exact hK _ _ _ (next g' x w' h3 h2)
    | false =>
      simp only [Bool.false_eq_true, if_false, Option.some.injEq] at hf ⊢
      rw [← c2]
      exact hK _ _ _ (next g undef w (ST.refl s.st.wr) (by rw [← hf]; exact .v))

include h in
theorem DSt.lagR_run {listed : Array Bool} {C R : List DOp} {vals : Nat → AV} {f : AF} {H : AH} {pd : List (Nat × Nat × ABlk)} {rd : List Nat} {g : G} {a : Act} {w : World}
    (s : DSt P mu Q n ops B ord f0 g0 H0 w0 listed C R vals f H pd rd g a w) {d : DOp} (hd : d ∈ C) (hk : d.kd = .R) (hnl : lis listed d.i = false)
    {o : Oper} (ho : ops[d.i]? = some o) (hr : ∀ e ∈ o.after, Region.binds .any e = true → lis listed e.on = true)
    {K : Act → World → Prop} {R' : Exit → Act → World → Prop}
    (hK : ∀ g' a' w', DSt P mu Q n ops B ord f0 g0 H0 w0 (listed.setIfInBounds d.i true) C R vals f H pd rd g' a' w' → K a' w') :
    wpOp P ops R' d.i K a w := by
  have hord : d ∈ ord := by rw [s.split]; simp [hd]
  obtain ⟨o', ho', hco⟩ := h.op d hord
  rw [ho] at ho'; cases ho'
  obtain ⟨c1, c2, c3⟩ := cmpOp_slot hco
  have hi : d.i < listed.size := by rw [s.sz]; exact (Array.getElem?_eq_some_iff.mp ho).1
  have hag := agree_D h (f0 := f0) (vals := vals) s.split s.dc s.clo hord ho hnl hr
  have hf := s.lagR d hd hk hnl
  rw [← rstep_agree hag] at hf
  unfold rstep at hf
  have next : ∀ g' x w', ST g H w g' H w' → VR g' (vals d.i) x → DSt P mu Q n ops B ord f0 g0 H0 w0 (listed.setIfInBounds d.i true) C R vals f H pd rd g' (a.put d.op.dst x) w' := by
    intro g' x w' hst hv
    have hpne : ∀ p ∈ pd, d.i ≠ p.1 := fun p hp hc => by
      obtain ⟨_, _, _, c, q3, q4, q5⟩ := s.pdn p hp
      have : c = d := inj_of_nodup (·.i) ord h.nodup c (by rw [s.split]; simp [q3]) d hord (q4.trans hc.symm)
      subst this; rw [hk] at q5; cases q5
    refine ⟨s.split, tr_listed h hord hi (s.tr.mono hst.le) (by rw [c2]; exact c1) hv, s.fc, fun j hj => ?_, clo_set ho hr hi s.clo, fun c hc hcl => ?_, fun c hc hck hcl => ?_, fun c hc hck hcl => ?_, fun c hc hck hcl => ?_, s.ob, fun c hc hck hcl => ?_, s.st.trans hst, s.pdn, fun p hp hpl => ?_, fun p hp hpl => ?_, s.pdu, fun p hp q hq b hb hb' => ?_, s.pdd, by simp [s.sz]⟩
    · by_cases hij : d.i = j
      · exact ⟨d, hd, hij⟩
      · rw [lis_set_ne hij] at hj; exact s.dc j hj
    · by_cases hij : d.i = c.i
      · rw [← hij, lis_set_eq hi] at hcl; cases hcl
      · rw [lis_set_ne hij] at hcl; exact s.lagE c hc hcl
    · by_cases hij : d.i = c.i
      · rw [← hij, lis_set_eq hi] at hcl; cases hcl
      · rw [lis_set_ne hij] at hcl; exact s.lagF c hc hck hcl
    · by_cases hij : d.i = c.i
      · rw [← hij, lis_set_eq hi] at hcl; cases hcl
      · rw [lis_set_ne hij] at hcl; exact s.lagR c hc hck hcl
    · by_cases hij : d.i = c.i
      · rw [← hij, lis_set_eq hi] at hcl; cases hcl
      · rw [lis_set_ne hij] at hcl; exact s.lagA c hc hck hcl
    · by_cases hij : d.i = c.i
      · rw [← hij, lis_set_eq hi] at hcl; cases hcl
      · rw [lis_set_ne hij] at hcl; exact s.rdn c hc hck hcl
    · rw [lis_set_ne (hpne p hp)] at hpl
      rw [hst.names _ (s.pdn p hp).2.1]; exact s.pdl p hp hpl
    · rw [lis_set_ne (hpne p hp)] at hpl
      exact pdx_step hst (s.pdn p hp).2.1 (s.pdx p hp hpl) s.st.wr
    · rw [hst.names _ (s.pdn p hp).2.1] at hb
      rw [hst.names _ (s.pdn q hq).2.1] at hb'
      exact s.pdb p hp q hq b hb hb'
  unfold wpOp
  rw [ho]
  simp only
  split at hf
  · cases hf
  · rename_i b hb
    rw [guardC_sound s.tr hco hb]
    cases b with
    | true =>
      simp only [if_true] at hf ⊢
      rw [c2, c3] at hf
      refine .inl ?_
      unfold Oper.wp
      split at hf
      · rename_i v hv
        obtain ⟨x, w', g', h1, h2, h3⟩ := aflo_sound (P := P) (ρ := a.eval) s.tr.ev s.st.wr hv
        cases hf
        rw [h1, Oper.upon_value, ← c2]
        exact hK _ _ _ (next g' x w' h3 h2)
      · obtain ⟨x, h1, h2⟩ := aread_sound (P := P) (ρ := a.eval) s.tr.ev s.st.wr hf
        rw [h1, Oper.upon_value, ← c2]
        exact hK _ _ _ (next g x w (ST.refl s.st.wr) h2)
    | false =>
      simp only [Bool.false_eq_true, if_false, Option.some.injEq] at hf ⊢
      rw [← c2]
      exact hK _ _ _ (next g undef w (ST.refl s.st.wr) (by rw [← hf]; exact .v))

include h in
theorem DSt.lagA_run {listed : Array Bool} {C R : List DOp} {vals : Nat → AV} {f : AF} {H : AH} {pd : List (Nat × Nat × ABlk)} {rd : List Nat} {g : G} {a : Act} {w : World}
    (s : DSt P mu Q n ops B ord f0 g0 H0 w0 listed C R vals f H pd rd g a w) {d : DOp} (hd : d ∈ C) (hk : d.kd = .A) (hnl : lis listed d.i = false)
    {o : Oper} (ho : ops[d.i]? = some o) (hr : ∀ e ∈ o.after, Region.binds .any e = true → lis listed e.on = true)
    {K : Act → World → Prop} {R' : Exit → Act → World → Prop}
    (hK : ∀ g' a' w', DSt P mu Q n ops B ord f0 g0 H0 w0 (listed.setIfInBounds d.i true) C R vals f H pd rd g' a' w' → K a' w') :
    wpOp P ops R' d.i K a w := by
  have hord : d ∈ ord := by rw [s.split]; simp [hd]
  obtain ⟨o', ho', hco⟩ := h.op d hord
  rw [ho] at ho'; cases ho'
  obtain ⟨c1, c2, c3⟩ := cmpOp_slot hco
  have hi : d.i < listed.size := by rw [s.sz]; exact (Array.getElem?_eq_some_iff.mp ho).1
  have hag := agree_D h (f0 := f0) (vals := vals) s.split s.dc s.clo hord ho hnl hr
  obtain ⟨nm, B', hp0, hg, hal⟩ := s.lagA d hd hk hnl
  rw [← aall_congr (aev_agree hag), c2, c3] at hal
  obtain ⟨x, obj, sz, h1, h2, h3⟩ := aall_sound (P := P) (w := w) (ρ := a.eval) s.tr.ev hal
  obtain ⟨n0, n1, n2, _⟩ := s.pdn _ hp0
  simp only at n0 n1 n2
  have hmn := s.pdl _ hp0 hnl
  simp only at hmn
  have hw := s.st.wr
  have hle := G.le_name (b := w.heap.size) (s := sz) hmn (hw.nbs _ hmn)
  have hst' := s.st.lay n0 n1 hmn obj sz
  have hmu : ∀ m, m ≠ nm → (g.name nm w.heap.size sz).mu m = g.mu m := fun m hm => by simp only [G.name, hm, if_false]
  have hbsnm : (g.name nm w.heap.size sz).bs nm = some sz := by simp [G.name]
  have hmunm : (g.name nm w.heap.size sz).mu nm = some w.heap.size := by simp [G.name]
  unfold wpOp
  rw [ho]
  simp only
  have hwant : Region.wanted o (yielded ops a.tmps) = true := guardC_sound s.tr hco (b := true) (by rw [hg]; rfl)
  rw [hwant]
  simp only [if_true]
  refine .inl ?_
  unfold Oper.wp
  rw [h1, Oper.upon_value, ← c2]
  have hmods : ∀ b, Mods (g.name nm w.heap.size sz) H b → Mods g H b := by
    intro b hb
    rcases hb with ⟨m, q1, q2⟩ | q
    · have : m ≠ nm := by intro hc; subst hc; exact q1 n2
      rw [hmu m this] at q2; exact .inl ⟨m, q1, q2⟩
    · exact .inr q
  have hpeq : ∀ p ∈ pd, p.1 = d.i → p = (d.i, nm, B') := fun p hp hpi => inj_of_nodup (·.1) pd s.pdd p hp _ hp0 hpi
  have hpnm : ∀ p ∈ pd, p.1 ≠ d.i → p.2.1 ≠ nm := fun p hp hpi hc => hpi (by rw [s.pdu p hp _ hp0 hc])
  refine hK _ _ _ ⟨s.split, tr_listed h hord hi (s.tr.mono hle) (by rw [c2]; exact c1) (h3 _ hmunm hbsnm), s.fc, fun j hj => ?_, clo_set ho hr hi s.clo, fun c hc hcl => ?_, fun c hc hck hcl => ?_, fun c hc hck hcl => ?_, fun c hc hck hcl => ?_, s.ob, fun c hc hck hcl => ?_, hst', s.pdn, fun p hp hpl => ?_, fun p hp hpl => ?_, s.pdu, fun p hp q hq b hb hb' => ?_, s.pdd, by simp [s.sz]⟩
  · by_cases hij : d.i = j
    · exact ⟨d, hd, hij⟩
    · rw [lis_set_ne hij] at hj; exact s.dc j hj
  · by_cases hij : d.i = c.i
    · rw [← hij, lis_set_eq hi] at hcl; cases hcl
    · rw [lis_set_ne hij] at hcl; exact s.lagE c hc hcl
  · by_cases hij : d.i = c.i
    · rw [← hij, lis_set_eq hi] at hcl; cases hcl
    · rw [lis_set_ne hij] at hcl; exact s.lagF c hc hck hcl
  · by_cases hij : d.i = c.i
    · rw [← hij, lis_set_eq hi] at hcl; cases hcl
    · rw [lis_set_ne hij] at hcl; exact s.lagR c hc hck hcl
  · by_cases hij : d.i = c.i
    · rw [← hij, lis_set_eq hi] at hcl; cases hcl
    · rw [lis_set_ne hij] at hcl; exact s.lagA c hc hck hcl
  · by_cases hij : d.i = c.i
    · rw [← hij, lis_set_eq hi] at hcl; cases hcl
    · rw [lis_set_ne hij] at hcl; exact s.rdn c hc hck hcl
  · by_cases hij : d.i = p.1
    · rw [← hij, lis_set_eq hi] at hpl; cases hpl
    · rw [lis_set_ne hij] at hpl
      rw [hmu _ (hpnm p hp (fun hc => hij hc.symm))]; exact s.pdl p hp hpl
  · by_cases hij : d.i = p.1
    · rw [hpeq p hp hij.symm]
      refine ⟨w.heap.size, obj, hmunm, heap_alloc_new, h2 _ hle hbsnm, fun o => hw.fz_none (Nat.le_refl _) o, fun hm => ?_, s.st.size⟩
      rcases hmods _ hm with ⟨m, q1, q2⟩ | ⟨t, q1, T, q2, q3⟩
      · have := hw.bnext m _ q2; omega
      · cases hL : H.tip t with
        | none => exact q1 hL
        | some L => have := hw.tip_lt hL T q2; omega
    · rw [lis_set_ne hij] at hpl
      obtain ⟨b, ob, e1, e2, e3, e4, e5, e6⟩ := s.pdx p hp hpl
      exact ⟨b, ob, by rw [hmu _ (hpnm p hp (fun hc => hij hc.symm))]; exact e1, by rw [heap_alloc_lt (hw.bnext _ b e1)]; exact e2, e3.mono hle, e4, fun hm => e5 (hmods _ hm), e6⟩
  · by_cases hpi : p.1 = d.i <;> by_cases hqi : q.1 = d.i
    · rw [hpeq p hp hpi, hpeq q hq hqi]
    · rw [hpeq p hp hpi] at hb
      simp only at hb
      rw [hmunm] at hb; cases hb
      rw [hmu _ (hpnm q hq hqi)] at hb'
      have := hw.bnext _ _ hb'; omega
    · rw [hpeq q hq hqi] at hb'
      simp only at hb'
      rw [hmunm] at hb'; cases hb'
      rw [hmu _ (hpnm p hp hpi)] at hb
      have := hw.bnext _ _ hb; omega
    · rw [hmu _ (hpnm p hp hpi)] at hb
      rw [hmu _ (hpnm q hq hqi)] at hb'
      exact s.pdb p hp q hq b hb hb'

/-- what is laid is taken over, all of a list -/
theorem bindAll_sound {g : G} {w : World} : ∀ (l : List (Nat × Nat × ABlk)) (H : AH), ST g0 H0 w0 g H w →
    (∀ p ∈ l, H.own p.2.1 = none ∧ ∃ b obj, g.mu p.2.1 = some b ∧ w.heap[b]? = some obj ∧ BR g p.2.1 p.2.2 obj ∧ (∀ o, g.fz b o = none) ∧ ¬ Mods g H b ∧ w0.heap.size ≤ b) →
    (l.map (·.2.1)).Nodup → (∀ p ∈ l, ∀ q ∈ l, ∀ b, g.mu p.2.1 = some b → g.mu q.2.1 = some b → p.2.1 = q.2.1) →
    ST g0 H0 w0 g (H.bindAll (l.map (·.2))) w ∧ (H.bindAll (l.map (·.2))).next = H.next ∧
    (∀ m, (∀ p ∈ l, p.2.1 ≠ m) → (H.bindAll (l.map (·.2))).own m = H.own m) ∧
    (∀ b, ¬ Mods g H b → (∀ p ∈ l, g.mu p.2.1 ≠ some b) → ¬ Mods g (H.bindAll (l.map (·.2))) b)
  | [], H, hst, _, _, _ => ⟨hst, rfl, fun _ _ => rfl, fun _ hb _ => hb⟩
  | p :: l, H, hst, hx, hn, hb => by
    obtain ⟨hno, b, obj, e1, e2, e3, e4, e5, e6⟩ := hx p (by simp)
    simp only [List.map_cons, List.nodup_cons] at hn
    have hne : ∀ q ∈ l, q.2.1 ≠ p.2.1 := fun q hq hc => hn.1 (List.mem_map.mpr ⟨q, hq, hc⟩)
    have hst1 := hst.bind hno e1 e2 e3 e4 e5 e6
    have hmods : ∀ c, c ≠ b → Mods g (H.set p.2.1 p.2.2) c → Mods g H c := by
      intro c hc hm
      rcases hm with ⟨m, q1, q2⟩ | q
      · by_cases hmn : m = p.2.1
        · subst hmn; rw [e1] at q2; cases q2; exact absurd rfl hc
        · exact .inl ⟨m, by simpa only [AH.set, hmn, if_false] using q1, q2⟩
      · exact .inr q
    obtain ⟨r1, r2, r3, r4⟩ := bindAll_sound l (H.set p.2.1 p.2.2) hst1 (fun q hq => by
      obtain ⟨hno', b', obj', f1, f2, f3, f4, f5, f6⟩ := hx q (by simp [hq])
      refine ⟨by simp only [AH.set, hne q hq, if_false]; exact hno', b', obj', f1, f2, f3, f4, fun hm => f5 (hmods b' (fun hc => ?_) hm), f6⟩
      subst hc
      exact hne q hq (hb q (by simp [hq]) p (by simp) b' f1 e1)) hn.2 (fun q hq r hr b hb1 hb2 => hb q (by simp [hq]) r (by simp [hr]) b hb1 hb2)
    refine ⟨r1, r2, fun m hm => ?_, fun c hc hcl => ?_⟩
    · have h1 : m ≠ p.2.1 := fun hc => hm p (by simp) hc.symm
      have := r3 m (fun q hq => hm q (by simp [hq]))
      simp only [List.map_cons, AH.bindAll]
      rw [this]; simp only [AH.set, h1, if_false]
    · refine r4 c (fun hm => hc (hmods c (fun hcb => hcl p (by simp) (by rw [hcb]; exact e1)) hm)) (fun q hq => hcl q (by simp [hq]))

end
end Go.Proofs.YtchpcjmgifnmdaaDoor.Ab

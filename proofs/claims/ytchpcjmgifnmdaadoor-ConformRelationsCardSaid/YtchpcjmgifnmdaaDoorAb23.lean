/- What a call has made is frozen behind it; what it was given stays the caller's. -/
import Derived.Test.YtchpcjmgifnmdaaDoorAb22
namespace Go.Proofs.YtchpcjmgifnmdaaDoor.Ab
open Go

/-- the blocks with names below a number, and the others -/
def AH.below (H : AH) (N : Nat) : AH := ⟨H.next, fun n => if n < N then H.own n else .none, fun t => if t < N then H.tip t else .none⟩
def AH.above (H : AH) (N : Nat) : AH := ⟨H.next, fun n => if n < N then .none else H.own n, fun _ => .none⟩

section
variable {P : Program} {w : World} {g : G} {H : AH} {N : Nat}
theorem below_own {n : Nat} (h : n < N) : (H.below N).own n = H.own n := if_pos h
theorem above_own {n : Nat} (h : N ≤ n) : (H.above N).own n = H.own n := if_neg (by omega)
theorem below_next : (H.below N).next = H.next := rfl
theorem above_wr (hw : WR g H w) : WR g (H.above N) w := by
  have hsub : ∀ n B, (H.above N).own n = some B → H.own n = some B := fun n B e => by
    simp only [AH.above] at e; split at e
    · cases e
    · exact e
  have hne : ∀ n, (H.above N).own n ≠ .none → H.own n ≠ .none := fun n e => by
    cases h : (H.above N).own n with
    | none => exact absurd h e
    | some B => rw [hsub n B h]; simp
  exact ⟨hw.fz, fun n B e => hw.own n B (hsub n B e), fun n m b e1 e2 => hw.inj n m b (hne n e1) (hne m e2), (fun _ _ e => by cases e), (fun _ _ _ _ e => (e rfl).elim), (fun _ _ _ _ e => (e rfl).elim), hw.bmu, hw.btp, hw.bnext, hw.nbs, hw.gz⟩

/-- the ghost in which what is above is frozen -/
noncomputable def frzN (g : G) (H : AH) (w : World) (N : Nat) : G := { g with fz := (frzAll g (H.above N) w).fz }

theorem frzN_le (hw : WR g H w) : g.le (frzN g H w N) := ⟨fun _ _ _ e => frzAll_le (above_wr hw) e, fun _ _ e => e, fun _ T e => ⟨T, e, rfl, Nat.le_refl _, fun _ => rfl⟩, fun _ _ e => e⟩
theorem frzN_same {b : Nat} (h : ∀ n, N ≤ n → H.own n ≠ .none → g.mu n ≠ some b) (o : Nat) : (frzN g H w N).fz b o = g.fz b o := by
  simp only [frzN, frzAll]
  rw [if_neg]
  rintro ⟨n, h1, h2⟩
  by_cases hn : n < N
  · simp only [AH.above, if_pos hn] at h1; exact h1 rfl
  · rw [above_own (by omega)] at h1; exact h n (by omega) h1 h2

theorem frzN_wr (hw : WR g H w) : WR (frzN g H w N) (H.below N) w := by
  have hle := frzN_le (N := N) hw
  have hsub : ∀ n B, (H.below N).own n = some B → n < N ∧ H.own n = some B := fun n B e => by
    simp only [AH.below] at e; split at e
    · rename_i h; exact ⟨h, e⟩
    · cases e
  have hne : ∀ n, (H.below N).own n ≠ .none → n < N ∧ H.own n ≠ .none := fun n e => by
    cases h : (H.below N).own n with
    | none => exact absurd h e
    | some B => obtain ⟨h1, h2⟩ := hsub n B h; exact ⟨h1, by rw [h2]; simp⟩
  have tsub : ∀ n B, (H.below N).tip n = some B → H.tip n = some B := fun n B e => by
    simp only [AH.below] at e; split at e
    · exact e
    · cases e
  have tne : ∀ n, (H.below N).tip n ≠ .none → H.tip n ≠ .none := fun n e => by
    cases h : (H.below N).tip n with
    | none => exact absurd h e
    | some B => rw [tsub n B h]; simp
  refine ⟨frzAll_fz (above_wr hw), fun n B e => ?_, fun n m b e1 e2 => hw.inj n m b (hne n e1).2 (hne m e2).2, fun t L e => ?_, fun t s T S e1 e2 => hw.tinj t s T S (tne t e1) (tne s e2),
    fun t n T b e1 e2 => hw.town t n T b (tne t e1) (hne n e2).2, hw.bmu, hw.btp, hw.bnext, hw.nbs, fun b o x e => hle.fz _ _ _ (hw.gz b o x e)⟩
  · obtain ⟨hn, e⟩ := hsub n B e
    obtain ⟨b, obj, e1, e2, e3, e4⟩ := hw.own n B e
    refine ⟨b, obj, e1, e2, e3.mono hle, fun o => ?_⟩
    rw [frzN_same (fun m hm h1 h2 => ?_) o]
    · exact e4 o
    · have := hw.inj n m b (by rw [e]; simp) h1 e1 h2; omega
  · obtain ⟨T, c, el, e1, e2, e3, e4, e5, e6, e7⟩ := hw.tip t L (tsub t L e)
    refine ⟨T, c, el, e1, e2, e3, e4, e5, e6, fun o ho => ?_⟩
    rw [frzN_same (fun m _ h1 h2 => ?_) o]
    · exact e7 o ho
    · exact hw.town t m T T.a.block (by rw [tsub t L e]; simp) h1 e1 h2 rfl

theorem frzN_st {g0 : G} {H0 : AH} {w0 : World} (h : ST g0 H0 w0 g H w) : ST g0 H0 w0 (frzN g H w N) (H.below N) w := by
  refine ⟨h.le.trans (frzN_le h.wr), frzN_wr h.wr, h.size, h.next, h.names, h.tips, fun b hb hm => ?_, h.str⟩
  obtain ⟨q1, q2, q3⟩ := h.same b hb hm
  refine ⟨q1, ?_, fun o => ?_⟩
  · rintro (⟨n, h1, h2⟩ | ⟨t, h1, T, h2, h3⟩)
    · refine q2 (.inl ⟨n, fun e => h1 ?_, h2⟩)
      simp only [AH.below]; split
      · exact e
      · rfl
    · refine q2 (.inr ⟨t, fun e => h1 ?_, T, h2, h3⟩)
      simp only [AH.below]; split
      · exact e
      · rfl
  · rw [frzN_same (fun m _ h1 h2 => q2 (.inl ⟨m, h1, h2⟩)) o]; exact q3 o

/-- what is frozen behind a call -/
def Frz (N : Nat) (R' : AOut → AH → Prop) (out : AOut) (H' : AH) : Prop :=
  (∃ v v', out = .ret v ∧ View (H'.above N) v v' ∧ FZ v' ∧ R' (.ret v') (H'.below N)) ∨ (∃ v v', out = .pan v ∧ View (H'.above N) v v' ∧ FZ v' ∧ R' (.pan v') (H'.below N))

theorem ACall.freeze {m : FuncId} {args : List AV} {R' : AOut → AH → Prop} (N : Nat) (h : ACall P m args H (Frz N R')) : ACall P m args H R' := by
  refine ⟨h.1, fun g xs w hw hx => (h.2 g xs w hw hx).mono fun e w' hp => ?_⟩
  obtain ⟨o, H', g', h1, h2, h3⟩ := hp
  have hv : ∀ v v' x, View (H'.above N) v v' → FZ v' → VR g' v x → VR (frzN g' H' w' N) v' x := fun v v' x hv hz hx =>
    hz (frzAll g' (H'.above N) w') _ x (fun _ _ _ e => e) (hv g' w' x (above_wr h3.wr) hx)
  rcases h1 with ⟨v, v', rfl, k1, k2, k3⟩ | ⟨v, v', rfl, k1, k2, k3⟩
  · cases e with
    | returned x => exact ⟨.ret v', H'.below N, frzN g' H' w' N, k3, hv v v' x k1 k2 h2, frzN_st h3⟩
    | _ => exact h2.elim
  · cases e with
    | panicked ch =>
      obtain ⟨x, rfl, hx⟩ := h2
      exact ⟨.pan v', H'.below N, frzN g' H' w' N, k3, ⟨x, rfl, hv v v' x k1 k2 hx⟩, frzN_st h3⟩
    | _ => exact h2.elim

theorem Frz.ret {R' : AOut → AH → Prop} {v v' : AV} {H' : AH} (h1 : View (H'.above N) v v') (h2 : FZ v') (h3 : R' (.ret v') (H'.below N)) : Frz N R' (.ret v) H' := .inl ⟨v, v', rfl, h1, h2, h3⟩
theorem Frz.pan {R' : AOut → AH → Prop} {v : AV} {H' : AH} (h2 : FZ v) (h3 : R' (.pan v) (H'.below N)) : Frz N R' (.pan v) H' := .inr ⟨v, v, rfl, h2.view, h2, h3⟩
end
end Go.Proofs.YtchpcjmgifnmdaaDoor.Ab

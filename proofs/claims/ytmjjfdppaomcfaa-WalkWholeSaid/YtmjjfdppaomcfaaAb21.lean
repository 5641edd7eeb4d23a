/- Calls that need to know nothing of some of the caller's blocks leave them as they are. -/
import Derived.Test.YtmjjfdppaomcfaaAb20
namespace Go.Proofs.Ytmjjfdppaomcfaa.Ab
open Go

section
variable {P : Program} {w : World} {g : G} {H : AH}

/-- without some blocks -/
def AH.less (H : AH) (K : Nat → Bool) : AH := { H with own := fun n => if K n then .none else H.own n }
/-- with the blocks of another -/
def AH.plus (H1 H : AH) (K : Nat → Bool) : AH := { H1 with own := fun n => if K n then H.own n else H1.own n }

theorem less_own {K : Nat → Bool} {n : Nat} (h : (H.less K).own n ≠ .none) : K n = false ∧ H.own n ≠ .none := by
  simp only [AH.less] at h
  cases hk : K n
  · rw [hk] at h; exact ⟨rfl, by simpa using h⟩
  · rw [hk] at h; simp at h
theorem wr_less (hw : WR g H w) (K : Nat → Bool) : WR g (H.less K) w :=
  ⟨hw.fz, fun n B hB => hw.own n B (by
    have h := less_own (n := n) (by rw [hB]; simp)
    simpa [AH.less, h.1] using hB), fun n m b h1 h2 => hw.inj n m b (less_own h1).2 (less_own h2).2, hw.tip, hw.tinj, fun t n T b h1 h2 => hw.town t n T b h1 (less_own h2).2, hw.bmu, hw.btp, hw.bnext, hw.nbs⟩
theorem not_mods_less (hw : WR g H w) {K : Nat → Bool} {n b : Nat} (hk : K n = true) (hn : H.own n ≠ .none) (hb : g.mu n = some b) : ¬ Mods g (H.less K) b := by
  rintro (⟨m, h1, h2⟩ | ⟨t, h1, T, h2, h3⟩)
  · obtain ⟨h4, h5⟩ := less_own h1
    have := hw.inj m n b h5 hn h2 hb
    subst this; rw [hk] at h4; cases h4
  · exact hw.town t n T b h1 hn h2 hb h3
theorem st_plus (hw : WR g H w) {K : Nat → Bool} {g1 : G} {H1 : AH} {w1 : World} (h : ST g (H.less K) w g1 H1 w1) : ST g H w g1 (H1.plus H K) w1 := by
  have key : ∀ n, K n = true → H.own n ≠ .none → ∃ b, g.mu n = some b ∧ g1.mu n = some b ∧ b < w.heap.size ∧ w1.heap[b]? = w.heap[b]? ∧ ¬ Mods g1 H1 b ∧ ∀ o, g1.fz b o = g.fz b o := fun n hk hn => by
    cases hB : H.own n with
    | none => exact absurd hB hn
    | some B =>
      obtain ⟨b, obj, e1, e2, e3, e4⟩ := hw.own n B hB
      have hb := hw.bnext n b e1
      obtain ⟨q1, q2, q3⟩ := h.same b hb (not_mods_less hw hk hn e1)
      exact ⟨b, e1, h.le.mu n b e1, hb, q1, q2, q3⟩
  have pl : ∀ n, K n = true → (H1.plus H K).own n = H.own n := fun n hk => by simp [AH.plus, hk]
  have pl' : ∀ n, K n = false → (H1.plus H K).own n = H1.own n := fun n hk => by simp [AH.plus, hk]
  refine ⟨h.le, ⟨h.wr.fz, fun n B hB => ?_, fun n m b h1 h2 m1 m2 => ?_, h.wr.tip, h.wr.tinj, fun t n T b h1 h2 h3 h4 => ?_, h.wr.bmu, h.wr.btp, h.wr.bnext, h.wr.nbs⟩, h.size, h.next, h.names, h.tips, fun b hb hm => ?_, h.str⟩
  · cases hk : K n
    · rw [pl' n hk] at hB; exact h.wr.own n B hB
    · rw [pl n hk] at hB
      obtain ⟨b, e1, e2, e3, e4, e5, e6⟩ := key n hk (by rw [hB]; simp)
      obtain ⟨b', obj, r1, r2, r3, r4⟩ := hw.own n B hB
      rw [e1] at r1; cases r1
      exact ⟨b, obj, e2, by rw [e4]; exact r2, r3.mono h.le, fun o => (e6 o).trans (r4 o)⟩
  · cases hk : K n <;> cases hk' : K m
    · rw [pl' n hk] at h1; rw [pl' m hk'] at h2; exact h.wr.inj n m b h1 h2 m1 m2
    · rw [pl' n hk] at h1; rw [pl m hk'] at h2
      obtain ⟨b', e1, e2, e3, e4, e5, e6⟩ := key m hk' h2
      rw [m2] at e2; cases e2
      exact absurd (.inl ⟨n, h1, m1⟩) e5
    · rw [pl n hk] at h1; rw [pl' m hk'] at h2
      obtain ⟨b', e1, e2, e3, e4, e5, e6⟩ := key n hk h1
      rw [m1] at e2; cases e2
      exact absurd (.inl ⟨m, h2, m2⟩) e5
    · rw [pl n hk] at h1; rw [pl m hk'] at h2
      obtain ⟨b1, e1, e2, _⟩ := key n hk h1
      obtain ⟨b2, e3, e4, _⟩ := key m hk' h2
      rw [m1] at e2; cases e2; rw [m2] at e4; cases e4
      exact hw.inj n m b h1 h2 e1 e3
  · cases hk : K n
    · rw [pl' n hk] at h2; exact h.wr.town t n T b h1 h2 h3 h4
    · rw [pl n hk] at h2
      obtain ⟨b', e1, e2, e3, e4, e5, e6⟩ := key n hk h2
      rw [h4] at e2; cases e2
      exact fun e => e5 (.inr ⟨t, h1, T, h3, e⟩)
  · have hm0 : ¬ Mods g (H.less K) b := by
      rintro (⟨n, h1, h2⟩ | ht)
      · exact hm (.inl ⟨n, (less_own h1).2, h2⟩)
      · exact hm (.inr ht)
    obtain ⟨q1, q2, q3⟩ := h.same b hb hm0
    refine ⟨q1, ?_, q3⟩
    rintro (⟨n, h1, h2⟩ | ht)
    · cases hk : K n
      · rw [pl' n hk] at h1; exact q2 (.inl ⟨n, h1, h2⟩)
      · rw [pl n hk] at h1
        obtain ⟨b', e1, e2, _⟩ := key n hk h1
        rw [h2] at e2; cases e2
        exact hm (.inl ⟨n, h1, e1⟩)
    · exact q2 (.inr ht)

theorem plus_none (hw : WR g H w) {K : Nat → Bool} {g1 : G} {H1 : AH} {w1 : World} (h : ST g (H.less K) w g1 H1 w1) (n : Nat) (hk : K n = true) (hn : H.own n ≠ .none) : H1.own n = .none := by
  cases hB : H.own n with
  | none => exact absurd hB hn
  | some B =>
    obtain ⟨b, obj, e1, e2, e3, e4⟩ := hw.own n B hB
    have hb := hw.bnext n b e1
    obtain ⟨q1, q2, q3⟩ := h.same b hb (not_mods_less hw hk hn e1)
    cases h1 : H1.own n with
    | none => rfl
    | some B' => exact absurd (.inl ⟨n, by rw [h1]; simp, h.le.mu n b e1⟩) q2
/-- what a call knows nothing of stays as it is -/
theorem ACall.frame {m : FuncId} {args : List AV} {R : AOut → AH → Prop} (K : Nat → Bool) (h : ACall P m args (H.less K) R) : ACall P m args H fun out H' => ∃ H1, R out H1 ∧ H' = H1.plus H K ∧ ∀ n, K n = true → H.own n ≠ .none → H1.own n = .none := by
  refine ⟨h.1, fun g xs w hw hx => (h.2 g xs w (wr_less hw K) hx).mono fun e w1 hp => ?_⟩
  obtain ⟨o, H1, g1, h1, h2, h3⟩ := hp
  exact ⟨o, _, g1, ⟨H1, h1, rfl, plus_none hw h3⟩, h2, st_plus hw h3⟩
end
end Go.Proofs.Ytmjjfdppaomcfaa.Ab

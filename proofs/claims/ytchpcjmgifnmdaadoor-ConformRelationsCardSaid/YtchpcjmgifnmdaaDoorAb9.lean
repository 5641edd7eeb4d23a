/- Code on abstract values: what is to be shown, rule by rule. -/
import Derived.Test.YtchpcjmgifnmdaaDoorAb8d
import Derived.LoopN
namespace Go.Proofs.YtchpcjmgifnmdaaDoor.Ab
open Go

inductive AX where
  | normal
  | exit (id : Nat)
  | ret
  | panic (v : AV)

def XR (g : G) : AX → Exit → Prop
  | .normal, .normal => True
  | .exit i, .exit j => i = j
  | .ret, .ret => True
  | .panic v, .panic ch => ∃ x, ch = [{ v := x, recovered := false }] ∧ VR g v x
  | _, _ => False

inductive AOut where
  | ret (v : AV)
  | pan (v : AV)

def OR (g : G) : AOut → Ending → Prop
  | .ret v, .returned x => VR g v x
  | .pan v, .panicked ch => ∃ x, ch = [{ v := x, recovered := false }] ∧ VR g v x
  | _, _ => False

theorem XR.mono {g g' : G} (h : g.le g') {x : AX} {e : Exit} (hx : XR g x e) : XR g' x e := by
  cases x <;> cases e <;> simp only [XR] at hx ⊢ <;> first | exact hx | (obtain ⟨y, h1, h2⟩ := hx; exact ⟨y, h1, h2.mono h⟩) | trivial

def Post (n : Nat) (Q : AX → AF → AH → Prop) (g : G) (H : AH) (w : World) : Exit → Act → World → Prop := fun e a' w' =>
  ∃ x f' H' g', Q x f' H' ∧ XR g' x e ∧ ST g H w g' H' w' ∧ TR g' n f' a'

def AWP (P : Program) (n : Nat) (c : Code) (Q : AX → AF → AH → Prop) (f : AF) (H : AH) : Prop :=
  ∀ g a w, WR g H w → TR g n f a → c.wp P (Post n Q g H w) a w

def callable (P : Program) (n : FuncId) : Bool :=
  match P.funcs[n]? with
  | some fn => fn.name != "runtime.NumGoroutine" && fn.body.isSome
  | none => false

def CPost (R : AOut → AH → Prop) (g : G) (H : AH) (w : World) : Ending → World → Prop := fun e w' =>
  ∃ o H' g', R o H' ∧ OR g' o e ∧ ST g H w g' H' w'

def ACall (P : Program) (n : FuncId) (args : List AV) (H : AH) (R : AOut → AH → Prop) : Prop :=
  callable P n = true ∧ ∀ g xs w, WR g H w → VRs g args xs → Calls P n xs w (CPost R g H w)

theorem ACall.mono {P : Program} {n : FuncId} {args : List AV} {H : AH} {R R' : AOut → AH → Prop} (h : ACall P n args H R) (hr : ∀ o H', R o H' → R' o H') : ACall P n args H R' :=
  ⟨h.1, fun g xs w hw hx => (h.2 g xs w hw hx).mono fun e w' hp => by
    obtain ⟨o, H', g', h1, h2, h3⟩ := hp
    exact ⟨o, H', g', hr _ _ h1, h2, h3⟩⟩

theorem AWP.mono {P : Program} {n : Nat} {c : Code} {Q Q' : AX → AF → AH → Prop} {f : AF} {H : AH} (h : AWP P n c Q f H) (hq : ∀ x f H, Q x f H → Q' x f H) : AWP P n c Q' f H :=
  fun g a w hw ht => wp_mono (h g a w hw ht) fun e a w hp => by
    obtain ⟨x, f', H', g', h1, h2⟩ := hp
    · exact ⟨x, f', H', g', hq _ _ _ h1, h2⟩

/-! sequences, branches, blocks -/
def AX.seq (k : AF → AH → Prop) (Q : AX → AF → AH → Prop) : AX → AF → AH → Prop
  | .normal, f, H => k f H
  | x, f, H => Q x f H
def AX.blk (id : Nat) (Q : AX → AF → AH → Prop) : AX → AF → AH → Prop
  | .exit i, f, H => if i = id then Q .normal f H else Q (.exit i) f H
  | x, f, H => Q x f H

section
variable {P : Program} {n : Nat} {Q : AX → AF → AH → Prop} {f : AF} {H : AH}

theorem AWP.seq {x y : Code} (h : AWP P n x (AX.seq (AWP P n y Q) Q) f H) : AWP P n (.seq x y) Q f H := by
  intro g a w hw ht
  refine wp_seq (wp_mono (h g a w hw ht) fun e a1 w1 hp => ?_)
  obtain ⟨x1, f1, H1, g1, h1, h2, h3, h4⟩ := hp
  · cases e with
    | normal =>
      cases x1 with
      | normal =>
        refine wp_mono (h1 g1 a1 w1 h3.wr h4) fun e a2 w2 hp => ?_
        obtain ⟨x2, f2, H2, g2, q1, q2, q3, q4⟩ := hp
        · exact ⟨x2, f2, H2, g2, q1, q2, h3.trans q3, q4⟩
      | _ => exact h2.elim
    | _ =>
      cases x1 with
      | normal => exact h2.elim
      | _ => exact ⟨_, f1, H1, g1, h1, h2, h3, h4⟩

theorem AWP.skip (h : Q .normal f H) : AWP P n .skip Q f H := fun g _ _ hw ht => wp_skip (⟨.normal, f, H, g, h, trivial, ST.refl hw, ht⟩)
theorem AWP.exit {id : Nat} (h : Q (.exit id) f H) : AWP P n (.exit id) Q f H := fun g _ _ hw ht => wp_exit (⟨.exit id, f, H, g, h, rfl, ST.refl hw, ht⟩)
theorem AWP.ret (h : Q .ret f H) : AWP P n .ret Q f H := fun g _ _ hw ht => wp_ret (⟨.ret, f, H, g, h, trivial, ST.refl hw, ht⟩)

theorem AWP.cond {c : Operand} {x y : Code} {b : Bool} (hc : aev f c = .v (.bool b)) (h : if b then AWP P n x Q f H else AWP P n y Q f H) : AWP P n (.cond c x y) Q f H := by
  intro g a w hw ht
  have := ht.ev c
  rw [hc] at this
  have e := this.of_v
  refine wp_cond e ?_
  cases b
  · simp only [Bool.false_eq_true, if_false] at h ⊢; exact h g a w hw ht
  · simp only [if_true] at h ⊢; exact h g a w hw ht

theorem AWP.block {id : Nat} {c : Code} (h : AWP P n c (AX.blk id Q) f H) : AWP P n (.block id c) Q f H := by
  intro g a w hw ht
  refine wp_block (wp_mono (h g a w hw ht) fun e a1 w1 hp => ?_)
  obtain ⟨x1, f1, H1, g1, h1, h2, h3, h4⟩ := hp
  · cases e <;> cases x1 <;> first
      | exact h2.elim
      | (simp only [XR] at h2
         subst h2
         simp only [Exit.inBlock, AX.blk] at h1 ⊢
         split
         · rename_i hid; rw [if_pos hid] at h1; exact ⟨.normal, f1, H1, g1, h1, trivial, h3, h4⟩
         · rename_i hid; rw [if_neg hid] at h1; exact ⟨.exit _, f1, H1, g1, h1, rfl, h3, h4⟩)
      | exact ⟨_, f1, H1, g1, h1, h2, h3, h4⟩

theorem rounds_mono {c : Code} {R : Exit → Act → World → Prop} : ∀ (n : Nat) (a : Act) (w : World), Code.rounds P c R n a w → Code.rounds P c R (n + 1) a w
  | 0, _, _, h => h.elim
  | n + 1, a, w, h => wp_mono h fun e a w hp => by
      cases e with
      | normal => exact rounds_mono n a w hp
      | _ => exact hp

theorem rounds_le {c : Code} {R : Exit → Act → World → Prop} {n m : Nat} (h : n ≤ m) {a : Act} {w : World} (hr : Code.rounds P c R n a w) : Code.rounds P c R m a w := by
  induction h with
  | refl => exact hr
  | step _ ih => exact rounds_mono _ _ _ ih

/-- a loop: an invariant with a number that goes down -/
theorem AWP.loop {c : Code} (I : Nat → AF → AH → Prop) {m : Nat} (h0 : I m f H)
    (round : ∀ m f H, I m f H → AWP P n c (AX.seq (fun f' H' => ∃ m', m' < m ∧ I m' f' H') Q) f H) : AWP P n (.loop c) Q f H := by
  intro g a w hw ht
  refine wp_loop_rounds (m + 1) ?_
  have key : ∀ (m : Nat) (f1 : AF) (H1 : AH), I m f1 H1 → ∀ g1 a1 w1, ST g H w g1 H1 w1 → TR g1 n f1 a1 → Code.rounds P c (Post n Q g H w) (m + 1) a1 w1 := by
    intro m
    induction m using Nat.strongRecOn with
    | _ m ih =>
      intro f1 H1 hI g1 a1 w1 hst ht1
      rw [rounds_succ]
      refine wp_mono (round m f1 H1 hI g1 a1 w1 hst.wr ht1) fun e a2 w2 hp => ?_
      obtain ⟨x2, f2, H2, g2, h1, h2, h3, h4⟩ := hp
      · cases e with
        | normal =>
          cases x2 with
          | normal =>
            obtain ⟨m', hlt, hI'⟩ := h1
            exact rounds_le (by omega) (ih m' hlt f2 H2 hI' g2 a2 w2 (hst.trans h3) h4)
          | _ => exact h2.elim
        | _ =>
          cases x2 with
          | normal => exact h2.elim
          | _ => exact ⟨_, f2, H2, g2, h1, h2, hst.trans h3, h4⟩
  exact key m f H h0 g a w (ST.refl hw) ht
end

end Go.Proofs.YtchpcjmgifnmdaaDoor.Ab

/- Part 3 of a proof: walkWhole holds for every input; no condition. -/
import Derived.Test.YtmjjfdppaomcfaaProg
import Derived.KernelRfl
import Derived.Test.YtmjjfdppaomcfaaRows
import Derived.ProofKit
import Derived.Test.YtmjjfdppaomcfaaAb0
import Derived.Test.YtmjjfdppaomcfaaAb1
import Derived.Test.YtmjjfdppaomcfaaAb2
import Derived.Test.YtmjjfdppaomcfaaAb3
import Derived.Test.YtmjjfdppaomcfaaAb4
import Derived.Test.YtmjjfdppaomcfaaAb5
import Derived.Test.YtmjjfdppaomcfaaAb6
import Derived.Test.YtmjjfdppaomcfaaAb7
import Derived.Test.YtmjjfdppaomcfaaAb8
import Derived.Test.YtmjjfdppaomcfaaAb8a
import Derived.Test.YtmjjfdppaomcfaaAb8b
import Derived.Test.YtmjjfdppaomcfaaAb8c
import Derived.Test.YtmjjfdppaomcfaaAb8d
import Derived.Test.YtmjjfdppaomcfaaAb9
import Derived.Test.YtmjjfdppaomcfaaAb10
import Derived.Test.YtmjjfdppaomcfaaAb11
import Derived.Test.YtmjjfdppaomcfaaAb12
import Derived.Test.YtmjjfdppaomcfaaAb13
import Derived.Test.YtmjjfdppaomcfaaAb14
import Derived.Test.YtmjjfdppaomcfaaAb15
import Derived.Test.YtmjjfdppaomcfaaAb16
import Derived.Test.YtmjjfdppaomcfaaAb17
import Derived.Test.YtmjjfdppaomcfaaAb18
import Derived.Test.YtmjjfdppaomcfaaAb19
import Derived.Test.YtmjjfdppaomcfaaAb20
import Derived.Test.YtmjjfdppaomcfaaAb21
import Derived.Test.YtmjjfdppaomcfaaAb22
import Derived.Test.YtmjjfdppaomcfaaAb23
import Derived.Test.YtmjjfdppaomcfaaAb24
import Derived.Test.YtmjjfdppaomcfaaAb25
import Derived.Test.YtmjjfdppaomcfaaAb26
import Derived.Test.YtmjjfdppaomcfaaBw
import Derived.Test.YtmjjfdppaomcfaaQh2
set_option linter.unusedSimpArgs false
set_option linter.unusedVariables false
set_option linter.defProp false
/- Plain: a node's bytes alone are right bytes; the path of a node leads to it. -/
namespace Go.Proofs.Ytmjjfdppaomcfaa
open Go Go.Proofs.Ytmjjfdppaomcfaa.Ab

theorem path_to {b : ByteArray} : ∀ (d D : Nat) (l : List Tree) (p q : Nat) (x : Tree), okTs b D p q l → D + d = 17 → x ∈ subTs l → ∃ ys, findP l ((pathN x.h.frm d l).map Int.ofNat) = some (x, ys)
  | 0, D, l, p, q, x, ho, hd, hx => by
    rw [okTs_deep ho (by omega)] at hx; simp [subTs] at hx
  | d + 1, D, l, p, q, x, ho, hd, hx => by
    obtain ⟨j, hj, hxj⟩ := sub_get hx
    have hg := (okTs_get ho j hj).1
    have hin := sub_in hg hxj
    have hid := idxB_of ho hj (hasB_iff.mpr (show ((l.getD j default).h.frm : Int) ≤ (x.h.frm : Int) ∧ (x.h.frm : Int) < ((l.getD j default).h.fin : Int) by omega))
    rw [pathN, hid]
    simp only [List.map_cons, findP]
    rw [if_pos (show 0 ≤ Int.ofNat j ∧ Int.ofNat j < (l.length : Int) from ⟨by simp, by simp; omega⟩), show (Int.ofNat j).toNat = j from rfl]
    generalize l.getD j default = t at hxj hg hin
    rw [subT_cons] at hxj
    rcases List.mem_cons.mp hxj with rfl | hxk
    · have hpn : pathN x.h.frm d x.kids = [] := by
        cases d with
        | zero => rfl
        | succ d =>
          obtain ⟨p', q', _, hk⟩ := okT_sub hg
          rw [pathN, idxB_all]
          intro k hk'
          have h1 := okT_kids hg (by intro e; rw [e] at hk'; simp at hk')
          have h2 := okTs_get h1 k hk'
          have h3 := okT_in hg
          cases hh : hasB (x.h.frm : Int) (x.kids.getD k default) with
          | false => rfl
          | true => have := hasB_iff.mp hh; omega
      rw [hpn]
      exact ⟨[], rfl⟩
    · obtain ⟨p', q', _, hk⟩ := okT_sub hg
      obtain ⟨ys, e⟩ := path_to d (D + 1) t.kids p' q' x hk (by omega) hxk
      rw [if_neg (fun h0 => by rw [h0] at e; cases e), e]
      exact ⟨_, rfl⟩

/-! bytes moved -/
section
variable {b s : ByteArray} {o hi : Nat} (hB : ∀ i, o ≤ i → i < hi → bt s (i - o) = bt b i)
include hB
theorem tagL_move {lim lim' : Nat} : ∀ {k k' q num m p : Nat}, tagL b lim k q num = .ok (m, p) → o ≤ q → p ≤ hi → p - o ≤ lim' → p - q ≤ k' → tagL s lim' k' (q - o) num = .ok (m, p - o)
  | 0, k', q, num, m, p, h, _, _, _, _ => by simp [tagL] at h
  | k + 1, k', q, num, m, p, h, h1, h2, h3, h4 => by
    have hq := tagL_ok h
    simp only [tagL] at h
    obtain ⟨k', rfl⟩ : ∃ e, k' = e + 1 := ⟨k' - 1, by omega⟩
    rw [tagL, if_pos (by omega), hB q h1 (by omega)]
    split at h
    · split at h
      · cases h
      · rename_i h5
        rw [if_neg h5]
        split at h
        · rename_i h6
          rw [if_pos h6]
          cases h
          rw [show q - o + 1 = q + 1 - o from by omega]
        · rename_i h6
          rw [if_neg h6, show q - o + 1 = q + 1 - o from by omega]
          exact tagL_move h (by omega) h2 h3 (by omega)
    · cases h
theorem ident_move {a lim lim' c n p : Nat} {bl : Bool} (h : ident b a lim = .ok (c, n, bl, p)) (ho : o ≤ a) (hp : p ≤ hi) (hl : p - o ≤ lim') : ident s (a - o) lim' = .ok (c, n, bl, p - o) := by
  have hok := ident_ok h
  unfold ident at h ⊢
  rw [if_pos (by omega), hB a ho (by omega)]
  split at h
  · split at h
    · rename_i h2
      rw [if_pos h2]
      cases h
      rw [show a - o + 1 = a + 1 - o from by omega]
    · rename_i h2
      rw [if_neg h2]
      split at h
      · rename_i m q hq
        cases h
        rw [show a - o + 1 = a + 1 - o from by omega, tagL_move hB hq (by omega) hp hl (by omega)]
      · cases h
  · cases h
theorem lenL_move {lim lim' : Nat} : ∀ {k q n m : Nat}, lenL b lim k q n = .ok m → o ≤ q → q + k ≤ hi → q + k - o ≤ lim' → lenL s lim' k (q - o) n = .ok m
  | 0, q, n, m, h, _, _, _ => h
  | k + 1, q, n, m, h, h1, h2, h3 => by
    simp only [lenL] at h ⊢
    rw [if_pos (by omega), hB q h1 (by omega)]
    split at h
    · split at h
      · cases h
      · rename_i h5
        rw [if_neg h5, show q - o + 1 = q + 1 - o from by omega]
        exact lenL_move h (by omega) (by omega) (by omega)
    · cases h
theorem lenOf_move {a lim lim' p : Nat} {bl : Bool} {on : Option Nat} (h : lenOf b a lim bl = .ok (on, p)) (ho : o ≤ a) (hp : p ≤ hi) (hl : p - o ≤ lim') : lenOf s (a - o) lim' bl = .ok (on, p - o) := by
  have hok := lenOf_ok h
  unfold lenOf at h ⊢
  rw [if_pos (by omega), hB a ho (by omega)]
  split at h
  · split at h
    · rename_i h2
      rw [if_pos h2]
      cases h
      rw [show a - o + 1 = a + 1 - o from by omega]
    · rename_i h2
      rw [if_neg h2]
      split at h
      · cases h
      · rename_i h3
        rw [if_neg h3]
        split at h
        · rename_i h4
          rw [if_pos h4]
          cases h
          rw [show a - o + 1 = a + 1 - o from by omega]
        · rename_i h4
          rw [if_neg h4]
          split at h
          · rename_i n hn
            cases h
            rw [show a - o + 1 = a + 1 - o from by omega, lenL_move hB hn (by omega) (by omega) (by omega), show a + 1 - o + (bt b a - 128) = a + 1 + (bt b a - 128) - o from by omega]
          · cases h
  · cases h
def NodeMv (o hi lim' : Nat) (node node' : Nat → Nat → Except Flt (Tree × Nat)) : Prop := ∀ a c c2 t c', node a c = .ok (t, c') → o ≤ a → t.h.fin ≤ hi → t.h.fin - o ≤ lim' → c2 ≤ c → ∃ t', node' (a - o) c2 = .ok (t', c2 + (c' - c)) ∧ t'.h.fin = t.h.fin - o
omit hB in
theorem kidsC_move {node node' : Nat → Nat → Except Flt (Tree × Nat)} {stop : Nat} (hn : NodeMv o hi (stop - o) node node') (hk : NodeOk stop node) (hs : stop ≤ hi) : ∀ {n n' p c c2 : Nat} {acc acc' l : List Tree} {c' : Nat}, kidsC node stop n p c acc = .ok (l, c') → o ≤ p → c2 ≤ c → c ≤ 300 → stop - p ≤ n' → stop - p ≤ n → ∃ l', kidsC node' (stop - o) n' (p - o) c2 acc' = .ok (l', c2 + (c' - c))
  | 0, n', p, c, c2, acc, acc', l, c', h, ho, hc, h300, hn', hn0 => by
    simp only [kidsC] at h; cases h
    cases n' with
    | zero => exact ⟨_, by rw [kidsC, Nat.sub_self, Nat.add_zero]⟩
    | succ n' => exact ⟨_, by rw [kidsC, if_neg (by omega), Nat.sub_self, Nat.add_zero]⟩
  | n + 1, n', p, c, c2, acc, acc', l, c', h, ho, hc, h300, hn', hn0 => by
    simp only [kidsC] at h
    split at h
    · rename_i hp
      obtain ⟨n', rfl⟩ : ∃ e, n' = e + 1 := ⟨n' - 1, by omega⟩
      rw [kidsC, if_pos (by omega)]
      split at h
      · cases h
      · rename_i t c1 h1
        have q := hk _ _ _ _ h1
        obtain ⟨t', e1, e2⟩ := hn p c c2 t c1 h1 ho (by omega) (by omega) hc
        have q2 := kidsC_ok hk h (by omega)
        obtain ⟨l', e3⟩ := kidsC_move hn hk hs (n' := n') (c2 := c2 + (c1 - c)) (acc' := acc' ++ [t']) h (by omega) (by omega) (by omega) (by omega) (by omega)
        rw [e1]
        simp only [e2]
        rw [e3]
        exact ⟨l', by rw [show c2 + (c1 - c) + (c' - c1) = c2 + (c' - c) from by omega]⟩
    · rename_i hp
      cases h
      cases n' with
      | zero => exact ⟨_, by rw [kidsC, Nat.sub_self, Nat.add_zero]⟩
      | succ n' => exact ⟨_, by rw [kidsC, if_neg (by omega), Nat.sub_self, Nat.add_zero]⟩
theorem openC_move {node node' : Nat → Nat → Except Flt (Tree × Nat)} {lim lim' : Nat} (hn : NodeMv o hi lim' node node') (hk : NodeOk lim node) : ∀ {n n' p c c2 : Nat} {acc acc' l : List Tree} {st c' : Nat}, openC node b lim n p c acc = .ok (l, st, c') → o ≤ p → st + 2 ≤ hi → c2 ≤ c → c ≤ 300 → st + 2 - o ≤ lim' → st + 1 - p ≤ n' → ∃ l', openC node' s lim' n' (p - o) c2 acc' = .ok (l', st - o, c2 + (c' - c))
  | 0, n', p, c, c2, acc, acc', l, st, c', h, ho, hst, hc, h300, hl, hn' => by simp only [openC] at h; cases h
  | n + 1, n', p, c, c2, acc, acc', l, st, c', h, ho, hst, hc, h300, hl, hn' => by
    have hps := openC_ok hk h h300
    obtain ⟨n', rfl⟩ : ∃ e, n' = e + 1 := ⟨n' - 1, by omega⟩
    simp only [openC] at h
    split at h
    · rename_i hz
      cases h
      rw [openC, if_pos ⟨by omega, by rw [hB p ho (by omega)]; exact hz.2.1, by rw [show p - o + 1 = p + 1 - o from by omega, hB (p + 1) (by omega) (by omega)]; exact hz.2.2⟩]
      exact ⟨_, by rw [Nat.sub_self, Nat.add_zero]⟩
    · rename_i hz
      split at h
      · cases h
      · split at h
        · cases h
        · rename_i t c1 h1
          have q := hk _ _ _ _ h1
          have q2 := openC_ok hk h (by omega)
          obtain ⟨t', e1, e2⟩ := hn p c c2 t c1 h1 ho (by omega) (by omega) hc
          obtain ⟨l', e3⟩ := openC_move hn hk (n' := n') (c2 := c2 + (c1 - c)) (acc' := acc' ++ [t']) h (by omega) hst (by omega) (by omega) hl (by omega)
          rw [openC, if_neg (fun hz' => hz ⟨by omega, by rw [hB p ho (by omega)] at hz'; exact hz'.2.1, by rw [show p - o + 1 = p + 1 - o from by omega, hB (p + 1) (by omega) (by omega)] at hz'; exact hz'.2.2⟩), if_neg (by omega), e1]
          simp only [e2]
          rw [e3]
          exact ⟨l', by rw [show c2 + (c1 - c) + (c' - c1) = c2 + (c' - c) from by omega]⟩
theorem rd_move : ∀ (d lim d' lim' : Nat), d ≤ d' → lim ≤ b.size → d ≤ 16 → NodeMv o hi lim' (fun a c => rd b d a lim c) (fun a c => rd s d' a lim' c)
  | d, lim, d', lim', hd, hlb, hd16, a, c, c2, t, c', h, ho, hf, hl, hc => by
    simp only at h ⊢
    have hNok := rd_ok b d lim a c t c' h
    have hwf := (rd_wf b d lim hlb hd16 a c t c' h).1
    cases hid : ident b a lim with
    | error e => rw [rd_e1 hid] at h; cases h
    | ok x =>
      obtain ⟨cls, num, bl, p1⟩ := x
      have q1 := ident_ok hid
      cases hlen : lenOf b p1 lim bl with
      | error e => rw [rd_e2 hid hlen] at h; cases h
      | ok x =>
        obtain ⟨on, p2⟩ := x
        have q2 := lenOf_ok hlen
        cases hany : on.any (fun n => decide (lim - p2 < n)) with
        | true => rw [rd_e3 hid hlen hany] at h; cases h
        | false =>
          by_cases hcnt : 300 < c + 1
          · rw [rd_e4 hid hlen hany hcnt] at h; cases h
          · cases d with
            | zero => rw [rd_e5 hid hlen hany hcnt] at h; cases h
            | succ d =>
              obtain ⟨d', rfl⟩ : ∃ e, d' = e + 1 := ⟨d' - 1, by omega⟩
              cases on with
              | none =>
                rw [rd_open hid hlen hcnt] at h
                cases hop : openC (fun a c => rd b d a lim c) b lim (lim - p2 + 1) p2 (c + 1) [] with
                | error e => rw [hop] at h; cases h
                | ok x =>
                  obtain ⟨l, st, c1⟩ := x
                  rw [hop] at h; cases h
                  simp only [Tree.h_mk] at hf hl hNok ⊢
                  have hst := openC_ok (rd_ok b d lim) hop (by omega)
                  have i1 := ident_move hB (lim' := lim') hid ho (by omega) (by omega)
                  have i2 := lenOf_move hB (lim' := lim') hlen (by omega) (by omega) (by omega)
                  obtain ⟨l', e1⟩ := openC_move hB (rd_move d lim d' lim' (by omega) hlb (by omega)) (rd_ok b d lim) (n' := lim' - (p2 - o) + 1) (c2 := c2 + 1) (acc' := []) hop (by omega) (by omega) (by omega) (by omega) (by omega) (by omega)
                  rw [rd_open i1 i2 (by omega), e1, show c2 + 1 + (c' - (c + 1)) = c2 + (c' - c) from by omega]
                  exact ⟨_, rfl, by simp only [Tree.h_mk]; omega⟩
              | some n =>
                have hn : ¬ lim - p2 < n := by simpa using hany
                cases bl with
                | false =>
                  rw [rd_leaf hid hlen hn hcnt] at h; cases h
                  simp only [Tree.h_mk] at hf hl ⊢
                  have i1 := ident_move hB (lim' := lim') hid ho (by omega) (by omega)
                  have i2 := lenOf_move hB (lim' := lim') hlen (by omega) (by omega) (by omega)
                  rw [rd_leaf i1 i2 (by omega) (by omega)]
                  exact ⟨_, by rw [show c2 + (c + 1 - c) = c2 + 1 from by omega], by simp only [Tree.h_mk]; omega⟩
                | true =>
                  rw [rd_kids hid hlen hn hcnt] at h
                  cases hop : kidsC (fun a c => rd b d a (p2 + n) c) (p2 + n) n p2 (c + 1) [] with
                  | error e => rw [hop] at h; cases h
                  | ok x =>
                    obtain ⟨l, c1⟩ := x
                    rw [hop] at h; cases h
                    simp only [Tree.h_mk] at hf hl hNok ⊢
                    have i1 := ident_move hB (lim' := lim') hid ho (by omega) (by omega)
                    have i2 := lenOf_move hB (lim' := lim') hlen (by omega) (by omega) (by omega)
                    obtain ⟨l', e1⟩ := kidsC_move (rd_move d (p2 + n) d' (p2 + n - o) (by omega) (by omega) (by omega)) (rd_ok b d (p2 + n)) hf (n' := n) (c2 := c2 + 1) (acc' := []) hop (by omega) (by omega) (by omega) (by omega) (by omega)
                    rw [rd_kids i1 i2 (by omega) (by omega), show p2 - o + n = p2 + n - o from by omega, e1, show c2 + 1 + (c' - (c + 1)) = c2 + (c' - c) from by omega]
                    exact ⟨_, rfl, by simp only [Tree.h_mk]⟩
end
end Go.Proofs.Ytmjjfdppaomcfaa

/- Plain: a node put there again changes nothing; where nodes are over. -/
namespace Go.Proofs.Ytmjjfdppaomcfaa
open Go Go.Proofs.Ytmjjfdppaomcfaa.Ab

def RdN (b : ByteArray) (x : Tree) : Prop := ∃ d lim c c', d ≤ 16 ∧ lim ≤ b.size ∧ rd b d x.h.frm lim c = .ok (x, c')
theorem kidsC_from {node : Nat → Nat → Except Flt (Tree × Nat)} {stop : Nat} : ∀ {n p c : Nat} {acc l : List Tree} {c' : Nat}, kidsC node stop n p c acc = .ok (l, c') → ∀ t ∈ l, t ∈ acc ∨ ∃ a c c', node a c = .ok (t, c')
  | 0, p, c, acc, l, c', h, t, ht => by simp only [kidsC] at h; cases h; exact .inl ht
  | n + 1, p, c, acc, l, c', h, t, ht => by
    simp only [kidsC] at h
    split at h
    · split at h
      · cases h
      · rename_i t1 c1 h1
        rcases kidsC_from h t ht with h2 | h2
        · rcases List.mem_append.mp h2 with h3 | h3
          · exact .inl h3
          · have : t = t1 := by simpa using h3
            subst this; exact .inr ⟨_, _, _, h1⟩
        · exact .inr h2
    · cases h; exact .inl ht
theorem openC_from {node : Nat → Nat → Except Flt (Tree × Nat)} {b : ByteArray} {lim : Nat} : ∀ {n p c : Nat} {acc l : List Tree} {s c' : Nat}, openC node b lim n p c acc = .ok (l, s, c') → ∀ t ∈ l, t ∈ acc ∨ ∃ a c c', node a c = .ok (t, c')
  | 0, p, c, acc, l, s, c', h, t, ht => by simp only [openC] at h; cases h
  | n + 1, p, c, acc, l, s, c', h, t, ht => by
    simp only [openC] at h
    split at h
    · cases h; exact .inl ht
    · split at h
      · cases h
      · split at h
        · cases h
        · rename_i t1 c1 h1
          rcases openC_from h t ht with h2 | h2
          · rcases List.mem_append.mp h2 with h3 | h3
            · exact .inl h3
            · have : t = t1 := by simpa using h3
              subst this; exact .inr ⟨_, _, _, h1⟩
          · exact .inr h2
theorem subs_mem : ∀ {l : List Tree} {x : Tree}, x ∈ subTs l → ∃ t ∈ l, x ∈ subT t
  | [], x, h => by simp [subTs] at h
  | t :: l, x, h => by
    rw [subTs] at h
    rcases List.mem_append.mp h with h | h
    · exact ⟨t, by simp, h⟩
    · obtain ⟨u, h1, h2⟩ := subs_mem h
      exact ⟨u, by simp [h1], h2⟩
theorem rd_sub {b : ByteArray} : ∀ (d a lim c : Nat) (t : Tree) (c' : Nat), rd b d a lim c = .ok (t, c') → d ≤ 16 → lim ≤ b.size → ∀ x ∈ subT t, RdN b x
  | d, a, lim, c, t, c', h, hd, hlb, x, hx => by
    have hok := rd_ok b d lim a c t c' h
    have hwf := rd_wf b d lim hlb hd a c t c' h
    rw [subT_cons] at hx
    rcases List.mem_cons.mp hx with rfl | hx
    · exact ⟨d, lim, c, c', hd, hlb, by rw [hwf.2]; exact h⟩
    · cases hid : ident b a lim with
      | error e => rw [rd_e1 hid] at h; cases h
      | ok y =>
        obtain ⟨cls, num, bl, p1⟩ := y
        cases hlen : lenOf b p1 lim bl with
        | error e => rw [rd_e2 hid hlen] at h; cases h
        | ok y =>
          obtain ⟨on, p2⟩ := y
          cases hany : on.any (fun n => decide (lim - p2 < n)) with
          | true => rw [rd_e3 hid hlen hany] at h; cases h
          | false =>
            by_cases hcnt : 300 < c + 1
            · rw [rd_e4 hid hlen hany hcnt] at h; cases h
            · cases d with
              | zero => rw [rd_e5 hid hlen hany hcnt] at h; cases h
              | succ d =>
                cases on with
                | none =>
                  rw [rd_open hid hlen hcnt] at h
                  cases hop : openC (fun a c => rd b d a lim c) b lim (lim - p2 + 1) p2 (c + 1) [] with
                  | error e => rw [hop] at h; cases h
                  | ok y =>
                    obtain ⟨l, st, c1⟩ := y
                    rw [hop] at h; cases h
                    obtain ⟨k, h1, h2⟩ := subs_mem hx
                    rcases openC_from hop k h1 with h3 | ⟨a', c2, c3, h3⟩
                    · simp at h3
                    · exact rd_sub d a' lim c2 k c3 h3 (by omega) hlb x h2
                | some n =>
                  have hn : ¬ lim - p2 < n := by simpa using hany
                  cases bl with
                  | false =>
                    rw [rd_leaf hid hlen hn hcnt] at h; cases h
                    simp [Tree.kids_mk, subTs] at hx
                  | true =>
                    rw [rd_kids hid hlen hn hcnt] at h
                    cases hop : kidsC (fun a c => rd b d a (p2 + n) c) (p2 + n) n p2 (c + 1) [] with
                    | error e => rw [hop] at h; cases h
                    | ok y =>
                      obtain ⟨l, c1⟩ := y
                      rw [hop] at h; cases h
                      simp only [Tree.h_mk] at hok
                      obtain ⟨k, h1, h2⟩ := subs_mem hx
                      rcases kidsC_from hop k h1 with h3 | ⟨a', c2, c3, h3⟩
                      · simp at h3
                      · exact rd_sub d a' (p2 + n) c2 k c3 h3 (by omega) (by omega) x h2
theorem readB_sub {b : ByteArray} {l : List Tree} (h : readB b = .ok l) {x : Tree} (hx : x ∈ subTs l) : RdN b x := by
  unfold readB at h
  split at h
  · cases h
  · split at h
    · cases h
    · split at h
      · cases h
      · rename_i l' c hk
        cases h
        obtain ⟨k, h1, h2⟩ := subs_mem hx
        rcases kidsC_from hk k h1 with h3 | ⟨a', c2, c3, h3⟩
        · simp at h3
        · exact rd_sub 16 a' b.size c2 k c3 h3 (Nat.le_refl _) (Nat.le_refl _) x h2
theorem bt_ext {b : ByteArray} {p q i : Nat} (h1 : p ≤ i) (h2 : i < q) (h3 : q ≤ b.size) : bt (b.extract p q) (i - p) = bt b i := by
  unfold bt
  have hs : (b.extract p q).size = q - p := by rw [ByteArray.size_extract]; omega
  rw [getElem?_pos b i (by omega), getElem?_pos (b.extract p q) (i - p) (by omega)]
  simp only [ByteArray.getElem_extract]
  congr 2; omega
theorem sub_read {b : ByteArray} {x : Tree} (hb : b.size ≤ 4000) (h : RdN b x) : errOf (readB (b.extract x.h.frm x.h.fin)) = 0 := by
  obtain ⟨d, lim, c, c', hd, hl, hr⟩ := h
  have hok := rd_ok b d lim _ c x c' hr
  have hs : (b.extract x.h.frm x.h.fin).size = x.h.fin - x.h.frm := by rw [ByteArray.size_extract]; omega
  obtain ⟨t', e1, e2⟩ := rd_move (b := b) (s := b.extract x.h.frm x.h.fin) (o := x.h.frm) (hi := x.h.fin) (fun i h1 h2 => bt_ext h1 h2 (by omega)) d lim 16 (x.h.fin - x.h.frm) hd hl hd x.h.frm c 0 x c' hr (Nat.le_refl _) (Nat.le_refl _) (Nat.le_refl _) (Nat.zero_le _)
  simp only [Nat.sub_self, Nat.zero_add] at e1
  unfold readB
  rw [if_neg (by omega), if_neg (by omega), hs]
  obtain ⟨n, hn⟩ : ∃ n, x.h.fin - x.h.frm = n + 1 := ⟨x.h.fin - x.h.frm - 1, by omega⟩
  rw [hn] at e1 e2 ⊢
  rw [kidsC, if_pos (by omega), e1]
  simp only [e2]
  have : kidsC (fun a c => rd (b.extract x.h.frm x.h.fin) 16 a (n + 1) c) (n + 1) n (n + 1) (c' - c) ([] ++ [t']) = .ok ([] ++ [t'], c' - c) := by
    cases n with
    | zero => rfl
    | succ n => rw [kidsC, if_neg (by omega)]
  rw [this]; rfl
theorem ext_all (b : ByteArray) : b.extract 0 b.size = b := by
  apply ByteArray.ext
  simp
theorem replaced_same {b : ByteArray} {l : List Tree} (h : readB b = .ok l) {x : Tree} (hx : x ∈ subTs l) :
    nodeAtP b ((pathN x.h.frm 17 l).map Int.ofNat) = (x.h, 0) ∧ replacedP b ((pathN x.h.frm 17 l).map Int.ofNat) (b.extract x.h.frm x.h.fin) = (b, 0) := by
  have hwf := readB_wf h
  have hb := readB_len h
  obtain ⟨ys, hf⟩ := path_to 17 0 l _ _ x hwf rfl hx
  have hin := subs_in hwf hx
  have hr := sub_read hb.2 (readB_sub h hx)
  have h0 : errOf (readB b) = 0 := by rw [h]; rfl
  generalize (pathN x.h.frm 17 l).map Int.ofNat = path at hf
  constructor
  · unfold nodeAtP
    rw [if_neg (fun e => e h0), h]
    simp only [okL, hf]
  · have ho : replA b (ys.map Tree.h).reverse x.h.frm x.h.fin (b.extract x.h.frm x.h.fin) = b := by
      rw [← around_replA hwf hf, around_same hwf hf, ext_all]
    unfold replacedP
    rw [if_neg (fun e => e h0), h]
    simp only [okL, hf]
    rw [if_neg (fun e => by cases e.2), if_neg (fun e => e.2 hr), ho, if_neg (by omega), if_neg (fun e => e h0)]

/-! where nodes are over -/
def closedN (l : List Hd) (k : Nat) : Nat → Nat
  | 0 => 0
  | n + 1 => if (l.getD n default).deep = k then (l.getD n default).fin else closedN l k n
def closedP (l : List Hd) (k : Nat) : Nat := closedN l k l.length
theorem closedN_app (l : List Hd) (x : Hd) (k : Nat) : ∀ n, n ≤ l.length → closedN (l ++ [x]) k n = closedN l k n
  | 0, _ => rfl
  | n + 1, h => by
    simp only [closedN]
    rw [closedN_app l x k n (by omega), List.getD_eq_getElem?_getD, List.getElem?_append_left (by omega), ← List.getD_eq_getElem?_getD]
theorem closedP_snoc (l : List Hd) (x : Hd) (k : Nat) : closedP (l ++ [x]) k = if x.deep = k then x.fin else closedP l k := by
  unfold closedP
  rw [List.length_append, List.length_singleton, closedN, closedN_app l x k _ (Nat.le_refl _)]
  simp
/-- what is still to come: the nodes around, and what is left in them -/
def FrOk (b : ByteArray) : List (Hd × List Tree) → List Tree → Nat → Prop
  | [], r0, p => okTs b 0 p b.size r0
  | (y, r) :: fs, r0, p => okTs b (fs.length + 1) p y.stop r ∧ FrOk b fs r0 y.fin
def remN : List (Hd × List Tree) → List Tree → List Tree
  | [], r0 => subTs r0
  | (_, r) :: fs, r0 => subTs r ++ remN fs r0
def ClOk (L : List Hd) : List (Hd × List Tree) → Prop
  | [] => True
  | (y, _) :: fs => closedP L fs.length = y.fin ∧ ClOk L fs
theorem ClOk.snoc {L : List Hd} {x : Hd} : ∀ {fs : List (Hd × List Tree)} {n : Nat}, ClOk L fs → fs.length ≤ n → x.deep = n → ClOk (L ++ [x]) fs
  | [], n, h, hn, hx => trivial
  | (y, r) :: fs, n, h, hn, hx => by
    simp only [ClOk, List.length_cons] at h hn ⊢
    rw [closedP_snoc, if_neg (by omega)]
    exact ⟨h.1, ClOk.snoc h.2 (show fs.length ≤ n by omega) hx⟩
def endsOf (fs : List (Hd × List Tree)) : List Nat := (fs.map fun f => f.1.stop).reverse
theorem endsOf_cons (y : Hd) (r : List Tree) (fs : List (Hd × List Tree)) : endsOf ((y, r) :: fs) = endsOf fs ++ [y.stop] := by simp [endsOf]
theorem endsOf_len (fs : List (Hd × List Tree)) : (endsOf fs).length = fs.length := by simp [endsOf]
end Go.Proofs.Ytmjjfdppaomcfaa

/- Walks: the whole is its parts. -/
namespace Go.Proofs.Ytmjjfdppaomcfaa
open Go Go.Proofs.Ytmjjfdppaomcfaa.Ab
set_option maxRecDepth 100000
set_option linter.unusedSimpArgs false

theorem closed31 (L : List Hd) (k : Nat) (hl : L.length ≤ 1000) : FCall Try.prog 31 [nodesV L, iv k] (· = iv (closedP L k)) := by
  generalize hR : closedP L k = R
  unfold closedP at hR
  have wl : IntKind.i64.wrap ((L.length : Int) - 1) = (L.length : Int) - 1 := wrapI (by omega) (by omega)
  refine ACall.enter [] Cd.fn31 (by simp) ?_
  simp only [nodesV, List.length_map, wl, Cd.cd31, Tk.t31, base0, base1, base2, base3, Option.isNone_none, Option.isNone_some, Nat.reduceBEq, true_or, or_true, false_or, or_false, Nat.reduceLT, Nat.reduceMod, Nat.reducePow, rmaps, nsucc, List.flatten_cons, List.flatten_nil, Nat.reduceEqDiff, Nat.reduceLeDiff, Nat.reduceAdd, Nat.reduceMul, Nat.reduceSub, ↓reduceIte, reduceCtorEq, decide_true, decide_false]
  refine LWP.loop [] (fun m f H' => ∃ n, m = n + 1 ∧ (n ≤ L.length) ∧ (closedN L k n = R) ∧ f.t 0 = nodesV L ∧ f.t 1 = iv k ∧ f.t 5 = .v (.int .i64 ((n : Int) - 1)) ∧ f.ds = [] ∧ H' = AH.none) ?_ ?_ (m := (L.length) + 1)
  · exact ⟨L.length, rfl, (Nat.le_refl _), (hR), rfl, rfl, rfl, rfl, rfl⟩
  · rintro m f H' ⟨n, rfl, hn, hT, f0, f1, f5, hds, rfl⟩
    cases n with
    | zero =>
      simp only [show decide (((0 : Nat) : Int) - 1 ≥ 0) = false from rfl, f0, f1, f5, hds, Cd.cd31, Tk.t31, base0, base1, base2, base3, Option.isNone_none, Option.isNone_some, Nat.reduceBEq, true_or, or_true, false_or, or_false, Nat.reduceLT, Nat.reduceMod, Nat.reducePow, rmaps, nsucc, List.flatten_cons, List.flatten_nil, Nat.reduceEqDiff, Nat.reduceLeDiff, Nat.reduceAdd, Nat.reduceMul, Nat.reduceSub, ↓reduceIte, reduceCtorEq, decide_true, decide_false]
      exact fin_v (by rw [← hT] <;> rfl)
    | succ n =>
      have e1 : ((n + 1 : Nat) : Int) - 1 = (n : Int) := by omega
      rw [e1] at f5
      rw [closedN] at hT
      have hrow := getDmap nodeL L n (by omega)
      generalize L.getD n default = x at hrow hT
      have w2 : IntKind.i64.wrap ((n : Int) - 1) = (n : Int) - 1 := wrapI (by omega) (by omega)
      by_cases hk : x.deep = k
      · rw [if_pos hk] at hT
        simp only [nodesV, iv, List.length_map, show decide ((n : Int) ≥ 0) = true from decide_eq_true (by omega), ltT (show n < L.length by omega), Int.natCast_nonneg, Int.toNat_natCast, hrow, nodeL, beqT (show (x.deep : Int) = (k : Int) by omega), f0, f1, f5, hds, Cd.cd31, Tk.t31, base0, base1, base2, base3, Option.isNone_none, Option.isNone_some, Nat.reduceBEq, true_or, or_true, false_or, or_false, Nat.reduceLT, Nat.reduceMod, Nat.reducePow, rmaps, nsucc, List.flatten_cons, List.flatten_nil, Nat.reduceEqDiff, Nat.reduceLeDiff, Nat.reduceAdd, Nat.reduceMul, Nat.reduceSub, ↓reduceIte, reduceCtorEq, decide_true, decide_false]
        exact fin_v (by rw [← hT] <;> rfl)
      · rw [if_neg hk] at hT
        simp only [nodesV, iv, List.length_map, show decide ((n : Int) ≥ 0) = true from decide_eq_true (by omega), ltT (show n < L.length by omega), Int.natCast_nonneg, Int.toNat_natCast, hrow, nodeL, beqF (show (x.deep : Int) ≠ (k : Int) by omega), w2, f0, f1, f5, hds, Cd.cd31, Tk.t31, base0, base1, base2, base3, Option.isNone_none, Option.isNone_some, Nat.reduceBEq, true_or, or_true, false_or, or_false, Nat.reduceLT, Nat.reduceMod, Nat.reducePow, rmaps, nsucc, List.flatten_cons, List.flatten_nil, Nat.reduceEqDiff, Nat.reduceLeDiff, Nat.reduceAdd, Nat.reduceMul, Nat.reduceSub, ↓reduceIte, reduceCtorEq, decide_true, decide_false]
        refine ⟨_, by omega, n, rfl, by omega, hT, ?_⟩
        (repeat' apply And.intro) <;> first | rfl | trivial
end Go.Proofs.Ytmjjfdppaomcfaa

/- Walks: the law of the whole: its end. -/
namespace Go.Proofs.Ytmjjfdppaomcfaa
open Go Go.Proofs.Ytmjjfdppaomcfaa.Ab
set_option maxRecDepth 100000
set_option linter.unusedSimpArgs false

/-- a list of the call's own, or nil -/
def EndsA (H : AH) (v : AV) (E : List Nat) : Prop := (E = [] ∧ v = nilS) ∨ ∃ q rest, v = .sl 1 q 0 E.length ∧ q < H.next ∧ H.own q = some (.cells (flatE natR E ++ rest))
theorem natR_len (n : Nat) : (natR n).length = 1 := rfl
theorem okTs_self {b : ByteArray} {D p : Nat} {l : List Tree} (h : okTs b D p p l) : l = [] := by
  cases l with
  | nil => rfl
  | cons t l =>
    simp only [okTs] at h
    have := okT_lt h.2.1
    have := okTs_le h.2.2
    omega
theorem subTs_nil {l : List Tree} (h : subTs l = []) : l = [] := by
  cases l with
  | nil => rfl
  | cons t l => rw [subTs, subT_cons] at h; cases h
theorem ends_last {fs : List (Hd × List Tree)} {y : Hd} {r : List Tree} (rest : List AV) : List.drop (fs.length * 1) (flatE natR (endsOf ((y, r) :: fs)) ++ rest) = iv y.stop :: rest := by
  have e : fs.length * 1 = (flatE natR (endsOf fs)).length := by rw [flatE_len natR_len, endsOf_len]
  rw [endsOf_cons, flatE_append, List.append_assoc, e, List.drop_left]; rfl
theorem EndsA.pop {H' : AH} {fs : List (Hd × List Tree)} {y : Hd} {r : List Tree} {q : Nat} {rest : List AV} (hq : q < H'.next) (ho : H'.own q = some (.cells (flatE natR (endsOf ((y, r) :: fs)) ++ rest))) : EndsA H' (.sl 1 q 0 fs.length) (endsOf fs) := by
  refine .inr ⟨q, [iv y.stop] ++ rest, by rw [endsOf_len], hq, ?_⟩
  rw [ho, endsOf_cons, flatE_append, List.append_assoc]; rfl

def rest8 : CC := dropS 8 Cd.cd8
set_option maxHeartbeats 2000000 in
theorem tail8 {b : ByteArray} {l : List Tree} (hb : b.size ≤ 4000) (hlen : (flatTs l).length ≤ 300) (h0 : 0 < (flatTs l).length) (f : AF) (H : AH) (p : Nat) (fs : List (Hd × List Tree)) (r0 : List Tree)
    (f0 : f.t 0 = .v (.string b)) (f3 : f.t 3 = nodesV (flatTs l)) (f6 : f.t 6 = iv p) (hds : f.ds = []) (hFr : FrOk b fs r0 p) (hRem : remN fs r0 = []) (hCl : ClOk (flatTs l) fs) (hfl : fs.length ≤ 300) (hE : EndsA H (f.t 7) (endsOf fs)) :
    cwp Try.prog [127] 215 rest8 (Kont.fin Try.prog [ResultVar.tmp 2] (fun out H' => ∃ v v', out = .ret v ∧ View H' v v' ∧ FZ v' ∧ v' = .v (.bool true))) f H := by
  simp only [rest8, dropS, Cd.cd8, Tk.t8, base0, base1, base2, base3, Option.isNone_none, Option.isNone_some, Nat.reduceBEq, true_or, or_true, false_or, or_false, Nat.reduceLT, Nat.reduceMod, Nat.reducePow, rmaps, nsucc, List.flatten_cons, List.flatten_nil, Nat.reduceEqDiff, Nat.reduceLeDiff, Nat.reduceAdd, Nat.reduceMul, Nat.reduceSub, ↓reduceIte, reduceCtorEq, decide_true, decide_false]
  refine LWP.loop [127] (fun m f H' => ∃ p fs r0, m = fs.length ∧ (FrOk b fs r0 p) ∧ (remN fs r0 = []) ∧ (ClOk (flatTs l) fs) ∧ (fs.length ≤ 300) ∧ f.t 0 = .v (.string b) ∧ f.t 3 = nodesV (flatTs l) ∧ f.t 6 = iv p ∧ f.ds = [] ∧ EndsA H' (f.t 7) (endsOf fs)) ?_ ?_ (m := (fs).length)
  · exact ⟨p, fs, r0, rfl, (hFr), (hRem), (hCl), (hfl), by simp [f0], by simp [f3], by simp [f6], (hds), hE⟩
  · rintro m f H' ⟨p, fs, r0, rfl, hFr, hRem, hCl, hfl, f0, f3, f6, hds, hE⟩
    cases fs with
    | nil =>
      simp only [FrOk, remN] at hFr hRem
      have hr0 := subTs_nil hRem
      subst hr0
      simp only [okTs] at hFr
      subst hFr
      rcases hE with ⟨-, h7⟩ | ⟨q, rest, h7, hq, ho⟩
      · simp only [h7, nilS, iv, nodesV, List.length_map, show decide (((0 : Nat) : Int) > 0) = false from rfl, show decide ((0 : Int) > 0) = false from rfl, show decide (((flatTs l).length : Int) > 0) = true from decide_eq_true (by omega), show (((0 : Nat) : Int) == 0) = true from rfl, show ((0 : Int) == 0) = true from rfl, beqT (show (b.size : Int) = (b.size : Int) from rfl), f0, f3, f6, hds, Cd.cd8, Tk.t8, base0, base1, base2, base3, Option.isNone_none, Option.isNone_some, Nat.reduceBEq, true_or, or_true, false_or, or_false, Nat.reduceLT, Nat.reduceMod, Nat.reducePow, rmaps, nsucc, List.flatten_cons, List.flatten_nil, Nat.reduceEqDiff, Nat.reduceLeDiff, Nat.reduceAdd, Nat.reduceMul, Nat.reduceSub, ↓reduceIte, reduceCtorEq, decide_true, decide_false]
        exact fin_v rfl
      · simp only [h7, endsOf, List.map_nil, List.reverse_nil, List.length_nil, iv, nodesV, List.length_map, show decide (((0 : Nat) : Int) > 0) = false from rfl, show decide ((0 : Int) > 0) = false from rfl, show decide (((flatTs l).length : Int) > 0) = true from decide_eq_true (by omega), show (((0 : Nat) : Int) == 0) = true from rfl, show ((0 : Int) == 0) = true from rfl, beqT (show (b.size : Int) = (b.size : Int) from rfl), f0, f3, f6, hds, Cd.cd8, Tk.t8, base0, base1, base2, base3, Option.isNone_none, Option.isNone_some, Nat.reduceBEq, true_or, or_true, false_or, or_false, Nat.reduceLT, Nat.reduceMod, Nat.reducePow, rmaps, nsucc, List.flatten_cons, List.flatten_nil, Nat.reduceEqDiff, Nat.reduceLeDiff, Nat.reduceAdd, Nat.reduceMul, Nat.reduceSub, ↓reduceIte, reduceCtorEq, decide_true, decide_false]
        exact fin_v rfl
    | cons yr fs =>
      obtain ⟨y, r⟩ := yr
      simp only [FrOk, remN, List.append_eq_nil_iff, ClOk, List.length_cons] at hFr hRem hCl hfl
      have hr := subTs_nil hRem.1
      subst hr
      have hp := hFr.1
      simp only [okTs] at hp
      subst hp
      rcases hE with ⟨h, -⟩ | ⟨q, rest, h7, hq, ho⟩
      · have := congrArg List.length h; rw [endsOf_len] at this; simp at this
      · rw [endsOf_len, List.length_cons] at h7
        have hlast := ends_last (fs := fs) (y := y) (r := []) rest
        have wl : IntKind.i64.wrap (((fs.length + 1 : Nat) : Int) - 1) = (fs.length : Int) := by rw [wrapI (by omega) (by omega)]; omega
        have hE' := EndsA.pop (H' := H') (y := y) (r := []) hq ho
        simp only [h7, ho, iv, nodesV, List.length_map, wl, show decide (((fs.length + 1 : Nat) : Int) > 0) = true from decide_eq_true (by omega), Int.natCast_nonneg, Int.toNat_natCast, ltT (show fs.length < fs.length + 1 by omega), leT (show fs.length ≤ fs.length + 1 by omega), hlast, beqT (show (y.stop : Int) = (y.stop : Int) from rfl), f0, f3, f6, hds, Cd.cd8, Tk.t8, base0, base1, base2, base3, Option.isNone_none, Option.isNone_some, Nat.reduceBEq, true_or, or_true, false_or, or_false, Nat.reduceLT, Nat.reduceMod, Nat.reducePow, rmaps, nsucc, List.flatten_cons, List.flatten_nil, Nat.reduceEqDiff, Nat.reduceLeDiff, Nat.reduceAdd, Nat.reduceMul, Nat.reduceSub, ↓reduceIte, reduceCtorEq, decide_true, decide_false]
        have hC := closed31 (flatTs l) fs.length (by omega)
        rw [hCl.1] at hC
        have hzn := FZ.nodesV (flatTs l)
        simp only [nodesV, iv] at hC hzn
        first | refine FCall.go hC (FZs.cons hzn (FZs.one (FZ.v _))) ?_ | refine FCall.go' hC (FZs.cons hzn (FZs.one (FZ.v _))) ?_ | refine FCall.goQ hC (FZs.cons hzn (FZs.one (FZ.v _))) ?_
        simp only [f0, f3, f6, hds, Cd.cd8, Tk.t8, base0, base1, base2, base3, Option.isNone_none, Option.isNone_some, Nat.reduceBEq, true_or, or_true, false_or, or_false, Nat.reduceLT, Nat.reduceMod, Nat.reducePow, rmaps, nsucc, List.flatten_cons, List.flatten_nil, Nat.reduceEqDiff, Nat.reduceLeDiff, Nat.reduceAdd, Nat.reduceMul, Nat.reduceSub, ↓reduceIte, reduceCtorEq, decide_true, decide_false]
        refine ⟨_, by simp, y.fin, fs, r0, rfl, hFr.2, hRem.2, hCl.2, by omega, ?_⟩
        (repeat' apply And.intro) <;> first | rfl | exact hE'

/-- the next node -/
theorem next_node {b : ByteArray} {S : List Tree} {i p : Nat} : ∀ {fs : List (Hd × List Tree)} {r0 : List Tree}, FrOk b fs r0 p → S.drop i = remN fs r0 → i < S.length → (∀ y r fs', fs = (y, r) :: fs' → p ≠ y.stop) →
    ∃ t fs' r0', okT b fs.length t ∧ t.h.frm = p ∧ S.drop i = t :: (subTs t.kids ++ remN fs' r0') ∧ FrOk b fs' r0' t.h.fin ∧ fs'.length = fs.length ∧ endsOf fs' = endsOf fs ∧ (∀ L, ClOk L fs → ClOk L fs')
  | [], r0, hF, hS, hi, hp => by
    simp only [FrOk, remN] at hF hS
    cases r0 with
    | nil =>
      have := congrArg List.length hS
      simp [subTs] at this; omega
    | cons t r0 =>
      simp only [okTs] at hF
      rw [subTs, subT_cons, List.cons_append] at hS
      exact ⟨t, [], r0, hF.2.1, hF.1, hS, hF.2.2, rfl, rfl, fun _ h => h⟩
  | (y, r) :: fs, r0, hF, hS, hi, hp => by
    simp only [FrOk, remN] at hF hS
    cases r with
    | nil =>
      have h1 := hF.1
      simp only [okTs] at h1
      exact absurd h1 (hp y [] fs rfl)
    | cons t r =>
      have h1 := hF.1
      simp only [okTs] at h1
      rw [subTs, subT_cons, List.cons_append, List.cons_append, List.append_assoc] at hS
      exact ⟨t, (y, r) :: fs, r0, h1.2.1, h1.1, hS, ⟨h1.2.2, hF.2⟩, rfl, by simp [endsOf], fun L h => h⟩
end Go.Proofs.Ytmjjfdppaomcfaa

/- Walks: the law of the whole: a node. -/
namespace Go.Proofs.Ytmjjfdppaomcfaa
open Go Go.Proofs.Ytmjjfdppaomcfaa.Ab
set_option maxRecDepth 100000
set_option linter.unusedSimpArgs false

/-- a part of code, by the way to it: into a sequence's first or rest, a block, a loop -/
def getC : List Nat → CC → CC
  | [], c => c
  | 0 :: p, .seq a _ => getC p a
  | 1 :: p, .seq _ b => getC p b
  | 2 :: p, .block _ a => getC p a
  | 3 :: p, .loop a => getC p a
  | _ :: _, c => c
def setC : List Nat → CC → CC → CC
  | [], _, r => r
  | 0 :: p, .seq a b, r => .seq (setC p a r) b
  | 1 :: p, .seq a b, r => .seq a (setC p b r)
  | 2 :: p, .block i a, r => .block i (setC p a r)
  | 3 :: p, .loop a, r => .loop (setC p a r)
  | _ :: _, c, _ => c
def way8 : List Nat := [1, 1, 1, 1, 1, 1, 1, 0, 1, 2, 3, 1, 0, 2, 1, 1]
def rest8b : CC := getC way8 Cd.cd8
theorem cc8 : putS 8 (setC way8 Cd.cd8 rest8b) rest8 = Cd.cd8 := by rfl

theorem natsV_ints (l : List Nat) : natsV l = intsV (l.map Int.ofNat) := by
  unfold natsV intsV
  rw [List.map_map]; rfl
theorem count32' (x : Bool) : FCall Try.prog 32 [.v (.bool x)] (· = .v (.int .i64 ((if x then 1 else 0 : Nat) : Int))) := by
  have := count32 x
  cases x <;> exact this
def EndsB (N : Nat) (H : AH) (v : AV) (E : List Nat) : Prop := (E = [] ∧ v = nilS) ∨ ∃ q rest, v = .sl 1 q 0 E.length ∧ q < N ∧ H.own q = some (.cells (flatE natR E ++ rest))
theorem EndsA.ext {H H' : AH} {v : AV} {E : List Nat} (h : EndsA H v E) (ho : ∀ n, n < H.next → H'.own n = H.own n) : EndsB H.next H' v E := by
  rcases h with h | ⟨q, rest, h1, h2, h3⟩
  · exact .inl h
  · exact .inr ⟨q, rest, h1, h2, by rw [ho q h2]; exact h3⟩
theorem EndsB.pop {N : Nat} {H' : AH} {fs : List (Hd × List Tree)} {y : Hd} {r : List Tree} {q : Nat} {rest : List AV} (hq : q < N) (ho : H'.own q = some (.cells (flatE natR (endsOf ((y, r) :: fs)) ++ rest))) : EndsB N H' (.sl 1 q 0 fs.length) (endsOf fs) := by
  refine .inr ⟨q, [iv y.stop] ++ rest, by rw [endsOf_len], hq, ?_⟩
  rw [ho, endsOf_cons, flatE_append, List.append_assoc]; rfl

theorem pathN_len' (at_ : Int) : ∀ (d : Nat) (l : List Tree), (pathN at_ d l).length ≤ d
  | 0, l => by simp [pathN]
  | d + 1, l => by
    simp only [pathN]
    split
    · simp
    · have := pathN_len' at_ d; simp; exact this _
end Go.Proofs.Ytmjjfdppaomcfaa

/- Walks: the law of the whole: a node, taken apart. -/
namespace Go.Proofs.Ytmjjfdppaomcfaa
open Go Go.Proofs.Ytmjjfdppaomcfaa.Ab
set_option maxRecDepth 100000
set_option linter.unusedSimpArgs false

def rest8c : CC := getC [1, 1, 1] rest8b
theorem cc8b : setC [1, 1, 1] rest8b rest8c = rest8b := by rfl
set_option maxHeartbeats 8000000 in
theorem calls8 {b : ByteArray} {l : List Tree} (hr : readB b = .ok l) (i n9 : Nat) {t : Tree} (hmem : t ∈ subTs l) (hi : i < 1000) (K : Kont) (f : AF) (H : AH) (f0 : f.t 0 = .v (.string b)) (f8 : f.t 8 = iv i) (f9 : f.t 9 = .ptr n9 0) (hds : f.ds = []) (hn : n9 < H.next) (h9 : H.own n9 = some (.cells (nodeL t.h)))
    (hK : ∀ (f' : AF) (H' : AH), f'.t 0 = f.t 0 → f'.t 3 = f.t 3 → f'.t 6 = f.t 6 → f'.t 7 = f.t 7 → f'.t 8 = f.t 8 → f'.ds = [] → H.next ≤ H'.next → (∀ n, n < H.next → H'.own n = H.own n) → K.run .normal f' H') :
    cwp Try.prog [127] 215 rest8c K f H := by
  by_cases h12 : i < 12
  rotate_left
  · simp only [rest8c, rest8b, getC, way8, f8, iv, decide_eq_false (show ¬ ((i : Int) < 12) by omega), Cd.cd8, Tk.t8, base0, base1, base2, base3, Option.isNone_none, Option.isNone_some, Nat.reduceBEq, true_or, or_true, false_or, or_false, Nat.reduceLT, Nat.reduceMod, Nat.reducePow, rmaps, nsucc, List.flatten_cons, List.flatten_nil, Nat.reduceEqDiff, Nat.reduceLeDiff, Nat.reduceAdd, Nat.reduceMul, Nat.reduceSub, ↓reduceIte, reduceCtorEq, decide_true, decide_false]
    exact hK _ _ (by simp [upd]) (by simp [upd]) (by simp [upd]) (by simp [upd]) (by simp [upd]) (by simp [hds]) (Nat.le_refl _) (fun _ _ => rfl)
  have hb := readB_len hr
  have hwf := readB_wf hr
  have hin := subs_in hwf hmem
  have hsame := replaced_same hr hmem
  have hpl := pathN_len' (t.h.frm : Int) 17 l
  have hpt : pathToP b (t.h.frm : Int) = (pathN t.h.frm 17 l, 0) := by
    unfold pathToP
    rw [hr, if_neg (fun h => h rfl), if_neg (by omega)]; rfl
  have hP := pathTo28 b (t.h.frm : Int)
  rw [hpt] at hP
  generalize pathN (t.h.frm : Int) 17 l = pth at hpl hsame hP
  have hO := ownInts17 (pth.map Int.ofNat) (by simp; omega)
  have hN := nodeAt27 b (pth.map Int.ofNat) (by simp; omega)
  have hR := replaced16 b (pth.map Int.ofNat) (by simp; omega) (b.extract t.h.frm t.h.fin)
  rw [hsame.1] at hN
  rw [hsame.2] at hR
  rw [← natsV_ints] at hO hN hR
  have hz := FZ.natsV pth
  have hnn : (n9 = H.next) = False := eq_false (by omega)
  have hnn' : (H.next = n9) = False := eq_false (by omega)
  simp only [rest8c, rest8b, getC, way8, f0, f8, f9, h9, nodeL, iv, decide_eq_true (show (i : Int) < 12 by omega), Cd.cd8, Tk.t8, base0, base1, base2, base3, Option.isNone_none, Option.isNone_some, Nat.reduceBEq, true_or, or_true, false_or, or_false, Nat.reduceLT, Nat.reduceMod, Nat.reducePow, rmaps, nsucc, List.flatten_cons, List.flatten_nil, Nat.reduceEqDiff, Nat.reduceLeDiff, Nat.reduceAdd, Nat.reduceMul, Nat.reduceSub, ↓reduceIte, reduceCtorEq, decide_true, decide_false]
  first | refine FCall.go hP (FZs.cons (FZ.v _) (FZs.one (FZ.v _))) ?_ | refine FCall.go' hP (FZs.cons (FZ.v _) (FZs.one (FZ.v _))) ?_ | refine FCall.goQ hP (FZs.cons (FZ.v _) (FZs.one (FZ.v _))) ?_
  simp only [f0, f9, h9, nodeL, hnn, hnn', leT (show t.h.frm ≤ t.h.fin by omega), leT (show t.h.fin ≤ b.size by omega), Int.natCast_nonneg, Int.toNat_natCast, List.not_mem_nil, false_imp_iff, implies_true, liV, Cd.cd8, Tk.t8, base0, base1, base2, base3, Option.isNone_none, Option.isNone_some, Nat.reduceBEq, true_or, or_true, false_or, or_false, Nat.reduceLT, Nat.reduceMod, Nat.reducePow, rmaps, nsucc, List.flatten_cons, List.flatten_nil, Nat.reduceEqDiff, Nat.reduceLeDiff, Nat.reduceAdd, Nat.reduceMul, Nat.reduceSub, ↓reduceIte, reduceCtorEq, decide_true, decide_false]
  first | refine FCall.go hO (FZs.one hz) ?_ | refine FCall.go' hO (FZs.one hz) ?_ | refine FCall.goQ hO (FZs.one hz) ?_
  simp only [f0, f9, h9, nodeL, hnn, hnn', leT (show t.h.frm ≤ t.h.fin by omega), leT (show t.h.fin ≤ b.size by omega), Int.natCast_nonneg, Int.toNat_natCast, List.not_mem_nil, false_imp_iff, implies_true, Cd.cd8, Tk.t8, base0, base1, base2, base3, Option.isNone_none, Option.isNone_some, Nat.reduceBEq, true_or, or_true, false_or, or_false, Nat.reduceLT, Nat.reduceMod, Nat.reducePow, rmaps, nsucc, List.flatten_cons, List.flatten_nil, Nat.reduceEqDiff, Nat.reduceLeDiff, Nat.reduceAdd, Nat.reduceMul, Nat.reduceSub, ↓reduceIte, reduceCtorEq, decide_true, decide_false]
  first | refine FCall.go hN (FZs.cons (FZ.v _) (FZs.one hz)) ?_ | refine FCall.go' hN (FZs.cons (FZ.v _) (FZs.one hz)) ?_ | refine FCall.goQ hN (FZs.cons (FZ.v _) (FZs.one hz)) ?_
  simp only [f0, f9, h9, nodeL, hnn, hnn', leT (show t.h.frm ≤ t.h.fin by omega), leT (show t.h.fin ≤ b.size by omega), Int.natCast_nonneg, Int.toNat_natCast, List.not_mem_nil, false_imp_iff, implies_true, naV, hds, Cd.cd8, Tk.t8, base0, base1, base2, base3, Option.isNone_none, Option.isNone_some, Nat.reduceBEq, true_or, or_true, false_or, or_false, Nat.reduceLT, Nat.reduceMod, Nat.reducePow, rmaps, nsucc, List.flatten_cons, List.flatten_nil, Nat.reduceEqDiff, Nat.reduceLeDiff, Nat.reduceAdd, Nat.reduceMul, Nat.reduceSub, ↓reduceIte, reduceCtorEq, decide_true, decide_false]
  first | refine FCall.go hO (FZs.one hz) ?_ | refine FCall.go' hO (FZs.one hz) ?_ | refine FCall.goQ hO (FZs.one hz) ?_
  simp only [f0, f9, h9, nodeL, hnn, hnn', leT (show t.h.frm ≤ t.h.fin by omega), leT (show t.h.fin ≤ b.size by omega), Int.natCast_nonneg, Int.toNat_natCast, List.not_mem_nil, false_imp_iff, implies_true, Cd.cd8, Tk.t8, base0, base1, base2, base3, Option.isNone_none, Option.isNone_some, Nat.reduceBEq, true_or, or_true, false_or, or_false, Nat.reduceLT, Nat.reduceMod, Nat.reducePow, rmaps, nsucc, List.flatten_cons, List.flatten_nil, Nat.reduceEqDiff, Nat.reduceLeDiff, Nat.reduceAdd, Nat.reduceMul, Nat.reduceSub, ↓reduceIte, reduceCtorEq, decide_true, decide_false]
  first | refine FCall.go hR (FZs.cons (FZ.v _) (FZs.cons hz (FZs.one (FZ.v _)))) ?_ | refine FCall.go' hR (FZs.cons (FZ.v _) (FZs.cons hz (FZs.one (FZ.v _)))) ?_ | refine FCall.goQ hR (FZs.cons (FZ.v _) (FZs.cons hz (FZs.one (FZ.v _)))) ?_
  simp only [f0, f9, h9, nodeL, hnn, hnn', leT (show t.h.frm ≤ t.h.fin by omega), leT (show t.h.fin ≤ b.size by omega), Int.natCast_nonneg, Int.toNat_natCast, List.not_mem_nil, false_imp_iff, implies_true, siV, astr_nes, show ((0 : Int) != 0) = false from rfl, Ty.ef55, Ty.ag55, Ty.sz55, Ty.ef41, Ty.ag41, Ty.sz41, Ty.in3, Ty.bo4, Ty.ag4, Ty.ag3, aeq0, beq_self_eq_true, Bool.and_self, Cd.cd8, Tk.t8, base0, base1, base2, base3, Option.isNone_none, Option.isNone_some, Nat.reduceBEq, true_or, or_true, false_or, or_false, Nat.reduceLT, Nat.reduceMod, Nat.reducePow, rmaps, nsucc, List.flatten_cons, List.flatten_nil, Nat.reduceEqDiff, Nat.reduceLeDiff, Nat.reduceAdd, Nat.reduceMul, Nat.reduceSub, ↓reduceIte, reduceCtorEq, decide_true, decide_false]
  refine hK _ _ ?_ ?_ ?_ ?_ ?_ ?_ ?_ ?_
  · simp [upd, f0]
  · simp [upd]
  · simp [upd]
  · simp [upd]
  · simp [upd]
  · rfl
  · simp
  · intro n hn'
    simp [show n ≠ H.next by omega]
end Go.Proofs.Ytmjjfdppaomcfaa

/- Walks: the law of the whole: a node, and those to come. -/
namespace Go.Proofs.Ytmjjfdppaomcfaa
open Go Go.Proofs.Ytmjjfdppaomcfaa.Ab
set_option maxRecDepth 100000
set_option linter.unusedSimpArgs false

set_option maxHeartbeats 8000000 in
theorem body8 {b : ByteArray} {l : List Tree} (hr : readB b = .ok l) (i p n9 : Nat) (hi : i < (flatTs l).length) (fs : List (Hd × List Tree)) (r0 : List Tree) (hFr : FrOk b fs r0 p) (hRem : (subTs l).drop i = remN fs r0) (hCl : ClOk ((flatTs l).take i) fs) (hfs : fs.length ≤ i)
    (htop : ∀ y r fs', fs = (y, r) :: fs' → p ≠ y.stop) (K : Kont) (f : AF) (H : AH) (f0 : f.t 0 = .v (.string b)) (f3 : f.t 3 = nodesV (flatTs l)) (f6 : f.t 6 = iv p) (f8 : f.t 8 = iv i) (f9 : f.t 9 = .ptr n9 0) (hds : f.ds = []) (hE : EndsB n9 H (f.t 7) (endsOf fs)) (hn : n9 < H.next) (h9 : H.own n9 = some (.cells (nodeL ((flatTs l).getD i default))))
    (hK : ∀ (f' : AF) (H' : AH) (p' : Nat) (fs' : List (Hd × List Tree)) (r0' : List Tree), f'.t 0 = .v (.string b) → f'.t 3 = nodesV (flatTs l) → f'.t 6 = iv p' → f'.t 8 = iv i → f'.ds = [] → FrOk b fs' r0' p' → (subTs l).drop (i + 1) = remN fs' r0' → ClOk ((flatTs l).take (i + 1)) fs' → fs'.length ≤ i + 1 → EndsA H' (f'.t 7) (endsOf fs') → K.run .normal f' H') :
    cwp Try.prog [127] 215 rest8b K f H := by
  have hb := readB_len hr
  have hwf := readB_wf hr
  have hSl : (subTs l).length = (flatTs l).length := by rw [← subTs_map]; simp
  obtain ⟨t, fs1, r1, ot, ofr, oS, oF, oL, oE, oC⟩ := next_node hFr hRem (by omega) htop
  have hxt : (flatTs l).getD i default = t.h := by
    have h1 := congrArg (fun s => (s.map Tree.h)) oS
    simp only [List.map_drop, subTs_map, List.map_cons] at h1
    have h2 := congrArg List.head? h1
    rw [List.head?_drop, List.head?_cons] at h2
    rw [List.getD_eq_getElem?_getD, h2]; rfl
  have hmem : t ∈ subTs l := by
    have : t ∈ (subTs l).drop i := by rw [oS]; simp
    exact List.mem_of_mem_drop this
  have hS1 : (subTs l).drop (i + 1) = subTs t.kids ++ remN fs1 r1 := by
    rw [← List.drop_drop, oS]; rfl
  rw [hxt] at h9
  obtain ⟨x1, x2, x3, x4, x5⟩ := okT_in ot
  have x6 := okT_fin ot
  have xd := okT_deep ot
  have htk : (flatTs l).take (i + 1) = (flatTs l).take i ++ [t.h] := by
    rw [List.take_add_one]
    rw [List.getD_eq_getElem?_getD, List.getElem?_eq_getElem hi, Option.getD_some] at hxt
    rw [List.getElem?_eq_getElem hi, hxt]; rfl
  have hClN : ClOk ((flatTs l).take (i + 1)) fs1 := by
    rw [htk]; exact (oC _ hCl).snoc (n := fs.length) (by omega) xd.1
  have wl : IntKind.i64.wrap (2 * ((if t.h.opn then 1 else 0 : Nat) : Int)) = ((if t.h.opn then 2 else 0 : Nat) : Int) := by cases t.h.opn <;> decide
  have wl2 : IntKind.i64.wrap ((t.h.stop : Int) + ((if t.h.opn then 2 else 0 : Nat) : Int)) = (t.h.fin : Int) := by
    rw [wrapI (by omega) (by split <;> omega)]; omega
  have hnn : (n9 = H.next) = False := eq_false (by omega)
  have hnn' : (H.next = n9) = False := eq_false (by omega)
  have h9' := h9
  simp only [nodeL] at h9'
  rw [← cc8b]
  rcases hE with ⟨e1, e2⟩ | ⟨q, rest, e1, e2, e3⟩
  · have hf0 : fs.length = 0 := by have := congrArg List.length e1; rw [endsOf_len] at this; simpa using this
    simp only [setC, rest8b, getC, way8, f0, f3, f6, f8, f9, h9, hds, iv, nodeL, wl, wl2, hnn, hnn', decide_eq_false (show ¬ ((t.h.body : Int) ≤ (t.h.frm : Int)) by omega), decide_eq_false (show ¬ ((t.h.stop : Int) < (t.h.body : Int)) by omega), decide_eq_false (show ¬ ((t.h.fin : Int) < (t.h.stop : Int)) by omega), decide_eq_false (show ¬ ((t.h.fin : Int) > (b.size : Int)) by omega), bneF (show (t.h.frm : Int) = (p : Int) by omega), bneF (show (t.h.fin : Int) = (t.h.fin : Int) from rfl), List.mem_cons, List.not_mem_nil, or_self, false_imp_iff, implies_true, forall_eq, e2, nilS, bneF (show (t.h.deep : Int) = ((0 : Nat) : Int) by omega), Cd.cd8, Tk.t8, base0, base1, base2, base3, Option.isNone_none, Option.isNone_some, Nat.reduceBEq, true_or, or_true, false_or, or_false, Nat.reduceLT, Nat.reduceMod, Nat.reducePow, rmaps, nsucc, List.flatten_cons, List.flatten_nil, Nat.reduceEqDiff, Nat.reduceLeDiff, Nat.reduceAdd, Nat.reduceMul, Nat.reduceSub, ↓reduceIte, reduceCtorEq, decide_true, decide_false]
    first | refine FCall.go (count32' t.h.opn) (FZs.one (FZ.v _)) ?_ | refine FCall.go' (count32' t.h.opn) (FZs.one (FZ.v _)) ?_ | refine FCall.goQ (count32' t.h.opn) (FZs.one (FZ.v _)) ?_
    cases hbt : t.h.built with
    | true =>
      simp (maxSteps := 2000000) only [setC, rest8b, getC, way8, f0, f3, f6, f8, f9, h9, hds, iv, nodeL, wl, wl2, hnn, hnn', decide_eq_false (show ¬ ((t.h.body : Int) ≤ (t.h.frm : Int)) by omega), decide_eq_false (show ¬ ((t.h.stop : Int) < (t.h.body : Int)) by omega), decide_eq_false (show ¬ ((t.h.fin : Int) < (t.h.stop : Int)) by omega), decide_eq_false (show ¬ ((t.h.fin : Int) > (b.size : Int)) by omega), bneF (show (t.h.frm : Int) = (p : Int) by omega), bneF (show (t.h.fin : Int) = (t.h.fin : Int) from rfl), List.mem_cons, List.not_mem_nil, or_self, false_imp_iff, implies_true, forall_eq, hbt, e2, nilS, show roomA 8 1 = true from rfl, Cd.cd8, Tk.t8, base0, base1, base2, base3, Option.isNone_none, Option.isNone_some, Nat.reduceBEq, true_or, or_true, false_or, or_false, Nat.reduceLT, Nat.reduceMod, Nat.reducePow, rmaps, nsucc, List.flatten_cons, List.flatten_nil, Nat.reduceEqDiff, Nat.reduceLeDiff, Nat.reduceAdd, Nat.reduceMul, Nat.reduceSub, ↓reduceIte, reduceCtorEq, decide_true, decide_false]
      refine calls8 hr i n9 hmem (by omega) K _ _ ?_ ?_ ?_ ?_ ?_ ?_ ?_
      · simp [upd, f0]
      · simp [upd, f8, iv]
      · simp [upd, f9]
      · first | rfl | exact hds
      · first | exact hn | (simp; omega)
      · simp [hnn, h9', nodeL, hbt]
      intro f' H' g0 g3 g6 g7 g8 gds gn go
      refine hK f' H' t.h.body ((t.h, t.kids) :: fs1) r1 (by rw [g0]; simp [upd, f0]) (by rw [g3]; simp [upd, f3]) (by rw [g6]; simp [upd, iv]) (by rw [g8]; simp [upd, f8, iv]) gds ⟨by rw [oL]; exact okT_built ot hbt, oF⟩ hS1 ⟨by rw [htk, closedP_snoc, if_pos (by omega)], hClN⟩ (by simp; omega) ?_
      rw [endsOf_cons, oE]
      rw [e1]
      exact .inr ⟨H.next, [], by rw [g7]; simp [upd], by simp at gn; omega, by rw [go H.next (by simp)]; simp [flatE, natR]⟩
    | false =>
      simp (maxSteps := 2000000) only [setC, rest8b, getC, way8, f0, f3, f6, f8, f9, h9, hds, iv, nodeL, wl, wl2, hnn, hnn', decide_eq_false (show ¬ ((t.h.body : Int) ≤ (t.h.frm : Int)) by omega), decide_eq_false (show ¬ ((t.h.stop : Int) < (t.h.body : Int)) by omega), decide_eq_false (show ¬ ((t.h.fin : Int) < (t.h.stop : Int)) by omega), decide_eq_false (show ¬ ((t.h.fin : Int) > (b.size : Int)) by omega), bneF (show (t.h.frm : Int) = (p : Int) by omega), bneF (show (t.h.fin : Int) = (t.h.fin : Int) from rfl), List.mem_cons, List.not_mem_nil, or_self, false_imp_iff, implies_true, forall_eq, hbt, e2, nilS, Cd.cd8, Tk.t8, base0, base1, base2, base3, Option.isNone_none, Option.isNone_some, Nat.reduceBEq, true_or, or_true, false_or, or_false, Nat.reduceLT, Nat.reduceMod, Nat.reducePow, rmaps, nsucc, List.flatten_cons, List.flatten_nil, Nat.reduceEqDiff, Nat.reduceLeDiff, Nat.reduceAdd, Nat.reduceMul, Nat.reduceSub, ↓reduceIte, reduceCtorEq, decide_true, decide_false]
      refine calls8 hr i n9 hmem (by omega) K _ _ ?_ ?_ ?_ ?_ ?_ ?_ ?_
      · simp [upd, f0]
      · simp [upd, f8, iv]
      · simp [upd, f9]
      · first | rfl | exact hds
      · first | exact hn | (simp; omega)
      · simp [h9', nodeL, hbt]
      intro f' H' g0 g3 g6 g7 g8 gds gn go
      refine hK f' H' t.h.fin fs1 r1 (by rw [g0]; simp [upd, f0]) (by rw [g3]; simp [upd, f3]) (by rw [g6]; simp [upd, iv]) (by rw [g8]; simp [upd, f8, iv]) gds oF (by rw [hS1, okT_leaf ot hbt]; rfl) hClN (by omega) ?_
      rw [oE]
      exact .inl ⟨e1, by rw [g7]; simp [upd, e2, nilS]⟩
  · rw [endsOf_len] at e1
    have hq9 : (n9 = q) = False := eq_false (by omega)
    have hqn : (H.next = q) = False := eq_false (by omega)
    have hqn' : (q = n9) = False := eq_false (by omega)
    have e1L : fs.length * 1 ≤ (flatE natR (endsOf fs) ++ rest).length := by rw [List.length_append, flatE_len natR_len, endsOf_len]; omega
    have e2L : List.take (fs.length * 1) (flatE natR (endsOf fs) ++ rest) ++ [AV.v (.int .i64 (t.h.stop : Int))] = flatE natR (endsOf fs ++ [t.h.stop]) := by
      have e : fs.length * 1 = (flatE natR (endsOf fs)).length := by rw [flatE_len natR_len, endsOf_len]
      rw [e, List.take_left, flatE_append]; rfl
    simp only [setC, rest8b, getC, way8, f0, f3, f6, f8, f9, h9, hds, iv, nodeL, wl, wl2, hnn, hnn', decide_eq_false (show ¬ ((t.h.body : Int) ≤ (t.h.frm : Int)) by omega), decide_eq_false (show ¬ ((t.h.stop : Int) < (t.h.body : Int)) by omega), decide_eq_false (show ¬ ((t.h.fin : Int) < (t.h.stop : Int)) by omega), decide_eq_false (show ¬ ((t.h.fin : Int) > (b.size : Int)) by omega), bneF (show (t.h.frm : Int) = (p : Int) by omega), bneF (show (t.h.fin : Int) = (t.h.fin : Int) from rfl), List.mem_cons, List.not_mem_nil, or_self, false_imp_iff, implies_true, forall_eq, e1, e3, bneF (show (t.h.deep : Int) = (fs.length : Int) by omega), Cd.cd8, Tk.t8, base0, base1, base2, base3, Option.isNone_none, Option.isNone_some, Nat.reduceBEq, true_or, or_true, false_or, or_false, Nat.reduceLT, Nat.reduceMod, Nat.reducePow, rmaps, nsucc, List.flatten_cons, List.flatten_nil, Nat.reduceEqDiff, Nat.reduceLeDiff, Nat.reduceAdd, Nat.reduceMul, Nat.reduceSub, ↓reduceIte, reduceCtorEq, decide_true, decide_false]
    first | refine FCall.go (count32' t.h.opn) (FZs.one (FZ.v _)) ?_ | refine FCall.go' (count32' t.h.opn) (FZs.one (FZ.v _)) ?_ | refine FCall.goQ (count32' t.h.opn) (FZs.one (FZ.v _)) ?_
    cases hbt : t.h.built with
    | true =>
      simp (maxSteps := 2000000) only [setC, rest8b, getC, way8, f0, f3, f6, f8, f9, h9, hds, iv, nodeL, wl, wl2, hnn, hnn', decide_eq_false (show ¬ ((t.h.body : Int) ≤ (t.h.frm : Int)) by omega), decide_eq_false (show ¬ ((t.h.stop : Int) < (t.h.body : Int)) by omega), decide_eq_false (show ¬ ((t.h.fin : Int) < (t.h.stop : Int)) by omega), decide_eq_false (show ¬ ((t.h.fin : Int) > (b.size : Int)) by omega), bneF (show (t.h.frm : Int) = (p : Int) by omega), bneF (show (t.h.fin : Int) = (t.h.fin : Int) from rfl), List.mem_cons, List.not_mem_nil, or_self, false_imp_iff, implies_true, forall_eq, hbt, e1, e3, hq9, hqn, hqn', e1L, e2L, room1 (b := 8) (n := fs.length) (by omega) (by omega), Cd.cd8, Tk.t8, base0, base1, base2, base3, Option.isNone_none, Option.isNone_some, Nat.reduceBEq, true_or, or_true, false_or, or_false, Nat.reduceLT, Nat.reduceMod, Nat.reducePow, rmaps, nsucc, List.flatten_cons, List.flatten_nil, Nat.reduceEqDiff, Nat.reduceLeDiff, Nat.reduceAdd, Nat.reduceMul, Nat.reduceSub, ↓reduceIte, reduceCtorEq, decide_true, decide_false]
      refine calls8 hr i n9 hmem (by omega) K _ _ ?_ ?_ ?_ ?_ ?_ ?_ ?_
      · simp [upd, f0]
      · simp [upd, f8, iv]
      · simp [upd, f9]
      · first | rfl | exact hds
      · first | exact hn | (simp; omega)
      · simp [hnn, hq9, h9', nodeL, hbt]
      intro f' H' g0 g3 g6 g7 g8 gds gn go
      refine hK f' H' t.h.body ((t.h, t.kids) :: fs1) r1 (by rw [g0]; simp [upd, f0]) (by rw [g3]; simp [upd, f3]) (by rw [g6]; simp [upd, iv]) (by rw [g8]; simp [upd, f8, iv]) gds ⟨by rw [oL]; exact okT_built ot hbt, oF⟩ hS1 ⟨by rw [htk, closedP_snoc, if_pos (by omega)], hClN⟩ (by simp; omega) ?_
      rw [endsOf_cons, oE]
      exact .inr ⟨H.next, [], by rw [g7]; simp [upd, endsOf_len], by simp at gn; omega, by rw [go H.next (by simp)]; simp [hqn]⟩
    | false =>
      simp (maxSteps := 2000000) only [setC, rest8b, getC, way8, f0, f3, f6, f8, f9, h9, hds, iv, nodeL, wl, wl2, hnn, hnn', decide_eq_false (show ¬ ((t.h.body : Int) ≤ (t.h.frm : Int)) by omega), decide_eq_false (show ¬ ((t.h.stop : Int) < (t.h.body : Int)) by omega), decide_eq_false (show ¬ ((t.h.fin : Int) < (t.h.stop : Int)) by omega), decide_eq_false (show ¬ ((t.h.fin : Int) > (b.size : Int)) by omega), bneF (show (t.h.frm : Int) = (p : Int) by omega), bneF (show (t.h.fin : Int) = (t.h.fin : Int) from rfl), List.mem_cons, List.not_mem_nil, or_self, false_imp_iff, implies_true, forall_eq, hbt, e1, e3, Cd.cd8, Tk.t8, base0, base1, base2, base3, Option.isNone_none, Option.isNone_some, Nat.reduceBEq, true_or, or_true, false_or, or_false, Nat.reduceLT, Nat.reduceMod, Nat.reducePow, rmaps, nsucc, List.flatten_cons, List.flatten_nil, Nat.reduceEqDiff, Nat.reduceLeDiff, Nat.reduceAdd, Nat.reduceMul, Nat.reduceSub, ↓reduceIte, reduceCtorEq, decide_true, decide_false]
      refine calls8 hr i n9 hmem (by omega) K _ _ ?_ ?_ ?_ ?_ ?_ ?_ ?_
      · simp [upd, f0]
      · simp [upd, f8, iv]
      · simp [upd, f9]
      · first | rfl | exact hds
      · first | exact hn | (simp; omega)
      · simp [h9', nodeL, hbt]
      intro f' H' g0 g3 g6 g7 g8 gds gn go
      refine hK f' H' t.h.fin fs1 r1 (by rw [g0]; simp [upd, f0]) (by rw [g3]; simp [upd, f3]) (by rw [g6]; simp [upd, iv]) (by rw [g8]; simp [upd, f8, iv]) gds oF (by rw [hS1, okT_leaf ot hbt]; rfl) hClN (by omega) ?_
      rw [oE]
      exact .inr ⟨q, rest, by rw [g7]; simp [upd, e1, endsOf_len], by omega, by rw [go q (by omega)]; exact e3⟩
end Go.Proofs.Ytmjjfdppaomcfaa

/- Walks: the law of the whole. -/
namespace Go.Proofs.Ytmjjfdppaomcfaa
open Go Go.Proofs.Ytmjjfdppaomcfaa.Ab
set_option maxRecDepth 100000
set_option linter.unusedSimpArgs false

set_option maxHeartbeats 8000000 in
theorem law8 (b : ByteArray) : FCall Try.prog 8 [.v (.string b)] (· = .v (.bool true)) := by
  refine ACall.enter [127] (cc := putS 8 (setC way8 Cd.cd8 rest8b) rest8) (by rw [cc8]; exact Cd.fn8) (by simp) ?_
  simp only [putS, setC, way8, Cd.cd8, Tk.t8, base0, base1, base2, base3, Option.isNone_none, Option.isNone_some, Nat.reduceBEq, true_or, or_true, false_or, or_false, Nat.reduceLT, Nat.reduceMod, Nat.reducePow, rmaps, nsucc, List.flatten_cons, List.flatten_nil, Nat.reduceEqDiff, Nat.reduceLeDiff, Nat.reduceAdd, Nat.reduceMul, Nat.reduceSub, ↓reduceIte, reduceCtorEq, decide_true, decide_false]
  first | refine FCall.go (awake11) (FZs.nil) ?_ | refine FCall.go' (awake11) (FZs.nil) ?_ | refine FCall.goQ (awake11) (FZs.nil) ?_
  simp only [putS, setC, way8, Cd.cd8, Tk.t8, base0, base1, base2, base3, Option.isNone_none, Option.isNone_some, Nat.reduceBEq, true_or, or_true, false_or, or_false, Nat.reduceLT, Nat.reduceMod, Nat.reducePow, rmaps, nsucc, List.flatten_cons, List.flatten_nil, Nat.reduceEqDiff, Nat.reduceLeDiff, Nat.reduceAdd, Nat.reduceMul, Nat.reduceSub, ↓reduceIte, reduceCtorEq, decide_true, decide_false]
  first | refine FCall.go (small12 b) (FZs.one (FZ.v _)) ?_ | refine FCall.go' (small12 b) (FZs.one (FZ.v _)) ?_ | refine FCall.goQ (small12 b) (FZs.one (FZ.v _)) ?_
  cases hs : smallB b
  · simp only [putS, setC, way8, Cd.cd8, Tk.t8, base0, base1, base2, base3, Option.isNone_none, Option.isNone_some, Nat.reduceBEq, true_or, or_true, false_or, or_false, Nat.reduceLT, Nat.reduceMod, Nat.reducePow, rmaps, nsucc, List.flatten_cons, List.flatten_nil, Nat.reduceEqDiff, Nat.reduceLeDiff, Nat.reduceAdd, Nat.reduceMul, Nat.reduceSub, ↓reduceIte, reduceCtorEq, decide_true, decide_false]
    exact fin_v rfl
  simp only [putS, setC, way8, Cd.cd8, Tk.t8, base0, base1, base2, base3, Option.isNone_none, Option.isNone_some, Nat.reduceBEq, true_or, or_true, false_or, or_false, Nat.reduceLT, Nat.reduceMod, Nat.reducePow, rmaps, nsucc, List.flatten_cons, List.flatten_nil, Nat.reduceEqDiff, Nat.reduceLeDiff, Nat.reduceAdd, Nat.reduceMul, Nat.reduceSub, ↓reduceIte, reduceCtorEq, decide_true, decide_false]
  first | refine FCall.go (walked13 b) (FZs.one (FZ.v _)) ?_ | refine FCall.go' (walked13 b) (FZs.one (FZ.v _)) ?_ | refine FCall.goQ (walked13 b) (FZs.one (FZ.v _)) ?_
  cases hr : readB b with
  | error e =>
    have he := readB_err hr
    simp only [putS, setC, way8, walkedOut, bneT he, nodesV, List.map_nil, show (((0 : Nat) : Int) == 0) = true from rfl, Cd.cd8, Tk.t8, base0, base1, base2, base3, Option.isNone_none, Option.isNone_some, Nat.reduceBEq, true_or, or_true, false_or, or_false, Nat.reduceLT, Nat.reduceMod, Nat.reducePow, rmaps, nsucc, List.flatten_cons, List.flatten_nil, Nat.reduceEqDiff, Nat.reduceLeDiff, Nat.reduceAdd, Nat.reduceMul, Nat.reduceSub, ↓reduceIte, reduceCtorEq, decide_true, decide_false]
    exact fin_v rfl
  | ok l =>
  have hb := readB_len hr
  have hwf := readB_wf hr
  have hne := readB_ne hr
  have hSl : (subTs l).length = (flatTs l).length := by rw [← subTs_map]; simp
  have hpos : 0 < (flatTs l).length := by
    have := len_flatTs l
    cases l with
    | nil => exact absurd rfl hne
    | cons t l => simp at this; omega
  simp only [putS, setC, way8, walkedOut, show ((0 : Int) != 0) = false from rfl, Cd.cd8, Tk.t8, base0, base1, base2, base3, Option.isNone_none, Option.isNone_some, Nat.reduceBEq, true_or, or_true, false_or, or_false, Nat.reduceLT, Nat.reduceMod, Nat.reducePow, rmaps, nsucc, List.flatten_cons, List.flatten_nil, Nat.reduceEqDiff, Nat.reduceLeDiff, Nat.reduceAdd, Nat.reduceMul, Nat.reduceSub, ↓reduceIte, reduceCtorEq, decide_true, decide_false]
  refine LWP.loop [127] (fun m f H' => ∃ i p fs r0, m = (flatTs l).length - i ∧ (i ≤ (flatTs l).length) ∧ (FrOk b fs r0 p) ∧ ((subTs l).drop i = remN fs r0) ∧ (ClOk ((flatTs l).take i) fs) ∧ (fs.length ≤ i) ∧ f.t 0 = .v (.string b) ∧ f.t 3 = nodesV (flatTs l) ∧ f.t 6 = iv p ∧ f.t 8 = iv i ∧ f.ds = [] ∧ EndsA H' (f.t 7) (endsOf fs)) ?_ ?_ (m := (flatTs l).length - (0))
  · exact ⟨0, 0, [], l, rfl, (by omega), (hwf), (by simp [remN]), (trivial), (by simp), by simp [upd], by simp [upd], by simp [upd, iv], by simp [upd, iv], rfl, .inl ⟨rfl, by simp [upd, nilS]⟩⟩
  · rintro m f H' ⟨i, p, fs, r0, rfl, hi, hFr, hRem, hCl, hfs, f0, f3, f6, f8, hds, hE⟩
    by_cases hlt : i < (flatTs l).length
    · have hrow := getDmap nodeL (flatTs l) i hlt
      generalize hxx : (flatTs l).getD i default = x at hrow
      simp only [nodesV, iv, List.length_map, show decide ((i : Int) < ((flatTs l).length : Int)) = true from decide_eq_true (by omega), ltT hlt, Int.natCast_nonneg, Int.toNat_natCast, hrow, nodeL, f0, f3, f6, f8, hds, Cd.cd8, Tk.t8, base0, base1, base2, base3, Option.isNone_none, Option.isNone_some, Nat.reduceBEq, true_or, or_true, false_or, or_false, Nat.reduceLT, Nat.reduceMod, Nat.reducePow, rmaps, nsucc, List.flatten_cons, List.flatten_nil, Nat.reduceEqDiff, Nat.reduceLeDiff, Nat.reduceAdd, Nat.reduceMul, Nat.reduceSub, ↓reduceIte, reduceCtorEq, decide_true, decide_false]
      obtain ⟨n9, hn9⟩ : ∃ n9, n9 = H'.next := ⟨_, rfl⟩
      have hEB := hE.ext (H' := H') (fun _ _ => rfl)
      refine LWP.loop [127] (fun m f H' => ∃ p2 fs2, m = fs2.length ∧ (FrOk b fs2 r0 p2) ∧ ((subTs l).drop i = remN fs2 r0) ∧ (ClOk ((flatTs l).take i) fs2) ∧ (fs2.length ≤ i) ∧ f.t 0 = .v (.string b) ∧ f.t 3 = nodesV (flatTs l) ∧ f.t 6 = iv p2 ∧ f.t 8 = iv i ∧ f.t 9 = .ptr n9 0 ∧ f.ds = [] ∧ EndsB n9 H' (f.t 7) (endsOf fs2) ∧ n9 < H'.next ∧ H'.own n9 = some (.cells (nodeL x))) ?_ ?_ (m := (fs).length)
      · exact ⟨p, fs, rfl, (hFr), (hRem), (hCl), (hfs), by simp [upd, f0], by simp [upd, f3], by simp [upd, f6], by simp [upd, f8], by simp [upd, hn9], rfl, ⟨by rw [hn9]; simpa [upd] using hE.ext (fun n hn => by simp [show n ≠ H'.next by omega]), by simp [hn9], by simp [hn9, nodeL]⟩⟩
      · rintro m f H' ⟨p2, fs2, rfl, hFr2, hRem2, hCl2, hfs2, f0, f3, f6, f8, f9, hds, ⟨hE2,h9n,h9⟩⟩
        have fin : ∀ (K : Kont) (hK : ∀ (f' : AF) (H' : AH) (p' : Nat) (fs' : List (Hd × List Tree)) (r0' : List Tree), f'.t 0 = .v (.string b) → f'.t 3 = nodesV (flatTs l) → f'.t 6 = iv p' → f'.t 8 = iv i → f'.ds = [] → FrOk b fs' r0' p' → (subTs l).drop (i + 1) = remN fs' r0' → ClOk ((flatTs l).take (i + 1)) fs' → fs'.length ≤ i + 1 → EndsA H' (f'.t 7) (endsOf fs') → K.run .normal f' H') (f' : AF), f'.t 0 = .v (.string b) → f'.t 3 = nodesV (flatTs l) → f'.t 6 = iv p2 → f'.t 7 = f.t 7 → f'.t 8 = iv i → f'.t 9 = .ptr n9 0 → f'.ds = [] → (∀ y r fs', fs2 = (y, r) :: fs' → p2 ≠ y.stop) → cwp Try.prog [127] 215 rest8b K f' H' := fun K hK f' g0 g3 g6 g7 g8 g9 gds gt =>
          body8 hr i p2 n9 hlt fs2 r0 hFr2 hRem2 hCl2 hfs2 gt K f' H' g0 g3 g6 g8 g9 gds (by rw [g7]; exact hE2) h9n (by rw [hxx]; exact h9) hK
        cases fs2 with
        | nil =>
          rcases hE2 with ⟨-, h7⟩ | ⟨q, rest, h7, hq, ho⟩
          · simp only [h7, nilS, iv, show decide (((0 : Nat) : Int) > 0) = false from rfl, show decide ((0 : Int) > 0) = false from rfl, f0, f3, f6, f8, f9, hds, Cd.cd8, Tk.t8, base0, base1, base2, base3, Option.isNone_none, Option.isNone_some, Nat.reduceBEq, true_or, or_true, false_or, or_false, Nat.reduceLT, Nat.reduceMod, Nat.reducePow, rmaps, nsucc, List.flatten_cons, List.flatten_nil, Nat.reduceEqDiff, Nat.reduceLeDiff, Nat.reduceAdd, Nat.reduceMul, Nat.reduceSub, ↓reduceIte, reduceCtorEq, decide_true, decide_false]
            refine fin _ ?_ _ ?_ ?_ ?_ ?_ ?_ ?_ ?_ ?_
            · intro f' H2 p' fs' r0' g0 g3 g6 g8 gds gF gS gC gL gE
              simp only [g8, iv, wrapS (show i < 2 ^ 62 by omega), Cd.cd8, Tk.t8, base0, base1, base2, base3, Option.isNone_none, Option.isNone_some, Nat.reduceBEq, true_or, or_true, false_or, or_false, Nat.reduceLT, Nat.reduceMod, Nat.reducePow, rmaps, nsucc, List.flatten_cons, List.flatten_nil, Nat.reduceEqDiff, Nat.reduceLeDiff, Nat.reduceAdd, Nat.reduceMul, Nat.reduceSub, ↓reduceIte, reduceCtorEq, decide_true, decide_false]
              refine ⟨_, by omega, i + 1, p', fs', r0', rfl, by omega, gF, gS, gC, gL, ?_⟩
              (repeat' apply And.intro) <;> first | rfl | exact g0 | exact g3 | exact g6 | exact gds | exact gE
            · simp [upd, f0]
            · simp [upd, f3]
            · simp [upd, f6]
            · simp [upd]
            · simp [upd, f8]
            · simp [upd, f9]
            · simp [upd, hds]
            · intro y r fs' h; cases h
          · simp only [h7, endsOf, List.map_nil, List.reverse_nil, List.length_nil, iv, show decide (((0 : Nat) : Int) > 0) = false from rfl, show decide ((0 : Int) > 0) = false from rfl, f0, f3, f6, f8, f9, hds, Cd.cd8, Tk.t8, base0, base1, base2, base3, Option.isNone_none, Option.isNone_some, Nat.reduceBEq, true_or, or_true, false_or, or_false, Nat.reduceLT, Nat.reduceMod, Nat.reducePow, rmaps, nsucc, List.flatten_cons, List.flatten_nil, Nat.reduceEqDiff, Nat.reduceLeDiff, Nat.reduceAdd, Nat.reduceMul, Nat.reduceSub, ↓reduceIte, reduceCtorEq, decide_true, decide_false]
            refine fin _ ?_ _ ?_ ?_ ?_ ?_ ?_ ?_ ?_ ?_
            · intro f' H2 p' fs' r0' g0 g3 g6 g8 gds gF gS gC gL gE
              simp only [g8, iv, wrapS (show i < 2 ^ 62 by omega), Cd.cd8, Tk.t8, base0, base1, base2, base3, Option.isNone_none, Option.isNone_some, Nat.reduceBEq, true_or, or_true, false_or, or_false, Nat.reduceLT, Nat.reduceMod, Nat.reducePow, rmaps, nsucc, List.flatten_cons, List.flatten_nil, Nat.reduceEqDiff, Nat.reduceLeDiff, Nat.reduceAdd, Nat.reduceMul, Nat.reduceSub, ↓reduceIte, reduceCtorEq, decide_true, decide_false]
              refine ⟨_, by omega, i + 1, p', fs', r0', rfl, by omega, gF, gS, gC, gL, ?_⟩
              (repeat' apply And.intro) <;> first | rfl | exact g0 | exact g3 | exact g6 | exact gds | exact gE
            · simp [upd, f0]
            · simp [upd, f3]
            · simp [upd, f6]
            · simp [upd]
            · simp [upd, f8]
            · simp [upd, f9]
            · simp [upd, hds]
            · intro y r fs' h; cases h
        | cons yr fs3 =>
          obtain ⟨y, r⟩ := yr
          rcases hE2 with ⟨h, -⟩ | ⟨q, rest, h7, hq, ho⟩
          · have := congrArg List.length h; rw [endsOf_len] at this; simp at this
          rw [endsOf_len, List.length_cons] at h7
          simp only [List.length_cons] at hfs2
          have hlast := ends_last (fs := fs3) (y := y) (r := r) rest
          have wl : IntKind.i64.wrap (((fs3.length + 1 : Nat) : Int) - 1) = (fs3.length : Int) := by rw [wrapI (by omega) (by omega)]; omega
          by_cases hp : y.stop = p2
          · simp only [FrOk, remN, ClOk] at hFr2 hRem2 hCl2
            have hr1 := hFr2.1
            rw [← hp] at hr1
            have hr2 := okTs_self hr1
            subst hr2
            have hE' := EndsB.pop (H' := H') (y := y) (r := []) hq ho
            have hC := closed31 ((flatTs l).take i) fs3.length (by simp; omega)
            rw [hCl2.1] at hC
            have hzn := FZ.nodesV ((flatTs l).take i)
            simp only [nodesV, iv, List.map_take] at hC hzn
            simp only [h7, ho, iv, nodesV, List.length_map, wl, show decide (((fs3.length + 1 : Nat) : Int) > 0) = true from decide_eq_true (by omega), Int.natCast_nonneg, Int.toNat_natCast, ltT (show fs3.length < fs3.length + 1 by omega), leT (show fs3.length ≤ fs3.length + 1 by omega), hlast, beqT (show (y.stop : Int) = (p2 : Int) by omega), leT (show i ≤ (flatTs l).length by omega), f0, f3, f6, f8, f9, hds, Cd.cd8, Tk.t8, base0, base1, base2, base3, Option.isNone_none, Option.isNone_some, Nat.reduceBEq, true_or, or_true, false_or, or_false, Nat.reduceLT, Nat.reduceMod, Nat.reducePow, rmaps, nsucc, List.flatten_cons, List.flatten_nil, Nat.reduceEqDiff, Nat.reduceLeDiff, Nat.reduceAdd, Nat.reduceMul, Nat.reduceSub, ↓reduceIte, reduceCtorEq, decide_true, decide_false]
            first | refine FCall.go hC (FZs.cons hzn (FZs.one (FZ.v _))) ?_ | refine FCall.go' hC (FZs.cons hzn (FZs.one (FZ.v _))) ?_ | refine FCall.goQ hC (FZs.cons hzn (FZs.one (FZ.v _))) ?_
            simp only [f0, f3, f6, f8, f9, hds, Cd.cd8, Tk.t8, base0, base1, base2, base3, Option.isNone_none, Option.isNone_some, Nat.reduceBEq, true_or, or_true, false_or, or_false, Nat.reduceLT, Nat.reduceMod, Nat.reducePow, rmaps, nsucc, List.flatten_cons, List.flatten_nil, Nat.reduceEqDiff, Nat.reduceLeDiff, Nat.reduceAdd, Nat.reduceMul, Nat.reduceSub, ↓reduceIte, reduceCtorEq, decide_true, decide_false]
            refine ⟨_, by simp, y.fin, fs3, rfl, hFr2.2, by rw [hRem2]; rfl, hCl2.2, by omega, ?_⟩
            (repeat' apply And.intro) <;> first | rfl | exact hE' | exact h9n | exact h9
          · simp only [h7, ho, iv, wl, show decide (((fs3.length + 1 : Nat) : Int) > 0) = true from decide_eq_true (by omega), Int.natCast_nonneg, Int.toNat_natCast, ltT (show fs3.length < fs3.length + 1 by omega), hlast, beqF (show (y.stop : Int) ≠ (p2 : Int) by omega), f0, f3, f6, f8, f9, hds, Cd.cd8, Tk.t8, base0, base1, base2, base3, Option.isNone_none, Option.isNone_some, Nat.reduceBEq, true_or, or_true, false_or, or_false, Nat.reduceLT, Nat.reduceMod, Nat.reducePow, rmaps, nsucc, List.flatten_cons, List.flatten_nil, Nat.reduceEqDiff, Nat.reduceLeDiff, Nat.reduceAdd, Nat.reduceMul, Nat.reduceSub, ↓reduceIte, reduceCtorEq, decide_true, decide_false]
            refine fin _ ?_ _ ?_ ?_ ?_ ?_ ?_ ?_ ?_ ?_
            · intro f' H2 p' fs' r0' g0 g3 g6 g8 gds gF gS gC gL gE
              simp only [g8, iv, wrapS (show i < 2 ^ 62 by omega), Cd.cd8, Tk.t8, base0, base1, base2, base3, Option.isNone_none, Option.isNone_some, Nat.reduceBEq, true_or, or_true, false_or, or_false, Nat.reduceLT, Nat.reduceMod, Nat.reducePow, rmaps, nsucc, List.flatten_cons, List.flatten_nil, Nat.reduceEqDiff, Nat.reduceLeDiff, Nat.reduceAdd, Nat.reduceMul, Nat.reduceSub, ↓reduceIte, reduceCtorEq, decide_true, decide_false]
              refine ⟨_, by omega, i + 1, p', fs', r0', rfl, by omega, gF, gS, gC, gL, ?_⟩
              (repeat' apply And.intro) <;> first | rfl | exact g0 | exact g3 | exact g6 | exact gds | exact gE
            · simp [upd, f0]
            · simp [upd, f3]
            · simp [upd, f6]
            · simp [upd]
            · simp [upd, f8]
            · simp [upd, f9]
            · simp [upd, hds]
            · intro y' r' fs' h; cases h; omega
    · simp only [nodesV, iv, List.length_map, show decide ((i : Int) < ((flatTs l).length : Int)) = false from decide_eq_false (by omega), f0, f3, f6, f8, hds, Cd.cd8, Tk.t8, base0, base1, base2, base3, Option.isNone_none, Option.isNone_some, Nat.reduceBEq, true_or, or_true, false_or, or_false, Nat.reduceLT, Nat.reduceMod, Nat.reducePow, rmaps, nsucc, List.flatten_cons, List.flatten_nil, Nat.reduceEqDiff, Nat.reduceLeDiff, Nat.reduceAdd, Nat.reduceMul, Nat.reduceSub, ↓reduceIte, reduceCtorEq, decide_true, decide_false]
      rw [List.take_of_length_le (by omega)] at hCl
      rw [List.drop_of_length_le (by omega)] at hRem
      exact tail8 hb.2 hb.1 hpos _ _ p fs r0 (by simp [upd, f0]) (by simp [upd, f3]) (by simp [upd, f6]) (by simp [upd, hds]) hFr hRem.symm hCl (by omega) (by simpa [upd] using hE)
end Go.Proofs.Ytmjjfdppaomcfaa

/- The law holds: for every input it returns true, and each argument reads behind the call as it read before. No condition. -/
namespace Go.Proofs.Ytmjjfdppaomcfaa
open Go Go.Proofs.Ytmjjfdppaomcfaa.Ab Go.ChangeShapes Go.WideShapes Go.ChangeAt Go.RowKit
set_option maxRecDepth 100000

set_option maxHeartbeats 800000 in
theorem lift8 (os : Os) (started : os.Started) (H : Type) (enc : TypeId × Value → H) :
    ReturnsInHanded {} Try.checked os 8 .any (Rows.walkWholeSpec.pre6 enc Try.prog Try.f8 Rows.walkWholeRow.domain false) (Rows.walkWholeSpec.post enc Try.prog Try.f8 false true false false) := by
  refine returnsInHanded_of_change (C := Try.checked) own started (by kernel_rfl) Try.func8
    (ChangeSpec.witness6 (enc := enc) (C := Try.checked) false ⟨#[], #[.string ⟨#[]⟩], []⟩ 8 (by kernel_rfl) (by kernel_rfl) (by kernel_rfl) (by kernel_rfl)) ?_
  intro W base args ds gs before hval0 hW _ _
  have hval : ∀ (j : Nat) t v, Try.f8.params[j]? = some t → args[j]? = some v → Value.okWide Try.prog W .any base t v := hval0
  have hW' := hW
  obtain ⟨p, q, hA0, hV, rfl, _, _⟩ := hW
  have hA : DataW.TrodAll enc Try.prog W 0 (fun _ => true) true Try.f8.params.toList args.toList ds p := hA0
  rw [Try.params8] at hA hval
  obtain ⟨v0, d0, rfl, rfl, h0⟩ := trodAll_one hA
  obtain ⟨rfl, rfl⟩ := trodVars_none hV
  obtain ⟨s0, rfl⟩ := okWide_string Try.underlying9 (hval 0 9 v0 rfl rfl)
  obtain ⟨x0, -, hx0⟩ := arg_one rdS h0 rfl
  clear hA0 hval0
  simp only [List.append_nil] at hW'
  have hlt : ∀ x ∈ p, x.block < W.heap.size := fun x hx => by simpa using hW'.lt x hx
  refine ((law8 x0).true (xs := #[.string s0]) (W := W) ⟨rfl, fun j hj => ?_⟩).mono fun e W' ⟨he, hb⟩ => ?_
  · match j, hj with
    | 0, _ => exact hx0
  subst he
  have harg0 : DataW.Trod enc Try.prog W' 0 (fun b => decide (b < W.heap.size)) true 9 (.string s0) d0 p :=
    Below.trod laidOut (by kernel_rfl) (of_decide_eq_true (by kernel_rfl)) h0 hb (fun x hx => hlt x hx)
  refine ⟨_, rfl, _, _, _, [], _, [], hW', ?_, trodAll_mk1 harg0, rfl, hb.frame _, fun h => by cases h⟩
  exact trodAll_mk1 (shut_bool Try.underlying4 _)

theorem walkWhole : Rows.WalkWholeSaid :=
  OpenClaim.holds_of_wide 8 Try.f8 rfl rfl rfl rfl rfl rfl rfl ⟨rfl, rfl, rfl, rfl, rfl⟩ rfl rfl rfl rfl rfl (by kernel_rfl) Try.func8 (by kernel_rfl)
    (of_decide_eq_true (by kernel_rfl)) (by unfold Func.isWrapper; first | (rw [if_pos (by decide +kernel)]; kernel_rfl) | (rw [if_neg (by decide +kernel)]; exact ⟨rfl, rfl⟩))
    (fun os started H enc _ => lift8 os started H enc)
end Go.Proofs.Ytmjjfdppaomcfaa

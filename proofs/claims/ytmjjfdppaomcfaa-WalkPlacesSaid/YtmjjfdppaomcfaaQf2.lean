/- Part 2 of a proof: walkPlaces holds for every input; no condition. -/
import Derived.Test.YtmjjfdppaomcfaaProg
import Derived.KernelRfl
import Derived.ProofKit
import Derived.Test.YtmjjfdppaomcfaaAb0
import Derived.Test.YtmjjfdppaomcfaaAb1
import Derived.Test.YtmjjfdppaomcfaaAb2
import Derived.Test.YtmjjfdppaomcfaaAb3
import Derived.Test.YtmjjfdppaomcfaaAb4
import Derived.Test.YtmjjfdppaomcfaaAb5
import Derived.Test.YtmjjfdppaomcfaaAb6
import Derived.Test.YtmjjfdppaomcfaaAb7
import Derived.Test.YtmjjfdppaomcfaaAb8
import Derived.Test.YtmjjfdppaomcfaaAb8a
import Derived.Test.YtmjjfdppaomcfaaAb8b
import Derived.Test.YtmjjfdppaomcfaaAb8c
import Derived.Test.YtmjjfdppaomcfaaAb8d
import Derived.Test.YtmjjfdppaomcfaaAb9
import Derived.Test.YtmjjfdppaomcfaaAb10
import Derived.Test.YtmjjfdppaomcfaaAb11
import Derived.Test.YtmjjfdppaomcfaaAb12
import Derived.Test.YtmjjfdppaomcfaaAb13
import Derived.Test.YtmjjfdppaomcfaaAb14
import Derived.Test.YtmjjfdppaomcfaaAb15
import Derived.Test.YtmjjfdppaomcfaaAb16
import Derived.Test.YtmjjfdppaomcfaaAb17
import Derived.Test.YtmjjfdppaomcfaaAb18
import Derived.Test.YtmjjfdppaomcfaaAb19
import Derived.Test.YtmjjfdppaomcfaaAb20
import Derived.Test.YtmjjfdppaomcfaaAb21
import Derived.Test.YtmjjfdppaomcfaaAb22
import Derived.Test.YtmjjfdppaomcfaaAb23
import Derived.Test.YtmjjfdppaomcfaaAb24
import Derived.Test.YtmjjfdppaomcfaaAb25
import Derived.Test.YtmjjfdppaomcfaaAb26
import Derived.Test.YtmjjfdppaomcfaaBw
import Derived.Test.YtmjjfdppaomcfaaQf1
set_option linter.unusedSimpArgs false
set_option linter.unusedVariables false
set_option linter.defProp false
/- Plain: what nodes are bounded by. -/
namespace Go.Proofs.Ytmjjfdppaomcfaa
open Go Go.Proofs.Ytmjjfdppaomcfaa.Ab

theorem tagL_ok {b : ByteArray} {lim : Nat} : ∀ {k p num m q : Nat}, tagL b lim k p num = .ok (m, q) → p < q ∧ q ≤ lim ∧ m ≤ 268435456
  | 0, p, num, m, q, h => by simp [tagL] at h
  | k + 1, p, num, m, q, h => by
    simp only [tagL] at h
    split at h
    · split at h
      · cases h
      · split at h
        · cases h; omega
        · have := tagL_ok h; omega
    · cases h
theorem ident_ok {b : ByteArray} {at_ lim c n p : Nat} {bl : Bool} (h : ident b at_ lim = .ok (c, n, bl, p)) : at_ < p ∧ p ≤ lim ∧ n ≤ 268435456 ∧ c < 4 := by
  have hc := bt_lt b at_
  unfold ident at h
  split at h
  · split at h
    · cases h; omega
    · split at h
      · rename_i m q hq; cases h; have := tagL_ok hq; omega
      · cases h
  · cases h
theorem lenL_ok {b : ByteArray} {lim : Nat} : ∀ {k p n m : Nat}, lenL b lim k p n = .ok m → n ≤ 4000 → p ≤ lim → m ≤ 4000 ∧ p + k ≤ lim
  | 0, p, n, m, h, hn, hp => by simp only [lenL] at h; cases h; omega
  | k + 1, p, n, m, h, hn, hp => by
    simp only [lenL] at h
    split at h
    · split at h
      · cases h
      · have := lenL_ok h (by omega) (by omega); omega
    · cases h
theorem lenOf_ok {b : ByteArray} {at_ lim p : Nat} {bl : Bool} {o : Option Nat} (h : lenOf b at_ lim bl = .ok (o, p)) : at_ < p ∧ p ≤ lim ∧ ∀ n, o = some n → n ≤ 4000 := by
  unfold lenOf at h
  split at h
  · split at h
    · cases h; exact ⟨by omega, by omega, fun n hn => by cases hn; omega⟩
    · split at h
      · cases h
      · split at h
        · cases h; exact ⟨by omega, by omega, fun n hn => by cases hn⟩
        · split at h
          · rename_i n hn; cases h; have := lenL_ok hn (by omega) (by omega); exact ⟨by omega, by omega, fun n hn => by cases hn; omega⟩
          · cases h
  · cases h

/-- what a reader of nodes keeps to -/
def NodeOk (lim : Nat) (node : Nat → Nat → Except Flt (Tree × Nat)) : Prop := ∀ a c t c', node a c = .ok (t, c') → a < t.h.fin ∧ t.h.fin ≤ lim ∧ c < c' ∧ c' ≤ 300
theorem kidsC_ok {node : Nat → Nat → Except Flt (Tree × Nat)} {stop : Nat} (hn : NodeOk stop node) : ∀ {n p c : Nat} {acc l : List Tree} {c' : Nat}, kidsC node stop n p c acc = .ok (l, c') → c ≤ 300 → c ≤ c' ∧ c' ≤ 300
  | 0, p, c, acc, l, c', h, hc => by simp only [kidsC] at h; cases h; omega
  | n + 1, p, c, acc, l, c', h, hc => by
    simp only [kidsC] at h
    split at h
    · split at h
      · cases h
      · rename_i t c1 h1
        have q := hn _ _ _ _ h1
        have := kidsC_ok hn h (by omega); omega
    · cases h; omega
theorem openC_ok {node : Nat → Nat → Except Flt (Tree × Nat)} {b : ByteArray} {lim : Nat} (hn : NodeOk lim node) : ∀ {n p c : Nat} {acc l : List Tree} {s c' : Nat}, openC node b lim n p c acc = .ok (l, s, c') → c ≤ 300 → p ≤ s ∧ s + 2 ≤ lim ∧ c ≤ c' ∧ c' ≤ 300
  | 0, p, c, acc, l, s, c', h, hc => by simp only [openC] at h; cases h
  | n + 1, p, c, acc, l, s, c', h, hc => by
    simp only [openC] at h
    split at h
    · cases h; omega
    · split at h
      · cases h
      · split at h
        · cases h
        · rename_i t c1 h1
          have q := hn _ _ _ _ h1
          have := openC_ok hn h (by omega); omega
section
variable {b : ByteArray} {d at_ lim cnt cls num p1 p2 : Nat} {bl : Bool} {on : Option Nat} {e : Flt}
theorem rd_e1 (h : ident b at_ lim = .error e) : rd b d at_ lim cnt = .error e := by
  rw [rd.eq_def]; simp only [h]
theorem rd_e2 (h : ident b at_ lim = .ok (cls, num, bl, p1)) (h2 : lenOf b p1 lim bl = .error e) : rd b d at_ lim cnt = .error e := by
  rw [rd.eq_def]; simp only [h, h2]
theorem rd_e3 (h : ident b at_ lim = .ok (cls, num, bl, p1)) (h2 : lenOf b p1 lim bl = .ok (on, p2)) (h3 : on.any (fun n => decide (lim - p2 < n)) = true) : rd b d at_ lim cnt = .error (p1, 19) := by
  rw [rd.eq_def]; simp only [h, h2, h3, if_true]
theorem rd_e4 (h : ident b at_ lim = .ok (cls, num, bl, p1)) (h2 : lenOf b p1 lim bl = .ok (on, p2)) (h3 : on.any (fun n => decide (lim - p2 < n)) = false) (h4 : 300 < cnt + 1) : rd b d at_ lim cnt = .error (at_, 34) := by
  rw [rd.eq_def]; simp only [h, h2, h3, h4, if_true, Bool.false_eq_true, if_false]
theorem rd_e5 (h : ident b at_ lim = .ok (cls, num, bl, p1)) (h2 : lenOf b p1 lim bl = .ok (on, p2)) (h3 : on.any (fun n => decide (lim - p2 < n)) = false) (h4 : ¬ 300 < cnt + 1) : rd b 0 at_ lim cnt = .error (at_, 2) := by
  rw [rd.eq_def]; simp only [h, h2, h3, h4, Bool.false_eq_true, if_false]
theorem rd_open (h : ident b at_ lim = .ok (cls, num, bl, p1)) (h2 : lenOf b p1 lim bl = .ok (none, p2)) (h4 : ¬ 300 < cnt + 1) : rd b (d + 1) at_ lim cnt =
    (match openC (fun a c => rd b d a lim c) b lim (lim - p2 + 1) p2 (cnt + 1) [] with
            | .error e => .error e
            | .ok (kids, stop, c) => .ok (.mk ⟨cls, num, bl, true, at_, p1, p2, stop, stop + 2, 15 - d⟩ kids, c)) := by
  rw [rd.eq_def]; simp only [h, h2, h4, Option.any_none, Bool.false_eq_true, if_false] <;> rfl
theorem rd_kids {n : Nat} (h : ident b at_ lim = .ok (cls, num, true, p1)) (h2 : lenOf b p1 lim true = .ok (some n, p2)) (h3 : ¬ lim - p2 < n) (h4 : ¬ 300 < cnt + 1) : rd b (d + 1) at_ lim cnt =
    (match kidsC (fun a c => rd b d a (p2 + n) c) (p2 + n) n p2 (cnt + 1) [] with
              | .error e => .error e
              | .ok (kids, c) => .ok (.mk ⟨cls, num, true, false, at_, p1, p2, p2 + n, p2 + n, 15 - d⟩ kids, c)) := by
  rw [rd.eq_def]; simp only [h, h2, h3, h4, Option.any_some, decide_false, Bool.false_eq_true, if_false, if_true] <;> rfl
theorem rd_leaf {n : Nat} (h : ident b at_ lim = .ok (cls, num, false, p1)) (h2 : lenOf b p1 lim false = .ok (some n, p2)) (h3 : ¬ lim - p2 < n) (h4 : ¬ 300 < cnt + 1) : rd b (d + 1) at_ lim cnt =
    .ok (.mk ⟨cls, num, false, false, at_, p1, p2, p2 + n, p2 + n, 15 - d⟩ [], cnt + 1) := by
  rw [rd.eq_def]; simp only [h, h2, h3, h4, Option.any_some, decide_false, Bool.false_eq_true, if_false]
end
theorem rd_ok (b : ByteArray) : ∀ (d lim : Nat), NodeOk lim (fun a c => rd b d a lim c)
  | d, lim, a, c, t, c', h => by
    simp only at h
    cases hid : ident b a lim with
    | error e => rw [rd_e1 hid] at h; cases h
    | ok x =>
      obtain ⟨cls, num, bl, p1⟩ := x
      have q1 := ident_ok hid
      cases hlen : lenOf b p1 lim bl with
      | error e => rw [rd_e2 hid hlen] at h; cases h
      | ok x =>
        obtain ⟨on, p2⟩ := x
        have q2 := lenOf_ok hlen
        cases hany : on.any (fun n => decide (lim - p2 < n)) with
        | true => rw [rd_e3 hid hlen hany] at h; cases h
        | false =>
          by_cases hcnt : 300 < c + 1
          · rw [rd_e4 hid hlen hany hcnt] at h; cases h
          · cases d with
            | zero => rw [rd_e5 hid hlen hany hcnt] at h; cases h
            | succ d =>
              cases on with
              | none =>
                rw [rd_open hid hlen hcnt] at h
                cases ho : openC (fun a c => rd b d a lim c) b lim (lim - p2 + 1) p2 (c + 1) [] with
                | error e => rw [ho] at h; cases h
                | ok x =>
                  obtain ⟨l, s, c1⟩ := x
                  rw [ho] at h; cases h
                  have := openC_ok (rd_ok b d lim) ho (by omega)
                  simp only [Tree.h]; omega
              | some n =>
                have hn : ¬ lim - p2 < n := by simpa using hany
                cases bl with
                | false => rw [rd_leaf hid hlen hn hcnt] at h; cases h; simp only [Tree.h]; omega
                | true =>
                  rw [rd_kids hid hlen hn hcnt] at h
                  cases ho : kidsC (fun a c => rd b d a (p2 + n) c) (p2 + n) n p2 (c + 1) [] with
                  | error e => rw [ho] at h; cases h
                  | ok x =>
                    obtain ⟨l, c1⟩ := x
                    rw [ho] at h; cases h
                    have := kidsC_ok (rd_ok b d (p2 + n)) ho (by omega)
                    simp only [Tree.h]; omega
end Go.Proofs.Ytmjjfdppaomcfaa

/- Walks: the program reads identifiers and lengths. -/
namespace Go.Proofs.Ytmjjfdppaomcfaa
open Go Go.Proofs.Ytmjjfdppaomcfaa.Ab
set_option maxRecDepth 100000
set_option linter.unusedSimpArgs false

theorem wrapI {x : Int} (h : -(2 ^ 63) ≤ x) (h' : x < 2 ^ 63) : IntKind.i64.wrap x = x := by
  unfold IntKind.wrap; simp [IntKind.bits, IntKind.signed]; omega
theorem wrapS {i : Nat} (h : i < 2 ^ 62) : IntKind.i64.wrap ((i : Int) + 1) = ((i + 1 : Nat) : Int) := by
  rw [wrapI (by omega) (by omega)]; omega
theorem wrapN {n : Nat} (h : n < 2 ^ 62) : IntKind.i64.wrap (n : Int) = (n : Int) := wrapI (by omega) (by omega)
theorem lt60 : ((6 : Int) < 0) = False := by decide
theorem lt80 : ((8 : Int) < 0) = False := by decide
theorem and31 : ∀ {c : Nat}, c < 256 → IntKind.u8.wrap ((BitVec.ofInt IntKind.u8.bits (c : Int) &&& BitVec.ofInt IntKind.u8.bits 31).toNat : Nat) = ((c % 32 : Nat) : Int) := by decide +kernel
theorem and127 : ∀ {c : Nat}, c < 256 → IntKind.u8.wrap ((BitVec.ofInt IntKind.u8.bits (c : Int) &&& BitVec.ofInt IntKind.u8.bits 127).toNat : Nat) = ((c % 128 : Nat) : Int) := by decide +kernel
theorem and32 : ∀ {c : Nat}, c < 256 → (IntKind.u8.wrap ((BitVec.ofInt IntKind.u8.bits (c : Int) &&& BitVec.ofInt IntKind.u8.bits 32).toNat : Nat) != 0) = (c / 32 % 2 == 1) := by decide +kernel
theorem and128 : ∀ {c : Nat}, c < 256 → (IntKind.u8.wrap ((BitVec.ofInt IntKind.u8.bits (c : Int) &&& BitVec.ofInt IntKind.u8.bits 128).toNat : Nat) == 0) = decide (c < 128) := by decide +kernel
theorem shr6 : ∀ {c : Nat}, c < 256 → Int.fdiv (c : Int) (2 ^ min (6 : Int).toNat IntKind.u8.bits) = ((c / 64 : Nat) : Int) := by decide +kernel

def iv (n : Nat) : AV := .v (.int .i64 (n : Int))
def fltV (p : Flt) : AV := .ifc 96 (.agg [.v (.int .i64 (p.1 : Int)), .v (.int .i64 p.2)])
/-- all of the caller's stays, but for one block -/
structure Kp (H H' : AH) (r : Nat → Prop) : Prop where
  next : H.next ≤ H'.next
  own : ∀ n, n < H.next → ¬ r n → H'.own n = H.own n
  tip : ∀ t, t < H.next → H'.tip t = H.tip t
theorem Kp.refl (H : AH) (r : Nat → Prop) : Kp H H r := ⟨Nat.le_refl _, fun _ _ _ => rfl, fun _ _ => rfl⟩

theorem fail66 (a e : Int) (H : AH) : ACall Try.prog 66 [.v (.int .i64 a), .v (.int .i64 e)] H (fun out H' => out = .pan (.ifc 96 (.agg [.v (.int .i64 a), .v (.int .i64 e)])) ∧ H' = H) := by
  refine ACall.enter [] Cd.fn66 (by simp) ?_
  simp only [Cd.cd66, Tk.t66, base0, base1, base2, base3, Option.isNone_none, Option.isNone_some, Nat.reduceBEq, true_or, or_true, false_or, or_false, Nat.reduceLT, Nat.reduceMod, Nat.reducePow, rmaps, nsucc, List.flatten_cons, List.flatten_nil, Nat.reduceEqDiff, Nat.reduceLeDiff, Nat.reduceAdd, Nat.reduceMul, Nat.reduceSub, ↓reduceIte, reduceCtorEq, decide_true, decide_false]
section
variable {P : Program} {mu : List Nat} {K : Kont} {f : AF} {H : AH} {m : FuncId} {args : List AV} {v : AV}
theorem Ab.ACall.pan {dst : Option Nat} {os : List COp} (h : ACall P m args H fun o H1 => o = .pan v ∧ H1 = H) (h' : K.run (.panic v) f H) : ACall P m args H (callK P mu K dst os f) :=
  h.mono fun o H1 => by rintro ⟨rfl, rfl⟩; exact h'
end
theorem need70 (a l : Int) (H : AH) : ACall Try.prog 70 [.v (.int .i64 a), .v (.int .i64 l)] H (fun out H' => out = (if a < l then .ret (.tup []) else .pan (.ifc 96 (.agg [.v (.int .i64 l), .v (.int .i64 9)]))) ∧ H' = H) := by
  refine ACall.enter [] Cd.fn70 (by simp) ?_
  by_cases h : a < l
  · rw [if_pos h]
    simp only [show decide (a ≥ l) = false from decide_eq_false (by omega), Cd.cd70, Tk.t70, base0, base1, base2, base3, Option.isNone_none, Option.isNone_some, Nat.reduceBEq, true_or, or_true, false_or, or_false, Nat.reduceLT, Nat.reduceMod, Nat.reducePow, rmaps, nsucc, List.flatten_cons, List.flatten_nil, Nat.reduceEqDiff, Nat.reduceLeDiff, Nat.reduceAdd, Nat.reduceMul, Nat.reduceSub, ↓reduceIte, reduceCtorEq, decide_true, decide_false]
  · rw [if_neg h]
    simp only [show decide (a ≥ l) = true from decide_eq_true (by omega), Cd.cd70, Tk.t70, base0, base1, base2, base3, Option.isNone_none, Option.isNone_some, Nat.reduceBEq, true_or, or_true, false_or, or_false, Nat.reduceLT, Nat.reduceMod, Nat.reducePow, rmaps, nsucc, List.flatten_cons, List.flatten_nil, Nat.reduceEqDiff, Nat.reduceLeDiff, Nat.reduceAdd, Nat.reduceMul, Nat.reduceSub, ↓reduceIte, reduceCtorEq, decide_true, decide_false]
    refine (fail66 _ _ _).pan ?_
    simp only [Cd.cd70, Tk.t70, base0, base1, base2, base3, Option.isNone_none, Option.isNone_some, Nat.reduceBEq, true_or, or_true, false_or, or_false, Nat.reduceLT, Nat.reduceMod, Nat.reducePow, rmaps, nsucc, List.flatten_cons, List.flatten_nil, Nat.reduceEqDiff, Nat.reduceLeDiff, Nat.reduceAdd, Nat.reduceMul, Nat.reduceSub, ↓reduceIte, reduceCtorEq, decide_true, decide_false]
theorem need_ok {a l : Nat} (h : a < l) {H : AH} : ACall Try.prog 70 [.v (.int .i64 (a : Int)), .v (.int .i64 (l : Int))] H (fun out H' => out = .ret (.tup []) ∧ H' = H) := by
  have := need70 a l H; rw [if_pos (by omega)] at this; exact this
theorem need_no {a l : Nat} (h : ¬ a < l) {H : AH} : ACall Try.prog 70 [.v (.int .i64 (a : Int)), .v (.int .i64 (l : Int))] H (fun out H' => out = .pan (fltV (l, 9)) ∧ H' = H) := by
  have := need70 a l H; rw [if_neg (by omega)] at this; exact this

def idOut : Except Flt (Nat × Nat × Bool × Nat) → AOut
  | .ok (c, n, bl, p) => .ret (.tup [.agg [.v (.int .i64 (c : Int)), .v (.int .i64 (n : Int))], .v (.bool bl), .v (.int .i64 (p : Int))])
  | .error e => .pan (fltV e)
theorem tagL_end {b : ByteArray} {lim k p num : Nat} (h : ¬ p < lim) : tagL b lim k p num = .error (lim, 9) := by cases k <;> simp [tagL, h]
set_option maxHeartbeats 1000000 in
theorem ident64 (b : ByteArray) (hb : b.size ≤ 4000) (r at_ lim : Nat) (cnt : AV) (hl : lim ≤ b.size) (H : AH) (hr : r < H.next) (hro : H.own r = some (.cells [.v (.string b), cnt])) :
    ACall Try.prog 64 [.ptr r 0, .v (.int .i64 (at_ : Int)), .v (.int .i64 (lim : Int))] H (fun out H' => out = idOut (ident b at_ lim) ∧ Kp H H' (fun _ => False)) := by
  have hrn : (r = H.next) = False := eq_false (by omega)
  have hrn1 : (r = H.next + 1) = False := eq_false (by omega)
  refine ACall.enter [] Cd.fn64 (by simp) ?_
  simp only [Cd.cd64, Tk.t64, base0, base1, base2, base3, Option.isNone_none, Option.isNone_some, Nat.reduceBEq, true_or, or_true, false_or, or_false, Nat.reduceLT, Nat.reduceMod, Nat.reducePow, rmaps, nsucc, List.flatten_cons, List.flatten_nil, Nat.reduceEqDiff, Nat.reduceLeDiff, Nat.reduceAdd, Nat.reduceMul, Nat.reduceSub, ↓reduceIte, reduceCtorEq, decide_true, decide_false]
  by_cases h : at_ < lim
  rotate_left
  · refine (need_no h).pan ?_
    simp only [Cd.cd64, Tk.t64, base0, base1, base2, base3, Option.isNone_none, Option.isNone_some, Nat.reduceBEq, true_or, or_true, false_or, or_false, Nat.reduceLT, Nat.reduceMod, Nat.reducePow, rmaps, nsucc, List.flatten_cons, List.flatten_nil, Nat.reduceEqDiff, Nat.reduceLeDiff, Nat.reduceAdd, Nat.reduceMul, Nat.reduceSub, ↓reduceIte, reduceCtorEq, decide_true, decide_false]
    unfold ident; rw [if_neg h]
    exact ⟨rfl, ⟨by simp, fun n hn _ => by simp [show n ≠ H.next by omega], fun _ _ => rfl⟩⟩
  · refine (need_ok h).one ?_
    have hc := bt_lt b at_
    simp only [hro, hrn, hrn1, Int.toNat_natCast, sget (s := b) (i := at_) (by omega), Int.natCast_nonneg, lt60, shr6 hc, and31 hc, wrapN (show bt b at_ / 64 < 2 ^ 62 by omega), wrapN (show bt b at_ % 32 < 2 ^ 62 by omega), wrapS (show at_ < 2 ^ 62 by omega), Cd.cd64, Tk.t64, base0, base1, base2, base3, Option.isNone_none, Option.isNone_some, Nat.reduceBEq, true_or, or_true, false_or, or_false, Nat.reduceLT, Nat.reduceMod, Nat.reducePow, rmaps, nsucc, List.flatten_cons, List.flatten_nil, Nat.reduceEqDiff, Nat.reduceLeDiff, Nat.reduceAdd, Nat.reduceMul, Nat.reduceSub, ↓reduceIte, reduceCtorEq, decide_true, decide_false]
    by_cases h31 : bt b at_ % 32 < 31
    · simp only [show decide (((bt b at_ % 32 : Nat) : Int) < 31) = true from decide_eq_true (by omega), and32 hc, Cd.cd64, Tk.t64, base0, base1, base2, base3, Option.isNone_none, Option.isNone_some, Nat.reduceBEq, true_or, or_true, false_or, or_false, Nat.reduceLT, Nat.reduceMod, Nat.reducePow, rmaps, nsucc, List.flatten_cons, List.flatten_nil, Nat.reduceEqDiff, Nat.reduceLeDiff, Nat.reduceAdd, Nat.reduceMul, Nat.reduceSub, ↓reduceIte, reduceCtorEq, decide_true, decide_false]
      unfold ident; rw [if_pos h, if_pos h31]
      refine ⟨rfl, ⟨by simp <;> omega, fun n hn _ => by simp [show n ≠ H.next by omega, show n ≠ H.next + 1 by omega], fun _ _ => rfl⟩⟩
    · simp only [show decide (((bt b at_ % 32 : Nat) : Int) < 31) = false from decide_eq_false (by omega), Cd.cd64, Tk.t64, base0, base1, base2, base3, Option.isNone_none, Option.isNone_some, Nat.reduceBEq, true_or, or_true, false_or, or_false, Nat.reduceLT, Nat.reduceMod, Nat.reducePow, rmaps, nsucc, List.flatten_cons, List.flatten_nil, Nat.reduceEqDiff, Nat.reduceLeDiff, Nat.reduceAdd, Nat.reduceMul, Nat.reduceSub, ↓reduceIte, reduceCtorEq, decide_true, decide_false]
      have hid : ident b at_ lim = match tagL b lim (lim - (at_ + 1)) (at_ + 1) 0 with
        | .ok (m, p) => .ok (bt b at_ / 64, m, bt b at_ / 32 % 2 == 1, p)
        | .error e => .error e := by
        unfold ident; rw [if_pos h, if_neg h31] <;> rfl
      rw [hid]
      generalize hT : tagL b lim (lim - (at_ + 1)) (at_ + 1) 0 = T
      obtain ⟨n1, hn1⟩ : ∃ n1, n1 = H.next := ⟨_, rfl⟩
      refine LWP.loop [] (fun m f H' => ∃ p k num, m = lim - p ∧ (lim - p ≤ k) ∧ (p ≤ lim) ∧ (num ≤ 268435456) ∧ (tagL b lim k p num = T) ∧ f.t 0 = .ptr r 0 ∧ f.t 1 = .v (.int .i64 (p : Nat)) ∧ f.t 2 = .v (.int .i64 (lim : Nat)) ∧ f.t 6 = .ptr n1 0 ∧ f.t 9 = .v (.int .u8 (bt b at_ : Nat)) ∧ f.t 10 = .ptr (n1 + 1) 0 ∧ f.ds = [] ∧ H'.own (n1 + 1) = some (.cells [.v (.int .i64 (bt b at_ / 64 : Nat)), .v (.int .i64 (num : Nat))]) ∧ H'.own n1 = some (.cells [.v (.int .i64 0), .v (.int .i64 0)]) ∧ n1 + 1 < H'.next ∧ (∀ n, n < H.next → H'.own n = H.own n) ∧ H'.tip = H.tip) ?_ ?_ (m := lim - (at_ + 1))
      · exact ⟨at_ + 1, lim - (at_ + 1), 0, rfl, (by omega), (by omega), (by omega), (hT), rfl, rfl, rfl, by rw [hn1]; rfl, rfl, by rw [hn1]; rfl, rfl, ⟨by simp [hn1], by simp [hn1], by simp [hn1], fun n hn => by simp [show n ≠ H.next by omega, show n ≠ H.next + 1 by omega], rfl⟩⟩
      · rintro m f H' ⟨p, k, num, rfl, hk, hp, hnum, hT, f0, f1, f2, f6, f9, f10, hds, ⟨h2,h1,hx,hk2,ht2⟩⟩
        have hro' : H'.own r = some (.cells [.v (.string b), cnt]) := (hk2 r hr).trans hro
        have m1 : (r = n1 + 1) = False := eq_false (by omega)
        have m2 : (n1 = n1 + 1) = False := eq_false (by omega)
        have m3 : (n1 + 1 = n1) = False := eq_false (by omega)
        simp only [f0, f1, f2, f6, f9, f10, hds, Cd.cd64, Tk.t64, base0, base1, base2, base3, Option.isNone_none, Option.isNone_some, Nat.reduceBEq, true_or, or_true, false_or, or_false, Nat.reduceLT, Nat.reduceMod, Nat.reducePow, rmaps, nsucc, List.flatten_cons, List.flatten_nil, Nat.reduceEqDiff, Nat.reduceLeDiff, Nat.reduceAdd, Nat.reduceMul, Nat.reduceSub, ↓reduceIte, reduceCtorEq, decide_true, decide_false]
        by_cases hpl : p < lim
        rotate_left
        · refine (need_no hpl).pan ?_
          simp only [f0, f1, f2, f6, f9, f10, hds, Cd.cd64, Tk.t64, base0, base1, base2, base3, Option.isNone_none, Option.isNone_some, Nat.reduceBEq, true_or, or_true, false_or, or_false, Nat.reduceLT, Nat.reduceMod, Nat.reducePow, rmaps, nsucc, List.flatten_cons, List.flatten_nil, Nat.reduceEqDiff, Nat.reduceLeDiff, Nat.reduceAdd, Nat.reduceMul, Nat.reduceSub, ↓reduceIte, reduceCtorEq, decide_true, decide_false]
          rw [tagL_end hpl] at hT
          rw [← hT]
          exact ⟨rfl, ⟨by omega, fun n hn _ => hk2 n hn, fun _ _ => by rw [ht2]⟩⟩
        · refine (need_ok hpl).one ?_
          have hcp := bt_lt b p
          obtain ⟨k, rfl⟩ : ∃ k', k = k' + 1 := ⟨k - 1, by omega⟩
          simp only [tagL, if_pos hpl] at hT
          simp only [h2, hro', m1, m2, m3, Int.toNat_natCast, sget (s := b) (i := p) (by omega), Int.natCast_nonneg, and127 hcp, wrapN (show bt b p % 128 < 2 ^ 62 by omega), show IntKind.i64.wrap (IntKind.i64.wrap ((num : Int) * 128) + ((bt b p % 128 : Nat) : Int)) = ((num * 128 + bt b p % 128 : Nat) : Int) from by rw [wrapI (x := (num : Int) * 128) (by omega) (by omega), wrapI (by omega) (by omega)]; omega, f0, f1, f2, f6, f9, f10, hds, Cd.cd64, Tk.t64, base0, base1, base2, base3, Option.isNone_none, Option.isNone_some, Nat.reduceBEq, true_or, or_true, false_or, or_false, Nat.reduceLT, Nat.reduceMod, Nat.reducePow, rmaps, nsucc, List.flatten_cons, List.flatten_nil, Nat.reduceEqDiff, Nat.reduceLeDiff, Nat.reduceAdd, Nat.reduceMul, Nat.reduceSub, ↓reduceIte, reduceCtorEq, decide_true, decide_false]
          generalize hM : num * 128 + bt b p % 128 = M at hT
          by_cases hov : 268435456 < M
          · simp only [show decide (((M : Nat) : Int) > 268435456) = true from decide_eq_true (by omega), f0, f1, f2, f6, f9, f10, hds, Cd.cd64, Tk.t64, base0, base1, base2, base3, Option.isNone_none, Option.isNone_some, Nat.reduceBEq, true_or, or_true, false_or, or_false, Nat.reduceLT, Nat.reduceMod, Nat.reducePow, rmaps, nsucc, List.flatten_cons, List.flatten_nil, Nat.reduceEqDiff, Nat.reduceLeDiff, Nat.reduceAdd, Nat.reduceMul, Nat.reduceSub, ↓reduceIte, reduceCtorEq, decide_true, decide_false]
            refine (fail66 _ _ _).pan ?_
            simp only [f0, f1, f2, f6, f9, f10, hds, Cd.cd64, Tk.t64, base0, base1, base2, base3, Option.isNone_none, Option.isNone_some, Nat.reduceBEq, true_or, or_true, false_or, or_false, Nat.reduceLT, Nat.reduceMod, Nat.reducePow, rmaps, nsucc, List.flatten_cons, List.flatten_nil, Nat.reduceEqDiff, Nat.reduceLeDiff, Nat.reduceAdd, Nat.reduceMul, Nat.reduceSub, ↓reduceIte, reduceCtorEq, decide_true, decide_false]
            rw [if_pos hov] at hT
            rw [← hT]
            exact ⟨rfl, ⟨by simp; omega, fun n hn _ => by simp [show n ≠ n1 + 1 by omega]; exact hk2 n hn, fun _ _ => by simp [ht2]⟩⟩
          rw [if_neg hov] at hT
          simp only [show decide (((M : Nat) : Int) > 268435456) = false from decide_eq_false (by omega), hro', m1, m2, m3, Int.toNat_natCast, sget (s := b) (i := p) (by omega), Int.natCast_nonneg, and128 hcp, f0, f1, f2, f6, f9, f10, hds, Cd.cd64, Tk.t64, base0, base1, base2, base3, Option.isNone_none, Option.isNone_some, Nat.reduceBEq, true_or, or_true, false_or, or_false, Nat.reduceLT, Nat.reduceMod, Nat.reducePow, rmaps, nsucc, List.flatten_cons, List.flatten_nil, Nat.reduceEqDiff, Nat.reduceLeDiff, Nat.reduceAdd, Nat.reduceMul, Nat.reduceSub, ↓reduceIte, reduceCtorEq, decide_true, decide_false]
          by_cases h128 : bt b p < 128
          · rw [if_pos h128] at hT
            simp only [h1, m1, m2, m3, decide_eq_true h128, and32 hc, wrapS (show p < 2 ^ 62 by omega), f0, f1, f2, f6, f9, f10, hds, Cd.cd64, Tk.t64, base0, base1, base2, base3, Option.isNone_none, Option.isNone_some, Nat.reduceBEq, true_or, or_true, false_or, or_false, Nat.reduceLT, Nat.reduceMod, Nat.reducePow, rmaps, nsucc, List.flatten_cons, List.flatten_nil, Nat.reduceEqDiff, Nat.reduceLeDiff, Nat.reduceAdd, Nat.reduceMul, Nat.reduceSub, ↓reduceIte, reduceCtorEq, decide_true, decide_false]
            rw [← hT]
            exact ⟨rfl, ⟨by simp; omega, fun n hn _ => by simp [show n ≠ n1 + 1 by omega, show n ≠ n1 by omega]; exact hk2 n hn, fun _ _ => by simp [ht2]⟩⟩
          · rw [if_neg h128] at hT
            simp only [decide_eq_false h128, wrapS (show p < 2 ^ 62 by omega), f0, f1, f2, f6, f9, f10, hds, Cd.cd64, Tk.t64, base0, base1, base2, base3, Option.isNone_none, Option.isNone_some, Nat.reduceBEq, true_or, or_true, false_or, or_false, Nat.reduceLT, Nat.reduceMod, Nat.reducePow, rmaps, nsucc, List.flatten_cons, List.flatten_nil, Nat.reduceEqDiff, Nat.reduceLeDiff, Nat.reduceAdd, Nat.reduceMul, Nat.reduceSub, ↓reduceIte, reduceCtorEq, decide_true, decide_false]
            exact ⟨_, by omega, p + 1, k, M, rfl, by omega, by omega, by omega, hT, rfl, by simp [m3, h1, hx, ht2]; exact fun n hn => by simp [show n ≠ n1 + 1 by omega]; exact hk2 n hn⟩
end Go.Proofs.Ytmjjfdppaomcfaa

/- Walks: the program reads lengths. -/
namespace Go.Proofs.Ytmjjfdppaomcfaa
open Go Go.Proofs.Ytmjjfdppaomcfaa.Ab
set_option maxRecDepth 100000
set_option linter.unusedSimpArgs false

def lenOut : Except Flt (Option Nat × Nat) → AOut
  | .ok (some n, p) => .ret (.tup [.v (.int .i64 (n : Int)), .v (.bool false), .v (.int .i64 (p : Int))])
  | .ok (none, p) => .ret (.tup [.v (.int .i64 0), .v (.bool true), .v (.int .i64 (p : Int))])
  | .error e => .pan (fltV e)
theorem shl8 {n : Nat} (h : n ≤ 4000) : IntKind.i64.wrap ((n : Int) * 2 ^ min (8 : Int).toNat IntKind.i64.bits) = ((n * 256 : Nat) : Int) := by
  rw [show (2 : Int) ^ min (8 : Int).toNat IntKind.i64.bits = 256 from by decide, wrapI (by omega) (by omega)]; omega
set_option maxHeartbeats 1000000 in
theorem len65 (b : ByteArray) (hb : b.size ≤ 4000) (r at_ lim : Nat) (bl : Bool) (cnt : AV) (hl : lim ≤ b.size) (H : AH) (hro : H.own r = some (.cells [.v (.string b), cnt])) :
    ACall Try.prog 65 [.ptr r 0, .v (.int .i64 (at_ : Int)), .v (.int .i64 (lim : Int)), .v (.bool bl)] H (fun out H' => out = lenOut (lenOf b at_ lim bl) ∧ H' = H) := by
  refine ACall.enter [] Cd.fn65 (by simp) ?_
  simp only [Cd.cd65, Tk.t65, base0, base1, base2, base3, Option.isNone_none, Option.isNone_some, Nat.reduceBEq, true_or, or_true, false_or, or_false, Nat.reduceLT, Nat.reduceMod, Nat.reducePow, rmaps, nsucc, List.flatten_cons, List.flatten_nil, Nat.reduceEqDiff, Nat.reduceLeDiff, Nat.reduceAdd, Nat.reduceMul, Nat.reduceSub, ↓reduceIte, reduceCtorEq, decide_true, decide_false]
  by_cases h : at_ < lim
  rotate_left
  · refine (need_no h).pan ?_
    simp only [Cd.cd65, Tk.t65, base0, base1, base2, base3, Option.isNone_none, Option.isNone_some, Nat.reduceBEq, true_or, or_true, false_or, or_false, Nat.reduceLT, Nat.reduceMod, Nat.reducePow, rmaps, nsucc, List.flatten_cons, List.flatten_nil, Nat.reduceEqDiff, Nat.reduceLeDiff, Nat.reduceAdd, Nat.reduceMul, Nat.reduceSub, ↓reduceIte, reduceCtorEq, decide_true, decide_false]
    unfold lenOf; rw [if_neg h]
    first | rfl | exact ⟨rfl, rfl⟩
  · refine (need_ok h).one ?_
    have hc := bt_lt b at_
    generalize hcc : bt b at_ = c at hc
    have hg := sget (s := b) (i := at_) (by omega)
    rw [hcc] at hg
    simp only [hro, Int.toNat_natCast, hg, Int.natCast_nonneg, wrapN (show c < 2 ^ 62 by omega), Cd.cd65, Tk.t65, base0, base1, base2, base3, Option.isNone_none, Option.isNone_some, Nat.reduceBEq, true_or, or_true, false_or, or_false, Nat.reduceLT, Nat.reduceMod, Nat.reducePow, rmaps, nsucc, List.flatten_cons, List.flatten_nil, Nat.reduceEqDiff, Nat.reduceLeDiff, Nat.reduceAdd, Nat.reduceMul, Nat.reduceSub, ↓reduceIte, reduceCtorEq, decide_true, decide_false]
    by_cases h1 : c < 128
    · simp only [show decide ((c : Int) < 128) = true from decide_eq_true (by omega), wrapS (show at_ < 2 ^ 62 by omega), Cd.cd65, Tk.t65, base0, base1, base2, base3, Option.isNone_none, Option.isNone_some, Nat.reduceBEq, true_or, or_true, false_or, or_false, Nat.reduceLT, Nat.reduceMod, Nat.reducePow, rmaps, nsucc, List.flatten_cons, List.flatten_nil, Nat.reduceEqDiff, Nat.reduceLeDiff, Nat.reduceAdd, Nat.reduceMul, Nat.reduceSub, ↓reduceIte, reduceCtorEq, decide_true, decide_false]
      unfold lenOf; rw [if_pos h, hcc, if_pos h1]
      first | rfl | exact ⟨rfl, rfl⟩
    simp only [show decide ((c : Int) < 128) = false from decide_eq_false (by omega), Cd.cd65, Tk.t65, base0, base1, base2, base3, Option.isNone_none, Option.isNone_some, Nat.reduceBEq, true_or, or_true, false_or, or_false, Nat.reduceLT, Nat.reduceMod, Nat.reducePow, rmaps, nsucc, List.flatten_cons, List.flatten_nil, Nat.reduceEqDiff, Nat.reduceLeDiff, Nat.reduceAdd, Nat.reduceMul, Nat.reduceSub, ↓reduceIte, reduceCtorEq, decide_true, decide_false]
    by_cases h2 : c = 255 ∨ (c = 128 ∧ bl = false)
    · have hpan : lenOf b at_ lim bl = .error (at_, 19) := by unfold lenOf; rw [if_pos h, hcc, if_neg h1, if_pos h2]
      rw [hpan]
      by_cases h3 : c = 255
      · simp only [show ((c : Int) == 255) = true from by simp; omega, Cd.cd65, Tk.t65, base0, base1, base2, base3, Option.isNone_none, Option.isNone_some, Nat.reduceBEq, true_or, or_true, false_or, or_false, Nat.reduceLT, Nat.reduceMod, Nat.reducePow, rmaps, nsucc, List.flatten_cons, List.flatten_nil, Nat.reduceEqDiff, Nat.reduceLeDiff, Nat.reduceAdd, Nat.reduceMul, Nat.reduceSub, ↓reduceIte, reduceCtorEq, decide_true, decide_false]
        refine (fail66 _ _ _).pan ?_
        simp only [Cd.cd65, Tk.t65, base0, base1, base2, base3, Option.isNone_none, Option.isNone_some, Nat.reduceBEq, true_or, or_true, false_or, or_false, Nat.reduceLT, Nat.reduceMod, Nat.reducePow, rmaps, nsucc, List.flatten_cons, List.flatten_nil, Nat.reduceEqDiff, Nat.reduceLeDiff, Nat.reduceAdd, Nat.reduceMul, Nat.reduceSub, ↓reduceIte, reduceCtorEq, decide_true, decide_false]
        first | rfl | exact ⟨rfl, rfl⟩
      · obtain ⟨h4, rfl⟩ : c = 128 ∧ bl = false := h2.resolve_left h3
        simp only [show ((c : Int) == 255) = false from by simp; omega, show ((c : Int) == 128) = true from by simp; omega, Cd.cd65, Tk.t65, base0, base1, base2, base3, Option.isNone_none, Option.isNone_some, Nat.reduceBEq, true_or, or_true, false_or, or_false, Nat.reduceLT, Nat.reduceMod, Nat.reducePow, rmaps, nsucc, List.flatten_cons, List.flatten_nil, Nat.reduceEqDiff, Nat.reduceLeDiff, Nat.reduceAdd, Nat.reduceMul, Nat.reduceSub, ↓reduceIte, reduceCtorEq, decide_true, decide_false]
        refine (fail66 _ _ _).pan ?_
        simp only [Cd.cd65, Tk.t65, base0, base1, base2, base3, Option.isNone_none, Option.isNone_some, Nat.reduceBEq, true_or, or_true, false_or, or_false, Nat.reduceLT, Nat.reduceMod, Nat.reducePow, rmaps, nsucc, List.flatten_cons, List.flatten_nil, Nat.reduceEqDiff, Nat.reduceLeDiff, Nat.reduceAdd, Nat.reduceMul, Nat.reduceSub, ↓reduceIte, reduceCtorEq, decide_true, decide_false]
        first | rfl | exact ⟨rfl, rfl⟩
    have e255 : ((c : Int) == 255) = false := by simp; omega
    by_cases h3 : c = 128
    · have hbl : bl = true := by cases bl <;> simp_all
      subst hbl
      simp only [e255, show ((c : Int) == 128) = true from by simp; omega, wrapS (show at_ < 2 ^ 62 by omega), Cd.cd65, Tk.t65, base0, base1, base2, base3, Option.isNone_none, Option.isNone_some, Nat.reduceBEq, true_or, or_true, false_or, or_false, Nat.reduceLT, Nat.reduceMod, Nat.reducePow, rmaps, nsucc, List.flatten_cons, List.flatten_nil, Nat.reduceEqDiff, Nat.reduceLeDiff, Nat.reduceAdd, Nat.reduceMul, Nat.reduceSub, ↓reduceIte, reduceCtorEq, decide_true, decide_false]
      unfold lenOf; rw [if_pos h, hcc, if_neg h1, if_neg h2, if_pos h3]
      first | rfl | exact ⟨rfl, rfl⟩
    have hres : lenOf b at_ lim bl = match lenL b lim (c - 128) (at_ + 1) 0 with
      | .ok n => .ok (some n, at_ + 1 + (c - 128))
      | .error e => .error e := by unfold lenOf; rw [if_pos h, hcc, if_neg h1, if_neg h2, if_neg h3] <;> rfl
    rw [hres]
    generalize hT : lenL b lim (c - 128) (at_ + 1) 0 = T
    simp only [e255, show ((c : Int) == 128) = false from by simp; omega, show IntKind.i64.wrap ((c : Int) - 128) = ((c - 128 : Nat) : Int) from by rw [wrapI (by omega) (by omega)]; omega, Cd.cd65, Tk.t65, base0, base1, base2, base3, Option.isNone_none, Option.isNone_some, Nat.reduceBEq, true_or, or_true, false_or, or_false, Nat.reduceLT, Nat.reduceMod, Nat.reducePow, rmaps, nsucc, List.flatten_cons, List.flatten_nil, Nat.reduceEqDiff, Nat.reduceLeDiff, Nat.reduceAdd, Nat.reduceMul, Nat.reduceSub, ↓reduceIte, reduceCtorEq, decide_true, decide_false]
    refine LWP.loop [] (fun m f H' => ∃ i n, m = c - 128 - i ∧ (i ≤ c - 128) ∧ (n ≤ 4000) ∧ (lenL b lim (c - 128 - i) (at_ + 1 + i) n = T) ∧ f.t 0 = .ptr r 0 ∧ f.t 1 = .v (.int .i64 (at_ : Nat)) ∧ f.t 2 = .v (.int .i64 (lim : Nat)) ∧ f.t 11 = .v (.int .i64 (c : Nat)) ∧ f.t 12 = .v (.int .i64 (n : Nat)) ∧ f.t 47 = .v (.int .i64 (c - 128 : Nat)) ∧ f.t 48 = .v (.int .i64 (i : Nat)) ∧ f.ds = [] ∧ H' = H) ?_ ?_ (m := c - 128 - (0))
    · exact ⟨0, 0, rfl, (by omega), (by omega), (hT), rfl, rfl, rfl, rfl, rfl, rfl, rfl, rfl, rfl⟩
    · rintro m f H' ⟨i, n, rfl, hi, hn, hT, f0, f1, f2, f11, f12, f47, f48, hds, hH⟩
      subst hH
      by_cases hlt : i < c - 128
      · have ep : IntKind.i64.wrap (IntKind.i64.wrap ((at_ : Int) + 1) + (i : Int)) = ((at_ + 1 + i : Nat) : Int) := by rw [wrapI (x := (at_ : Int) + 1) (by omega) (by omega), wrapI (by omega) (by omega)]; omega
        simp only [show decide ((i : Int) < ((c - 128 : Nat) : Int)) = true from decide_eq_true (by omega), ep, f0, f1, f2, f11, f12, f47, f48, hds, Cd.cd65, Tk.t65, base0, base1, base2, base3, Option.isNone_none, Option.isNone_some, Nat.reduceBEq, true_or, or_true, false_or, or_false, Nat.reduceLT, Nat.reduceMod, Nat.reducePow, rmaps, nsucc, List.flatten_cons, List.flatten_nil, Nat.reduceEqDiff, Nat.reduceLeDiff, Nat.reduceAdd, Nat.reduceMul, Nat.reduceSub, ↓reduceIte, reduceCtorEq, decide_true, decide_false]
        obtain ⟨k, hk⟩ : ∃ k, c - 128 - i = k + 1 := ⟨c - 128 - i - 1, by omega⟩
        rw [hk] at hT
        by_cases hpl : at_ + 1 + i < lim
        rotate_left
        · refine (need_no hpl).pan ?_
          simp only [lenL, if_neg hpl] at hT
          simp only [f0, f1, f2, f11, f12, f47, f48, hds, Cd.cd65, Tk.t65, base0, base1, base2, base3, Option.isNone_none, Option.isNone_some, Nat.reduceBEq, true_or, or_true, false_or, or_false, Nat.reduceLT, Nat.reduceMod, Nat.reducePow, rmaps, nsucc, List.flatten_cons, List.flatten_nil, Nat.reduceEqDiff, Nat.reduceLeDiff, Nat.reduceAdd, Nat.reduceMul, Nat.reduceSub, ↓reduceIte, reduceCtorEq, decide_true, decide_false]
          rw [← hT]
          first | rfl | exact ⟨rfl, rfl⟩
        · refine (need_ok hpl).one ?_
          simp only [lenL, if_pos hpl] at hT
          have hcp := bt_lt b (at_ + 1 + i)
          simp only [hro, ep, lt80, Int.toNat_natCast, sget (s := b) (i := at_ + 1 + i) (by omega), Int.natCast_nonneg, wrapN (show bt b (at_ + 1 + i) < 2 ^ 62 by omega), shl8 hn, f0, f1, f2, f11, f12, f47, f48, hds, Cd.cd65, Tk.t65, base0, base1, base2, base3, Option.isNone_none, Option.isNone_some, Nat.reduceBEq, true_or, or_true, false_or, or_false, Nat.reduceLT, Nat.reduceMod, Nat.reducePow, rmaps, nsucc, List.flatten_cons, List.flatten_nil, Nat.reduceEqDiff, Nat.reduceLeDiff, Nat.reduceAdd, Nat.reduceMul, Nat.reduceSub, ↓reduceIte, reduceCtorEq, decide_true, decide_false]
          generalize hM : n * 256 + bt b (at_ + 1 + i) = M at hT
          have eM : IntKind.i64.wrap (((n * 256 : Nat) : Int) + ((bt b (at_ + 1 + i) : Nat) : Int)) = (M : Int) := by rw [wrapI (by omega) (by omega)]; omega
          by_cases hov : 4000 < M
          · simp only [eM, show decide (((M : Nat) : Int) > 4000) = true from decide_eq_true (by omega), ep, f0, f1, f2, f11, f12, f47, f48, hds, Cd.cd65, Tk.t65, base0, base1, base2, base3, Option.isNone_none, Option.isNone_some, Nat.reduceBEq, true_or, or_true, false_or, or_false, Nat.reduceLT, Nat.reduceMod, Nat.reducePow, rmaps, nsucc, List.flatten_cons, List.flatten_nil, Nat.reduceEqDiff, Nat.reduceLeDiff, Nat.reduceAdd, Nat.reduceMul, Nat.reduceSub, ↓reduceIte, reduceCtorEq, decide_true, decide_false]
            refine (fail66 _ _ _).pan ?_
            rw [if_pos hov] at hT
            simp only [f0, f1, f2, f11, f12, f47, f48, hds, Cd.cd65, Tk.t65, base0, base1, base2, base3, Option.isNone_none, Option.isNone_some, Nat.reduceBEq, true_or, or_true, false_or, or_false, Nat.reduceLT, Nat.reduceMod, Nat.reducePow, rmaps, nsucc, List.flatten_cons, List.flatten_nil, Nat.reduceEqDiff, Nat.reduceLeDiff, Nat.reduceAdd, Nat.reduceMul, Nat.reduceSub, ↓reduceIte, reduceCtorEq, decide_true, decide_false]
            rw [← hT]
            first | rfl | exact ⟨rfl, rfl⟩
          · rw [if_neg hov] at hT
            simp only [eM, show decide (((M : Nat) : Int) > 4000) = false from decide_eq_false (by omega), wrapS (show i < 2 ^ 62 by omega), f0, f1, f2, f11, f12, f47, f48, hds, Cd.cd65, Tk.t65, base0, base1, base2, base3, Option.isNone_none, Option.isNone_some, Nat.reduceBEq, true_or, or_true, false_or, or_false, Nat.reduceLT, Nat.reduceMod, Nat.reducePow, rmaps, nsucc, List.flatten_cons, List.flatten_nil, Nat.reduceEqDiff, Nat.reduceLeDiff, Nat.reduceAdd, Nat.reduceMul, Nat.reduceSub, ↓reduceIte, reduceCtorEq, decide_true, decide_false]
            refine ⟨_, by omega, i + 1, M, rfl, by omega, by omega, ?_, rfl, rfl⟩
            rw [← hT]; congr 1; omega
      · simp only [show decide ((i : Int) < ((c - 128 : Nat) : Int)) = false from decide_eq_false (by omega), f0, f1, f2, f11, f12, f47, f48, hds, Cd.cd65, Tk.t65, base0, base1, base2, base3, Option.isNone_none, Option.isNone_some, Nat.reduceBEq, true_or, or_true, false_or, or_false, Nat.reduceLT, Nat.reduceMod, Nat.reducePow, rmaps, nsucc, List.flatten_cons, List.flatten_nil, Nat.reduceEqDiff, Nat.reduceLeDiff, Nat.reduceAdd, Nat.reduceMul, Nat.reduceSub, ↓reduceIte, reduceCtorEq, decide_true, decide_false]
        have h0 : c - 128 - i = 0 := by omega
        rw [h0] at hT
        simp only [lenL] at hT
        rw [← hT]
        have ee : IntKind.i64.wrap (IntKind.i64.wrap (IntKind.i64.wrap ((at_ : Int) + 1) + (c : Int)) - 128) = ((at_ + 1 + (c - 128) : Nat) : Int) := by rw [wrapI (x := (at_ : Int) + 1) (by omega) (by omega), wrapI (x := (at_ : Int) + 1 + c) (by omega) (by omega), wrapI (by omega) (by omega)]; omega
        simp only [ee, f0, f1, f2, f11, f12, f47, f48, hds, Cd.cd65, Tk.t65, base0, base1, base2, base3, Option.isNone_none, Option.isNone_some, Nat.reduceBEq, true_or, or_true, false_or, or_false, Nat.reduceLT, Nat.reduceMod, Nat.reducePow, rmaps, nsucc, List.flatten_cons, List.flatten_nil, Nat.reduceEqDiff, Nat.reduceLeDiff, Nat.reduceAdd, Nat.reduceMul, Nat.reduceSub, ↓reduceIte, reduceCtorEq, decide_true, decide_false]
        first | rfl | exact ⟨rfl, rfl⟩
end Go.Proofs.Ytmjjfdppaomcfaa

/- Walks: the program reads nodes. -/
namespace Go.Proofs.Ytmjjfdppaomcfaa
open Go Go.Proofs.Ytmjjfdppaomcfaa.Ab
set_option maxRecDepth 100000
set_option linter.unusedSimpArgs false

def hdL (h : Hd) (kids : AV) : List AV := [.v (.int .i64 (h.cls : Int)), .v (.int .i64 (h.num : Int)), .v (.bool h.built), .v (.bool h.opn), .v (.int .i64 (h.frm : Int)), .v (.int .i64 (h.len : Int)), .v (.int .i64 (h.body : Int)), .v (.int .i64 (h.stop : Int)), .v (.int .i64 (h.fin : Int)), .v (.int .i64 (h.deep : Int)), kids]
mutual
def treeV : Tree → AV
  | .mk h kids => .box (hdL h (.lst 1 (treesR kids) .unk))
def treesR : List Tree → List (List AV)
  | [] => []
  | t :: l => [treeV t] :: treesR l
end
def encT (t : Tree) : List AV := [treeV t]
theorem treesR_eq : ∀ l : List Tree, treesR l = l.map encT
  | [] => rfl
  | t :: l => by simp only [treesR, List.map_cons, treesR_eq l, encT]
def treesV (l : List Tree) : AV := .lst 1 (l.map encT) .unk
theorem FZs.one {a : AV} (h : FZ a) : FZs [a] := FZs.cons h FZs.nil
theorem FZs.hdL {h : Hd} {k : AV} (hk : FZ k) : FZs (hdL h k) := by
  intro a ha
  simp only [Proofs.Ytmjjfdppaomcfaa.hdL, List.mem_cons, List.not_mem_nil, or_false] at ha
  rcases ha with rfl | rfl | rfl | rfl | rfl | rfl | rfl | rfl | rfl | rfl | rfl <;> first | exact FZ.v _ | exact hk
mutual
theorem FZ.treeV : ∀ t : Tree, FZ (treeV t)
  | .mk h kids => by
    rw [Proofs.Ytmjjfdppaomcfaa.treeV]
    exact FZ.box (FZs.hdL (FZ.lst rfl (FZs.treesR kids)))
theorem FZs.treesR : ∀ l : List Tree, ∀ r ∈ treesR l, FZs r
  | [], r, h => by simp [Proofs.Ytmjjfdppaomcfaa.treesR] at h
  | t :: l, r, h => by
    rw [Proofs.Ytmjjfdppaomcfaa.treesR] at h
    rcases List.mem_cons.mp h with h | h
    · rw [h]; exact FZs.one (FZ.treeV t)
    · exact FZs.treesR l r h
end
theorem FZs.encT (t : Tree) : FZs (encT t) := FZs.one (FZ.treeV t)
theorem treeV_eq (h : Hd) (kids : List Tree) : treeV (.mk h kids) = .box (hdL h (treesV kids)) := by rw [treeV, treesR_eq]; rfl

def rdL (b : ByteArray) (c : Nat) : List AV := [.v (.string b), .v (.int .i64 (c : Int))]
/-- what a node's reading leaves -/
def NodeR (b : ByteArray) (r : Nat) (H : AH) (x : Except Flt (Tree × Nat)) : AOut → AH → Prop := fun out H' =>
  Kp H H' (· = r) ∧ match x with
    | .ok (t, c) => out = .ret (treeV t) ∧ H'.own r = some (.cells (rdL b c))
    | .error e => out = .pan (fltV e)
theorem NodeR.go {P : Program} {mu : List Nat} {K : Kont} {f : AF} {H : AH} {m : FuncId} {args : List AV} {dst : Option Nat} {os : List COp} {b : ByteArray} {r : Nat} {x : Except Flt (Tree × Nat)} (h : ACall P m args H (NodeR b r H x))
    (hp : ∀ e H1, x = .error e → Kp H H1 (· = r) → K.run (.panic (fltV e)) f H1)
    (hr : ∀ t c H1, x = .ok (t, c) → Kp H H1 (· = r) → H1.own r = some (.cells (rdL b c)) → cops P mu K os (f.put dst (treeV t)) H1) : ACall P m args H (callK P mu K dst os f) :=
  h.mono fun out H1 hq => by
    obtain ⟨hk, hx⟩ := hq
    cases x with
    | error e => subst hx; exact hp e H1 rfl hk
    | ok y => obtain ⟨t, c⟩ := y; obtain ⟨rfl, ho⟩ := hx; exact hr t c H1 rfl hk ho

theorem Kp.trans {H H1 H2 : AH} {r : Nat → Prop} (h : Kp H H1 r) (h' : Kp H1 H2 r) : Kp H H2 r :=
  ⟨Nat.le_trans h.next h'.next, fun n hn hr => (h'.own n (Nat.lt_of_lt_of_le hn h.next) hr).trans (h.own n hn hr), fun t ht => (h'.tip t (Nat.lt_of_lt_of_le ht h.next)).trans (h.tip t ht)⟩
theorem Kp.weak {H H1 : AH} {r r' : Nat → Prop} (h : Kp H H1 r) (hr : ∀ n, r n → r' n) : Kp H H1 r' := ⟨h.next, fun n hn hx => h.own n hn fun e => hx (hr n e), h.tip⟩

def GrowT {α : Type} (N : Nat) (enc : α → List AV) (k : Nat) (H : AH) (a : AV) (l : List α) : Prop :=
  (l = [] ∧ a = nilS) ∨ ∃ t, a = .lst k (l.map enc) (.live t) ∧ H.tip t = some l.length ∧ N ≤ t ∧ t < H.next
theorem GrowT.kp {α : Type} {N : Nat} {enc : α → List AV} {k : Nat} {H H' : AH} {a : AV} {l : List α} {r : Nat → Prop} (h : GrowT N enc k H a l) (hk : Kp H H' r) : GrowT N enc k H' a l := by
  rcases h with h | ⟨t, h1, h2, h3⟩
  · exact .inl h
  · exact .inr ⟨t, h1, (hk.tip t h3.2).trans h2, h3.1, Nat.lt_of_lt_of_le h3.2 hk.next⟩
theorem GrowT.view {α : Type} {N : Nat} {enc : α → List AV} {k : Nat} {H H' : AH} {a : AV} {l : List α} (h : GrowT N enc k H a l) (hz : ∀ x, FZs (enc x)) : View H' a (.lst k (l.map enc) .unk) := by
  rcases h with h | ⟨t, h1, h2, _⟩
  · exact (show GrowE enc k H a l from .inl h).view hz
  · exact (show GrowE enc k H a l from .inr ⟨t, h1, h2⟩).view hz
theorem GrowT.live {α : Type} {N : Nat} {enc : α → List AV} {k : Nat} {H : AH} {rows : List (List AV)} {t : Nat} {l : List α} (hr : rows = l.map enc) (ht : H.tip t = some l.length) (hn : N ≤ t ∧ t < H.next) : GrowT N enc k H (.lst k rows (.live t)) l := .inr ⟨t, by rw [hr], ht, hn⟩
theorem room1 {b n : Nat} (h : b * (n + 1) ≤ 140737488355328) (h' : n + 1 ≤ 140737488355328) : roomA b (n + 1) = true := by
  rw [Nat.mul_comm] at h; simp [roomA, h, h']
def untilOut (b : ByteArray) (r x : Nat) (cs : List AV) (H : AH) (y : Except Flt (List Tree × Nat × Nat)) : AOut → AH → Prop := fun out H' =>
  Kp H H' (fun n => n = r ∨ n = x) ∧ match y with
    | .ok (l, s, c) => out = .ret (.v (.int .i64 (s : Int))) ∧ H'.own r = some (.cells (rdL b c)) ∧ ∃ v, H'.own x = some (.cells (cs ++ [v])) ∧ GrowT H.next encT 1 H' v l
    | .error e => out = .pan (fltV e)
set_option maxHeartbeats 2000000 in
theorem until67 (b : ByteArray) (hb : b.size ≤ 4000) (r x lim c0 p0 d D : Nat) (hl : lim ≤ b.size) (hc0 : c0 ≤ 300) (hp0 : p0 ≤ lim) (hD : D < 20) (a0 a1 a2 a3 a4 a5 a7 a8 : AV) (hrx : r ≠ x) (H : AH) (hr : r < H.next) (hx : x < H.next)
    (hro : H.own r = some (.cells (rdL b c0))) (hxo : H.own x = some (.cells [a0, a1, a2, a3, a4, a5, .v (.int .i64 (p0 : Int)), a7, a8, .v (.int .i64 (D : Int)), nilS]))
    (ho : AV.one a0 = true ∧ AV.one a1 = true ∧ AV.one a2 = true ∧ AV.one a3 = true ∧ AV.one a4 = true ∧ AV.one a5 = true ∧ AV.one a7 = true ∧ AV.one a8 = true)
    (hN : ∀ p c H1, c ≤ 300 → r < H1.next → H1.own r = some (.cells (rdL b c)) → ACall Try.prog 56 [.ptr r 0, .v (.int .i64 (p : Nat)), .v (.int .i64 (lim : Nat)), .v (.int .i64 ((D + 1 : Nat) : Int))] H1 (NodeR b r H1 (rd b d p lim c))) :
    ACall Try.prog 67 [.ptr r 0, .ptr x 0, .v (.int .i64 (lim : Int))] H (untilOut b r x [a0, a1, a2, a3, a4, a5, .v (.int .i64 (p0 : Int)), a7, a8, .v (.int .i64 (D : Int))] H (openC (fun a c => rd b d a lim c) b lim (lim - p0 + 1) p0 c0 [])) := by
  obtain ⟨o0, o1, o2, o3, o4, o5, o7, o8⟩ := ho
  generalize hT : openC (fun a c => rd b d a lim c) b lim (lim - p0 + 1) p0 c0 [] = T
  refine ACall.enter [] Cd.fn67 (by simp) ?_
  simp only [hxo, o0, o1, o2, o3, o4, o5, o7, o8, Cd.cd67, Tk.t67, base0, base1, base2, base3, Option.isNone_none, Option.isNone_some, Nat.reduceBEq, true_or, or_true, false_or, or_false, Nat.reduceLT, Nat.reduceMod, Nat.reducePow, rmaps, nsucc, List.flatten_cons, List.flatten_nil, Nat.reduceEqDiff, Nat.reduceLeDiff, Nat.reduceAdd, Nat.reduceMul, Nat.reduceSub, ↓reduceIte, reduceCtorEq, decide_true, decide_false]
  refine LWP.loop [] (fun m f H' => ∃ p n c acc, m = lim - p ∧ (lim - p + 1 ≤ n) ∧ (p ≤ lim) ∧ (c ≤ 300) ∧ (acc.length ≤ c) ∧ (openC (fun a c => rd b d a lim c) b lim n p c acc = T) ∧ f.t 0 = .ptr r 0 ∧ f.t 1 = .ptr x 0 ∧ f.t 2 = .v (.int .i64 (lim : Nat)) ∧ f.t 7 = .v (.int .i64 (p : Nat)) ∧ f.ds = [] ∧ Kp H H' (fun n => n = r ∨ n = x) ∧ H'.own r = some (.cells (rdL b c)) ∧ ∃ v, H'.own x = some (.cells [a0, a1, a2, a3, a4, a5, .v (.int .i64 (p0 : Int)), a7, a8, .v (.int .i64 (D : Int)), v]) ∧ GrowT H.next encT 1 H' v acc) ?_ ?_ (m := lim - (p0))
  · exact ⟨p0, lim - p0 + 1, c0, [], rfl, (by omega), (by omega), (by omega), (by simp), (hT), rfl, rfl, rfl, rfl, rfl, ⟨Kp.refl _ _, hro, nilS, hxo, .inl ⟨rfl, rfl⟩⟩⟩
  · rintro m f H' ⟨p, n, c, acc, rfl, hn, hp, hc, hal, hT, f0, f1, f2, f7, hds, ⟨hk,hro,v,hxo,hg⟩⟩
    simp only [rdL] at hro
    have hkn := hk.next
    obtain ⟨n, rfl⟩ : ∃ n', n = n' + 1 := ⟨n - 1, by omega⟩
    simp only [openC] at hT
    have ep : IntKind.i64.wrap ((p : Int) + 1) = ((p + 1 : Nat) : Int) := wrapS (by omega)
    by_cases hz : p + 1 < lim ∧ bt b p = 0 ∧ bt b (p + 1) = 0
    · rw [if_pos hz] at hT
      obtain ⟨z1, z2, z3⟩ := hz
      simp only [ep, show decide (((p + 1 : Nat) : Int) < (lim : Int)) = true from decide_eq_true (by omega), hro, Int.toNat_natCast, Int.natCast_nonneg, sget (s := b) (i := p) (by omega), sget (s := b) (i := p + 1) (by omega), z2, z3, show (((0 : Nat) : Int) == 0) = true from rfl, f0, f1, f2, f7, hds, Cd.cd67, Tk.t67, base0, base1, base2, base3, Option.isNone_none, Option.isNone_some, Nat.reduceBEq, true_or, or_true, false_or, or_false, Nat.reduceLT, Nat.reduceMod, Nat.reducePow, rmaps, nsucc, List.flatten_cons, List.flatten_nil, Nat.reduceEqDiff, Nat.reduceLeDiff, Nat.reduceAdd, Nat.reduceMul, Nat.reduceSub, ↓reduceIte, reduceCtorEq, decide_true, decide_false]
      rw [← hT]
      exact ⟨hk, rfl, hro, v, hxo, hg⟩
    · rw [if_neg hz] at hT
      have hz' : (¬ p + 1 < lim) ∨ (p + 1 < lim ∧ bt b p ≠ 0) ∨ (p + 1 < lim ∧ bt b p = 0 ∧ bt b (p + 1) ≠ 0) := by omega
      rcases hz' with z1 | ⟨z1, z2⟩ | ⟨z1, z2, z3⟩
      · simp only [ep, show decide (((p + 1 : Nat) : Int) < (lim : Int)) = false from decide_eq_false (by omega), f0, f1, f2, f7, hds, Cd.cd67, Tk.t67, base0, base1, base2, base3, Option.isNone_none, Option.isNone_some, Nat.reduceBEq, true_or, or_true, false_or, or_false, Nat.reduceLT, Nat.reduceMod, Nat.reducePow, rmaps, nsucc, List.flatten_cons, List.flatten_nil, Nat.reduceEqDiff, Nat.reduceLeDiff, Nat.reduceAdd, Nat.reduceMul, Nat.reduceSub, ↓reduceIte, reduceCtorEq, decide_true, decide_false]
        by_cases hpl : p < lim
        rotate_left
        · simp only [show decide ((p : Int) ≥ (lim : Int)) = true from decide_eq_true (by omega), f0, f1, f2, f7, hds, Cd.cd67, Tk.t67, base0, base1, base2, base3, Option.isNone_none, Option.isNone_some, Nat.reduceBEq, true_or, or_true, false_or, or_false, Nat.reduceLT, Nat.reduceMod, Nat.reducePow, rmaps, nsucc, List.flatten_cons, List.flatten_nil, Nat.reduceEqDiff, Nat.reduceLeDiff, Nat.reduceAdd, Nat.reduceMul, Nat.reduceSub, ↓reduceIte, reduceCtorEq, decide_true, decide_false]
          refine (fail66 _ _ _).pan ?_
          simp only [f0, f1, f2, f7, hds, Cd.cd67, Tk.t67, base0, base1, base2, base3, Option.isNone_none, Option.isNone_some, Nat.reduceBEq, true_or, or_true, false_or, or_false, Nat.reduceLT, Nat.reduceMod, Nat.reducePow, rmaps, nsucc, List.flatten_cons, List.flatten_nil, Nat.reduceEqDiff, Nat.reduceLeDiff, Nat.reduceAdd, Nat.reduceMul, Nat.reduceSub, ↓reduceIte, reduceCtorEq, decide_true, decide_false]
          rw [if_pos (by omega)] at hT
          rw [← hT]
          exact ⟨hk, rfl⟩
        · rw [if_neg (by omega)] at hT
          simp only [show decide ((p : Int) ≥ (lim : Int)) = false from decide_eq_false (by omega), hxo, wrapS (show D < 2 ^ 62 by omega), f0, f1, f2, f7, hds, Cd.cd67, Tk.t67, base0, base1, base2, base3, Option.isNone_none, Option.isNone_some, Nat.reduceBEq, true_or, or_true, false_or, or_false, Nat.reduceLT, Nat.reduceMod, Nat.reducePow, rmaps, nsucc, List.flatten_cons, List.flatten_nil, Nat.reduceEqDiff, Nat.reduceLeDiff, Nat.reduceAdd, Nat.reduceMul, Nat.reduceSub, ↓reduceIte, reduceCtorEq, decide_true, decide_false]
          refine NodeR.go (hN p c H' hc (by omega) hro) (fun e H1 he hk1 => ?_) (fun t c' H1 he hk1 hro1 => ?_)
          · rw [he] at hT
            simp only [f0, f1, f2, f7, hds, Cd.cd67, Tk.t67, base0, base1, base2, base3, Option.isNone_none, Option.isNone_some, Nat.reduceBEq, true_or, or_true, false_or, or_false, Nat.reduceLT, Nat.reduceMod, Nat.reducePow, rmaps, nsucc, List.flatten_cons, List.flatten_nil, Nat.reduceEqDiff, Nat.reduceLeDiff, Nat.reduceAdd, Nat.reduceMul, Nat.reduceSub, ↓reduceIte, reduceCtorEq, decide_true, decide_false]
            rw [← hT]
            exact ⟨hk.trans (hk1.weak fun _ e => .inl e), rfl⟩
          · rw [he] at hT
            have hok := rd_ok b d lim p c t c' he
            have hkn1 := hk1.next
            have hxo1 := (hk1.own x (by omega) (Ne.symm hrx)).trans hxo
            have hg1 := hg.kp hk1
            obtain ⟨h, kids⟩ := t
            simp only [Tree.h] at hok hT
            have hkk := hk.trans (hk1.weak (r' := fun n => n = r ∨ n = x) fun _ e => .inl e)
            have htv := treeV_eq h kids
            have hxn : (r = x) = False := eq_false hrx
            rcases hg1 with ⟨rfl, rfl⟩ | ⟨t, rfl, ht1, ht2, ht3⟩
            · simp only [htv, hdL, hxo1, hxn, nilS, show roomA 8 1 = true from rfl, f0, f1, f2, f7, hds, Cd.cd67, Tk.t67, base0, base1, base2, base3, Option.isNone_none, Option.isNone_some, Nat.reduceBEq, true_or, or_true, false_or, or_false, Nat.reduceLT, Nat.reduceMod, Nat.reducePow, rmaps, nsucc, List.flatten_cons, List.flatten_nil, Nat.reduceEqDiff, Nat.reduceLeDiff, Nat.reduceAdd, Nat.reduceMul, Nat.reduceSub, ↓reduceIte, reduceCtorEq, decide_true, decide_false]
              refine ⟨fun _ _ => trivial, lim - h.fin, by omega, h.fin, n, c', [.mk h kids], rfl, by omega, by omega, by omega, by simp; omega, by rw [← hT]; rfl, rfl, ⟨by simp; omega, fun m hm hne => ?_, fun s hs => ?_⟩, hro1, _, rfl, GrowT.live (by simp [encT, htv, hdL]) (by simp) ⟨by omega, by simp⟩⟩
              · simp [show m ≠ x from fun e => hne (.inr e)]; exact hkk.own m hm hne
              · simp [show s ≠ H1.next by omega]; exact hkk.tip s hs
            · simp only [htv, hdL, hxo1, hxn, ht1, List.length_map, room1 (b := 8) (n := acc.length) (by omega) (by omega), f0, f1, f2, f7, hds, Cd.cd67, Tk.t67, base0, base1, base2, base3, Option.isNone_none, Option.isNone_some, Nat.reduceBEq, true_or, or_true, false_or, or_false, Nat.reduceLT, Nat.reduceMod, Nat.reducePow, rmaps, nsucc, List.flatten_cons, List.flatten_nil, Nat.reduceEqDiff, Nat.reduceLeDiff, Nat.reduceAdd, Nat.reduceMul, Nat.reduceSub, ↓reduceIte, reduceCtorEq, decide_true, decide_false]
              refine ⟨fun _ _ => trivial, lim - h.fin, by omega, h.fin, n, c', acc ++ [.mk h kids], rfl, by omega, by omega, by omega, by simp; omega, hT, rfl, ⟨hkk.next, fun m hm hne => ?_, fun s hs => ?_⟩, hro1, _, rfl, GrowT.live (by simp [encT, htv, hdL]) (by simp) ⟨ht2, ht3⟩⟩
              · simp [show m ≠ x from fun e => hne (.inr e)]; exact hkk.own m hm hne
              · simp [show s ≠ t by omega]; exact hkk.tip s hs
      · simp only [ep, show decide (((p + 1 : Nat) : Int) < (lim : Int)) = true from decide_eq_true (by omega), hro, Int.toNat_natCast, Int.natCast_nonneg, sget (s := b) (i := p) (by omega), show (((bt b p : Nat) : Int) == 0) = false from by simp; omega, f0, f1, f2, f7, hds, Cd.cd67, Tk.t67, base0, base1, base2, base3, Option.isNone_none, Option.isNone_some, Nat.reduceBEq, true_or, or_true, false_or, or_false, Nat.reduceLT, Nat.reduceMod, Nat.reducePow, rmaps, nsucc, List.flatten_cons, List.flatten_nil, Nat.reduceEqDiff, Nat.reduceLeDiff, Nat.reduceAdd, Nat.reduceMul, Nat.reduceSub, ↓reduceIte, reduceCtorEq, decide_true, decide_false]
        by_cases hpl : p < lim
        rotate_left
        · simp only [show decide ((p : Int) ≥ (lim : Int)) = true from decide_eq_true (by omega), f0, f1, f2, f7, hds, Cd.cd67, Tk.t67, base0, base1, base2, base3, Option.isNone_none, Option.isNone_some, Nat.reduceBEq, true_or, or_true, false_or, or_false, Nat.reduceLT, Nat.reduceMod, Nat.reducePow, rmaps, nsucc, List.flatten_cons, List.flatten_nil, Nat.reduceEqDiff, Nat.reduceLeDiff, Nat.reduceAdd, Nat.reduceMul, Nat.reduceSub, ↓reduceIte, reduceCtorEq, decide_true, decide_false]
          refine (fail66 _ _ _).pan ?_
          simp only [f0, f1, f2, f7, hds, Cd.cd67, Tk.t67, base0, base1, base2, base3, Option.isNone_none, Option.isNone_some, Nat.reduceBEq, true_or, or_true, false_or, or_false, Nat.reduceLT, Nat.reduceMod, Nat.reducePow, rmaps, nsucc, List.flatten_cons, List.flatten_nil, Nat.reduceEqDiff, Nat.reduceLeDiff, Nat.reduceAdd, Nat.reduceMul, Nat.reduceSub, ↓reduceIte, reduceCtorEq, decide_true, decide_false]
          rw [if_pos (by omega)] at hT
          rw [← hT]
          exact ⟨hk, rfl⟩
        · rw [if_neg (by omega)] at hT
          simp only [show decide ((p : Int) ≥ (lim : Int)) = false from decide_eq_false (by omega), hxo, wrapS (show D < 2 ^ 62 by omega), f0, f1, f2, f7, hds, Cd.cd67, Tk.t67, base0, base1, base2, base3, Option.isNone_none, Option.isNone_some, Nat.reduceBEq, true_or, or_true, false_or, or_false, Nat.reduceLT, Nat.reduceMod, Nat.reducePow, rmaps, nsucc, List.flatten_cons, List.flatten_nil, Nat.reduceEqDiff, Nat.reduceLeDiff, Nat.reduceAdd, Nat.reduceMul, Nat.reduceSub, ↓reduceIte, reduceCtorEq, decide_true, decide_false]
          refine NodeR.go (hN p c H' hc (by omega) hro) (fun e H1 he hk1 => ?_) (fun t c' H1 he hk1 hro1 => ?_)
          · rw [he] at hT
            simp only [f0, f1, f2, f7, hds, Cd.cd67, Tk.t67, base0, base1, base2, base3, Option.isNone_none, Option.isNone_some, Nat.reduceBEq, true_or, or_true, false_or, or_false, Nat.reduceLT, Nat.reduceMod, Nat.reducePow, rmaps, nsucc, List.flatten_cons, List.flatten_nil, Nat.reduceEqDiff, Nat.reduceLeDiff, Nat.reduceAdd, Nat.reduceMul, Nat.reduceSub, ↓reduceIte, reduceCtorEq, decide_true, decide_false]
            rw [← hT]
            exact ⟨hk.trans (hk1.weak fun _ e => .inl e), rfl⟩
          · rw [he] at hT
            have hok := rd_ok b d lim p c t c' he
            have hkn1 := hk1.next
            have hxo1 := (hk1.own x (by omega) (Ne.symm hrx)).trans hxo
            have hg1 := hg.kp hk1
            obtain ⟨h, kids⟩ := t
            simp only [Tree.h] at hok hT
            have hkk := hk.trans (hk1.weak (r' := fun n => n = r ∨ n = x) fun _ e => .inl e)
            have htv := treeV_eq h kids
            have hxn : (r = x) = False := eq_false hrx
            rcases hg1 with ⟨rfl, rfl⟩ | ⟨t, rfl, ht1, ht2, ht3⟩
            · simp only [htv, hdL, hxo1, hxn, nilS, show roomA 8 1 = true from rfl, f0, f1, f2, f7, hds, Cd.cd67, Tk.t67, base0, base1, base2, base3, Option.isNone_none, Option.isNone_some, Nat.reduceBEq, true_or, or_true, false_or, or_false, Nat.reduceLT, Nat.reduceMod, Nat.reducePow, rmaps, nsucc, List.flatten_cons, List.flatten_nil, Nat.reduceEqDiff, Nat.reduceLeDiff, Nat.reduceAdd, Nat.reduceMul, Nat.reduceSub, ↓reduceIte, reduceCtorEq, decide_true, decide_false]
              refine ⟨fun _ _ => trivial, lim - h.fin, by omega, h.fin, n, c', [.mk h kids], rfl, by omega, by omega, by omega, by simp; omega, by rw [← hT]; rfl, rfl, ⟨by simp; omega, fun m hm hne => ?_, fun s hs => ?_⟩, hro1, _, rfl, GrowT.live (by simp [encT, htv, hdL]) (by simp) ⟨by omega, by simp⟩⟩
              · simp [show m ≠ x from fun e => hne (.inr e)]; exact hkk.own m hm hne
              · simp [show s ≠ H1.next by omega]; exact hkk.tip s hs
            · simp only [htv, hdL, hxo1, hxn, ht1, List.length_map, room1 (b := 8) (n := acc.length) (by omega) (by omega), f0, f1, f2, f7, hds, Cd.cd67, Tk.t67, base0, base1, base2, base3, Option.isNone_none, Option.isNone_some, Nat.reduceBEq, true_or, or_true, false_or, or_false, Nat.reduceLT, Nat.reduceMod, Nat.reducePow, rmaps, nsucc, List.flatten_cons, List.flatten_nil, Nat.reduceEqDiff, Nat.reduceLeDiff, Nat.reduceAdd, Nat.reduceMul, Nat.reduceSub, ↓reduceIte, reduceCtorEq, decide_true, decide_false]
              refine ⟨fun _ _ => trivial, lim - h.fin, by omega, h.fin, n, c', acc ++ [.mk h kids], rfl, by omega, by omega, by omega, by simp; omega, hT, rfl, ⟨hkk.next, fun m hm hne => ?_, fun s hs => ?_⟩, hro1, _, rfl, GrowT.live (by simp [encT, htv, hdL]) (by simp) ⟨ht2, ht3⟩⟩
              · simp [show m ≠ x from fun e => hne (.inr e)]; exact hkk.own m hm hne
              · simp [show s ≠ t by omega]; exact hkk.tip s hs
      · simp only [ep, show decide (((p + 1 : Nat) : Int) < (lim : Int)) = true from decide_eq_true (by omega), hro, Int.toNat_natCast, Int.natCast_nonneg, sget (s := b) (i := p) (by omega), sget (s := b) (i := p + 1) (by omega), z2, show (((bt b (p + 1) : Nat) : Int) == 0) = false from by simp; omega, show (((0 : Nat) : Int) == 0) = true from rfl, f0, f1, f2, f7, hds, Cd.cd67, Tk.t67, base0, base1, base2, base3, Option.isNone_none, Option.isNone_some, Nat.reduceBEq, true_or, or_true, false_or, or_false, Nat.reduceLT, Nat.reduceMod, Nat.reducePow, rmaps, nsucc, List.flatten_cons, List.flatten_nil, Nat.reduceEqDiff, Nat.reduceLeDiff, Nat.reduceAdd, Nat.reduceMul, Nat.reduceSub, ↓reduceIte, reduceCtorEq, decide_true, decide_false]
        by_cases hpl : p < lim
        rotate_left
        · simp only [show decide ((p : Int) ≥ (lim : Int)) = true from decide_eq_true (by omega), f0, f1, f2, f7, hds, Cd.cd67, Tk.t67, base0, base1, base2, base3, Option.isNone_none, Option.isNone_some, Nat.reduceBEq, true_or, or_true, false_or, or_false, Nat.reduceLT, Nat.reduceMod, Nat.reducePow, rmaps, nsucc, List.flatten_cons, List.flatten_nil, Nat.reduceEqDiff, Nat.reduceLeDiff, Nat.reduceAdd, Nat.reduceMul, Nat.reduceSub, ↓reduceIte, reduceCtorEq, decide_true, decide_false]
          refine (fail66 _ _ _).pan ?_
          simp only [f0, f1, f2, f7, hds, Cd.cd67, Tk.t67, base0, base1, base2, base3, Option.isNone_none, Option.isNone_some, Nat.reduceBEq, true_or, or_true, false_or, or_false, Nat.reduceLT, Nat.reduceMod, Nat.reducePow, rmaps, nsucc, List.flatten_cons, List.flatten_nil, Nat.reduceEqDiff, Nat.reduceLeDiff, Nat.reduceAdd, Nat.reduceMul, Nat.reduceSub, ↓reduceIte, reduceCtorEq, decide_true, decide_false]
          rw [if_pos (by omega)] at hT
          rw [← hT]
          exact ⟨hk, rfl⟩
        · rw [if_neg (by omega)] at hT
          simp only [show decide ((p : Int) ≥ (lim : Int)) = false from decide_eq_false (by omega), hxo, wrapS (show D < 2 ^ 62 by omega), f0, f1, f2, f7, hds, Cd.cd67, Tk.t67, base0, base1, base2, base3, Option.isNone_none, Option.isNone_some, Nat.reduceBEq, true_or, or_true, false_or, or_false, Nat.reduceLT, Nat.reduceMod, Nat.reducePow, rmaps, nsucc, List.flatten_cons, List.flatten_nil, Nat.reduceEqDiff, Nat.reduceLeDiff, Nat.reduceAdd, Nat.reduceMul, Nat.reduceSub, ↓reduceIte, reduceCtorEq, decide_true, decide_false]
          refine NodeR.go (hN p c H' hc (by omega) hro) (fun e H1 he hk1 => ?_) (fun t c' H1 he hk1 hro1 => ?_)
          · rw [he] at hT
            simp only [f0, f1, f2, f7, hds, Cd.cd67, Tk.t67, base0, base1, base2, base3, Option.isNone_none, Option.isNone_some, Nat.reduceBEq, true_or, or_true, false_or, or_false, Nat.reduceLT, Nat.reduceMod, Nat.reducePow, rmaps, nsucc, List.flatten_cons, List.flatten_nil, Nat.reduceEqDiff, Nat.reduceLeDiff, Nat.reduceAdd, Nat.reduceMul, Nat.reduceSub, ↓reduceIte, reduceCtorEq, decide_true, decide_false]
            rw [← hT]
            exact ⟨hk.trans (hk1.weak fun _ e => .inl e), rfl⟩
          · rw [he] at hT
            have hok := rd_ok b d lim p c t c' he
            have hkn1 := hk1.next
            have hxo1 := (hk1.own x (by omega) (Ne.symm hrx)).trans hxo
            have hg1 := hg.kp hk1
            obtain ⟨h, kids⟩ := t
            simp only [Tree.h] at hok hT
            have hkk := hk.trans (hk1.weak (r' := fun n => n = r ∨ n = x) fun _ e => .inl e)
            have htv := treeV_eq h kids
            have hxn : (r = x) = False := eq_false hrx
            rcases hg1 with ⟨rfl, rfl⟩ | ⟨t, rfl, ht1, ht2, ht3⟩
            · simp only [htv, hdL, hxo1, hxn, nilS, show roomA 8 1 = true from rfl, f0, f1, f2, f7, hds, Cd.cd67, Tk.t67, base0, base1, base2, base3, Option.isNone_none, Option.isNone_some, Nat.reduceBEq, true_or, or_true, false_or, or_false, Nat.reduceLT, Nat.reduceMod, Nat.reducePow, rmaps, nsucc, List.flatten_cons, List.flatten_nil, Nat.reduceEqDiff, Nat.reduceLeDiff, Nat.reduceAdd, Nat.reduceMul, Nat.reduceSub, ↓reduceIte, reduceCtorEq, decide_true, decide_false]
              refine ⟨fun _ _ => trivial, lim - h.fin, by omega, h.fin, n, c', [.mk h kids], rfl, by omega, by omega, by omega, by simp; omega, by rw [← hT]; rfl, rfl, ⟨by simp; omega, fun m hm hne => ?_, fun s hs => ?_⟩, hro1, _, rfl, GrowT.live (by simp [encT, htv, hdL]) (by simp) ⟨by omega, by simp⟩⟩
              · simp [show m ≠ x from fun e => hne (.inr e)]; exact hkk.own m hm hne
              · simp [show s ≠ H1.next by omega]; exact hkk.tip s hs
            · simp only [htv, hdL, hxo1, hxn, ht1, List.length_map, room1 (b := 8) (n := acc.length) (by omega) (by omega), f0, f1, f2, f7, hds, Cd.cd67, Tk.t67, base0, base1, base2, base3, Option.isNone_none, Option.isNone_some, Nat.reduceBEq, true_or, or_true, false_or, or_false, Nat.reduceLT, Nat.reduceMod, Nat.reducePow, rmaps, nsucc, List.flatten_cons, List.flatten_nil, Nat.reduceEqDiff, Nat.reduceLeDiff, Nat.reduceAdd, Nat.reduceMul, Nat.reduceSub, ↓reduceIte, reduceCtorEq, decide_true, decide_false]
              refine ⟨fun _ _ => trivial, lim - h.fin, by omega, h.fin, n, c', acc ++ [.mk h kids], rfl, by omega, by omega, by omega, by simp; omega, hT, rfl, ⟨hkk.next, fun m hm hne => ?_, fun s hs => ?_⟩, hro1, _, rfl, GrowT.live (by simp [encT, htv, hdL]) (by simp) ⟨ht2, ht3⟩⟩
              · simp [show m ≠ x from fun e => hne (.inr e)]; exact hkk.own m hm hne
              · simp [show s ≠ t by omega]; exact hkk.tip s hs
end Go.Proofs.Ytmjjfdppaomcfaa

/- Walks: the program reads nodes within nodes. -/
namespace Go.Proofs.Ytmjjfdppaomcfaa
open Go Go.Proofs.Ytmjjfdppaomcfaa.Ab
set_option maxRecDepth 100000
set_option linter.unusedSimpArgs false

section
variable {P : Program} {mu : List Nat} {K : Kont} {f fm : AF} {H H2 : AH} {m : FuncId} {args : List AV} {v : AV} {x : AOut} {r : Nat → Prop}
theorem goK {dst : Option Nat} {os : List COp} (h : ACall P m args H fun o H1 => o = x ∧ Kp H H1 r) (hx : x = .ret v) (h' : ∀ H1, Kp H H1 r → cops P mu K os (f.put dst v) H1) : ACall P m args H (callK P mu K dst os f) :=
  h.mono fun o H1 ⟨e, hk⟩ => by subst e; subst hx; exact h' H1 hk
theorem panK {dst : Option Nat} {os : List COp} (h : ACall P m args H fun o H1 => o = x ∧ Kp H H1 r) (hx : x = .pan v) (h' : ∀ H1, Kp H H1 r → K.run (.panic v) f H1) : ACall P m args H (callK P mu K dst os f) :=
  h.mono fun o H1 ⟨e, hk⟩ => by subst e; subst hx; exact h' H1 hk
theorem Ab.ACall.pan' {dst : Option Nat} {ds : List DOp} {pd : List (Nat × Nat × ABlk)} {rd : List Nat} (h : ACall P m args H fun o H1 => o = .pan v ∧ H1 = H2) (h' : K.run (.panic v) fm H2) : ACall P m args H (dcallK P mu K fm dst ds f pd rd) :=
  h.mono fun o H1 => by rintro ⟨rfl, rfl⟩; exact h'
end
theorem node_view {H' : AH} {N n : Nat} {h : Hd} {v : AV} {kids : List Tree} (hn : N ≤ n) (ho : H'.own n = some (.cells (hdL h v))) (hv : View (H'.above N) v (treesV kids)) : View (H'.above N) (.ptr n 0) (treeV (.mk h kids)) := by
  rw [treeV_eq]
  refine View.ptr (by rw [above_own hn]; exact ho) (by simp [hdL]) fun j hj => ?_
  have hj' : j < 11 := by simpa [hdL] using hj
  rw [Nat.zero_add]
  match j, hj' with
  | 0, _ => exact (FZ.v _).view
  | 1, _ => exact (FZ.v _).view
  | 2, _ => exact (FZ.v _).view
  | 3, _ => exact (FZ.v _).view
  | 4, _ => exact (FZ.v _).view
  | 5, _ => exact (FZ.v _).view
  | 6, _ => exact (FZ.v _).view
  | 7, _ => exact (FZ.v _).view
  | 8, _ => exact (FZ.v _).view
  | 9, _ => exact (FZ.v _).view
  | 10, _ => exact hv
theorem FZ.ifc {t : TypeId} {a : AV} (h : FZ a) : FZ (.ifc t a) := fun g g' x hg hx => by
  cases hx with
  | ifc hy => exact .ifc (h g g' _ hg hy)
theorem FZ.fltV (e : Flt) : FZ (fltV e) := by
  unfold Proofs.Ytmjjfdppaomcfaa.fltV
  exact FZ.ifc (FZ.agg (FZs.cons (FZ.v _) (FZs.cons (FZ.v _) FZs.nil)))
theorem Kp.below {H H' : AH} {r : Nat → Prop} (h : Kp H H' r) : Kp H (H'.below H.next) r :=
  ⟨h.next, fun n hn hr => (below_own hn).trans (h.own n hn hr), fun t ht => (if_pos ht).trans (h.tip t ht)⟩
theorem NodeR.pan {b : ByteArray} {r N : Nat} {H H' : AH} {x : Except Flt (Tree × Nat)} {e : Flt} (hN : H.next = N) (hx : x = .error e) (hk : Kp H H' (· = r)) : Frz N (NodeR b r H x) (.pan (fltV e)) H' := by
  subst hx hN
  exact Frz.pan (FZ.fltV e) ⟨hk.below, rfl⟩
theorem NodeR.ret {b : ByteArray} {r n c N : Nat} {H H' : AH} {x : Except Flt (Tree × Nat)} {h : Hd} {kids : List Tree} {v : AV} (hN : H.next = N) (hx : x = .ok (.mk h kids, c)) (hk : Kp H H' (· = r)) (hr : r < N) (hro : H'.own r = some (.cells (rdL b c))) (hn : N ≤ n) (ho : H'.own n = some (.cells (hdL h v))) (hv : View (H'.above N) v (treesV kids)) :
    Frz N (NodeR b r H x) (.ret (.ptr n 0)) H' := by
  subst hx hN
  exact Frz.ret (node_view hn ho hv) (FZ.treeV _) ⟨hk.below, rfl, (below_own hr).trans hro⟩

theorem untilOut.go {P : Program} {mu : List Nat} {K : Kont} {f : AF} {H : AH} {m : FuncId} {args : List AV} {dst : Option Nat} {os : List COp} {b : ByteArray} {r x : Nat} {cs : List AV} {y : Except Flt (List Tree × Nat × Nat)} (h : ACall P m args H (untilOut b r x cs H y))
    (hp : ∀ e H1, y = .error e → Kp H H1 (fun n => n = r ∨ n = x) → K.run (.panic (fltV e)) f H1)
    (hr : ∀ l s c H1 v, y = .ok (l, s, c) → Kp H H1 (fun n => n = r ∨ n = x) → H1.own r = some (.cells (rdL b c)) → H1.own x = some (.cells (cs ++ [v])) → GrowT H.next encT 1 H1 v l → cops P mu K os (f.put dst (.v (.int .i64 (s : Int)))) H1) : ACall P m args H (callK P mu K dst os f) :=
  h.mono fun out H1 hq => by
    obtain ⟨hk, hx⟩ := hq
    cases y with
    | error e => subst hx; exact hp e H1 rfl hk
    | ok z => obtain ⟨l, s, c⟩ := z; obtain ⟨rfl, h1, v, h2, h3⟩ := hx; exact hr l s c H1 v rfl hk h1 h2 h3

set_option maxHeartbeats 4000000 in
theorem node56 (b : ByteArray) (hb : b.size ≤ 4000) : ∀ (d : Nat), d ≤ 16 → ∀ (p lim c r : Nat) (H : AH), lim ≤ b.size → c ≤ 300 → r < H.next → H.own r = some (.cells (rdL b c)) →
    ACall Try.prog 56 [.ptr r 0, .v (.int .i64 (p : Int)), .v (.int .i64 (lim : Int)), .v (.int .i64 ((16 - d : Nat) : Int))] H (NodeR b r H (rd b d p lim c))
  | d, hd, p, lim, c, r, H, hl, hc, hr, hro => by
    refine ACall.freeze H.next ?_
    have hrn : (r = H.next) = False := eq_false (by omega)
    have hnr : (H.next = r) = False := eq_false (by omega)
    generalize hX : rd b d p lim c = X
    generalize hD : 16 - d = D
    simp only [rdL] at hro
    refine ACall.enter [16] Cd.fn56 (by simp) ?_
    simp only [Cd.cd56, Tk.t56, base0, base1, base2, base3, Option.isNone_none, Option.isNone_some, Nat.reduceBEq, true_or, or_true, false_or, or_false, Nat.reduceLT, Nat.reduceMod, Nat.reducePow, rmaps, nsucc, List.flatten_cons, List.flatten_nil, Nat.reduceEqDiff, Nat.reduceLeDiff, Nat.reduceAdd, Nat.reduceMul, Nat.reduceSub, ↓reduceIte, reduceCtorEq, decide_true, decide_false]
    cases hid : ident b p lim with
    | error e =>
      refine panK (ident64 b hb r p lim (.v (.int .i64 (c : Int))) hl _ (by simp; omega) (by simp [hrn, hro])) (by rw [hid]; rfl) fun H1 hk => ?_
      have hk1 : Kp H H1 (· = r) := ⟨by have := hk.next; simp only at this; omega, fun n hn _ => by have := hk.own n (by simp; omega) (fun h => h); simpa [show n ≠ H.next by omega] using this, fun t ht => hk.tip t (by simp; omega)⟩
      simp only [Cd.cd56, Tk.t56, base0, base1, base2, base3, Option.isNone_none, Option.isNone_some, Nat.reduceBEq, true_or, or_true, false_or, or_false, Nat.reduceLT, Nat.reduceMod, Nat.reducePow, rmaps, nsucc, List.flatten_cons, List.flatten_nil, Nat.reduceEqDiff, Nat.reduceLeDiff, Nat.reduceAdd, Nat.reduceMul, Nat.reduceSub, ↓reduceIte, reduceCtorEq, decide_true, decide_false]
      exact NodeR.pan rfl (by rw [← hX]; exact rd_e1 hid) hk1
    | ok y =>
      obtain ⟨cls, num, bl, p1⟩ := y
      refine goK (ident64 b hb r p lim (.v (.int .i64 (c : Int))) hl _ (by simp; omega) (by simp [hrn, hro])) (by rw [hid]; rfl) fun H1 hk => ?_
      have hkn := hk.next
      simp only at hkn
      have hxo := hk.own H.next (by simp) (fun h => h)
      have hro1 := hk.own r (by simp; omega) (fun h => h)
      simp only [if_true, hrn, if_false] at hxo hro1
      rw [hro] at hro1
      have hk1 : Kp H H1 (· = r) := ⟨by omega, fun n hn _ => by have := hk.own n (by simp; omega) (fun h => h); simpa [show n ≠ H.next by omega] using this, fun t ht => hk.tip t (by simp; omega)⟩
      generalize hn1 : H.next = n1 at *
      simp only [hxo, hro1, hrn, hnr, nilS, Cd.cd56, Tk.t56, base0, base1, base2, base3, Option.isNone_none, Option.isNone_some, Nat.reduceBEq, true_or, or_true, false_or, or_false, Nat.reduceLT, Nat.reduceMod, Nat.reducePow, rmaps, nsucc, List.flatten_cons, List.flatten_nil, Nat.reduceEqDiff, Nat.reduceLeDiff, Nat.reduceAdd, Nat.reduceMul, Nat.reduceSub, ↓reduceIte, reduceCtorEq, decide_true, decide_false]
      cases hlen : lenOf b p1 lim bl with
      | error e =>
        have hq := fun H2 (h2 : H2.own r = some (.cells [.v (.string b), .v (.int .i64 (c : Int))])) => len65 b hb r p1 lim bl (.v (.int .i64 (c : Int))) hl H2 h2
        simp only [hlen] at hq
        refine Ab.ACall.pan' (hq _ (by simp only [hrn, if_false]; exact hro1)) ?_
        simp only [Cd.cd56, Tk.t56, base0, base1, base2, base3, Option.isNone_none, Option.isNone_some, Nat.reduceBEq, true_or, or_true, false_or, or_false, Nat.reduceLT, Nat.reduceMod, Nat.reducePow, rmaps, nsucc, List.flatten_cons, List.flatten_nil, Nat.reduceEqDiff, Nat.reduceLeDiff, Nat.reduceAdd, Nat.reduceMul, Nat.reduceSub, ↓reduceIte, reduceCtorEq, decide_true, decide_false]
        refine ⟨rfl, NodeR.pan hn1 (by rw [← hX]; exact rd_e2 hid hlen) ⟨hk1.next, fun m hm hne => ?_, hk1.tip⟩⟩
        simp [show m ≠ n1 by omega]; exact hk1.own m hm hne
      | ok y =>
        obtain ⟨on, p2⟩ := y
        have hq := fun H2 (h2 : H2.own r = some (.cells [.v (.string b), .v (.int .i64 (c : Int))])) => len65 b hb r p1 lim bl (.v (.int .i64 (c : Int))) hl H2 h2
        simp only [hlen] at hq
        have q1 := ident_ok hid
        have q2 := lenOf_ok hlen
        have e1 : IntKind.i64.wrap ((c : Int) + 1) = ((c + 1 : Nat) : Int) := wrapS (by omega)
        have edD : decide ((D : Int) ≥ 16) = decide (d = 0) := by rw [decide_eq_decide]; omega
        cases on with
        | none =>
          refine ACall.one' (hq _ (by simp only [hrn, if_false]; exact hro1)) ?_
          simp only [hxo, hro1, hrn, hnr, nilS, e1, Cd.cd56, Tk.t56, base0, base1, base2, base3, Option.isNone_none, Option.isNone_some, Nat.reduceBEq, true_or, or_true, false_or, or_false, Nat.reduceLT, Nat.reduceMod, Nat.reducePow, rmaps, nsucc, List.flatten_cons, List.flatten_nil, Nat.reduceEqDiff, Nat.reduceLeDiff, Nat.reduceAdd, Nat.reduceMul, Nat.reduceSub, ↓reduceIte, reduceCtorEq, decide_true, decide_false]
          by_cases h300 : 300 < c + 1
          · simp only [show decide (((c + 1 : Nat) : Int) > 300) = true from decide_eq_true (by omega), Cd.cd56, Tk.t56, base0, base1, base2, base3, Option.isNone_none, Option.isNone_some, Nat.reduceBEq, true_or, or_true, false_or, or_false, Nat.reduceLT, Nat.reduceMod, Nat.reducePow, rmaps, nsucc, List.flatten_cons, List.flatten_nil, Nat.reduceEqDiff, Nat.reduceLeDiff, Nat.reduceAdd, Nat.reduceMul, Nat.reduceSub, ↓reduceIte, reduceCtorEq, decide_true, decide_false]
            refine (fail66 _ _ _).pan ?_
            simp only [Cd.cd56, Tk.t56, base0, base1, base2, base3, Option.isNone_none, Option.isNone_some, Nat.reduceBEq, true_or, or_true, false_or, or_false, Nat.reduceLT, Nat.reduceMod, Nat.reducePow, rmaps, nsucc, List.flatten_cons, List.flatten_nil, Nat.reduceEqDiff, Nat.reduceLeDiff, Nat.reduceAdd, Nat.reduceMul, Nat.reduceSub, ↓reduceIte, reduceCtorEq, decide_true, decide_false]
            exact NodeR.pan (e := (p, 34)) hn1 (by rw [← hX]; exact rd_e4 hid hlen rfl h300) ⟨hk1.next, fun m hm hne => by simp [show m ≠ n1 by omega, hne]; exact hk1.own m hm hne, hk1.tip⟩
          simp only [show decide (((c + 1 : Nat) : Int) > 300) = false from decide_eq_false (by omega), Cd.cd56, Tk.t56, base0, base1, base2, base3, Option.isNone_none, Option.isNone_some, Nat.reduceBEq, true_or, or_true, false_or, or_false, Nat.reduceLT, Nat.reduceMod, Nat.reducePow, rmaps, nsucc, List.flatten_cons, List.flatten_nil, Nat.reduceEqDiff, Nat.reduceLeDiff, Nat.reduceAdd, Nat.reduceMul, Nat.reduceSub, ↓reduceIte, reduceCtorEq, decide_true, decide_false]
          cases d with
          | zero =>
            simp only [show decide ((D : Int) ≥ 16) = true from decide_eq_true (by omega), Cd.cd56, Tk.t56, base0, base1, base2, base3, Option.isNone_none, Option.isNone_some, Nat.reduceBEq, true_or, or_true, false_or, or_false, Nat.reduceLT, Nat.reduceMod, Nat.reducePow, rmaps, nsucc, List.flatten_cons, List.flatten_nil, Nat.reduceEqDiff, Nat.reduceLeDiff, Nat.reduceAdd, Nat.reduceMul, Nat.reduceSub, ↓reduceIte, reduceCtorEq, decide_true, decide_false]
            refine (fail66 _ _ _).pan ?_
            simp only [Cd.cd56, Tk.t56, base0, base1, base2, base3, Option.isNone_none, Option.isNone_some, Nat.reduceBEq, true_or, or_true, false_or, or_false, Nat.reduceLT, Nat.reduceMod, Nat.reducePow, rmaps, nsucc, List.flatten_cons, List.flatten_nil, Nat.reduceEqDiff, Nat.reduceLeDiff, Nat.reduceAdd, Nat.reduceMul, Nat.reduceSub, ↓reduceIte, reduceCtorEq, decide_true, decide_false]
            exact NodeR.pan (e := (p, 2)) hn1 (by rw [← hX]; exact rd_e5 hid hlen rfl h300) ⟨hk1.next, fun m hm hne => by simp [show m ≠ n1 by omega, hne]; exact hk1.own m hm hne, hk1.tip⟩
          | succ d =>
            have hXT := rd_open (d := d) hid hlen h300
            rw [hX] at hXT
            have d15 : D = 15 - d := by omega
            have hIH : ∀ q c1 H3, c1 ≤ 300 → r < H3.next → H3.own r = some (.cells (rdL b c1)) → ACall Try.prog 56 [.ptr r 0, .v (.int .i64 (q : Nat)), .v (.int .i64 (lim : Nat)), .v (.int .i64 ((D + 1 : Nat) : Int))] H3 (NodeR b r H3 (rd b d q lim c1)) := fun q c1 H3 h1 h2 h3 => by
              have := node56 b hb d (by omega) q lim c1 r H3 hl h1 h2 h3
              rw [show 16 - d = D + 1 by omega] at this; exact this
            simp only [show decide ((D : Int) ≥ 16) = false from decide_eq_false (by omega), hxo, hro1, hrn, hnr, nilS, Cd.cd56, Tk.t56, base0, base1, base2, base3, Option.isNone_none, Option.isNone_some, Nat.reduceBEq, true_or, or_true, false_or, or_false, Nat.reduceLT, Nat.reduceMod, Nat.reducePow, rmaps, nsucc, List.flatten_cons, List.flatten_nil, Nat.reduceEqDiff, Nat.reduceLeDiff, Nat.reduceAdd, Nat.reduceMul, Nat.reduceSub, ↓reduceIte, reduceCtorEq, decide_true, decide_false]
            refine untilOut.go (until67 b hb r n1 lim (c + 1) p2 d D hl (by omega) (by omega) (by omega) _ _ _ _ _ _ _ _ (by omega) _ (by simp; omega) (by simp; omega) (by simp [rdL]) (by simp [hnr, nilS]; exact ⟨rfl, rfl, rfl, rfl, rfl, rfl, rfl, rfl⟩) ⟨rfl, rfl, rfl, rfl, rfl, rfl, rfl, rfl⟩ hIH) (fun e H3 he hk3 => ?_) (fun l s c1 H3 v he hk3 hro3 hxo3 hg3 => ?_)
            · have hkH : Kp H H3 (· = r) := ⟨Nat.le_trans hk1.next hk3.next, fun m hm hne => by
                have h := hk3.own m (by simp; omega) (by simp only [not_or]; exact ⟨hne, by omega⟩)
                simp only [hne, show m ≠ n1 by omega, if_false] at h
                exact h.trans (hk1.own m hm hne), fun t ht => (hk3.tip t (by simp; omega)).trans (hk1.tip t ht)⟩
              rw [he] at hXT
              simp only [Cd.cd56, Tk.t56, base0, base1, base2, base3, Option.isNone_none, Option.isNone_some, Nat.reduceBEq, true_or, or_true, false_or, or_false, Nat.reduceLT, Nat.reduceMod, Nat.reducePow, rmaps, nsucc, List.flatten_cons, List.flatten_nil, Nat.reduceEqDiff, Nat.reduceLeDiff, Nat.reduceAdd, Nat.reduceMul, Nat.reduceSub, ↓reduceIte, reduceCtorEq, decide_true, decide_false]
              exact NodeR.pan hn1 hXT.symm.symm hkH
            · have hkH : Kp H H3 (· = r) := ⟨Nat.le_trans hk1.next hk3.next, fun m hm hne => by
                have h := hk3.own m (by simp; omega) (by simp only [not_or]; exact ⟨hne, by omega⟩)
                simp only [hne, show m ≠ n1 by omega, if_false] at h
                exact h.trans (hk1.own m hm hne), fun t ht => (hk3.tip t (by simp; omega)).trans (hk1.tip t ht)⟩
              have hoc := openC_ok (rd_ok b d lim) he (by omega)
              rw [he] at hXT
              simp only [List.cons_append, List.nil_append] at hxo3
              have e4 : IntKind.i64.wrap ((s : Int) + 2) = ((s + 2 : Nat) : Int) := by rw [wrapI (by omega) (by omega)]; omega
              simp only [hxo3, e4, Cd.cd56, Tk.t56, base0, base1, base2, base3, Option.isNone_none, Option.isNone_some, Nat.reduceBEq, true_or, or_true, false_or, or_false, Nat.reduceLT, Nat.reduceMod, Nat.reducePow, rmaps, nsucc, List.flatten_cons, List.flatten_nil, Nat.reduceEqDiff, Nat.reduceLeDiff, Nat.reduceAdd, Nat.reduceMul, Nat.reduceSub, ↓reduceIte, reduceCtorEq, decide_true, decide_false]
              exact NodeR.ret (h := ⟨cls, num, bl, true, p, p1, p2, s, s + 2, D⟩) (kids := l) (c := c1) (v := v) hn1 (by rw [hXT, d15] <;> rfl) ⟨hkH.next, fun m hm hne => by simp [show m ≠ n1 by omega]; exact hkH.own m hm hne, hkH.tip⟩ (by omega) (by simp [hrn]; exact hro3) (Nat.le_refl _) (by simp [hdL]) (hg3.view FZs.encT)
        | some n =>
          refine ACall.one' (hq _ (by simp only [hrn, if_false]; exact hro1)) ?_
          have q3 := q2.2.2 n rfl
          have e2 : IntKind.i64.wrap ((lim : Int) - (p2 : Int)) = ((lim - p2 : Nat) : Int) := by rw [wrapI (by omega) (by omega)]; omega
          simp only [hxo, hro1, hrn, hnr, nilS, e1, e2, Cd.cd56, Tk.t56, base0, base1, base2, base3, Option.isNone_none, Option.isNone_some, Nat.reduceBEq, true_or, or_true, false_or, or_false, Nat.reduceLT, Nat.reduceMod, Nat.reducePow, rmaps, nsucc, List.flatten_cons, List.flatten_nil, Nat.reduceEqDiff, Nat.reduceLeDiff, Nat.reduceAdd, Nat.reduceMul, Nat.reduceSub, ↓reduceIte, reduceCtorEq, decide_true, decide_false]
          by_cases hnl : lim - p2 < n
          · simp only [show decide ((n : Int) > ((lim - p2 : Nat) : Int)) = true from decide_eq_true (by omega), hxo, hro1, hrn, hnr, nilS, e1, Cd.cd56, Tk.t56, base0, base1, base2, base3, Option.isNone_none, Option.isNone_some, Nat.reduceBEq, true_or, or_true, false_or, or_false, Nat.reduceLT, Nat.reduceMod, Nat.reducePow, rmaps, nsucc, List.flatten_cons, List.flatten_nil, Nat.reduceEqDiff, Nat.reduceLeDiff, Nat.reduceAdd, Nat.reduceMul, Nat.reduceSub, ↓reduceIte, reduceCtorEq, decide_true, decide_false]
            refine (fail66 _ _ _).pan ?_
            simp only [Cd.cd56, Tk.t56, base0, base1, base2, base3, Option.isNone_none, Option.isNone_some, Nat.reduceBEq, true_or, or_true, false_or, or_false, Nat.reduceLT, Nat.reduceMod, Nat.reducePow, rmaps, nsucc, List.flatten_cons, List.flatten_nil, Nat.reduceEqDiff, Nat.reduceLeDiff, Nat.reduceAdd, Nat.reduceMul, Nat.reduceSub, ↓reduceIte, reduceCtorEq, decide_true, decide_false]
            refine NodeR.pan (e := (p1, 19)) hn1 (by rw [← hX]; exact rd_e3 hid hlen (by simp [hnl])) ⟨hk1.next, fun m hm hne => ?_, hk1.tip⟩
            simp [show m ≠ n1 by omega]; exact hk1.own m hm hne
          have hany : (some n).any (fun n => decide (lim - p2 < n)) = false := by simp [hnl]
          simp only [show decide ((n : Int) > ((lim - p2 : Nat) : Int)) = false from decide_eq_false (by omega), hxo, hro1, hrn, hnr, nilS, e1, Cd.cd56, Tk.t56, base0, base1, base2, base3, Option.isNone_none, Option.isNone_some, Nat.reduceBEq, true_or, or_true, false_or, or_false, Nat.reduceLT, Nat.reduceMod, Nat.reducePow, rmaps, nsucc, List.flatten_cons, List.flatten_nil, Nat.reduceEqDiff, Nat.reduceLeDiff, Nat.reduceAdd, Nat.reduceMul, Nat.reduceSub, ↓reduceIte, reduceCtorEq, decide_true, decide_false]
          by_cases h300 : 300 < c + 1
          · simp only [show decide (((c + 1 : Nat) : Int) > 300) = true from decide_eq_true (by omega), Cd.cd56, Tk.t56, base0, base1, base2, base3, Option.isNone_none, Option.isNone_some, Nat.reduceBEq, true_or, or_true, false_or, or_false, Nat.reduceLT, Nat.reduceMod, Nat.reducePow, rmaps, nsucc, List.flatten_cons, List.flatten_nil, Nat.reduceEqDiff, Nat.reduceLeDiff, Nat.reduceAdd, Nat.reduceMul, Nat.reduceSub, ↓reduceIte, reduceCtorEq, decide_true, decide_false]
            refine (fail66 _ _ _).pan ?_
            simp only [Cd.cd56, Tk.t56, base0, base1, base2, base3, Option.isNone_none, Option.isNone_some, Nat.reduceBEq, true_or, or_true, false_or, or_false, Nat.reduceLT, Nat.reduceMod, Nat.reducePow, rmaps, nsucc, List.flatten_cons, List.flatten_nil, Nat.reduceEqDiff, Nat.reduceLeDiff, Nat.reduceAdd, Nat.reduceMul, Nat.reduceSub, ↓reduceIte, reduceCtorEq, decide_true, decide_false]
            exact NodeR.pan (e := (p, 34)) hn1 (by rw [← hX]; exact rd_e4 hid hlen hany h300) ⟨hk1.next, fun m hm hne => by simp [show m ≠ n1 by omega, hne]; exact hk1.own m hm hne, hk1.tip⟩
          simp only [show decide (((c + 1 : Nat) : Int) > 300) = false from decide_eq_false (by omega), Cd.cd56, Tk.t56, base0, base1, base2, base3, Option.isNone_none, Option.isNone_some, Nat.reduceBEq, true_or, or_true, false_or, or_false, Nat.reduceLT, Nat.reduceMod, Nat.reducePow, rmaps, nsucc, List.flatten_cons, List.flatten_nil, Nat.reduceEqDiff, Nat.reduceLeDiff, Nat.reduceAdd, Nat.reduceMul, Nat.reduceSub, ↓reduceIte, reduceCtorEq, decide_true, decide_false]
          cases d with
          | zero =>
            simp only [show decide ((D : Int) ≥ 16) = true from decide_eq_true (by omega), Cd.cd56, Tk.t56, base0, base1, base2, base3, Option.isNone_none, Option.isNone_some, Nat.reduceBEq, true_or, or_true, false_or, or_false, Nat.reduceLT, Nat.reduceMod, Nat.reducePow, rmaps, nsucc, List.flatten_cons, List.flatten_nil, Nat.reduceEqDiff, Nat.reduceLeDiff, Nat.reduceAdd, Nat.reduceMul, Nat.reduceSub, ↓reduceIte, reduceCtorEq, decide_true, decide_false]
            refine (fail66 _ _ _).pan ?_
            simp only [Cd.cd56, Tk.t56, base0, base1, base2, base3, Option.isNone_none, Option.isNone_some, Nat.reduceBEq, true_or, or_true, false_or, or_false, Nat.reduceLT, Nat.reduceMod, Nat.reducePow, rmaps, nsucc, List.flatten_cons, List.flatten_nil, Nat.reduceEqDiff, Nat.reduceLeDiff, Nat.reduceAdd, Nat.reduceMul, Nat.reduceSub, ↓reduceIte, reduceCtorEq, decide_true, decide_false]
            exact NodeR.pan (e := (p, 2)) hn1 (by rw [← hX]; exact rd_e5 hid hlen hany h300) ⟨hk1.next, fun m hm hne => by simp [show m ≠ n1 by omega, hne]; exact hk1.own m hm hne, hk1.tip⟩
          | succ d =>
            have e3 : IntKind.i64.wrap ((p2 : Int) + (n : Int)) = ((p2 + n : Nat) : Int) := by rw [wrapI (by omega) (by omega)]; omega
            simp only [show decide ((D : Int) ≥ 16) = false from decide_eq_false (by omega), hxo, hro1, hrn, hnr, nilS, e3, Cd.cd56, Tk.t56, base0, base1, base2, base3, Option.isNone_none, Option.isNone_some, Nat.reduceBEq, true_or, or_true, false_or, or_false, Nat.reduceLT, Nat.reduceMod, Nat.reducePow, rmaps, nsucc, List.flatten_cons, List.flatten_nil, Nat.reduceEqDiff, Nat.reduceLeDiff, Nat.reduceAdd, Nat.reduceMul, Nat.reduceSub, ↓reduceIte, reduceCtorEq, decide_true, decide_false]
            have d15 : D = 15 - d := by omega
            cases bl with
            | false =>
              simp only [hxo, hro1, hrn, hnr, nilS, Cd.cd56, Tk.t56, base0, base1, base2, base3, Option.isNone_none, Option.isNone_some, Nat.reduceBEq, true_or, or_true, false_or, or_false, Nat.reduceLT, Nat.reduceMod, Nat.reducePow, rmaps, nsucc, List.flatten_cons, List.flatten_nil, Nat.reduceEqDiff, Nat.reduceLeDiff, Nat.reduceAdd, Nat.reduceMul, Nat.reduceSub, ↓reduceIte, reduceCtorEq, decide_true, decide_false]
              refine NodeR.ret (h := ⟨cls, num, false, false, p, p1, p2, p2 + n, p2 + n, D⟩) (kids := []) (c := c + 1) (v := nilS) hn1 (by rw [← hX, d15]; exact rd_leaf hid hlen hnl h300) ⟨hk1.next, fun m hm hne => by simp [show m ≠ n1 by omega, hne]; exact hk1.own m hm hne, hk1.tip⟩ (by omega) ?_ (Nat.le_refl _) ?_ (View.nil 1)
              · simp [hrn, rdL]
              · simp [hdL, nilS]
            | true =>
              simp only [hxo, hro1, hrn, hnr, nilS, Cd.cd56, Tk.t56, base0, base1, base2, base3, Option.isNone_none, Option.isNone_some, Nat.reduceBEq, true_or, or_true, false_or, or_false, Nat.reduceLT, Nat.reduceMod, Nat.reducePow, rmaps, nsucc, List.flatten_cons, List.flatten_nil, Nat.reduceEqDiff, Nat.reduceLeDiff, Nat.reduceAdd, Nat.reduceMul, Nat.reduceSub, ↓reduceIte, reduceCtorEq, decide_true, decide_false]
              generalize hT : kidsC (fun a c => rd b d a (p2 + n) c) (p2 + n) n p2 (c + 1) [] = T
              have hXT := rd_kids (d := d) hid hlen hnl h300
              rw [hX, hT] at hXT
              refine LWP.loop [] (fun m f H' => ∃ q k c1 acc, m = p2 + n - q ∧ (p2 + n - q ≤ k) ∧ (c1 ≤ 300) ∧ (acc.length ≤ c1) ∧ (q ≤ p2 + n) ∧ (kidsC (fun a c => rd b d a (p2 + n) c) (p2 + n) k q c1 acc = T) ∧ f.t 0 = .ptr r 0 ∧ f.t 3 = .v (.int .i64 (D : Nat)) ∧ f.t 9 = .ptr n1 0 ∧ f.t 11 = .v (.int .i64 (q : Nat)) ∧ f.ds = [] ∧ Kp H H' (· = r) ∧ n1 < H'.next ∧ H'.own r = some (.cells (rdL b c1)) ∧ ∃ v, H'.own n1 = some (.cells (hdL ⟨cls, num, true, false, p, p1, p2, p2 + n, p2 + n, D⟩ v)) ∧ GrowT n1 encT 1 H' v acc) ?_ ?_ (m := p2 + n - (p2))
              · exact ⟨p2, n, c + 1, [], rfl, (by omega), (by omega), (by simp), (by omega), (hT), rfl, rfl, rfl, rfl, rfl, ⟨⟨hk1.next, fun m hm hne => by simp [show m ≠ n1 by omega, hne]; exact hk1.own m hm hne, hk1.tip⟩, by simp; omega, by simp [hrn, rdL], nilS, by simp [hdL, nilS], .inl ⟨rfl, rfl⟩⟩⟩
              · rintro m f H' ⟨q, k, c1, acc, rfl, hk, hc1, hal, hq, hT, f0, f3, f9, f11, hds, ⟨hk2,hlt2,hrr,v,hnn,hg⟩⟩
                simp only [hdL] at hnn
                have hkn2 := hk2.next
                by_cases hlt : q < p2 + n
                · obtain ⟨k, rfl⟩ : ∃ k', k = k' + 1 := ⟨k - 1, by omega⟩
                  simp only [kidsC, if_pos hlt] at hT
                  simp only [hnn, show decide ((q : Int) < ((p2 + n : Nat) : Int)) = true from decide_eq_true (by omega), wrapS (show D < 2 ^ 62 by omega), f0, f3, f9, f11, hds, Cd.cd56, Tk.t56, base0, base1, base2, base3, Option.isNone_none, Option.isNone_some, Nat.reduceBEq, true_or, or_true, false_or, or_false, Nat.reduceLT, Nat.reduceMod, Nat.reducePow, rmaps, nsucc, List.flatten_cons, List.flatten_nil, Nat.reduceEqDiff, Nat.reduceLeDiff, Nat.reduceAdd, Nat.reduceMul, Nat.reduceSub, ↓reduceIte, reduceCtorEq, decide_true, decide_false]
                  have hIH := node56 b hb d (by omega) q (p2 + n) c1 r H' (by omega) hc1 (by omega) hrr
                  rw [show 16 - d = D + 1 by omega] at hIH
                  refine NodeR.go hIH (fun e H3 he hk3 => ?_) (fun t c' H3 he hk3 hro3 => ?_)
                  · rw [he] at hT
                    simp only [f0, f3, f9, f11, hds, Cd.cd56, Tk.t56, base0, base1, base2, base3, Option.isNone_none, Option.isNone_some, Nat.reduceBEq, true_or, or_true, false_or, or_false, Nat.reduceLT, Nat.reduceMod, Nat.reducePow, rmaps, nsucc, List.flatten_cons, List.flatten_nil, Nat.reduceEqDiff, Nat.reduceLeDiff, Nat.reduceAdd, Nat.reduceMul, Nat.reduceSub, ↓reduceIte, reduceCtorEq, decide_true, decide_false]
                    exact NodeR.pan hn1 (by rw [hXT, ← hT]) (hk2.trans hk3)
                  · rw [he] at hT
                    have hok := rd_ok b d (p2 + n) q c1 t c' he
                    have hkn3 := hk3.next
                    have hxo3 := (hk3.own n1 (by omega) (by omega)).trans hnn
                    have hg3 := hg.kp hk3
                    obtain ⟨h, kids⟩ := t
                    simp only [Tree.h] at hok hT
                    have hkk := hk2.trans hk3
                    have htv := treeV_eq h kids
                    rcases hg3 with ⟨rfl, rfl⟩ | ⟨t, rfl, ht1, ht2, ht3⟩
                    · simp only [htv, hdL, hxo3, hrn, hnr, nilS, show roomA 8 1 = true from rfl, f0, f3, f9, f11, hds, Cd.cd56, Tk.t56, base0, base1, base2, base3, Option.isNone_none, Option.isNone_some, Nat.reduceBEq, true_or, or_true, false_or, or_false, Nat.reduceLT, Nat.reduceMod, Nat.reducePow, rmaps, nsucc, List.flatten_cons, List.flatten_nil, Nat.reduceEqDiff, Nat.reduceLeDiff, Nat.reduceAdd, Nat.reduceMul, Nat.reduceSub, ↓reduceIte, reduceCtorEq, decide_true, decide_false]
                      refine ⟨fun _ _ => trivial, p2 + n - h.fin, by omega, h.fin, k, c', [.mk h kids], rfl, by omega, by omega, by simp; omega, by omega, by rw [← hT]; rfl, rfl, ⟨by simp; omega, fun m hm hne => ?_, fun s hs => ?_⟩, by first | omega | (simp; omega), hro3, .lst 1 [[treeV (.mk h kids)]] (.live H3.next), by simp [hdL, htv], GrowT.live (by simp [encT]) (by simp) ⟨by omega, by simp⟩⟩
                      · simp [show m ≠ n1 by omega]; exact hkk.own m hm hne
                      · simp [show s ≠ H3.next by omega]; exact hkk.tip s hs
                    · simp only [htv, hdL, hxo3, hrn, hnr, ht1, List.length_map, room1 (b := 8) (n := acc.length) (by omega) (by omega), f0, f3, f9, f11, hds, Cd.cd56, Tk.t56, base0, base1, base2, base3, Option.isNone_none, Option.isNone_some, Nat.reduceBEq, true_or, or_true, false_or, or_false, Nat.reduceLT, Nat.reduceMod, Nat.reducePow, rmaps, nsucc, List.flatten_cons, List.flatten_nil, Nat.reduceEqDiff, Nat.reduceLeDiff, Nat.reduceAdd, Nat.reduceMul, Nat.reduceSub, ↓reduceIte, reduceCtorEq, decide_true, decide_false]
                      refine ⟨fun _ _ => trivial, p2 + n - h.fin, by omega, h.fin, k, c', acc ++ [.mk h kids], rfl, by omega, by omega, by simp; omega, by omega, hT, rfl, ⟨hkk.next, fun m hm hne => ?_, fun s hs => ?_⟩, by first | omega | (simp; omega), hro3, .lst 1 (acc.map encT ++ [[treeV (.mk h kids)]]) (.live t), by simp [hdL, htv], GrowT.live (by simp [encT]) (by simp) ⟨ht2, ht3⟩⟩
                      · simp [show m ≠ n1 by omega]; exact hkk.own m hm hne
                      · simp [show s ≠ t by omega]; exact hkk.tip s hs
                · have hTe : kidsC (fun a c => rd b d a (p2 + n) c) (p2 + n) k q c1 acc = .ok (acc, c1) := by cases k <;> simp [kidsC, hlt]
                  rw [hTe] at hT
                  simp only [hnn, show decide ((q : Int) < ((p2 + n : Nat) : Int)) = false from decide_eq_false (by omega), f0, f3, f9, f11, hds, Cd.cd56, Tk.t56, base0, base1, base2, base3, Option.isNone_none, Option.isNone_some, Nat.reduceBEq, true_or, or_true, false_or, or_false, Nat.reduceLT, Nat.reduceMod, Nat.reducePow, rmaps, nsucc, List.flatten_cons, List.flatten_nil, Nat.reduceEqDiff, Nat.reduceLeDiff, Nat.reduceAdd, Nat.reduceMul, Nat.reduceSub, ↓reduceIte, reduceCtorEq, decide_true, decide_false]
                  exact NodeR.ret (h := ⟨cls, num, true, false, p, p1, p2, p2 + n, p2 + n, D⟩) (c := c1) (v := v) hn1 (by rw [hXT, ← hT, d15] <;> rfl) hk2 (by omega) hrr (Nat.le_refl _) (by simp only [hdL]; exact hnn) (hg.view FZs.encT)
end Go.Proofs.Ytmjjfdppaomcfaa

/- Walks: the program reads bytes. -/
namespace Go.Proofs.Ytmjjfdppaomcfaa
open Go Go.Proofs.Ytmjjfdppaomcfaa.Ab
set_option maxRecDepth 100000
set_option linter.unusedSimpArgs false

theorem conc96 : concT Try.prog 96 = true := by kernel_rfl
theorem Ab.ADefer.mono {P : Program} {m : FuncId} {args : List AV} {pv : Option AV} {H : AH} {R R' : AH → Prop} (h : ADefer P m args pv H R) (hr : ∀ H', R H' → R' H') : ADefer P m args pv H R' :=
  ⟨h.1, fun g xs w u hw hx hm => (h.2 g xs w u hw hx hm).mono fun e u' w' hp => by
    obtain ⟨h1, h2, H', g', h3, h4⟩ := hp
    exact ⟨h1, h2, H', g', hr _ h3, h4⟩⟩

theorem defer55n (a b c : Nat) (H : AH) : ADefer Try.prog 55 [.ptr a 0, .ptr b 0, .ptr c 0] none H (fun H' => H' = H) := by
  refine ADefer.enter [] Cd.fn55 rfl (by simp) ?_
  simp only [Option.getD_none, Cd.cd55, Tk.t55, base0, base1, base2, base3, Option.isNone_none, Option.isNone_some, Nat.reduceBEq, true_or, or_true, false_or, or_false, Nat.reduceLT, Nat.reduceMod, Nat.reducePow, rmaps, nsucc, List.flatten_cons, List.flatten_nil, Nat.reduceEqDiff, Nat.reduceLeDiff, Nat.reduceAdd, Nat.reduceMul, Nat.reduceSub, ↓reduceIte, reduceCtorEq, decide_true, decide_false]
theorem defer55p (a b c : Nat) (p : Flt) (H : AH) (ha : a < H.next) (hb : b < H.next) (hc : c < H.next) (hab : a ≠ b) (hac : a ≠ c) (hbc : b ≠ c) (x y z : AV) (h1 : H.own a = some (.cells [x])) (h2 : H.own b = some (.cells [y])) (h3 : H.own c = some (.cells [z])) :
    ADefer Try.prog 55 [.ptr a 0, .ptr b 0, .ptr c 0] (some (fltV p)) H (fun H' => H'.own a = some (.cells [nilS]) ∧ H'.own b = some (.cells [.v (.int .i64 (p.1 : Int))]) ∧ H'.own c = some (.cells [.v (.int .i64 p.2)])) := by
  refine ADefer.enter [] Cd.fn55 rfl (by simp) ?_
  have a1 : (a = H.next) = False := eq_false (by omega)
  have b1 : (b = H.next) = False := eq_false (by omega)
  have c1 : (c = H.next) = False := eq_false (by omega)
  have n1 : (a = b) = False := eq_false hab
  have n2 : (a = c) = False := eq_false hac
  have n3 : (b = c) = False := eq_false hbc
  have n4 : (b = a) = False := eq_false (Ne.symm hab)
  have n5 : (c = a) = False := eq_false (Ne.symm hac)
  have n6 : (c = b) = False := eq_false (Ne.symm hbc)
  simp only [Option.getD_some, fltV, conc96, h1, h2, h3, a1, b1, c1, n1, n2, n3, n4, n5, n6, Cd.cd55, Tk.t55, base0, base1, base2, base3, Option.isNone_none, Option.isNone_some, Nat.reduceBEq, true_or, or_true, false_or, or_false, Nat.reduceLT, Nat.reduceMod, Nat.reducePow, rmaps, nsucc, List.flatten_cons, List.flatten_nil, Nat.reduceEqDiff, Nat.reduceLeDiff, Nat.reduceAdd, Nat.reduceMul, Nat.reduceSub, ↓reduceIte, reduceCtorEq, decide_true, decide_false]
  refine ⟨fun n hn => ?_, fun n hn => ?_, rfl⟩ <;> simp at hn <;> subst hn <;> simp [show H.next ≠ a by omega, show H.next ≠ b by omega, show H.next ≠ c by omega]

theorem FZ.rowsOf (l : List Tree) : FZ (treesV l) := FZ.lst rfl fun r hr => by
  obtain ⟨x, _, rfl⟩ := List.mem_map.mp hr; exact FZs.encT x
def readOut (b : ByteArray) : Except Flt (List Tree) → AV
  | .ok l => .tup [treesV l, .v (.int .i64 (b.size : Int)), .v (.int .i64 0)]
  | .error e => .tup [treesV [], .v (.int .i64 (e.1 : Int)), .v (.int .i64 e.2)]
theorem fin_read {H : AH} {v a e : AV} {l : List Tree} (h1 : View H v (treesV l)) (h2 : FZ a) (h3 : FZ e) {w : AV} (hw : w = .tup [treesV l, a, e]) : ∃ x x', AOut.ret (.tup [v, a, e]) = .ret x ∧ View H x x' ∧ FZ x' ∧ x' = w := by
  subst hw
  exact ⟨_, _, rfl, Views.tup (Views.cons h1 (Views.cons h2.view (Views.cons h3.view Views.nil))), FZ.tup (FZs.cons (FZ.rowsOf l) (FZs.cons h2 (FZs.one h3))), rfl⟩

theorem astr_nil (b : ByteArray) : astr .eql b ⟨#[]⟩ = some (.bool (decide (b.size = 0))) := by
  show some (Value.bool (b.toList == (ByteArray.mk #[]).toList)) = _
  rw [← beq_toListBytes]
  congr 2
  obtain ⟨d⟩ := b
  show (d == #[]) = decide (d.size = 0)
  rw [Bool.eq_iff_iff, beq_iff_eq, decide_eq_true_iff]
  exact ⟨fun h => by rw [h]; rfl, fun h => Array.eq_empty_of_size_eq_zero h⟩

set_option maxHeartbeats 4000000 in
theorem read37 (b : ByteArray) : FCall Try.prog 37 [.v (.string b)] (· = readOut b (readB b)) := by
  refine ACall.enterD [18] Cd.fn37 (by simp) ?_
  by_cases h4 : 4000 < b.size
  · simp only [show decide (((b.size : Nat) : Int) > 4000) = true from decide_eq_true (by omega), finD_ret, retDv_nil, aresD, Cd.cd37, Tk.t37, base0, base1, base2, base3, Option.isNone_none, Option.isNone_some, Nat.reduceBEq, true_or, or_true, false_or, or_false, Nat.reduceLT, Nat.reduceMod, Nat.reducePow, rmaps, nsucc, List.flatten_cons, List.flatten_nil, Nat.reduceEqDiff, Nat.reduceLeDiff, Nat.reduceAdd, Nat.reduceMul, Nat.reduceSub, ↓reduceIte, reduceCtorEq, decide_true, decide_false]
    exact fin_read (View.nil 1) (FZ.v _) (FZ.v _) (by unfold readB; rw [if_pos h4]; rfl)
  · by_cases h0 : b.size = 0
    · simp only [show decide (((b.size : Nat) : Int) > 4000) = false from decide_eq_false (by omega), finD_ret, retDv_nil, aresD, astr_nil, decide_eq_true h0, Cd.cd37, Tk.t37, base0, base1, base2, base3, Option.isNone_none, Option.isNone_some, Nat.reduceBEq, true_or, or_true, false_or, or_false, Nat.reduceLT, Nat.reduceMod, Nat.reducePow, rmaps, nsucc, List.flatten_cons, List.flatten_nil, Nat.reduceEqDiff, Nat.reduceLeDiff, Nat.reduceAdd, Nat.reduceMul, Nat.reduceSub, ↓reduceIte, reduceCtorEq, decide_true, decide_false]
      exact fin_read (View.nil 1) (FZ.v _) (FZ.v _) (by unfold readB; rw [if_neg h4, if_pos h0]; rfl)
    · have hb : b.size ≤ 4000 := by omega
      have hres : readB b = match kidsC (fun a c => rd b 16 a b.size c) b.size b.size 0 0 [] with
        | .error e => .error e
        | .ok (l, _) => .ok l := by unfold readB; rw [if_neg h4, if_neg h0] <;> rfl
      rw [hres]
      generalize hT : kidsC (fun a c => rd b 16 a b.size c) b.size b.size 0 0 [] = T
      simp only [show decide (((b.size : Nat) : Int) > 4000) = false from decide_eq_false (by omega), finD_ret, retDv_nil, aresD, astr_nil, decide_eq_false h0, Cd.cd37, Tk.t37, base0, base1, base2, base3, Option.isNone_none, Option.isNone_some, Nat.reduceBEq, true_or, or_true, false_or, or_false, Nat.reduceLT, Nat.reduceMod, Nat.reducePow, rmaps, nsucc, List.flatten_cons, List.flatten_nil, Nat.reduceEqDiff, Nat.reduceLeDiff, Nat.reduceAdd, Nat.reduceMul, Nat.reduceSub, ↓reduceIte, reduceCtorEq, decide_true, decide_false]
      obtain ⟨N, hN⟩ : ∃ N, N = AH.none.next := ⟨_, rfl⟩
      refine LWP.loop [18] (fun m f H' => ∃ p k c acc, m = b.size - p ∧ (b.size - p ≤ k) ∧ (p ≤ b.size) ∧ (c ≤ 300) ∧ (acc.length ≤ c) ∧ (kidsC (fun a c => rd b 16 a b.size c) b.size k p c acc = T) ∧ f.t 0 = .v (.string b) ∧ f.t 2 = .ptr N 0 ∧ f.t 3 = .ptr (N + 1) 0 ∧ f.t 4 = .ptr (N + 1 + 1) 0 ∧ f.t 5 = .ptr (N + 1 + 1 + 1) 0 ∧ f.t 6 = .v (.int .i64 (p : Nat)) ∧ f.ds = [⟨.func 55, [.ptr N 0, .ptr (N + 1) 0, .ptr (N + 1 + 1) 0], []⟩] ∧ ∃ v, H'.own N = some (.cells [v]) ∧ H'.own (N + 1) = some (.cells [.v (.int .i64 0)]) ∧ H'.own (N + 1 + 1) = some (.cells [.v (.int .i64 0)]) ∧ H'.own (N + 1 + 1 + 1) = some (.cells (rdL b c)) ∧ N + 1 + 1 + 1 < H'.next ∧ GrowT 0 encT 1 H' v acc) ?_ ?_ (m := b.size - (0))
      · exact ⟨0, b.size, 0, [], rfl, (by omega), (by omega), (by omega), (by simp), (hT), rfl, by rw [hN]; rfl, by rw [hN]; rfl, by rw [hN]; rfl, by rw [hN]; rfl, rfl, (by rw [hN]), ⟨nilS, by subst hN; simp [nilS, show AH.none.next ≠ AH.none.next + 1 + 1 + 1 by omega, show AH.none.next ≠ AH.none.next + 1 + 1 by omega], by subst hN; simp, by subst hN; simp, by subst hN; simp [rdL], by subst hN; simp, .inl ⟨rfl, rfl⟩⟩⟩
      · rintro m f H' ⟨p, k, c, acc, rfl, hk, hp, hc, hal, hT, f0, f2, f3, f4, f5, f6, hds, ⟨v,h2,h3,h4,hro,hlt,hg⟩⟩
        by_cases hlt' : p < b.size
        · obtain ⟨k, rfl⟩ : ∃ k', k = k' + 1 := ⟨k - 1, by omega⟩
          simp only [kidsC, if_pos hlt'] at hT
          simp only [show decide ((p : Int) < (b.size : Int)) = true from decide_eq_true (by omega), f0, f2, f3, f4, f5, f6, hds, Cd.cd37, Tk.t37, base0, base1, base2, base3, Option.isNone_none, Option.isNone_some, Nat.reduceBEq, true_or, or_true, false_or, or_false, Nat.reduceLT, Nat.reduceMod, Nat.reducePow, rmaps, nsucc, List.flatten_cons, List.flatten_nil, Nat.reduceEqDiff, Nat.reduceLeDiff, Nat.reduceAdd, Nat.reduceMul, Nat.reduceSub, ↓reduceIte, reduceCtorEq, decide_true, decide_false]
          have hIH := node56 b hb 16 (Nat.le_refl _) p b.size c (N + 1 + 1 + 1) H' (Nat.le_refl _) hc hlt hro
          rw [show ((16 - 16 : Nat) : Int) = 0 from rfl] at hIH
          refine NodeR.go hIH (fun e H3 he hk3 => ?_) (fun t c' H3 he hk3 hro3 => ?_)
          · rw [he] at hT
            have hkn := hk3.next
            simp only [finD_panic, retDv_one, f0, f2, f3, f4, f5, f6, hds, Cd.cd37, Tk.t37, base0, base1, base2, base3, Option.isNone_none, Option.isNone_some, Nat.reduceBEq, true_or, or_true, false_or, or_false, Nat.reduceLT, Nat.reduceMod, Nat.reducePow, rmaps, nsucc, List.flatten_cons, List.flatten_nil, Nat.reduceEqDiff, Nat.reduceLeDiff, Nat.reduceAdd, Nat.reduceMul, Nat.reduceSub, ↓reduceIte, reduceCtorEq, decide_true, decide_false]
            refine (defer55p N (N + 1) (N + 1 + 1) e H3 (by omega) (by omega) (by omega) (by omega) (by omega) (by omega) _ _ _ ((hk3.own N (by omega) (by omega)).trans h2) ((hk3.own (N + 1) (by omega) (by omega)).trans h3) ((hk3.own (N + 1 + 1) (by omega) (by omega)).trans h4)).mono fun H4 ⟨g1, g2, g3⟩ => ?_
            simp only [aresD, g1, g2, g3, nilS, f0, f2, f3, f4, f5, f6, hds, Cd.cd37, Tk.t37, base0, base1, base2, base3, Option.isNone_none, Option.isNone_some, Nat.reduceBEq, true_or, or_true, false_or, or_false, Nat.reduceLT, Nat.reduceMod, Nat.reducePow, rmaps, nsucc, List.flatten_cons, List.flatten_nil, Nat.reduceEqDiff, Nat.reduceLeDiff, Nat.reduceAdd, Nat.reduceMul, Nat.reduceSub, ↓reduceIte, reduceCtorEq, decide_true, decide_false]
            exact fin_read (View.nil 1) (FZ.v _) (FZ.v _) (by rw [← hT]; rfl)
          · rw [he] at hT
            have hkn := hk3.next
            have hok := rd_ok b 16 b.size p c t c' he
            obtain ⟨h, kids⟩ := t
            simp only [Tree.h] at hok hT
            have htv := treeV_eq h kids
            have m2 := (hk3.own N (by omega) (by omega)).trans h2
            have m3 := (hk3.own (N + 1) (by omega) (by omega)).trans h3
            have m4 := (hk3.own (N + 1 + 1) (by omega) (by omega)).trans h4
            have k1 : (N + 1 = N) = False := eq_false (by omega)
            have k2 : (N + 1 + 1 = N) = False := eq_false (by omega)
            have k3 : (N + 1 + 1 + 1 = N) = False := eq_false (by omega)
            rcases hg.kp hk3 with ⟨rfl, rfl⟩ | ⟨t, rfl, ht1, ht2, ht3⟩
            · simp only [htv, hdL, m2, nilS, show roomA 8 1 = true from rfl, f0, f2, f3, f4, f5, f6, hds, Cd.cd37, Tk.t37, base0, base1, base2, base3, Option.isNone_none, Option.isNone_some, Nat.reduceBEq, true_or, or_true, false_or, or_false, Nat.reduceLT, Nat.reduceMod, Nat.reducePow, rmaps, nsucc, List.flatten_cons, List.flatten_nil, Nat.reduceEqDiff, Nat.reduceLeDiff, Nat.reduceAdd, Nat.reduceMul, Nat.reduceSub, ↓reduceIte, reduceCtorEq, decide_true, decide_false]
              exact ⟨b.size - h.fin, by omega, h.fin, k, c', [.mk h kids], rfl, by omega, by omega, by omega, by simp; omega, by rw [← hT]; rfl, rfl, _, rfl, m3, m4, hro3, by omega, GrowT.live (by simp [encT, htv, hdL]) (by simp) ⟨by omega, by simp⟩⟩
            · simp only [htv, hdL, m2, ht1, List.length_map, room1 (b := 8) (n := acc.length) (by omega) (by omega), f0, f2, f3, f4, f5, f6, hds, Cd.cd37, Tk.t37, base0, base1, base2, base3, Option.isNone_none, Option.isNone_some, Nat.reduceBEq, true_or, or_true, false_or, or_false, Nat.reduceLT, Nat.reduceMod, Nat.reducePow, rmaps, nsucc, List.flatten_cons, List.flatten_nil, Nat.reduceEqDiff, Nat.reduceLeDiff, Nat.reduceAdd, Nat.reduceMul, Nat.reduceSub, ↓reduceIte, reduceCtorEq, decide_true, decide_false]
              exact ⟨b.size - h.fin, by omega, h.fin, k, c', acc ++ [.mk h kids], rfl, by omega, by omega, by omega, by simp; omega, hT, rfl, _, rfl, m3, m4, hro3, by omega, GrowT.live (by simp [encT, htv, hdL]) (by simp) ⟨ht2, ht3⟩⟩
        · have hTe : kidsC (fun a c => rd b 16 a b.size c) b.size k p c acc = .ok (acc, c) := by cases k <;> simp [kidsC, hlt']
          rw [hTe] at hT
          have k1 : (N = N + 1) = False := eq_false (by omega)
          have k2 : (N = N + 1 + 1) = False := eq_false (by omega)
          have k3 : (N + 1 = N + 1 + 1) = False := eq_false (by omega)
          have k4 : (N + 1 = N) = False := eq_false (by omega)
          have k5 : (N + 1 + 1 = N) = False := eq_false (by omega)
          have k6 : (N + 1 + 1 = N + 1) = False := eq_false (by omega)
          rcases hg with ⟨rfl, rfl⟩ | ⟨t, rfl, ht1, ht2, ht3⟩
          all_goals
            simp only [show decide ((p : Int) < (b.size : Int)) = false from decide_eq_false (by omega), h2, h3, h4, finD_ret, retDv_one, nilS, k1, k2, k3, k4, k5, k6, f0, f2, f3, f4, f5, f6, hds, Cd.cd37, Tk.t37, base0, base1, base2, base3, Option.isNone_none, Option.isNone_some, Nat.reduceBEq, true_or, or_true, false_or, or_false, Nat.reduceLT, Nat.reduceMod, Nat.reducePow, rmaps, nsucc, List.flatten_cons, List.flatten_nil, Nat.reduceEqDiff, Nat.reduceLeDiff, Nat.reduceAdd, Nat.reduceMul, Nat.reduceSub, ↓reduceIte, reduceCtorEq, decide_true, decide_false]
            refine (defer55n N (N + 1) (N + 1 + 1) _).mono fun H4 e4 => ?_
            subst e4
            simp only [aresD, k1, k2, k3, k4, k5, k6, f0, f2, f3, f4, f5, f6, hds, Cd.cd37, Tk.t37, base0, base1, base2, base3, Option.isNone_none, Option.isNone_some, Nat.reduceBEq, true_or, or_true, false_or, or_false, Nat.reduceLT, Nat.reduceMod, Nat.reducePow, rmaps, nsucc, List.flatten_cons, List.flatten_nil, Nat.reduceEqDiff, Nat.reduceLeDiff, Nat.reduceAdd, Nat.reduceMul, Nat.reduceSub, ↓reduceIte, reduceCtorEq, decide_true, decide_false]
            first
              | exact fin_read (View.nil 1) (FZ.v _) (FZ.v _) (by rw [← hT]; rfl)
              | exact fin_read (View.tip fun r hr => by obtain ⟨x, _, rfl⟩ := List.mem_map.mp hr; exact FZs.encT x) (FZ.v _) (FZ.v _) (by rw [← hT]; rfl)
end Go.Proofs.Ytmjjfdppaomcfaa

/- Walks: the program tells the nodes of bytes. -/
namespace Go.Proofs.Ytmjjfdppaomcfaa
open Go Go.Proofs.Ytmjjfdppaomcfaa.Ab
set_option maxRecDepth 100000
set_option linter.unusedSimpArgs false

mutual
def flatT : Tree → List Hd
  | .mk h kids => h :: flatTs kids
def flatTs : List Tree → List Hd
  | [] => []
  | t :: l => flatT t ++ flatTs l
end
theorem flatTs_append : ∀ (l m : List Tree), flatTs (l ++ m) = flatTs l ++ flatTs m
  | [], m => by simp [flatTs]
  | t :: l, m => by simp [flatTs, flatTs_append l m]
theorem flatTs_one (t : Tree) : flatTs [t] = flatT t := by simp [flatTs]
theorem flatTs_take {l : List Tree} {i : Nat} (hi : i < l.length) : flatTs (l.take (i + 1)) = flatTs (l.take i) ++ flatT (l.getD i default) := by
  rw [List.take_add_one, flatTs_append, List.getD_eq_getElem?_getD, List.getElem?_eq_getElem hi]
  simp [flatTs_one]
theorem flatTs_take_le (l : List Tree) (i : Nat) : (flatTs (l.take i)).length ≤ (flatTs l).length := by
  conv => rhs; rw [← List.take_append_drop i l, flatTs_append]
  simp
theorem len_flatTs : ∀ l : List Tree, l.length ≤ (flatTs l).length
  | [] => by simp
  | .mk h k :: l => by have := len_flatTs l; simp [flatTs, flatT]; omega
def nodeL (h : Hd) : List AV := [.v (.int .i64 (h.cls : Int)), .v (.int .i64 (h.num : Int)), .v (.bool h.built), .v (.bool h.opn), .v (.int .i64 (h.deep : Int)), .v (.int .i64 (h.frm : Int)), .v (.int .i64 (h.body : Int)), .v (.int .i64 (h.stop : Int)), .v (.int .i64 (h.fin : Int))]
theorem FZs.nodeL (h : Hd) : FZs (nodeL h) := by
  intro a ha
  simp only [Proofs.Ytmjjfdppaomcfaa.nodeL, List.mem_cons, List.not_mem_nil, or_false] at ha
  rcases ha with rfl | rfl | rfl | rfl | rfl | rfl | rfl | rfl | rfl <;> exact FZ.v _
theorem fin_agg {cs : List AV} {H' : AH} (h : FZs cs) : ∃ v v', AOut.ret (.agg cs) = .ret v ∧ View H' v v' ∧ FZ v' ∧ v' = .agg cs := ⟨_, _, rfl, (FZ.agg h).view, FZ.agg h, rfl⟩

theorem public40 (t : Tree) : FCall Try.prog 40 [treeV t] (· = .agg (nodeL t.h)) := by
  obtain ⟨h, kids⟩ := t
  rw [treeV_eq]
  simp only [hdL]
  refine ACall.enter [] Cd.fn40 (by simp) ?_
  simp only [Tree.h, Cd.cd40, Tk.t40, base0, base1, base2, base3, Option.isNone_none, Option.isNone_some, Nat.reduceBEq, true_or, or_true, false_or, or_false, Nat.reduceLT, Nat.reduceMod, Nat.reducePow, rmaps, nsucc, List.flatten_cons, List.flatten_nil, Nat.reduceEqDiff, Nat.reduceLeDiff, Nat.reduceAdd, Nat.reduceMul, Nat.reduceSub, ↓reduceIte, reduceCtorEq, decide_true, decide_false]
  exact fin_agg (FZs.nodeL h)

theorem walked39 (t : Tree) (o : Nat) (acc : List Hd) (H : AH) (v : AV) (ho : o < H.next) (hl : acc.length ≤ 100000) (hv : H.own o = some (.cells [v])) (hg : GrowT 0 nodeL 9 H v acc) :
    ACall Try.prog 39 [treeV t, .ptr o 0] H (fun out H' => out = .ret (.tup []) ∧ H.next ≤ H'.next ∧ ∃ v', H'.own o = some (.cells [v']) ∧ GrowT 0 nodeL 9 H' v' (acc ++ [t.h])) := by
  have htv := treeV_eq t.h t.kids
  rcases hg with ⟨rfl, rfl⟩ | ⟨tp, rfl, ht1, ht2, ht3⟩
  · refine ACall.enter [] Cd.fn39 (by simp) ?_
    simp only [hv, nilS, Cd.cd39, Tk.t39, base0, base1, base2, base3, Option.isNone_none, Option.isNone_some, Nat.reduceBEq, true_or, or_true, false_or, or_false, Nat.reduceLT, Nat.reduceMod, Nat.reducePow, rmaps, nsucc, List.flatten_cons, List.flatten_nil, Nat.reduceEqDiff, Nat.reduceLeDiff, Nat.reduceAdd, Nat.reduceMul, Nat.reduceSub, ↓reduceIte, reduceCtorEq, decide_true, decide_false]
    first | refine FCall.go (public40 t) (FZs.one (FZ.treeV t)) ?_ | refine FCall.go' (public40 t) (FZs.one (FZ.treeV t)) ?_ | refine FCall.goQ (public40 t) (FZs.one (FZ.treeV t)) ?_
    simp only [nodeL, hv, show roomA 64 1 = true from rfl, Cd.cd39, Tk.t39, base0, base1, base2, base3, Option.isNone_none, Option.isNone_some, Nat.reduceBEq, true_or, or_true, false_or, or_false, Nat.reduceLT, Nat.reduceMod, Nat.reducePow, rmaps, nsucc, List.flatten_cons, List.flatten_nil, Nat.reduceEqDiff, Nat.reduceLeDiff, Nat.reduceAdd, Nat.reduceMul, Nat.reduceSub, ↓reduceIte, reduceCtorEq, decide_true, decide_false]
    exact ⟨by simp, .lst 9 [nodeL t.h] (.live H.next), by simp [nodeL], GrowT.live (by simp) (by simp) ⟨by omega, by simp⟩⟩
  · refine ACall.enter [] Cd.fn39 (by simp) ?_
    simp only [hv, Cd.cd39, Tk.t39, base0, base1, base2, base3, Option.isNone_none, Option.isNone_some, Nat.reduceBEq, true_or, or_true, false_or, or_false, Nat.reduceLT, Nat.reduceMod, Nat.reducePow, rmaps, nsucc, List.flatten_cons, List.flatten_nil, Nat.reduceEqDiff, Nat.reduceLeDiff, Nat.reduceAdd, Nat.reduceMul, Nat.reduceSub, ↓reduceIte, reduceCtorEq, decide_true, decide_false]
    first | refine FCall.go (public40 t) (FZs.one (FZ.treeV t)) ?_ | refine FCall.go' (public40 t) (FZs.one (FZ.treeV t)) ?_ | refine FCall.goQ (public40 t) (FZs.one (FZ.treeV t)) ?_
    simp only [nodeL, hv, ht1, List.length_map, room1 (b := 64) (n := acc.length) (by omega) (by omega), Cd.cd39, Tk.t39, base0, base1, base2, base3, Option.isNone_none, Option.isNone_some, Nat.reduceBEq, true_or, or_true, false_or, or_false, Nat.reduceLT, Nat.reduceMod, Nat.reducePow, rmaps, nsucc, List.flatten_cons, List.flatten_nil, Nat.reduceEqDiff, Nat.reduceLeDiff, Nat.reduceAdd, Nat.reduceMul, Nat.reduceSub, ↓reduceIte, reduceCtorEq, decide_true, decide_false]
    exact ⟨Nat.le_refl _, .lst 9 (acc.map nodeL ++ [nodeL t.h]) (.live tp), by simp [nodeL], GrowT.live (by simp) (by simp) ⟨ht2, ht3⟩⟩

def EachR (o : Nat) (H : AH) (l : List Hd) : AOut → AH → Prop := fun out H' => out = .ret (.tup []) ∧ H.next ≤ H'.next ∧ ∃ v', H'.own o = some (.cells [v']) ∧ GrowT 0 nodeL 9 H' v' l
theorem EachR.go {P : Program} {mu : List Nat} {K : Kont} {f : AF} {H : AH} {m : FuncId} {args : List AV} {dst : Option Nat} {os : List COp} {o : Nat} {l : List Hd} (h : ACall P m args H (EachR o H l))
    (hr : ∀ H1 v, H.next ≤ H1.next → H1.own o = some (.cells [v]) → GrowT 0 nodeL 9 H1 v l → cops P mu K os (f.put dst (.tup [])) H1) : ACall P m args H (callK P mu K dst os f) :=
  h.mono fun out H1 hq => by
    obtain ⟨rfl, h1, v, h2, h3⟩ := hq
    exact hr H1 v h1 h2 h3
set_option maxHeartbeats 2000000 in
theorem each38 (n : Nat) : ∀ (l : List Tree), (flatTs l).length ≤ n → ∀ (o : Nat) (acc : List Hd) (H : AH) (v : AV), acc.length + (flatTs l).length ≤ 100000 → o < H.next → H.own o = some (.cells [v]) → GrowT 0 nodeL 9 H v acc →
    ACall Try.prog 38 [treesV l, .fn (.func 39) [] [.ptr o 0]] H (EachR o H (acc ++ flatTs l)) := by
  induction n using Nat.strongRecOn with
  | _ n ih =>
    intro l hn o acc H v hl ho hv hg
    have hll := len_flatTs l
    simp only [treesV]
    refine ACall.enter [] Cd.fn38 (by simp) ?_
    simp only [List.length_map, Cd.cd38, Tk.t38, base0, base1, base2, base3, Option.isNone_none, Option.isNone_some, Nat.reduceBEq, true_or, or_true, false_or, or_false, Nat.reduceLT, Nat.reduceMod, Nat.reducePow, rmaps, nsucc, List.flatten_cons, List.flatten_nil, Nat.reduceEqDiff, Nat.reduceLeDiff, Nat.reduceAdd, Nat.reduceMul, Nat.reduceSub, ↓reduceIte, reduceCtorEq, decide_true, decide_false]
    refine LWP.loop [] (fun m f H' => ∃ i, m = l.length - i ∧ (i ≤ l.length) ∧ f.t 1 = .fn (.func 39) [] [.ptr o 0] ∧ f.t 6 = .lst 1 (l.map encT) .unk ∧ f.t 7 = .v (.int .i64 (l.length : Nat)) ∧ f.t 8 = .v (.int .i64 (i : Nat)) ∧ f.ds = [] ∧ ∃ v, H.next ≤ H'.next ∧ H'.own o = some (.cells [v]) ∧ GrowT 0 nodeL 9 H' v (acc ++ flatTs (l.take i))) ?_ ?_ (m := l.length - (0))
    · exact ⟨0, rfl, (by omega), rfl, rfl, rfl, rfl, rfl, ⟨v, Nat.le_refl _, hv, by simpa [flatTs] using hg⟩⟩
    · rintro m f H' ⟨i, rfl, hi, f1, f6, f7, f8, hds, ⟨v,hnx,hv,hg⟩⟩
      by_cases hlt : i < l.length
      · have htk := flatTs_take hlt
        have hle := flatTs_take_le l (i + 1)
        rw [htk, List.length_append] at hle
        generalize hx : l.getD i default = x at htk hle
        obtain ⟨h, kids⟩ := x
        have hfl : flatT (.mk h kids) = h :: flatTs kids := by simp [flatT]
        rw [hfl] at htk hle
        simp only [List.length_cons] at hle
        have hgt : (l.map encT).getD i [] = [treeV (.mk h kids)] := by
          rw [List.getD_eq_getElem?_getD, List.getElem?_map, List.getElem?_eq_getElem hlt]
          rw [List.getD_eq_getElem?_getD, List.getElem?_eq_getElem hlt] at hx
          simp only [Option.getD_some] at hx
          simp [encT, hx]
        simp only [show decide ((i : Int) < (l.length : Int)) = true from decide_eq_true (by omega), List.length_map, Int.toNat_natCast, Int.natCast_nonneg, show ((i : Int) < (l.length : Int)) = True from eq_true (by omega), hgt, f1, f6, f7, f8, hds, Cd.cd38, Tk.t38, base0, base1, base2, base3, Option.isNone_none, Option.isNone_some, Nat.reduceBEq, true_or, or_true, false_or, or_false, Nat.reduceLT, Nat.reduceMod, Nat.reducePow, rmaps, nsucc, List.flatten_cons, List.flatten_nil, Nat.reduceEqDiff, Nat.reduceLeDiff, Nat.reduceAdd, Nat.reduceMul, Nat.reduceSub, ↓reduceIte, reduceCtorEq, decide_true, decide_false]
        refine EachR.go (walked39 (.mk h kids) o (acc ++ flatTs (l.take i)) H' v (by omega) (by simp; omega) hv hg) fun H1 v1 g1 g2 g3 => ?_
        have htv := treeV_eq h kids
        simp only [htv, hdL, f1, f6, f7, f8, hds, Cd.cd38, Tk.t38, base0, base1, base2, base3, Option.isNone_none, Option.isNone_some, Nat.reduceBEq, true_or, or_true, false_or, or_false, Nat.reduceLT, Nat.reduceMod, Nat.reducePow, rmaps, nsucc, List.flatten_cons, List.flatten_nil, Nat.reduceEqDiff, Nat.reduceLeDiff, Nat.reduceAdd, Nat.reduceMul, Nat.reduceSub, ↓reduceIte, reduceCtorEq, decide_true, decide_false]
        refine EachR.go (ih (n - 1) (by omega) kids (by omega) o (acc ++ flatTs (l.take i) ++ [h]) H1 v1 (by simp; omega) (by omega) g2 g3) fun H2 v2 g4 g5 g6 => ?_
        simp only [wrapS (show i < 2 ^ 62 by omega), f1, f6, f7, f8, hds, Cd.cd38, Tk.t38, base0, base1, base2, base3, Option.isNone_none, Option.isNone_some, Nat.reduceBEq, true_or, or_true, false_or, or_false, Nat.reduceLT, Nat.reduceMod, Nat.reducePow, rmaps, nsucc, List.flatten_cons, List.flatten_nil, Nat.reduceEqDiff, Nat.reduceLeDiff, Nat.reduceAdd, Nat.reduceMul, Nat.reduceSub, ↓reduceIte, reduceCtorEq, decide_true, decide_false]
        exact ⟨_, by omega, i + 1, rfl, by omega, rfl, v2, by omega, g5, by rw [htk]; simpa using g6⟩
      · simp only [show decide ((i : Int) < (l.length : Int)) = false from decide_eq_false (by omega), f1, f6, f7, f8, hds, Cd.cd38, Tk.t38, base0, base1, base2, base3, Option.isNone_none, Option.isNone_some, Nat.reduceBEq, true_or, or_true, false_or, or_false, Nat.reduceLT, Nat.reduceMod, Nat.reducePow, rmaps, nsucc, List.flatten_cons, List.flatten_nil, Nat.reduceEqDiff, Nat.reduceLeDiff, Nat.reduceAdd, Nat.reduceMul, Nat.reduceSub, ↓reduceIte, reduceCtorEq, decide_true, decide_false]
        have hil : i = l.length := by omega
        rw [hil, List.take_length] at hg
        exact ⟨rfl, hnx, v, hv, hg⟩
end Go.Proofs.Ytmjjfdppaomcfaa

/- Walks: the nodes of bytes. -/
namespace Go.Proofs.Ytmjjfdppaomcfaa
open Go Go.Proofs.Ytmjjfdppaomcfaa.Ab
set_option maxRecDepth 100000
set_option linter.unusedSimpArgs false

def NodeLen (node : Nat → Nat → Except Flt (Tree × Nat)) : Prop := ∀ a c t c', node a c = .ok (t, c') → c' = c + (flatT t).length
theorem kidsC_len {node : Nat → Nat → Except Flt (Tree × Nat)} {stop : Nat} (hn : NodeLen node) : ∀ {n p c : Nat} {acc l : List Tree} {c' : Nat}, kidsC node stop n p c acc = .ok (l, c') → c' + (flatTs acc).length = c + (flatTs l).length
  | 0, p, c, acc, l, c', h => by simp only [kidsC] at h; cases h; rfl
  | n + 1, p, c, acc, l, c', h => by
    simp only [kidsC] at h
    split at h
    · split at h
      · cases h
      · rename_i t c1 h1
        have q := hn _ _ _ _ h1
        have := kidsC_len hn h
        rw [flatTs_append, flatTs_one, List.length_append] at this
        omega
    · cases h; rfl
theorem openC_len {node : Nat → Nat → Except Flt (Tree × Nat)} {b : ByteArray} {lim : Nat} (hn : NodeLen node) : ∀ {n p c : Nat} {acc l : List Tree} {s c' : Nat}, openC node b lim n p c acc = .ok (l, s, c') → c' + (flatTs acc).length = c + (flatTs l).length
  | 0, p, c, acc, l, s, c', h => by simp only [openC] at h; cases h
  | n + 1, p, c, acc, l, s, c', h => by
    simp only [openC] at h
    split at h
    · cases h; rfl
    · split at h
      · cases h
      · split at h
        · cases h
        · rename_i t c1 h1
          have q := hn _ _ _ _ h1
          have := openC_len hn h
          rw [flatTs_append, flatTs_one, List.length_append] at this
          omega
theorem rd_len (b : ByteArray) : ∀ (d lim : Nat), NodeLen (fun a c => rd b d a lim c)
  | d, lim, a, c, t, c', h => by
    simp only at h
    cases hid : ident b a lim with
    | error e => rw [rd_e1 hid] at h; cases h
    | ok x =>
      obtain ⟨cls, num, bl, p1⟩ := x
      cases hlen : lenOf b p1 lim bl with
      | error e => rw [rd_e2 hid hlen] at h; cases h
      | ok x =>
        obtain ⟨on, p2⟩ := x
        cases hany : on.any (fun n => decide (lim - p2 < n)) with
        | true => rw [rd_e3 hid hlen hany] at h; cases h
        | false =>
          by_cases hcnt : 300 < c + 1
          · rw [rd_e4 hid hlen hany hcnt] at h; cases h
          · cases d with
            | zero => rw [rd_e5 hid hlen hany hcnt] at h; cases h
            | succ d =>
              cases on with
              | none =>
                rw [rd_open hid hlen hcnt] at h
                cases ho : openC (fun a c => rd b d a lim c) b lim (lim - p2 + 1) p2 (c + 1) [] with
                | error e => rw [ho] at h; cases h
                | ok x =>
                  obtain ⟨l, s, c1⟩ := x
                  rw [ho] at h; cases h
                  have := openC_len (rd_len b d lim) ho
                  simp only [flatTs, flatT, List.length_nil, List.length_cons] at this ⊢; omega
              | some n =>
                have hn : ¬ lim - p2 < n := by simpa using hany
                cases bl with
                | false => rw [rd_leaf hid hlen hn hcnt] at h; cases h; simp [flatT, flatTs]
                | true =>
                  rw [rd_kids hid hlen hn hcnt] at h
                  cases ho : kidsC (fun a c => rd b d a (p2 + n) c) (p2 + n) n p2 (c + 1) [] with
                  | error e => rw [ho] at h; cases h
                  | ok x =>
                    obtain ⟨l, c1⟩ := x
                    rw [ho] at h; cases h
                    have := kidsC_len (rd_len b d (p2 + n)) ho
                    simp only [flatTs, flatT, List.length_nil, List.length_cons] at this ⊢; omega
theorem readB_len {b : ByteArray} {l : List Tree} (h : readB b = .ok l) : (flatTs l).length ≤ 300 ∧ b.size ≤ 4000 := by
  unfold readB at h
  split at h
  · cases h
  · split at h
    · cases h
    · split at h
      · cases h
      · rename_i l' c hk
        cases h
        have h1 := kidsC_len (rd_len b 16 b.size) hk
        have h2 := kidsC_ok (rd_ok b 16 b.size) hk (by omega)
        simp only [flatTs, List.length_nil] at h1
        omega
theorem tagL_err {b : ByteArray} {lim : Nat} : ∀ {k p num : Nat} {e : Flt}, tagL b lim k p num = .error e → e.2 ≠ 0
  | 0, p, num, e, h => by simp only [tagL] at h; cases h; simp
  | k + 1, p, num, e, h => by
    simp only [tagL] at h
    split at h
    · split at h
      · cases h; simp
      · split at h
        · cases h
        · exact tagL_err h
    · cases h; simp
theorem ident_err {b : ByteArray} {at_ lim : Nat} {e : Flt} (h : ident b at_ lim = .error e) : e.2 ≠ 0 := by
  unfold ident at h
  split at h
  · split at h
    · cases h
    · split at h
      · cases h
      · rename_i e' he; cases h; exact tagL_err he
  · cases h; simp
theorem lenL_err {b : ByteArray} {lim : Nat} : ∀ {k p n : Nat} {e : Flt}, lenL b lim k p n = .error e → e.2 ≠ 0
  | 0, p, n, e, h => by simp only [lenL] at h; cases h
  | k + 1, p, n, e, h => by
    simp only [lenL] at h
    split at h
    · split at h
      · cases h; simp
      · exact lenL_err h
    · cases h; simp
theorem lenOf_err {b : ByteArray} {at_ lim : Nat} {bl : Bool} {e : Flt} (h : lenOf b at_ lim bl = .error e) : e.2 ≠ 0 := by
  unfold lenOf at h
  split at h
  · split at h
    · cases h
    · split at h
      · cases h; simp
      · split at h
        · cases h
        · split at h
          · cases h
          · rename_i e' he; cases h; exact lenL_err he
  · cases h; simp
def NodeErr (node : Nat → Nat → Except Flt (Tree × Nat)) : Prop := ∀ a c e, node a c = .error e → e.2 ≠ 0
theorem kidsC_err {node : Nat → Nat → Except Flt (Tree × Nat)} {stop : Nat} (hn : NodeErr node) : ∀ {n p c : Nat} {acc : List Tree} {e : Flt}, kidsC node stop n p c acc = .error e → e.2 ≠ 0
  | 0, p, c, acc, e, h => by simp only [kidsC] at h; cases h
  | n + 1, p, c, acc, e, h => by
    simp only [kidsC] at h
    split at h
    · split at h
      · rename_i e' he; cases h; exact hn _ _ _ he
      · exact kidsC_err hn h
    · cases h
theorem openC_err {node : Nat → Nat → Except Flt (Tree × Nat)} {b : ByteArray} {lim : Nat} (hn : NodeErr node) : ∀ {n p c : Nat} {acc : List Tree} {e : Flt}, openC node b lim n p c acc = .error e → e.2 ≠ 0
  | 0, p, c, acc, e, h => by simp only [openC] at h; cases h; simp
  | n + 1, p, c, acc, e, h => by
    simp only [openC] at h
    split at h
    · cases h
    · split at h
      · cases h; simp
      · split at h
        · rename_i e' he; cases h; exact hn _ _ _ he
        · exact openC_err hn h
theorem rd_err (b : ByteArray) : ∀ (d lim : Nat), NodeErr (fun a c => rd b d a lim c)
  | d, lim, a, c, e, h => by
    simp only at h
    cases hid : ident b a lim with
    | error e' => rw [rd_e1 hid] at h; cases h; exact ident_err hid
    | ok x =>
      obtain ⟨cls, num, bl, p1⟩ := x
      cases hlen : lenOf b p1 lim bl with
      | error e' => rw [rd_e2 hid hlen] at h; cases h; exact lenOf_err hlen
      | ok x =>
        obtain ⟨on, p2⟩ := x
        cases hany : on.any (fun n => decide (lim - p2 < n)) with
        | true => rw [rd_e3 hid hlen hany] at h; cases h; simp
        | false =>
          by_cases hcnt : 300 < c + 1
          · rw [rd_e4 hid hlen hany hcnt] at h; cases h; simp
          · cases d with
            | zero => rw [rd_e5 hid hlen hany hcnt] at h; cases h; simp
            | succ d =>
              cases on with
              | none =>
                rw [rd_open hid hlen hcnt] at h
                cases ho : openC (fun a c => rd b d a lim c) b lim (lim - p2 + 1) p2 (c + 1) [] with
                | error e' => rw [ho] at h; cases h; exact openC_err (rd_err b d lim) ho
                | ok x => rw [ho] at h; cases h
              | some n =>
                have hn : ¬ lim - p2 < n := by simpa using hany
                cases bl with
                | false => rw [rd_leaf hid hlen hn hcnt] at h; cases h
                | true =>
                  rw [rd_kids hid hlen hn hcnt] at h
                  cases ho : kidsC (fun a c => rd b d a (p2 + n) c) (p2 + n) n p2 (c + 1) [] with
                  | error e' => rw [ho] at h; cases h; exact kidsC_err (rd_err b d (p2 + n)) ho
                  | ok x => rw [ho] at h; cases h
theorem readB_err {b : ByteArray} {e : Flt} (h : readB b = .error e) : e.2 ≠ 0 := by
  unfold readB at h
  split at h
  · cases h; simp
  · split at h
    · cases h; simp
    · split at h
      · rename_i e' he; cases h; exact kidsC_err (rd_err b 16 b.size) he
      · cases h
theorem fin3 {H : AH} {v v' a e : AV} (h1 : View H v v') (h0 : FZ v') (h2 : FZ a) (h3 : FZ e) {w : AV} (hw : w = .tup [v', a, e]) : ∃ x x', AOut.ret (.tup [v, a, e]) = .ret x ∧ View H x x' ∧ FZ x' ∧ x' = w := by
  subst hw
  exact ⟨_, _, rfl, Views.tup (Views.cons h1 (Views.cons h2.view (Views.cons h3.view Views.nil))), FZ.tup (FZs.cons h0 (FZs.cons h2 (FZs.one h3))), rfl⟩
def nodesV (l : List Hd) : AV := .lst 9 (l.map nodeL) .unk
def walkedOut : Except Flt (List Tree) → AV
  | .ok l => .tup [nodesV (flatTs l), .v (.int .i64 0), .v (.int .i64 0)]
  | .error e => .tup [nodesV [], .v (.int .i64 (e.1 : Int)), .v (.int .i64 e.2)]
theorem walked13 (b : ByteArray) : FCall Try.prog 13 [.v (.string b)] (· = walkedOut (readB b)) := by
  refine ACall.enter [] Cd.fn13 (by simp) ?_
  simp only [Cd.cd13, Tk.t13, base0, base1, base2, base3, Option.isNone_none, Option.isNone_some, Nat.reduceBEq, true_or, or_true, false_or, or_false, Nat.reduceLT, Nat.reduceMod, Nat.reducePow, rmaps, nsucc, List.flatten_cons, List.flatten_nil, Nat.reduceEqDiff, Nat.reduceLeDiff, Nat.reduceAdd, Nat.reduceMul, Nat.reduceSub, ↓reduceIte, reduceCtorEq, decide_true, decide_false]
  refine (read37 b).go (FZs.one (FZ.v _)) ?_
  cases hr : readB b with
  | error e =>
    have he := readB_err hr
    simp only [readOut]
    simp only [show (e.2 != 0) = true from by simp [he], Cd.cd13, Tk.t13, base0, base1, base2, base3, Option.isNone_none, Option.isNone_some, Nat.reduceBEq, true_or, or_true, false_or, or_false, Nat.reduceLT, Nat.reduceMod, Nat.reducePow, rmaps, nsucc, List.flatten_cons, List.flatten_nil, Nat.reduceEqDiff, Nat.reduceLeDiff, Nat.reduceAdd, Nat.reduceMul, Nat.reduceSub, ↓reduceIte, reduceCtorEq, decide_true, decide_false]
    exact fin3 (View.nil 9) (FZ.lst rfl fun r hr => by simp at hr) (FZ.v _) (FZ.v _) rfl
  | ok l =>
    have hl := readB_len hr
    simp only [readOut]
    simp only [show ((0 : Int) != 0) = false from rfl, Cd.cd13, Tk.t13, base0, base1, base2, base3, Option.isNone_none, Option.isNone_some, Nat.reduceBEq, true_or, or_true, false_or, or_false, Nat.reduceLT, Nat.reduceMod, Nat.reducePow, rmaps, nsucc, List.flatten_cons, List.flatten_nil, Nat.reduceEqDiff, Nat.reduceLeDiff, Nat.reduceAdd, Nat.reduceMul, Nat.reduceSub, ↓reduceIte, reduceCtorEq, decide_true, decide_false]
    refine EachR.go (each38 _ l (Nat.le_refl _) AH.none.next [] _ nilS (by simp; omega) (by simp) (by simp [nilS]) (.inl ⟨rfl, rfl⟩)) fun H1 v h1 h2 h3 => ?_
    simp only [h2, Cd.cd13, Tk.t13, base0, base1, base2, base3, Option.isNone_none, Option.isNone_some, Nat.reduceBEq, true_or, or_true, false_or, or_false, Nat.reduceLT, Nat.reduceMod, Nat.reducePow, rmaps, nsucc, List.flatten_cons, List.flatten_nil, Nat.reduceEqDiff, Nat.reduceLeDiff, Nat.reduceAdd, Nat.reduceMul, Nat.reduceSub, ↓reduceIte, reduceCtorEq, decide_true, decide_false]
    exact fin3 (h3.view FZs.nodeL) (FZ.lst rfl fun r hr => by obtain ⟨x, _, rfl⟩ := List.mem_map.mp hr; exact FZs.nodeL x) (FZ.v _) (FZ.v _) rfl
end Go.Proofs.Ytmjjfdppaomcfaa

/- Walks: the reference reads identifiers and lengths. -/
namespace Go.Proofs.Ytmjjfdppaomcfaa
open Go Go.Proofs.Ytmjjfdppaomcfaa.Ab
set_option maxRecDepth 100000
set_option linter.unusedSimpArgs false

def wL (b : ByteArray) (nd : AV) (a e : Int) : List AV := [.v (.string b), nd, .v (.int .i64 a), .v (.int .i64 e)]
theorem and31i : ∀ {c : Nat}, c < 256 → IntKind.i64.wrap ((BitVec.ofInt IntKind.i64.bits (c : Int) &&& BitVec.ofInt IntKind.i64.bits 31).toNat : Nat) = ((c % 32 : Nat) : Int) := by decide +kernel
theorem and127i : ∀ {c : Nat}, c < 256 → IntKind.i64.wrap ((BitVec.ofInt IntKind.i64.bits (c : Int) &&& BitVec.ofInt IntKind.i64.bits 127).toNat : Nat) = ((c % 128 : Nat) : Int) := by decide +kernel
theorem and32i : ∀ {c : Nat}, c < 256 → (IntKind.i64.wrap ((BitVec.ofInt IntKind.i64.bits (c : Int) &&& BitVec.ofInt IntKind.i64.bits 32).toNat : Nat) != 0) = (c / 32 % 2 == 1) := by decide +kernel
theorem and128i : ∀ {c : Nat}, c < 256 → (IntKind.i64.wrap ((BitVec.ofInt IntKind.i64.bits (c : Int) &&& BitVec.ofInt IntKind.i64.bits 128).toNat : Nat) == 0) = decide (c < 128) := by decide +kernel
theorem shr6i : ∀ {c : Nat}, c < 256 → Int.fdiv (c : Int) (2 ^ min (6 : Int).toNat IntKind.i64.bits) = ((c / 64 : Nat) : Int) := by decide +kernel

theorem rfail41 (b : ByteArray) (nd : AV) (r : Nat) (q : Nat) (e : Int) (hnd : AV.one nd = true) (H : AH) (hro : H.own r = some (.cells (wL b nd 0 0))) :
    ACall Try.prog 41 [.ptr r 0, .v (.int .i64 (q : Int)), .v (.int .i64 e)] H (fun out H' => out = .ret (.tup []) ∧ H'.own r = some (.cells (wL b nd q e)) ∧ Kp H H' (· = r)) := by
  simp only [wL] at hro
  refine ACall.enter [] Cd.fn41 (by simp) ?_
  simp only [hro, hnd, show ((0 : Int) == 0) = true from rfl, Cd.cd41, Tk.t41, base0, base1, base2, base3, Option.isNone_none, Option.isNone_some, Nat.reduceBEq, true_or, or_true, false_or, or_false, Nat.reduceLT, Nat.reduceMod, Nat.reducePow, rmaps, nsucc, List.flatten_cons, List.flatten_nil, Nat.reduceEqDiff, Nat.reduceLeDiff, Nat.reduceAdd, Nat.reduceMul, Nat.reduceSub, ↓reduceIte, reduceCtorEq, decide_true, decide_false]
  exact ⟨rfl, ⟨Nat.le_refl _, fun n _ hn => by simp [hn], fun _ _ => rfl⟩⟩

theorem rfail.go {P : Program} {mu : List Nat} {K : Kont} {f : AF} {H : AH} {m : FuncId} {args : List AV} {dst : Option Nat} {os : List COp} {v : AV} {r : Nat} {B : ABlk} (h : ACall P m args H (fun out H' => out = .ret v ∧ H'.own r = some B ∧ Kp H H' (· = r)))
    (hr : ∀ H1, H1.own r = some B → Kp H H1 (· = r) → cops P mu K os (f.put dst v) H1) : ACall P m args H (callK P mu K dst os f) :=
  h.mono fun out H1 hq => by
    obtain ⟨rfl, h1, h2⟩ := hq
    exact hr H1 h1 h2

def RidOut (b : ByteArray) (nd : AV) (r : Nat) (H : AH) (x : Except Flt (Nat × Nat × Bool × Nat)) : AOut → AH → Prop := fun out H' =>
  Kp H H' (· = r) ∧ ∃ (c n : Int) (bl : Bool) (p : Int), out = .ret (.tup [.agg [.v (.int .i64 c), .v (.int .i64 n)], .v (.bool bl), .v (.int .i64 p)]) ∧ match x with
    | .ok (c', n', bl', p') => c = (c' : Int) ∧ n = (n' : Int) ∧ bl = bl' ∧ p = (p' : Int) ∧ H'.own r = some (.cells (wL b nd 0 0))
    | .error e => H'.own r = some (.cells (wL b nd e.1 e.2))
set_option maxHeartbeats 1000000 in
theorem rident57 (b : ByteArray) (hb : b.size ≤ 4000) (nd : AV) (hnd : AV.one nd = true) (r at_ lim : Nat) (hl : lim ≤ b.size) (H : AH) (hr : r < H.next) (hro : H.own r = some (.cells (wL b nd 0 0))) :
    ACall Try.prog 57 [.ptr r 0, .v (.int .i64 (at_ : Int)), .v (.int .i64 (lim : Int))] H (RidOut b nd r H (ident b at_ lim)) := by
  have hrn : (r = H.next) = False := eq_false (by omega)
  have hnr : (H.next = r) = False := eq_false (by omega)
  have hrn1 : (r = H.next + 1) = False := eq_false (by omega)
  simp only [wL] at hro
  obtain ⟨n1, hn1⟩ : ∃ n1, n1 = H.next := ⟨_, rfl⟩
  by_cases h : at_ < lim
  rotate_left
  · have hid : ident b at_ lim = .error (lim, 9) := by unfold ident; rw [if_neg h]
    rw [hid]
    refine ACall.enter [] Cd.fn57 (by simp) ?_
    simp only [show decide ((at_ : Int) ≥ (lim : Int)) = true from decide_eq_true (by omega), Cd.cd57, Tk.t57, base0, base1, base2, base3, Option.isNone_none, Option.isNone_some, Nat.reduceBEq, true_or, or_true, false_or, or_false, Nat.reduceLT, Nat.reduceMod, Nat.reducePow, rmaps, nsucc, List.flatten_cons, List.flatten_nil, Nat.reduceEqDiff, Nat.reduceLeDiff, Nat.reduceAdd, Nat.reduceMul, Nat.reduceSub, ↓reduceIte, reduceCtorEq, decide_true, decide_false]
    refine rfail.go (rfail41 b nd r lim 9 hnd _ (by simp [hrn, hro, wL])) fun H1 h1 hk => ?_
    have hkn := hk.next
    have hx := hk.own H.next (by simp) (by omega)
    simp only [if_true] at hx
    simp only [hx, Cd.cd57, Tk.t57, base0, base1, base2, base3, Option.isNone_none, Option.isNone_some, Nat.reduceBEq, true_or, or_true, false_or, or_false, Nat.reduceLT, Nat.reduceMod, Nat.reducePow, rmaps, nsucc, List.flatten_cons, List.flatten_nil, Nat.reduceEqDiff, Nat.reduceLeDiff, Nat.reduceAdd, Nat.reduceMul, Nat.reduceSub, ↓reduceIte, reduceCtorEq, decide_true, decide_false]
    refine ⟨⟨by simp at hkn ⊢; omega, fun n hn hne => ?_, fun t ht => ?_⟩, _, _, _, _, rfl, ?_⟩
    · have := hk.own n (by simp; omega) hne
      simp [show n ≠ H.next by omega] at this ⊢; exact this
    · exact hk.tip t (by simp; omega)
    · simp [hrn, h1]
  · have hc := bt_lt b at_
    refine ACall.enter [] Cd.fn57 (by simp) ?_
    simp only [show decide ((at_ : Int) ≥ (lim : Int)) = false from decide_eq_false (by omega), hro, hrn, hrn1, Int.toNat_natCast, sget (s := b) (i := at_) (by omega), Int.natCast_nonneg, lt60, wrapN (show bt b at_ < 2 ^ 62 by omega), shr6i hc, and31i hc, and32i hc, wrapS (show at_ < 2 ^ 62 by omega), Cd.cd57, Tk.t57, base0, base1, base2, base3, Option.isNone_none, Option.isNone_some, Nat.reduceBEq, true_or, or_true, false_or, or_false, Nat.reduceLT, Nat.reduceMod, Nat.reducePow, rmaps, nsucc, List.flatten_cons, List.flatten_nil, Nat.reduceEqDiff, Nat.reduceLeDiff, Nat.reduceAdd, Nat.reduceMul, Nat.reduceSub, ↓reduceIte, reduceCtorEq, decide_true, decide_false]
    by_cases h31 : bt b at_ % 32 < 31
    · simp only [show decide (((bt b at_ % 32 : Nat) : Int) < 31) = true from decide_eq_true (by omega), Cd.cd57, Tk.t57, base0, base1, base2, base3, Option.isNone_none, Option.isNone_some, Nat.reduceBEq, true_or, or_true, false_or, or_false, Nat.reduceLT, Nat.reduceMod, Nat.reducePow, rmaps, nsucc, List.flatten_cons, List.flatten_nil, Nat.reduceEqDiff, Nat.reduceLeDiff, Nat.reduceAdd, Nat.reduceMul, Nat.reduceSub, ↓reduceIte, reduceCtorEq, decide_true, decide_false]
      unfold ident; rw [if_pos h, if_pos h31]
      refine ⟨⟨by simp <;> omega, fun n hn _ => by simp [show n ≠ H.next by omega, show n ≠ H.next + 1 by omega], fun _ _ => rfl⟩, _, _, _, _, rfl, rfl, rfl, rfl, rfl, ?_⟩
      simp [hrn, hrn1, hro, wL]
    · simp only [show decide (((bt b at_ % 32 : Nat) : Int) < 31) = false from decide_eq_false (by omega), Cd.cd57, Tk.t57, base0, base1, base2, base3, Option.isNone_none, Option.isNone_some, Nat.reduceBEq, true_or, or_true, false_or, or_false, Nat.reduceLT, Nat.reduceMod, Nat.reducePow, rmaps, nsucc, List.flatten_cons, List.flatten_nil, Nat.reduceEqDiff, Nat.reduceLeDiff, Nat.reduceAdd, Nat.reduceMul, Nat.reduceSub, ↓reduceIte, reduceCtorEq, decide_true, decide_false]
      have hid : ident b at_ lim = match tagL b lim (lim - (at_ + 1)) (at_ + 1) 0 with
        | .ok (m, p) => .ok (bt b at_ / 64, m, bt b at_ / 32 % 2 == 1, p)
        | .error e => .error e := by
        unfold ident; rw [if_pos h, if_neg h31] <;> rfl
      rw [hid]
      generalize hT : tagL b lim (lim - (at_ + 1)) (at_ + 1) 0 = T
      refine LWP.loop [] (fun m f H' => ∃ p k num, m = lim - p ∧ (lim - p ≤ k) ∧ (p ≤ lim) ∧ (num ≤ 268435456) ∧ (tagL b lim k p num = T) ∧ f.t 0 = .ptr r 0 ∧ f.t 1 = .v (.int .i64 (p : Nat)) ∧ f.t 2 = .v (.int .i64 (lim : Nat)) ∧ f.t 6 = .ptr n1 0 ∧ f.t 11 = .v (.bool (bt b at_ / 32 % 2 == 1)) ∧ f.t 10 = .ptr (n1 + 1) 0 ∧ f.ds = [] ∧ H'.own (n1 + 1) = some (.cells [.v (.int .i64 (bt b at_ / 64 : Nat)), .v (.int .i64 (num : Nat))]) ∧ H'.own n1 = some (.cells [.v (.int .i64 0), .v (.int .i64 0)]) ∧ n1 + 1 < H'.next ∧ (∀ n, n < H.next → H'.own n = H.own n) ∧ H'.tip = H.tip) ?_ ?_ (m := lim - (at_ + 1))
      · exact ⟨at_ + 1, lim - (at_ + 1), 0, rfl, (by omega), (by omega), (by omega), (hT), rfl, rfl, rfl, by rw [hn1]; rfl, rfl, by rw [hn1]; rfl, rfl, ⟨by simp [hn1], by simp [hn1], by simp [hn1], fun n hn => by simp [show n ≠ H.next by omega, show n ≠ H.next + 1 by omega], rfl⟩⟩
      · rintro m f H' ⟨p, k, num, rfl, hk, hp, hnum, hT, f0, f1, f2, f6, f11, f10, hds, ⟨h2,h1,hx,hk2,ht2⟩⟩
        have hro' : H'.own r = some (.cells [.v (.string b), nd, .v (.int .i64 0), .v (.int .i64 0)]) := (hk2 r hr).trans hro
        have m1 : (r = n1 + 1) = False := eq_false (by omega)
        have m2 : (n1 = n1 + 1) = False := eq_false (by omega)
        have m3 : (n1 + 1 = n1) = False := eq_false (by omega)
        have m4 : (r = n1) = False := eq_false (by omega)
        by_cases hpl : p < lim
        rotate_left
        · rw [tagL_end hpl] at hT
          rw [← hT]
          simp only [show decide ((p : Int) ≥ (lim : Int)) = true from decide_eq_true (by omega), f0, f1, f2, f6, f11, f10, hds, Cd.cd57, Tk.t57, base0, base1, base2, base3, Option.isNone_none, Option.isNone_some, Nat.reduceBEq, true_or, or_true, false_or, or_false, Nat.reduceLT, Nat.reduceMod, Nat.reducePow, rmaps, nsucc, List.flatten_cons, List.flatten_nil, Nat.reduceEqDiff, Nat.reduceLeDiff, Nat.reduceAdd, Nat.reduceMul, Nat.reduceSub, ↓reduceIte, reduceCtorEq, decide_true, decide_false]
          refine rfail.go (rfail41 b nd r lim 9 hnd _ hro') fun H3 g1 gk => ?_
          have gn := gk.next
          have gx := (gk.own n1 (by omega) (by omega)).trans h1
          simp only [gx, f0, f1, f2, f6, f11, f10, hds, Cd.cd57, Tk.t57, base0, base1, base2, base3, Option.isNone_none, Option.isNone_some, Nat.reduceBEq, true_or, or_true, false_or, or_false, Nat.reduceLT, Nat.reduceMod, Nat.reducePow, rmaps, nsucc, List.flatten_cons, List.flatten_nil, Nat.reduceEqDiff, Nat.reduceLeDiff, Nat.reduceAdd, Nat.reduceMul, Nat.reduceSub, ↓reduceIte, reduceCtorEq, decide_true, decide_false]
          refine ⟨⟨by simp; omega, fun n hn hne => ?_, fun t ht => ?_⟩, _, _, _, _, rfl, ?_⟩
          · simp [show n ≠ n1 by omega]; exact (gk.own n (by omega) hne).trans (hk2 n hn)
          · exact (gk.tip t (by omega)).trans (by rw [ht2])
          · simp [m4, g1]
        · have hcp := bt_lt b p
          obtain ⟨k, rfl⟩ : ∃ k', k = k' + 1 := ⟨k - 1, by omega⟩
          simp only [tagL, if_pos hpl] at hT
          simp only [show decide ((p : Int) ≥ (lim : Int)) = false from decide_eq_false (by omega), h2, hro', m1, m2, m3, Int.toNat_natCast, sget (s := b) (i := p) (by omega), Int.natCast_nonneg, wrapN (show bt b p < 2 ^ 62 by omega), and127i hcp, show IntKind.i64.wrap (IntKind.i64.wrap ((num : Int) * 128) + ((bt b p % 128 : Nat) : Int)) = ((num * 128 + bt b p % 128 : Nat) : Int) from by rw [wrapI (x := (num : Int) * 128) (by omega) (by omega), wrapI (by omega) (by omega)]; omega, f0, f1, f2, f6, f11, f10, hds, Cd.cd57, Tk.t57, base0, base1, base2, base3, Option.isNone_none, Option.isNone_some, Nat.reduceBEq, true_or, or_true, false_or, or_false, Nat.reduceLT, Nat.reduceMod, Nat.reducePow, rmaps, nsucc, List.flatten_cons, List.flatten_nil, Nat.reduceEqDiff, Nat.reduceLeDiff, Nat.reduceAdd, Nat.reduceMul, Nat.reduceSub, ↓reduceIte, reduceCtorEq, decide_true, decide_false]
          generalize hM : num * 128 + bt b p % 128 = M at hT
          by_cases hov : 268435456 < M
          · rw [if_pos hov] at hT
            rw [← hT]
            simp only [show decide (((M : Nat) : Int) > 268435456) = true from decide_eq_true (by omega), f0, f1, f2, f6, f11, f10, hds, Cd.cd57, Tk.t57, base0, base1, base2, base3, Option.isNone_none, Option.isNone_some, Nat.reduceBEq, true_or, or_true, false_or, or_false, Nat.reduceLT, Nat.reduceMod, Nat.reducePow, rmaps, nsucc, List.flatten_cons, List.flatten_nil, Nat.reduceEqDiff, Nat.reduceLeDiff, Nat.reduceAdd, Nat.reduceMul, Nat.reduceSub, ↓reduceIte, reduceCtorEq, decide_true, decide_false]
            refine rfail.go (rfail41 b nd r p 25 hnd _ (by simp [m1, hro', wL])) fun H3 g1 gk => ?_
            have gn := gk.next
            have gx := gk.own n1 (by simp; omega) (by omega)
            simp only [m2, if_false] at gx
            rw [h1] at gx
            simp only [gx, f0, f1, f2, f6, f11, f10, hds, Cd.cd57, Tk.t57, base0, base1, base2, base3, Option.isNone_none, Option.isNone_some, Nat.reduceBEq, true_or, or_true, false_or, or_false, Nat.reduceLT, Nat.reduceMod, Nat.reducePow, rmaps, nsucc, List.flatten_cons, List.flatten_nil, Nat.reduceEqDiff, Nat.reduceLeDiff, Nat.reduceAdd, Nat.reduceMul, Nat.reduceSub, ↓reduceIte, reduceCtorEq, decide_true, decide_false]
            refine ⟨⟨by simp at gn ⊢; omega, fun n hn hne => ?_, fun t ht => ?_⟩, _, _, _, _, rfl, ?_⟩
            · have := gk.own n (by simp; omega) hne
              simp [show n ≠ n1 by omega, show n ≠ n1 + 1 by omega] at this ⊢; exact this.trans (hk2 n hn)
            · exact (gk.tip t (by simp; omega)).trans (by simp [ht2])
            · simp [m4, g1]
          rw [if_neg hov] at hT
          simp only [show decide (((M : Nat) : Int) > 268435456) = false from decide_eq_false (by omega), and128i hcp, wrapS (show p < 2 ^ 62 by omega), f0, f1, f2, f6, f11, f10, hds, Cd.cd57, Tk.t57, base0, base1, base2, base3, Option.isNone_none, Option.isNone_some, Nat.reduceBEq, true_or, or_true, false_or, or_false, Nat.reduceLT, Nat.reduceMod, Nat.reducePow, rmaps, nsucc, List.flatten_cons, List.flatten_nil, Nat.reduceEqDiff, Nat.reduceLeDiff, Nat.reduceAdd, Nat.reduceMul, Nat.reduceSub, ↓reduceIte, reduceCtorEq, decide_true, decide_false]
          by_cases h128 : bt b p < 128
          · rw [if_pos h128] at hT
            rw [← hT]
            simp only [h1, m1, m2, m3, decide_eq_true h128, f0, f1, f2, f6, f11, f10, hds, Cd.cd57, Tk.t57, base0, base1, base2, base3, Option.isNone_none, Option.isNone_some, Nat.reduceBEq, true_or, or_true, false_or, or_false, Nat.reduceLT, Nat.reduceMod, Nat.reducePow, rmaps, nsucc, List.flatten_cons, List.flatten_nil, Nat.reduceEqDiff, Nat.reduceLeDiff, Nat.reduceAdd, Nat.reduceMul, Nat.reduceSub, ↓reduceIte, reduceCtorEq, decide_true, decide_false]
            refine ⟨⟨by simp; omega, fun n hn _ => by simp [show n ≠ n1 + 1 by omega, show n ≠ n1 by omega]; exact hk2 n hn, fun _ _ => by simp [ht2]⟩, _, _, _, _, rfl, rfl, rfl, rfl, rfl, ?_⟩
            simp [m1, m4, hro', wL]
          · rw [if_neg h128] at hT
            simp only [decide_eq_false h128, f0, f1, f2, f6, f11, f10, hds, Cd.cd57, Tk.t57, base0, base1, base2, base3, Option.isNone_none, Option.isNone_some, Nat.reduceBEq, true_or, or_true, false_or, or_false, Nat.reduceLT, Nat.reduceMod, Nat.reducePow, rmaps, nsucc, List.flatten_cons, List.flatten_nil, Nat.reduceEqDiff, Nat.reduceLeDiff, Nat.reduceAdd, Nat.reduceMul, Nat.reduceSub, ↓reduceIte, reduceCtorEq, decide_true, decide_false]
            exact ⟨_, by omega, p + 1, k, M, rfl, by omega, by omega, by omega, hT, rfl, by simp [m3, h1, hx, ht2]; exact fun n hn => by simp [show n ≠ n1 + 1 by omega]; exact hk2 n hn⟩
end Go.Proofs.Ytmjjfdppaomcfaa

/- Walks: the reference reads lengths. -/
namespace Go.Proofs.Ytmjjfdppaomcfaa
open Go Go.Proofs.Ytmjjfdppaomcfaa.Ab
set_option maxRecDepth 100000
set_option linter.unusedSimpArgs false

def lenI : Option Nat → Int
  | some n => n
  | none => -1
def RlenOut (b : ByteArray) (nd : AV) (r : Nat) (H : AH) (x : Except Flt (Option Nat × Nat)) : AOut → AH → Prop := fun out H' =>
  Kp H H' (· = r) ∧ ∃ (n p : Int), out = .ret (.tup [.v (.int .i64 n), .v (.int .i64 p)]) ∧ match x with
    | .ok (o, p') => n = lenI o ∧ p = (p' : Int) ∧ H'.own r = some (.cells (wL b nd 0 0))
    | .error e => H'.own r = some (.cells (wL b nd e.1 e.2))
set_option maxHeartbeats 1000000 in
theorem rlen58 (b : ByteArray) (hb : b.size ≤ 4000) (nd : AV) (hnd : AV.one nd = true) (r at_ lim : Nat) (bl : Bool) (hl : lim ≤ b.size) (H : AH) (hro : H.own r = some (.cells (wL b nd 0 0))) :
    ACall Try.prog 58 [.ptr r 0, .v (.int .i64 (at_ : Int)), .v (.int .i64 (lim : Int)), .v (.bool bl)] H (RlenOut b nd r H (lenOf b at_ lim bl)) := by
  have hro0 := hro
  simp only [wL] at hro
  by_cases h : at_ < lim
  rotate_left
  · have hid : lenOf b at_ lim bl = .error (lim, 9) := by unfold lenOf; rw [if_neg h]
    rw [hid]
    refine ACall.enter [] Cd.fn58 (by simp) ?_
    simp only [show decide ((at_ : Int) ≥ (lim : Int)) = true from decide_eq_true (by omega), Cd.cd58, Tk.t58, base0, base1, base2, base3, Option.isNone_none, Option.isNone_some, Nat.reduceBEq, true_or, or_true, false_or, or_false, Nat.reduceLT, Nat.reduceMod, Nat.reducePow, rmaps, nsucc, List.flatten_cons, List.flatten_nil, Nat.reduceEqDiff, Nat.reduceLeDiff, Nat.reduceAdd, Nat.reduceMul, Nat.reduceSub, ↓reduceIte, reduceCtorEq, decide_true, decide_false]
    refine rfail.go (rfail41 b nd r lim 9 hnd _ hro0) fun H1 h1 hk => ?_
    simp only [Cd.cd58, Tk.t58, base0, base1, base2, base3, Option.isNone_none, Option.isNone_some, Nat.reduceBEq, true_or, or_true, false_or, or_false, Nat.reduceLT, Nat.reduceMod, Nat.reducePow, rmaps, nsucc, List.flatten_cons, List.flatten_nil, Nat.reduceEqDiff, Nat.reduceLeDiff, Nat.reduceAdd, Nat.reduceMul, Nat.reduceSub, ↓reduceIte, reduceCtorEq, decide_true, decide_false]
    exact ⟨hk, _, _, rfl, h1⟩
  · have hc := bt_lt b at_
    generalize hcc : bt b at_ = c at hc
    have hg := sget (s := b) (i := at_) (by omega)
    rw [hcc] at hg
    refine ACall.enter [] Cd.fn58 (by simp) ?_
    simp only [show decide ((at_ : Int) ≥ (lim : Int)) = false from decide_eq_false (by omega), hro, Int.toNat_natCast, hg, Int.natCast_nonneg, wrapN (show c < 2 ^ 62 by omega), Cd.cd58, Tk.t58, base0, base1, base2, base3, Option.isNone_none, Option.isNone_some, Nat.reduceBEq, true_or, or_true, false_or, or_false, Nat.reduceLT, Nat.reduceMod, Nat.reducePow, rmaps, nsucc, List.flatten_cons, List.flatten_nil, Nat.reduceEqDiff, Nat.reduceLeDiff, Nat.reduceAdd, Nat.reduceMul, Nat.reduceSub, ↓reduceIte, reduceCtorEq, decide_true, decide_false]
    by_cases h1 : c < 128
    · simp only [show decide ((c : Int) < 128) = true from decide_eq_true (by omega), wrapS (show at_ < 2 ^ 62 by omega), Cd.cd58, Tk.t58, base0, base1, base2, base3, Option.isNone_none, Option.isNone_some, Nat.reduceBEq, true_or, or_true, false_or, or_false, Nat.reduceLT, Nat.reduceMod, Nat.reducePow, rmaps, nsucc, List.flatten_cons, List.flatten_nil, Nat.reduceEqDiff, Nat.reduceLeDiff, Nat.reduceAdd, Nat.reduceMul, Nat.reduceSub, ↓reduceIte, reduceCtorEq, decide_true, decide_false]
      unfold lenOf; rw [if_pos h, hcc, if_pos h1]
      exact ⟨Kp.refl _ _, _, _, rfl, rfl, rfl, hro0⟩
    by_cases h2 : c = 255 ∨ (c = 128 ∧ bl = false)
    · have hpan : lenOf b at_ lim bl = .error (at_, 19) := by unfold lenOf; rw [if_pos h, hcc, if_neg h1, if_pos h2]
      rw [hpan]
      by_cases h3 : c = 255
      · simp only [show decide ((c : Int) < 128) = false from decide_eq_false (by omega), show ((c : Int) == 255) = true from by simp; omega, Cd.cd58, Tk.t58, base0, base1, base2, base3, Option.isNone_none, Option.isNone_some, Nat.reduceBEq, true_or, or_true, false_or, or_false, Nat.reduceLT, Nat.reduceMod, Nat.reducePow, rmaps, nsucc, List.flatten_cons, List.flatten_nil, Nat.reduceEqDiff, Nat.reduceLeDiff, Nat.reduceAdd, Nat.reduceMul, Nat.reduceSub, ↓reduceIte, reduceCtorEq, decide_true, decide_false]
        refine rfail.go (rfail41 b nd r at_ 19 hnd _ hro0) fun H1 h1 hk => ?_
        simp only [Cd.cd58, Tk.t58, base0, base1, base2, base3, Option.isNone_none, Option.isNone_some, Nat.reduceBEq, true_or, or_true, false_or, or_false, Nat.reduceLT, Nat.reduceMod, Nat.reducePow, rmaps, nsucc, List.flatten_cons, List.flatten_nil, Nat.reduceEqDiff, Nat.reduceLeDiff, Nat.reduceAdd, Nat.reduceMul, Nat.reduceSub, ↓reduceIte, reduceCtorEq, decide_true, decide_false]
        exact ⟨hk, _, _, rfl, h1⟩
      · obtain ⟨h4, rfl⟩ : c = 128 ∧ bl = false := h2.resolve_left h3
        simp only [show decide ((c : Int) < 128) = false from decide_eq_false (by omega), show ((c : Int) == 255) = false from by simp; omega, show ((c : Int) == 128) = true from by simp; omega, Cd.cd58, Tk.t58, base0, base1, base2, base3, Option.isNone_none, Option.isNone_some, Nat.reduceBEq, true_or, or_true, false_or, or_false, Nat.reduceLT, Nat.reduceMod, Nat.reducePow, rmaps, nsucc, List.flatten_cons, List.flatten_nil, Nat.reduceEqDiff, Nat.reduceLeDiff, Nat.reduceAdd, Nat.reduceMul, Nat.reduceSub, ↓reduceIte, reduceCtorEq, decide_true, decide_false]
        refine rfail.go (rfail41 b nd r at_ 19 hnd _ hro0) fun H1 h1 hk => ?_
        simp only [Cd.cd58, Tk.t58, base0, base1, base2, base3, Option.isNone_none, Option.isNone_some, Nat.reduceBEq, true_or, or_true, false_or, or_false, Nat.reduceLT, Nat.reduceMod, Nat.reducePow, rmaps, nsucc, List.flatten_cons, List.flatten_nil, Nat.reduceEqDiff, Nat.reduceLeDiff, Nat.reduceAdd, Nat.reduceMul, Nat.reduceSub, ↓reduceIte, reduceCtorEq, decide_true, decide_false]
        exact ⟨hk, _, _, rfl, h1⟩
    have e128 : decide ((c : Int) < 128) = false := decide_eq_false (by omega)
    have e255 : ((c : Int) == 255) = false := by simp; omega
    by_cases h3 : c = 128
    · have hbl : bl = true := by cases bl <;> simp_all
      subst hbl
      simp only [e128, e255, show ((c : Int) == 128) = true from by simp; omega, wrapS (show at_ < 2 ^ 62 by omega), Cd.cd58, Tk.t58, base0, base1, base2, base3, Option.isNone_none, Option.isNone_some, Nat.reduceBEq, true_or, or_true, false_or, or_false, Nat.reduceLT, Nat.reduceMod, Nat.reducePow, rmaps, nsucc, List.flatten_cons, List.flatten_nil, Nat.reduceEqDiff, Nat.reduceLeDiff, Nat.reduceAdd, Nat.reduceMul, Nat.reduceSub, ↓reduceIte, reduceCtorEq, decide_true, decide_false]
      unfold lenOf; rw [if_pos h, hcc, if_neg h1, if_neg h2, if_pos h3]
      exact ⟨Kp.refl _ _, _, _, rfl, rfl, rfl, hro0⟩
    have hres : lenOf b at_ lim bl = match lenL b lim (c - 128) (at_ + 1) 0 with
      | .ok n => .ok (some n, at_ + 1 + (c - 128))
      | .error e => .error e := by unfold lenOf; rw [if_pos h, hcc, if_neg h1, if_neg h2, if_neg h3] <;> rfl
    rw [hres]
    generalize hT : lenL b lim (c - 128) (at_ + 1) 0 = T
    simp only [e128, e255, show ((c : Int) == 128) = false from by simp; omega, wrapS (show at_ < 2 ^ 62 by omega), Cd.cd58, Tk.t58, base0, base1, base2, base3, Option.isNone_none, Option.isNone_some, Nat.reduceBEq, true_or, or_true, false_or, or_false, Nat.reduceLT, Nat.reduceMod, Nat.reducePow, rmaps, nsucc, List.flatten_cons, List.flatten_nil, Nat.reduceEqDiff, Nat.reduceLeDiff, Nat.reduceAdd, Nat.reduceMul, Nat.reduceSub, ↓reduceIte, reduceCtorEq, decide_true, decide_false]
    refine LWP.loop [] (fun m f H' => ∃ i n, m = c - 128 - i ∧ (i ≤ c - 128) ∧ (n ≤ 4000) ∧ (lenL b lim (c - 128 - i) (at_ + 1 + i) n = T) ∧ f.t 0 = .ptr r 0 ∧ f.t 1 = .v (.int .i64 (at_ + 1 + i : Nat)) ∧ f.t 2 = .v (.int .i64 (lim : Nat)) ∧ f.t 10 = .v (.int .i64 (c : Nat)) ∧ f.t 11 = .v (.int .i64 (n : Nat)) ∧ f.t 12 = .v (.int .i64 (i : Nat)) ∧ f.ds = [] ∧ H' = H) ?_ ?_ (m := c - 128 - (0))
    · exact ⟨0, 0, rfl, (by omega), (by omega), (hT), rfl, rfl, rfl, rfl, rfl, rfl, rfl, rfl⟩
    · rintro m f H' ⟨i, n, rfl, hi, hn, hT, f0, f1, f2, f10, f11, f12, hds, hH⟩
      subst hH
      have ec : IntKind.i64.wrap ((c : Int) - 128) = ((c - 128 : Nat) : Int) := by rw [wrapI (by omega) (by omega)]; omega
      by_cases hlt : i < c - 128
      · obtain ⟨k, hk⟩ : ∃ k, c - 128 - i = k + 1 := ⟨c - 128 - i - 1, by omega⟩
        rw [hk] at hT
        by_cases hpl : at_ + 1 + i < lim
        rotate_left
        · simp only [lenL, if_neg hpl] at hT
          rw [← hT]
          simp only [ec, show decide ((i : Int) < ((c - 128 : Nat) : Int)) = true from decide_eq_true (by omega), show decide (((at_ + 1 + i : Nat) : Int) ≥ (lim : Int)) = true from decide_eq_true (by omega), f0, f1, f2, f10, f11, f12, hds, Cd.cd58, Tk.t58, base0, base1, base2, base3, Option.isNone_none, Option.isNone_some, Nat.reduceBEq, true_or, or_true, false_or, or_false, Nat.reduceLT, Nat.reduceMod, Nat.reducePow, rmaps, nsucc, List.flatten_cons, List.flatten_nil, Nat.reduceEqDiff, Nat.reduceLeDiff, Nat.reduceAdd, Nat.reduceMul, Nat.reduceSub, ↓reduceIte, reduceCtorEq, decide_true, decide_false]
          refine rfail.go (rfail41 b nd r lim 9 hnd _ hro0) fun H1 h1 hk => ?_
          simp only [f0, f1, f2, f10, f11, f12, hds, Cd.cd58, Tk.t58, base0, base1, base2, base3, Option.isNone_none, Option.isNone_some, Nat.reduceBEq, true_or, or_true, false_or, or_false, Nat.reduceLT, Nat.reduceMod, Nat.reducePow, rmaps, nsucc, List.flatten_cons, List.flatten_nil, Nat.reduceEqDiff, Nat.reduceLeDiff, Nat.reduceAdd, Nat.reduceMul, Nat.reduceSub, ↓reduceIte, reduceCtorEq, decide_true, decide_false]
          exact ⟨hk, _, _, rfl, h1⟩
        · simp only [lenL, if_pos hpl] at hT
          have hcp := bt_lt b (at_ + 1 + i)
          have en : IntKind.i64.wrap ((n : Int) * 256) = ((n * 256 : Nat) : Int) := by rw [wrapI (by omega) (by omega)]; omega
          simp only [ec, show decide ((i : Int) < ((c - 128 : Nat) : Int)) = true from decide_eq_true (by omega), show decide (((at_ + 1 + i : Nat) : Int) ≥ (lim : Int)) = false from decide_eq_false (by omega), hro, Int.toNat_natCast, sget (s := b) (i := at_ + 1 + i) (by omega), Int.natCast_nonneg, wrapN (show bt b (at_ + 1 + i) < 2 ^ 62 by omega), en, f0, f1, f2, f10, f11, f12, hds, Cd.cd58, Tk.t58, base0, base1, base2, base3, Option.isNone_none, Option.isNone_some, Nat.reduceBEq, true_or, or_true, false_or, or_false, Nat.reduceLT, Nat.reduceMod, Nat.reducePow, rmaps, nsucc, List.flatten_cons, List.flatten_nil, Nat.reduceEqDiff, Nat.reduceLeDiff, Nat.reduceAdd, Nat.reduceMul, Nat.reduceSub, ↓reduceIte, reduceCtorEq, decide_true, decide_false]
          generalize hM : n * 256 + bt b (at_ + 1 + i) = M at hT
          have eM : IntKind.i64.wrap (((n * 256 : Nat) : Int) + ((bt b (at_ + 1 + i) : Nat) : Int)) = (M : Int) := by rw [wrapI (by omega) (by omega)]; omega
          by_cases hov : 4000 < M
          · rw [if_pos hov] at hT
            rw [← hT]
            simp only [eM, show decide (((M : Nat) : Int) > 4000) = true from decide_eq_true (by omega), f0, f1, f2, f10, f11, f12, hds, Cd.cd58, Tk.t58, base0, base1, base2, base3, Option.isNone_none, Option.isNone_some, Nat.reduceBEq, true_or, or_true, false_or, or_false, Nat.reduceLT, Nat.reduceMod, Nat.reducePow, rmaps, nsucc, List.flatten_cons, List.flatten_nil, Nat.reduceEqDiff, Nat.reduceLeDiff, Nat.reduceAdd, Nat.reduceMul, Nat.reduceSub, ↓reduceIte, reduceCtorEq, decide_true, decide_false]
            refine rfail.go (rfail41 b nd r (at_ + 1 + i) 25 hnd _ hro0) fun H1 h1 hk => ?_
            simp only [f0, f1, f2, f10, f11, f12, hds, Cd.cd58, Tk.t58, base0, base1, base2, base3, Option.isNone_none, Option.isNone_some, Nat.reduceBEq, true_or, or_true, false_or, or_false, Nat.reduceLT, Nat.reduceMod, Nat.reducePow, rmaps, nsucc, List.flatten_cons, List.flatten_nil, Nat.reduceEqDiff, Nat.reduceLeDiff, Nat.reduceAdd, Nat.reduceMul, Nat.reduceSub, ↓reduceIte, reduceCtorEq, decide_true, decide_false]
            exact ⟨hk, _, _, rfl, h1⟩
          · rw [if_neg hov] at hT
            simp only [eM, show decide (((M : Nat) : Int) > 4000) = false from decide_eq_false (by omega), wrapS (show i < 2 ^ 62 by omega), wrapS (show at_ + 1 + i < 2 ^ 62 by omega), f0, f1, f2, f10, f11, f12, hds, Cd.cd58, Tk.t58, base0, base1, base2, base3, Option.isNone_none, Option.isNone_some, Nat.reduceBEq, true_or, or_true, false_or, or_false, Nat.reduceLT, Nat.reduceMod, Nat.reducePow, rmaps, nsucc, List.flatten_cons, List.flatten_nil, Nat.reduceEqDiff, Nat.reduceLeDiff, Nat.reduceAdd, Nat.reduceMul, Nat.reduceSub, ↓reduceIte, reduceCtorEq, decide_true, decide_false]
            refine ⟨_, by omega, i + 1, M, rfl, by omega, by omega, ?_, rfl, rfl, rfl⟩
            rw [← hT]; congr 1; omega
      · have h0 : c - 128 - i = 0 := by omega
        rw [h0] at hT
        simp only [lenL] at hT
        rw [← hT]
        simp only [ec, show decide ((i : Int) < ((c - 128 : Nat) : Int)) = false from decide_eq_false (by omega), f0, f1, f2, f10, f11, f12, hds, Cd.cd58, Tk.t58, base0, base1, base2, base3, Option.isNone_none, Option.isNone_some, Nat.reduceBEq, true_or, or_true, false_or, or_false, Nat.reduceLT, Nat.reduceMod, Nat.reducePow, rmaps, nsucc, List.flatten_cons, List.flatten_nil, Nat.reduceEqDiff, Nat.reduceLeDiff, Nat.reduceAdd, Nat.reduceMul, Nat.reduceSub, ↓reduceIte, reduceCtorEq, decide_true, decide_false]
        exact ⟨Kp.refl _ _, _, _, rfl, rfl, by omega, hro0⟩
end Go.Proofs.Ytmjjfdppaomcfaa

/- Walks: the reference reads nodes of indefinite length. -/
namespace Go.Proofs.Ytmjjfdppaomcfaa
open Go Go.Proofs.Ytmjjfdppaomcfaa.Ab
set_option maxRecDepth 100000
set_option linter.unusedSimpArgs false

/-- the reference's reader: its nodes, its error -/
def WS (b : ByteArray) (r : Nat) (H : AH) (L : List Hd) (a e : Int) : Prop := r < H.next ∧ ∃ nd, H.own r = some (.cells (wL b nd a e)) ∧ Arr nodeL 9 H nd L ∧ ∀ n, nmA nd = some n → n ≠ r ∧ n < H.next
theorem one_nd {H : AH} {nd : AV} {L : List Hd} (h : Arr nodeL 9 H nd L) : AV.one nd = true := by
  rcases h with ⟨_, rfl | rfl⟩ | ⟨n, rest, rfl, _⟩ <;> rfl
theorem WS.kp {b : ByteArray} {r : Nat} {H H' : AH} {nd : AV} {L : List Hd} {a e a' e' : Int} (h : WS b r H L a e) (hn : H.own r = some (.cells (wL b nd a e))) (hr : H'.own r = some (.cells (wL b nd a' e'))) (hk : Kp H H' (· = r)) : WS b r H' L a' e' := by
  obtain ⟨h1, nd', h2, h3, h4⟩ := h
  rw [hn] at h2
  have : nd = nd' := by simp [wL] at h2; exact h2
  subst this
  have := hk.next
  exact ⟨by omega, nd, hr, h3.mono fun n e => hk.own n (h4 n e).2 (h4 n e).1, fun n e => ⟨(h4 n e).1, by have := (h4 n e).2; omega⟩⟩
/-- what is known of it when an error has come -/
def WE (b : ByteArray) (r : Nat) (H : AH) (k : Nat) (a e : Int) : Prop := r < H.next ∧ ∃ nd, H.own r = some (.cells (wL b nd a e)) ∧ ((k = 0 ∧ (nd = nilS ∨ nd = .lst 9 [] .full)) ∨ ∃ n l, nd = .sl 9 n 0 k ∧ H.own n = some (.cells l) ∧ k * 9 ≤ l.length ∧ n ≠ r ∧ n < H.next)
theorem nodeL_len (x : Hd) : (nodeL x).length = 9 := rfl
theorem WS.we {b : ByteArray} {r : Nat} {H : AH} {L : List Hd} {a e : Int} (h : WS b r H L a e) : WE b r H L.length a e := by
  obtain ⟨h1, nd, h2, h3, h4⟩ := h
  refine ⟨h1, nd, h2, ?_⟩
  rcases h3 with ⟨rfl, g⟩ | ⟨n, rest, rfl, hn⟩
  · exact .inl ⟨rfl, g⟩
  · exact .inr ⟨n, _, rfl, hn, by rw [List.length_append, flatE_len nodeL_len]; omega, (h4 n rfl).1, (h4 n rfl).2⟩
def RnodeOut (b : ByteArray) (r : Nat) (L : List Hd) (x : Except Flt (Tree × Nat)) : AOut → AH → Prop := fun out H' => ∃ p : Int, out = .ret (.v (.int .i64 p)) ∧ match x with
  | .ok (t, _) => p = (t.h.fin : Int) ∧ WS b r H' (L ++ flatT t) 0 0
  | .error e => ∃ k, L.length ≤ k ∧ WE b r H' k e.1 e.2
theorem RnodeOut.go {P : Program} {mu : List Nat} {K : Kont} {f : AF} {H : AH} {m : FuncId} {args : List AV} {dst : Option Nat} {os : List COp} {b : ByteArray} {r : Nat} {L : List Hd} {x : Except Flt (Tree × Nat)} (h : ACall P m args H (RnodeOut b r L x))
    (hp : ∀ e (p : Int) k H1, x = .error e → L.length ≤ k → WE b r H1 k e.1 e.2 → cops P mu K os (f.put dst (.v (.int .i64 p))) H1)
    (hr : ∀ t c H1, x = .ok (t, c) → WS b r H1 (L ++ flatT t) 0 0 → cops P mu K os (f.put dst (.v (.int .i64 (t.h.fin : Int)))) H1) : ACall P m args H (callK P mu K dst os f) :=
  h.mono fun out H1 hq => by
    obtain ⟨p, rfl, hx⟩ := hq
    cases x with
    | error e => obtain ⟨k, h1, h2⟩ := hx; exact hp e p k H1 rfl h1 h2
    | ok y => obtain ⟨t, c⟩ := y; obtain ⟨rfl, ho⟩ := hx; exact hr t c H1 rfl ho
def RopenOut (b : ByteArray) (r : Nat) (L : List Hd) (x : Except Flt (List Tree × Nat × Nat)) : AOut → AH → Prop := fun out H' => ∃ p : Int, out = .ret (.v (.int .i64 p)) ∧ match x with
  | .ok (l, s, _) => p = ((s + 2 : Nat) : Int) ∧ WS b r H' (L ++ flatTs l) 0 0
  | .error e => ∃ k, L.length ≤ k ∧ WE b r H' k e.1 e.2
theorem openC_end {node : Nat → Nat → Except Flt (Tree × Nat)} {b : ByteArray} {lim n p c : Nat} {acc : List Tree} (h : lim ≤ p) : openC node b lim n p c acc = .error (lim, 39) := by
  cases n with
  | zero => rfl
  | succ n => rw [openC, if_neg (by omega), if_pos h]

def mE (m : Nat) : Option Flt → Nat
  | none => m
  | some _ => 0
def iE (P : Prop) (Q : Flt → Prop) : Option Flt → Prop
  | none => P
  | some e => Q e
set_option maxHeartbeats 2000000 in
theorem ropen59 (b : ByteArray) (hb : b.size ≤ 4000) (r lim d p0 : Nat) (D : Int) (hl : lim ≤ b.size) (hp0 : p0 ≤ lim) (L : List Hd) (hL : L.length ≤ 300) (H : AH) (hw : WS b r H L 0 0)
    (hN : ∀ q L1 H1, L1.length ≤ 300 → WS b r H1 L1 0 0 → ACall Try.prog 42 [.ptr r 0, .v (.int .i64 (q : Nat)), .v (.int .i64 (lim : Nat)), .v (.int .i64 D)] H1 (RnodeOut b r L1 (rd b d q lim L1.length))) :
    ACall Try.prog 59 [.ptr r 0, .v (.int .i64 (p0 : Int)), .v (.int .i64 (lim : Int)), .v (.int .i64 D)] H (RopenOut b r L (openC (fun a c => rd b d a lim c) b lim (lim - p0 + 1) p0 L.length [])) := by
  generalize hT : openC (fun a c => rd b d a lim c) b lim (lim - p0 + 1) p0 L.length [] = T
  refine ACall.enter [] Cd.fn59 (by simp) ?_
  simp only [Cd.cd59, Tk.t59, base0, base1, base2, base3, Option.isNone_none, Option.isNone_some, Nat.reduceBEq, true_or, or_true, false_or, or_false, Nat.reduceLT, Nat.reduceMod, Nat.reducePow, rmaps, nsucc, List.flatten_cons, List.flatten_nil, Nat.reduceEqDiff, Nat.reduceLeDiff, Nat.reduceAdd, Nat.reduceMul, Nat.reduceSub, ↓reduceIte, reduceCtorEq, decide_true, decide_false]
  refine LWP.loop [] (fun m f H' => ∃ pp p n acc E, m = mE (lim - p + 1) E ∧ (iE (pp = (p : Int) ∧ p ≤ lim ∧ lim - p + 1 ≤ n ∧ (L ++ flatTs acc).length ≤ 300 ∧ openC (fun a c => rd b d a lim c) b lim n p (L ++ flatTs acc).length acc = T) (fun e => T = .error e ∧ e.2 ≠ 0) E) ∧ f.t 0 = .ptr r 0 ∧ f.t 1 = .v (.int .i64 pp) ∧ f.t 2 = .v (.int .i64 (lim : Nat)) ∧ f.t 3 = .v (.int .i64 D) ∧ f.ds = [] ∧ iE (WS b r H' (L ++ flatTs acc) 0 0) (fun e => ∃ k, L.length ≤ k ∧ WE b r H' k e.1 e.2) E) ?_ ?_ (m := mE (lim - (p0) + 1) ((none : Option Flt)))
  · exact ⟨(p0 : Int), p0, lim - p0 + 1, [], (none : Option Flt), rfl, (⟨rfl, hp0, by omega, by simpa [flatTs] using hL, by simpa [flatTs] using hT⟩), rfl, rfl, rfl, rfl, rfl, by simpa [flatTs, iE] using hw⟩
  · rintro m f H' ⟨pp, p, n, acc, E, rfl, hE, f0, f1, f2, f3, hds, hW⟩
    cases E with
    | some e =>
      obtain ⟨hTe, he⟩ := hE
      obtain ⟨k, hL', hr, nd, hro, hnd⟩ := hW
      have hW' : WE b r H' k e.1 e.2 := ⟨hr, nd, hro, hnd⟩
      simp only [wL] at hro
      simp only [hro, show (e.2 == 0) = false from by simp [he], f0, f1, f2, f3, hds, Cd.cd59, Tk.t59, base0, base1, base2, base3, Option.isNone_none, Option.isNone_some, Nat.reduceBEq, true_or, or_true, false_or, or_false, Nat.reduceLT, Nat.reduceMod, Nat.reducePow, rmaps, nsucc, List.flatten_cons, List.flatten_nil, Nat.reduceEqDiff, Nat.reduceLeDiff, Nat.reduceAdd, Nat.reduceMul, Nat.reduceSub, ↓reduceIte, reduceCtorEq, decide_true, decide_false]
      rw [hTe]
      exact ⟨_, rfl, k, hL', hW'⟩
    | none =>
      obtain ⟨rfl, hp, hn, hlen, hT⟩ := hE
      have hW' := hW
      obtain ⟨hr, nd, hro, hnd, hnm⟩ := hW
      have hro0 := hro
      simp only [wL] at hro
      have hone := one_nd hnd
      obtain ⟨n, rfl⟩ : ∃ n', n = n' + 1 := ⟨n - 1, by omega⟩
      have ep : IntKind.i64.wrap ((p : Int) + 1) = ((p + 1 : Nat) : Int) := wrapS (by omega)
      have e00 : ((0 : Int) == 0) = true := rfl
      by_cases hz : p + 1 < lim ∧ bt b p = 0 ∧ bt b (p + 1) = 0
      · simp only [openC] at hT
        rw [if_pos hz] at hT
        obtain ⟨z1, z2, z3⟩ := hz
        simp only [hro, e00, ep, show decide (((p + 1 : Nat) : Int) < (lim : Int)) = true from decide_eq_true (by omega), Int.toNat_natCast, Int.natCast_nonneg, sget (s := b) (i := p) (by omega), sget (s := b) (i := p + 1) (by omega), z2, z3, show (((0 : Nat) : Int) == 0) = true from rfl, f0, f1, f2, f3, hds, Cd.cd59, Tk.t59, base0, base1, base2, base3, Option.isNone_none, Option.isNone_some, Nat.reduceBEq, true_or, or_true, false_or, or_false, Nat.reduceLT, Nat.reduceMod, Nat.reducePow, rmaps, nsucc, List.flatten_cons, List.flatten_nil, Nat.reduceEqDiff, Nat.reduceLeDiff, Nat.reduceAdd, Nat.reduceMul, Nat.reduceSub, ↓reduceIte, reduceCtorEq, decide_true, decide_false]
        rw [← hT]
        exact ⟨_, rfl, by rw [wrapI (by omega) (by omega)]; omega, hW'⟩
      · have hz' : (¬ p + 1 < lim) ∨ (p + 1 < lim ∧ bt b p ≠ 0) ∨ (p + 1 < lim ∧ bt b p = 0 ∧ bt b (p + 1) ≠ 0) := by omega
        have hTn : ¬ lim ≤ p → (match rd b d p lim (L ++ flatTs acc).length with
            | .error e => .error e
            | .ok (t, c) => openC (fun a c => rd b d a lim c) b lim n t.h.fin c (acc ++ [t])) = T := fun hq => by
          rw [openC, if_neg hz, if_neg hq] at hT; exact hT
        rcases hz' with z1 | ⟨z1, z2⟩ | ⟨z1, z2, z3⟩
        · simp only [hro, e00, ep, show decide (((p + 1 : Nat) : Int) < (lim : Int)) = false from decide_eq_false (by omega), f0, f1, f2, f3, hds, Cd.cd59, Tk.t59, base0, base1, base2, base3, Option.isNone_none, Option.isNone_some, Nat.reduceBEq, true_or, or_true, false_or, or_false, Nat.reduceLT, Nat.reduceMod, Nat.reducePow, rmaps, nsucc, List.flatten_cons, List.flatten_nil, Nat.reduceEqDiff, Nat.reduceLeDiff, Nat.reduceAdd, Nat.reduceMul, Nat.reduceSub, ↓reduceIte, reduceCtorEq, decide_true, decide_false]
          by_cases hpl : lim ≤ p
          · rw [openC_end hpl] at hT
            rw [← hT]
            simp only [show decide ((p : Int) ≥ (lim : Int)) = true from decide_eq_true (by omega), f0, f1, f2, f3, hds, Cd.cd59, Tk.t59, base0, base1, base2, base3, Option.isNone_none, Option.isNone_some, Nat.reduceBEq, true_or, or_true, false_or, or_false, Nat.reduceLT, Nat.reduceMod, Nat.reducePow, rmaps, nsucc, List.flatten_cons, List.flatten_nil, Nat.reduceEqDiff, Nat.reduceLeDiff, Nat.reduceAdd, Nat.reduceMul, Nat.reduceSub, ↓reduceIte, reduceCtorEq, decide_true, decide_false]
            refine rfail.go (rfail41 b nd r lim 39 hone _ hro0) fun H1 h1 hk => ?_
            simp only [f0, f1, f2, f3, hds, Cd.cd59, Tk.t59, base0, base1, base2, base3, Option.isNone_none, Option.isNone_some, Nat.reduceBEq, true_or, or_true, false_or, or_false, Nat.reduceLT, Nat.reduceMod, Nat.reducePow, rmaps, nsucc, List.flatten_cons, List.flatten_nil, Nat.reduceEqDiff, Nat.reduceLeDiff, Nat.reduceAdd, Nat.reduceMul, Nat.reduceSub, ↓reduceIte, reduceCtorEq, decide_true, decide_false]
            exact ⟨_, rfl, _, by simp, (hW'.kp hro0 h1 hk).we⟩
          · have hTn := hTn hpl
            simp only [show decide ((p : Int) ≥ (lim : Int)) = false from decide_eq_false (by omega), f0, f1, f2, f3, hds, Cd.cd59, Tk.t59, base0, base1, base2, base3, Option.isNone_none, Option.isNone_some, Nat.reduceBEq, true_or, or_true, false_or, or_false, Nat.reduceLT, Nat.reduceMod, Nat.reducePow, rmaps, nsucc, List.flatten_cons, List.flatten_nil, Nat.reduceEqDiff, Nat.reduceLeDiff, Nat.reduceAdd, Nat.reduceMul, Nat.reduceSub, ↓reduceIte, reduceCtorEq, decide_true, decide_false]
            refine RnodeOut.go (hN p _ H' hlen hW') (fun e pp k H1 he hl' hW1 => ?_) (fun t c H1 he hW1 => ?_)
            · rw [he] at hTn
              simp only [f0, f1, f2, f3, hds, Cd.cd59, Tk.t59, base0, base1, base2, base3, Option.isNone_none, Option.isNone_some, Nat.reduceBEq, true_or, or_true, false_or, or_false, Nat.reduceLT, Nat.reduceMod, Nat.reducePow, rmaps, nsucc, List.flatten_cons, List.flatten_nil, Nat.reduceEqDiff, Nat.reduceLeDiff, Nat.reduceAdd, Nat.reduceMul, Nat.reduceSub, ↓reduceIte, reduceCtorEq, decide_true, decide_false]
              exact ⟨0, by show 0 < lim - p + 1; omega, pp, p, n, acc, some e, rfl, ⟨hTn.symm, rd_err b d lim p _ e he⟩, rfl, k, by simp at hl'; omega, hW1⟩
            · have hok := rd_ok b d lim p _ t c he
              have hln := rd_len b d lim p _ t c he
              rw [he] at hTn
              simp only [f0, f1, f2, f3, hds, Cd.cd59, Tk.t59, base0, base1, base2, base3, Option.isNone_none, Option.isNone_some, Nat.reduceBEq, true_or, or_true, false_or, or_false, Nat.reduceLT, Nat.reduceMod, Nat.reducePow, rmaps, nsucc, List.flatten_cons, List.flatten_nil, Nat.reduceEqDiff, Nat.reduceLeDiff, Nat.reduceAdd, Nat.reduceMul, Nat.reduceSub, ↓reduceIte, reduceCtorEq, decide_true, decide_false]
              refine ⟨_, ?_, (t.h.fin : Int), t.h.fin, n, acc ++ [t], none, rfl, ⟨rfl, by omega, by omega, ?_, ?_⟩, rfl, ?_⟩
              · show lim - t.h.fin + 1 < lim - p + 1; omega
              · rw [flatTs_append, flatTs_one, ← List.append_assoc, List.length_append]; omega
              · rw [flatTs_append, flatTs_one, ← List.append_assoc, List.length_append, ← hln]; exact hTn
              · rw [flatTs_append, flatTs_one, ← List.append_assoc]; exact hW1
        · simp only [hro, e00, ep, show decide (((p + 1 : Nat) : Int) < (lim : Int)) = true from decide_eq_true (by omega), Int.toNat_natCast, Int.natCast_nonneg, sget (s := b) (i := p) (by omega), show (((bt b p : Nat) : Int) == 0) = false from by simp; omega, f0, f1, f2, f3, hds, Cd.cd59, Tk.t59, base0, base1, base2, base3, Option.isNone_none, Option.isNone_some, Nat.reduceBEq, true_or, or_true, false_or, or_false, Nat.reduceLT, Nat.reduceMod, Nat.reducePow, rmaps, nsucc, List.flatten_cons, List.flatten_nil, Nat.reduceEqDiff, Nat.reduceLeDiff, Nat.reduceAdd, Nat.reduceMul, Nat.reduceSub, ↓reduceIte, reduceCtorEq, decide_true, decide_false]
          by_cases hpl : lim ≤ p
          · rw [openC_end hpl] at hT
            rw [← hT]
            simp only [show decide ((p : Int) ≥ (lim : Int)) = true from decide_eq_true (by omega), f0, f1, f2, f3, hds, Cd.cd59, Tk.t59, base0, base1, base2, base3, Option.isNone_none, Option.isNone_some, Nat.reduceBEq, true_or, or_true, false_or, or_false, Nat.reduceLT, Nat.reduceMod, Nat.reducePow, rmaps, nsucc, List.flatten_cons, List.flatten_nil, Nat.reduceEqDiff, Nat.reduceLeDiff, Nat.reduceAdd, Nat.reduceMul, Nat.reduceSub, ↓reduceIte, reduceCtorEq, decide_true, decide_false]
            refine rfail.go (rfail41 b nd r lim 39 hone _ hro0) fun H1 h1 hk => ?_
            simp only [f0, f1, f2, f3, hds, Cd.cd59, Tk.t59, base0, base1, base2, base3, Option.isNone_none, Option.isNone_some, Nat.reduceBEq, true_or, or_true, false_or, or_false, Nat.reduceLT, Nat.reduceMod, Nat.reducePow, rmaps, nsucc, List.flatten_cons, List.flatten_nil, Nat.reduceEqDiff, Nat.reduceLeDiff, Nat.reduceAdd, Nat.reduceMul, Nat.reduceSub, ↓reduceIte, reduceCtorEq, decide_true, decide_false]
            exact ⟨_, rfl, _, by simp, (hW'.kp hro0 h1 hk).we⟩
          · have hTn := hTn hpl
            simp only [show decide ((p : Int) ≥ (lim : Int)) = false from decide_eq_false (by omega), f0, f1, f2, f3, hds, Cd.cd59, Tk.t59, base0, base1, base2, base3, Option.isNone_none, Option.isNone_some, Nat.reduceBEq, true_or, or_true, false_or, or_false, Nat.reduceLT, Nat.reduceMod, Nat.reducePow, rmaps, nsucc, List.flatten_cons, List.flatten_nil, Nat.reduceEqDiff, Nat.reduceLeDiff, Nat.reduceAdd, Nat.reduceMul, Nat.reduceSub, ↓reduceIte, reduceCtorEq, decide_true, decide_false]
            refine RnodeOut.go (hN p _ H' hlen hW') (fun e pp k H1 he hl' hW1 => ?_) (fun t c H1 he hW1 => ?_)
            · rw [he] at hTn
              simp only [f0, f1, f2, f3, hds, Cd.cd59, Tk.t59, base0, base1, base2, base3, Option.isNone_none, Option.isNone_some, Nat.reduceBEq, true_or, or_true, false_or, or_false, Nat.reduceLT, Nat.reduceMod, Nat.reducePow, rmaps, nsucc, List.flatten_cons, List.flatten_nil, Nat.reduceEqDiff, Nat.reduceLeDiff, Nat.reduceAdd, Nat.reduceMul, Nat.reduceSub, ↓reduceIte, reduceCtorEq, decide_true, decide_false]
              exact ⟨0, by show 0 < lim - p + 1; omega, pp, p, n, acc, some e, rfl, ⟨hTn.symm, rd_err b d lim p _ e he⟩, rfl, k, by simp at hl'; omega, hW1⟩
            · have hok := rd_ok b d lim p _ t c he
              have hln := rd_len b d lim p _ t c he
              rw [he] at hTn
              simp only [f0, f1, f2, f3, hds, Cd.cd59, Tk.t59, base0, base1, base2, base3, Option.isNone_none, Option.isNone_some, Nat.reduceBEq, true_or, or_true, false_or, or_false, Nat.reduceLT, Nat.reduceMod, Nat.reducePow, rmaps, nsucc, List.flatten_cons, List.flatten_nil, Nat.reduceEqDiff, Nat.reduceLeDiff, Nat.reduceAdd, Nat.reduceMul, Nat.reduceSub, ↓reduceIte, reduceCtorEq, decide_true, decide_false]
              refine ⟨_, ?_, (t.h.fin : Int), t.h.fin, n, acc ++ [t], none, rfl, ⟨rfl, by omega, by omega, ?_, ?_⟩, rfl, ?_⟩
              · show lim - t.h.fin + 1 < lim - p + 1; omega
              · rw [flatTs_append, flatTs_one, ← List.append_assoc, List.length_append]; omega
              · rw [flatTs_append, flatTs_one, ← List.append_assoc, List.length_append, ← hln]; exact hTn
              · rw [flatTs_append, flatTs_one, ← List.append_assoc]; exact hW1
        · simp only [hro, e00, ep, show decide (((p + 1 : Nat) : Int) < (lim : Int)) = true from decide_eq_true (by omega), Int.toNat_natCast, Int.natCast_nonneg, sget (s := b) (i := p) (by omega), sget (s := b) (i := p + 1) (by omega), z2, show (((bt b (p + 1) : Nat) : Int) == 0) = false from by simp; omega, show (((0 : Nat) : Int) == 0) = true from rfl, f0, f1, f2, f3, hds, Cd.cd59, Tk.t59, base0, base1, base2, base3, Option.isNone_none, Option.isNone_some, Nat.reduceBEq, true_or, or_true, false_or, or_false, Nat.reduceLT, Nat.reduceMod, Nat.reducePow, rmaps, nsucc, List.flatten_cons, List.flatten_nil, Nat.reduceEqDiff, Nat.reduceLeDiff, Nat.reduceAdd, Nat.reduceMul, Nat.reduceSub, ↓reduceIte, reduceCtorEq, decide_true, decide_false]
          by_cases hpl : lim ≤ p
          · rw [openC_end hpl] at hT
            rw [← hT]
            simp only [show decide ((p : Int) ≥ (lim : Int)) = true from decide_eq_true (by omega), f0, f1, f2, f3, hds, Cd.cd59, Tk.t59, base0, base1, base2, base3, Option.isNone_none, Option.isNone_some, Nat.reduceBEq, true_or, or_true, false_or, or_false, Nat.reduceLT, Nat.reduceMod, Nat.reducePow, rmaps, nsucc, List.flatten_cons, List.flatten_nil, Nat.reduceEqDiff, Nat.reduceLeDiff, Nat.reduceAdd, Nat.reduceMul, Nat.reduceSub, ↓reduceIte, reduceCtorEq, decide_true, decide_false]
            refine rfail.go (rfail41 b nd r lim 39 hone _ hro0) fun H1 h1 hk => ?_
            simp only [f0, f1, f2, f3, hds, Cd.cd59, Tk.t59, base0, base1, base2, base3, Option.isNone_none, Option.isNone_some, Nat.reduceBEq, true_or, or_true, false_or, or_false, Nat.reduceLT, Nat.reduceMod, Nat.reducePow, rmaps, nsucc, List.flatten_cons, List.flatten_nil, Nat.reduceEqDiff, Nat.reduceLeDiff, Nat.reduceAdd, Nat.reduceMul, Nat.reduceSub, ↓reduceIte, reduceCtorEq, decide_true, decide_false]
            exact ⟨_, rfl, _, by simp, (hW'.kp hro0 h1 hk).we⟩
          · have hTn := hTn hpl
            simp only [show decide ((p : Int) ≥ (lim : Int)) = false from decide_eq_false (by omega), f0, f1, f2, f3, hds, Cd.cd59, Tk.t59, base0, base1, base2, base3, Option.isNone_none, Option.isNone_some, Nat.reduceBEq, true_or, or_true, false_or, or_false, Nat.reduceLT, Nat.reduceMod, Nat.reducePow, rmaps, nsucc, List.flatten_cons, List.flatten_nil, Nat.reduceEqDiff, Nat.reduceLeDiff, Nat.reduceAdd, Nat.reduceMul, Nat.reduceSub, ↓reduceIte, reduceCtorEq, decide_true, decide_false]
            refine RnodeOut.go (hN p _ H' hlen hW') (fun e pp k H1 he hl' hW1 => ?_) (fun t c H1 he hW1 => ?_)
            · rw [he] at hTn
              simp only [f0, f1, f2, f3, hds, Cd.cd59, Tk.t59, base0, base1, base2, base3, Option.isNone_none, Option.isNone_some, Nat.reduceBEq, true_or, or_true, false_or, or_false, Nat.reduceLT, Nat.reduceMod, Nat.reducePow, rmaps, nsucc, List.flatten_cons, List.flatten_nil, Nat.reduceEqDiff, Nat.reduceLeDiff, Nat.reduceAdd, Nat.reduceMul, Nat.reduceSub, ↓reduceIte, reduceCtorEq, decide_true, decide_false]
              exact ⟨0, by show 0 < lim - p + 1; omega, pp, p, n, acc, some e, rfl, ⟨hTn.symm, rd_err b d lim p _ e he⟩, rfl, k, by simp at hl'; omega, hW1⟩
            · have hok := rd_ok b d lim p _ t c he
              have hln := rd_len b d lim p _ t c he
              rw [he] at hTn
              simp only [f0, f1, f2, f3, hds, Cd.cd59, Tk.t59, base0, base1, base2, base3, Option.isNone_none, Option.isNone_some, Nat.reduceBEq, true_or, or_true, false_or, or_false, Nat.reduceLT, Nat.reduceMod, Nat.reducePow, rmaps, nsucc, List.flatten_cons, List.flatten_nil, Nat.reduceEqDiff, Nat.reduceLeDiff, Nat.reduceAdd, Nat.reduceMul, Nat.reduceSub, ↓reduceIte, reduceCtorEq, decide_true, decide_false]
              refine ⟨_, ?_, (t.h.fin : Int), t.h.fin, n, acc ++ [t], none, rfl, ⟨rfl, by omega, by omega, ?_, ?_⟩, rfl, ?_⟩
              · show lim - t.h.fin + 1 < lim - p + 1; omega
              · rw [flatTs_append, flatTs_one, ← List.append_assoc, List.length_append]; omega
              · rw [flatTs_append, flatTs_one, ← List.append_assoc, List.length_append, ← hln]; exact hTn
              · rw [flatTs_append, flatTs_one, ← List.append_assoc]; exact hW1
end Go.Proofs.Ytmjjfdppaomcfaa

/- Walks: the reference reads nodes. -/
namespace Go.Proofs.Ytmjjfdppaomcfaa
open Go Go.Proofs.Ytmjjfdppaomcfaa.Ab
set_option maxRecDepth 100000
set_option linter.unusedSimpArgs false

section
variable {P : Program} {mu : List Nat} {K : Kont} {f : AF} {H : AH} {m : FuncId} {args : List AV} {dst : Option Nat} {os : List COp} {b : ByteArray} {nd : AV} {r : Nat}
theorem RidOut.ok {x : Except Flt (Nat × Nat × Bool × Nat)} {c n p : Nat} {bl : Bool} (h : ACall P m args H (RidOut b nd r H x)) (hx : x = .ok (c, n, bl, p))
    (hr : ∀ H1, Kp H H1 (· = r) → H1.own r = some (.cells (wL b nd 0 0)) → cops P mu K os (f.put dst (.tup [.agg [.v (.int .i64 (c : Int)), .v (.int .i64 (n : Int))], .v (.bool bl), .v (.int .i64 (p : Int))])) H1) : ACall P m args H (callK P mu K dst os f) :=
  h.mono fun out H1 hq => by
    subst hx
    obtain ⟨hk, c', n', bl', p', rfl, rfl, rfl, rfl, rfl, ho⟩ := hq
    exact hr H1 hk ho
theorem RidOut.err {x : Except Flt (Nat × Nat × Bool × Nat)} {e : Flt} (h : ACall P m args H (RidOut b nd r H x)) (hx : x = .error e)
    (hr : ∀ (c n : Int) bl (p : Int) H1, Kp H H1 (· = r) → H1.own r = some (.cells (wL b nd e.1 e.2)) → cops P mu K os (f.put dst (.tup [.agg [.v (.int .i64 c), .v (.int .i64 n)], .v (.bool bl), .v (.int .i64 p)])) H1) : ACall P m args H (callK P mu K dst os f) :=
  h.mono fun out H1 hq => by
    subst hx
    obtain ⟨hk, c', n', bl', p', rfl, ho⟩ := hq
    exact hr c' n' bl' p' H1 hk ho
theorem RlenOut.ok {x : Except Flt (Option Nat × Nat)} {o : Option Nat} {p : Nat} (h : ACall P m args H (RlenOut b nd r H x)) (hx : x = .ok (o, p))
    (hr : ∀ H1, Kp H H1 (· = r) → H1.own r = some (.cells (wL b nd 0 0)) → cops P mu K os (f.put dst (.tup [.v (.int .i64 (lenI o)), .v (.int .i64 (p : Int))])) H1) : ACall P m args H (callK P mu K dst os f) :=
  h.mono fun out H1 hq => by
    subst hx
    obtain ⟨hk, n', p', rfl, rfl, rfl, ho⟩ := hq
    exact hr H1 hk ho
theorem RlenOut.err {x : Except Flt (Option Nat × Nat)} {e : Flt} (h : ACall P m args H (RlenOut b nd r H x)) (hx : x = .error e)
    (hr : ∀ (n p : Int) H1, Kp H H1 (· = r) → H1.own r = some (.cells (wL b nd e.1 e.2)) → cops P mu K os (f.put dst (.tup [.v (.int .i64 n), .v (.int .i64 p)])) H1) : ACall P m args H (callK P mu K dst os f) :=
  h.mono fun out H1 hq => by
    subst hx
    obtain ⟨hk, n', p', rfl, ho⟩ := hq
    exact hr n' p' H1 hk ho
end

theorem RopenOut.go {P : Program} {mu : List Nat} {K : Kont} {f : AF} {H : AH} {m : FuncId} {args : List AV} {dst : Option Nat} {os : List COp} {b : ByteArray} {r : Nat} {L : List Hd} {x : Except Flt (List Tree × Nat × Nat)} (h : ACall P m args H (RopenOut b r L x))
    (hp : ∀ e (p : Int) k H1, x = .error e → L.length ≤ k → WE b r H1 k e.1 e.2 → cops P mu K os (f.put dst (.v (.int .i64 p))) H1)
    (hr : ∀ l s c H1, x = .ok (l, s, c) → WS b r H1 (L ++ flatTs l) 0 0 → cops P mu K os (f.put dst (.v (.int .i64 ((s + 2 : Nat) : Int)))) H1) : ACall P m args H (callK P mu K dst os f) :=
  h.mono fun out H1 hq => by
    obtain ⟨p, rfl, hx⟩ := hq
    cases x with
    | error e => obtain ⟨k, h1, h2⟩ := hx; exact hp e p k H1 rfl h1 h2
    | ok y => obtain ⟨l, s, c⟩ := y; obtain ⟨rfl, ho⟩ := hx; exact hr l s c H1 rfl ho
theorem WS.ext {b : ByteArray} {r : Nat} {H H' : AH} {L : List Hd} {a e : Int} (h : WS b r H L a e) (hn : H.next ≤ H'.next) (ho : ∀ n, n < H.next → H'.own n = H.own n) : WS b r H' L a e := by
  obtain ⟨h1, nd, h2, h3, h4⟩ := h
  exact ⟨by omega, nd, (ho r h1).trans h2, h3.mono fun n e => ho n (h4 n e).2, fun n e => ⟨(h4 n e).1, by have := (h4 n e).2; omega⟩⟩
theorem arr_cases {α : Type} {enc : α → List AV} {k : Nat} {H : AH} {a : AV} {l : List α} (h : Arr enc k H a l) : (a = nilS ∧ l = []) ∨ (a = .lst k [] .full ∧ l = []) ∨ ∃ n rest, a = .sl k n 0 l.length ∧ H.own n = some (.cells (flatE enc l ++ rest)) := by
  rcases h with ⟨h1, h2 | h2⟩ | h
  · exact .inl ⟨h2, h1⟩
  · exact .inr (.inl ⟨h2, h1⟩)
  · exact .inr (.inr h)
def restB42 : CC := dropS 9 Cd.cd42
def restC42 : CC := dropS 12 Cd.cd42
theorem restB_eq : restB42 = putS 3 (dropS 9 Cd.cd42) restC42 := (putS_drop 3 (dropS 9 Cd.cd42)).symm
set_option maxHeartbeats 2000000 in
theorem tailB42 (b : ByteArray) (hb : b.size ≤ 4000) (r m1 lim p p1 p2 cls num D : Nat) (bl : Bool) (on : Option Nat) (L : List Hd) (hL : L.length ≤ 300) (K : Kont) (f : AF) (H : AH) (hm : m1 ≠ r) (hm1 : m1 < H.next)
    (f0 : f.t 0 = .ptr r 0) (f1 : f.t 1 = .v (.int .i64 (p : Nat))) (f2 : f.t 2 = .v (.int .i64 (lim : Nat))) (f3 : f.t 3 = .v (.int .i64 (D : Nat))) (f9 : f.t 9 = .ptr m1 0) (f10 : f.t 10 = .v (.bool bl)) (f11 : f.t 11 = .v (.int .i64 (p2 : Nat))) (f13 : f.t 13 = .v (.int .i64 (lenI on))) (hds : f.ds = [])
    (hW : WS b r H L 0 0) (hloc : H.own m1 = some (.cells [.v (.int .i64 (cls : Nat)), .v (.int .i64 (num : Nat))]))
    (hC : ∀ (f' : AF) (H' : AH), f'.t 0 = .ptr r 0 → f'.t 2 = .v (.int .i64 (lim : Nat)) → f'.t 3 = .v (.int .i64 (D : Nat)) → f'.t 10 = .v (.bool bl) → f'.t 11 = .v (.int .i64 (p2 : Nat)) → f'.t 13 = .v (.int .i64 (lenI on)) → f'.t 14 = .v (.int .i64 (L.length : Nat)) → f'.t 15 = .v (.int .i64 (IntKind.i64.wrap ((p2 : Int) + lenI on))) → f'.ds = [] →
      WS b r H' (L ++ [⟨cls, num, bl, on.isNone, p, p1, p2, 0, 0, D⟩]) 0 0 → cwp Try.prog [108] 177 restC42 K f' H') : cwp Try.prog [108] 177 restB42 K f H := by
  rw [restB_eq]
  obtain ⟨hr, nd, hro, hnd, hnm⟩ := hW
  simp only [wL] at hro
  have r3 : (r = H.next) = False := eq_false (by omega)
  have r4 : (H.next = r) = False := eq_false (by omega)
  have m3 : (m1 = r) = False := eq_false hm
  have m4 : (m1 = H.next) = False := eq_false (by omega)
  have eon : (lenI on == -1) = on.isNone := by cases on with
    | none => rfl
    | some n => simp only [lenI, Option.isNone_some]; rw [beq_eq_false_iff_ne]; omega
  rcases arr_cases hnd with ⟨rfl, rfl⟩ | ⟨rfl, rfl⟩ | ⟨n, rest, rfl, hn3⟩
  · simp only [putS, dropS, f0, f1, f2, f3, f9, f10, f11, f13, hds, hro, hloc, nilS, r3, r4, m3, m4, eon, show roomA 64 1 = true from rfl, Cd.cd42, Tk.t42, base0, base1, base2, base3, Option.isNone_none, Option.isNone_some, Nat.reduceBEq, true_or, or_true, false_or, or_false, Nat.reduceLT, Nat.reduceMod, Nat.reducePow, rmaps, nsucc, List.flatten_cons, List.flatten_nil, Nat.reduceEqDiff, Nat.reduceLeDiff, Nat.reduceAdd, Nat.reduceMul, Nat.reduceSub, ↓reduceIte, reduceCtorEq, decide_true, decide_false]
    refine hC _ _ (by simp [upd, f0]) (by simp [upd, f2]) (by simp [upd, f3]) (by simp [upd, f10]) (by simp [upd, f11]) (by simp [upd, f13]) (by simp [upd]) (by simp [upd]) rfl ⟨by simp; omega, .sl 9 H.next 0 1, by simp [wL], .inr ⟨H.next, [], by simp, ?_⟩, fun n e => by cases e; simp; omega⟩
    simp [r4, flatE, nodeL]
  · simp only [putS, dropS, f0, f1, f2, f3, f9, f10, f11, f13, hds, hro, hloc, nilS, r3, r4, m3, m4, eon, show roomA 64 1 = true from rfl, Cd.cd42, Tk.t42, base0, base1, base2, base3, Option.isNone_none, Option.isNone_some, Nat.reduceBEq, true_or, or_true, false_or, or_false, Nat.reduceLT, Nat.reduceMod, Nat.reducePow, rmaps, nsucc, List.flatten_cons, List.flatten_nil, Nat.reduceEqDiff, Nat.reduceLeDiff, Nat.reduceAdd, Nat.reduceMul, Nat.reduceSub, ↓reduceIte, reduceCtorEq, decide_true, decide_false]
    refine hC _ _ (by simp [upd, f0]) (by simp [upd, f2]) (by simp [upd, f3]) (by simp [upd, f10]) (by simp [upd, f11]) (by simp [upd, f13]) (by simp [upd]) (by simp [upd]) rfl ⟨by simp; omega, .sl 9 H.next 0 1, by simp [wL], .inr ⟨H.next, [], by simp, ?_⟩, fun n e => by cases e; simp; omega⟩
    simp [r4, flatE, nodeL]
  · have hnn := (hnm n rfl)
    have n1 : (n = r) = False := eq_false hnn.1
    have n2 : (n = H.next) = False := eq_false (by omega)
    have n3 : (r = n) = False := eq_false (Ne.symm hnn.1)
    have n4 : (H.next = n) = False := eq_false (by omega)
    have eln : L.length * 9 ≤ (flatE nodeL L ++ rest).length := by rw [List.length_append, flatE_len nodeL_len]; omega
    have etk : List.take (L.length * 9) (flatE nodeL L ++ rest) = flatE nodeL L := by rw [← flatE_len nodeL_len, List.take_left]
    simp only [putS, dropS, f0, f1, f2, f3, f9, f10, f11, f13, hds, hro, hloc, nilS, r3, r4, m3, m4, eon, hn3, n1, n2, n3, n4, eln, etk, room1 (b := 64) (n := L.length) (by omega) (by omega), Cd.cd42, Tk.t42, base0, base1, base2, base3, Option.isNone_none, Option.isNone_some, Nat.reduceBEq, true_or, or_true, false_or, or_false, Nat.reduceLT, Nat.reduceMod, Nat.reducePow, rmaps, nsucc, List.flatten_cons, List.flatten_nil, Nat.reduceEqDiff, Nat.reduceLeDiff, Nat.reduceAdd, Nat.reduceMul, Nat.reduceSub, ↓reduceIte, reduceCtorEq, decide_true, decide_false]
    refine hC _ _ (by simp [upd, f0]) (by simp [upd, f2]) (by simp [upd, f3]) (by simp [upd, f10]) (by simp [upd, f11]) (by simp [upd, f13]) (by simp [upd]) (by simp [upd]) rfl ⟨by simp; omega, .sl 9 H.next 0 (L.length + 1), by simp [wL], .inr ⟨H.next, [], by simp, ?_⟩, fun n e => by cases e; simp; omega⟩
    simp [r4, n4, flatE, nodeL]
end Go.Proofs.Ytmjjfdppaomcfaa

/- Walks: the reference's nodes, their ends. -/
namespace Go.Proofs.Ytmjjfdppaomcfaa
open Go Go.Proofs.Ytmjjfdppaomcfaa.Ab
set_option maxRecDepth 100000
set_option linter.unusedSimpArgs false

theorem getD_set {α : Type} [Inhabited α] {l : List α} {i j : Nat} {x : α} (h : i < l.length) : (l.set i x).getD j default = if i = j then x else l.getD j default := by
  rw [List.getD_eq_getElem?_getD, List.getElem?_set]
  split
  · simp [h]
  · rw [← List.getD_eq_getElem?_getD]
theorem getD_mid {α : Type} [Inhabited α] (L M : List α) (x : α) : (L ++ [x] ++ M).getD L.length default = x := by
  rw [List.append_assoc, List.getD_eq_getElem?_getD, List.getElem?_append_right (Nat.le_refl _)]; simp
theorem set_mid {α : Type} (L M : List α) (x y : α) : (L ++ [x] ++ M).set L.length y = L ++ [y] ++ M := by
  rw [List.append_assoc, List.set_append_right _ _ (Nat.le_refl _)]; simp
theorem len_mid {α : Type} (L M : List α) (x : α) : L.length < (L ++ [x] ++ M).length := by simp

theorem WE.at {b : ByteArray} {r k : Nat} {H : AH} {a e : Int} (h : WE b r H k a e) (hk : 0 < k) : ∃ n l, H.own r = some (.cells [.v (.string b), .sl 9 n 0 k, .v (.int .i64 a), .v (.int .i64 e)]) ∧ H.own n = some (.cells l) ∧ k * 9 ≤ l.length ∧ n ≠ r ∧ n < H.next ∧ r < H.next := by
  obtain ⟨h1, nd, h2, ⟨rfl, _⟩ | ⟨n, l, rfl, h3, h4, h5, h6⟩⟩ := h
  · omega
  · exact ⟨n, l, h2, h3, h4, h5, h6, h1⟩
theorem WS.at {b : ByteArray} {r : Nat} {H : AH} {L : List Hd} {a e : Int} (h : WS b r H L a e) (hk : 0 < L.length) : ∃ n rest, H.own r = some (.cells [.v (.string b), .sl 9 n 0 L.length, .v (.int .i64 a), .v (.int .i64 e)]) ∧ H.own n = some (.cells (flatE nodeL L ++ rest)) ∧ n ≠ r ∧ n < H.next ∧ r < H.next := by
  obtain ⟨h1, nd, h2, h3, h4⟩ := h
  obtain ⟨n, rest, rfl, hn⟩ := h3.own hk
  exact ⟨n, rest, h2, hn, (h4 n rfl).1, (h4 n rfl).2, h1⟩
set_option maxHeartbeats 2000000 in
theorem tailO42 (b : ByteArray) (hb : b.size ≤ 4000) (r lim p p1 p2 cls num D d : Nat) (bl : Bool) (L : List Hd) (hL : L.length + 1 ≤ 300) (hl : lim ≤ b.size) (hp2 : p2 ≤ lim) (hD : D < 20) (X : Except Flt (Tree × Nat)) (f : AF) (H : AH)
    (f0 : f.t 0 = .ptr r 0) (f2 : f.t 2 = .v (.int .i64 (lim : Nat))) (f3 : f.t 3 = .v (.int .i64 (D : Nat))) (f11 : f.t 11 = .v (.int .i64 (p2 : Nat))) (f13 : f.t 13 = .v (.int .i64 (lenI none))) (f14 : f.t 14 = .v (.int .i64 (L.length : Nat))) (hds : f.ds = [])
    (hW : WS b r H (L ++ [⟨cls, num, bl, true, p, p1, p2, 0, 0, D⟩]) 0 0)
    (hX : X = match openC (fun a c => rd b d a lim c) b lim (lim - p2 + 1) p2 (L.length + 1) [] with
            | .error e => .error e
            | .ok (kids, stop, c) => .ok (.mk ⟨cls, num, bl, true, p, p1, p2, stop, stop + 2, D⟩ kids, c))
    (hN : ∀ q L1 H1, L1.length ≤ 300 → WS b r H1 L1 0 0 → ACall Try.prog 42 [.ptr r 0, .v (.int .i64 (q : Nat)), .v (.int .i64 (lim : Nat)), .v (.int .i64 ((D + 1 : Nat) : Int))] H1 (RnodeOut b r L1 (rd b d q lim L1.length))) :
    cwp Try.prog [108] 177 restC42 (Kont.fin Try.prog [ResultVar.tmp 8] (RnodeOut b r L X)) f H := by
  generalize hh0 : (⟨cls, num, bl, true, p, p1, p2, 0, 0, D⟩ : Hd) = h0 at hW
  have hL1 : (L ++ [h0]).length = L.length + 1 := by simp
  have hop := ropen59 b hb r lim d p2 ((D + 1 : Nat) : Int) hl hp2 (L ++ [h0]) (by omega) H hW hN
  rw [hL1] at hop
  have hb2 := fun {l s c} (h : openC (fun a c => rd b d a lim c) b lim (lim - p2 + 1) p2 (L.length + 1) [] = .ok (l, s, c)) => openC_ok (rd_ok b d lim) h (by omega)
  generalize hT : openC (fun a c => rd b d a lim c) b lim (lim - p2 + 1) p2 (L.length + 1) [] = T at hop hX hb2
  unfold restC42
  simp only [dropS, f0, f2, f3, f11, f13, f14, hds, lenI, show ((-1 : Int) == -1) = true from rfl, wrapS (show D < 2 ^ 62 by omega), Cd.cd42, Tk.t42, base0, base1, base2, base3, Option.isNone_none, Option.isNone_some, Nat.reduceBEq, true_or, or_true, false_or, or_false, Nat.reduceLT, Nat.reduceMod, Nat.reducePow, rmaps, nsucc, List.flatten_cons, List.flatten_nil, Nat.reduceEqDiff, Nat.reduceLeDiff, Nat.reduceAdd, Nat.reduceMul, Nat.reduceSub, ↓reduceIte, reduceCtorEq, decide_true, decide_false]
  refine RopenOut.go hop (fun e q k H1 he hl' hW1 => ?_) (fun l s c H1 he hW1 => ?_)
  · have hXe : X = .error e := by rw [hX, he]
    obtain ⟨n, l, g1, g2, g3, g4, g5, g6⟩ := hW1.at (by omega)
    have n1 : (n = r) = False := eq_false g4
    have n2 : (r = n) = False := eq_false (Ne.symm g4)
    have hlen : ∀ v : AV, (List.take (L.length * 9 + 7) l ++ v :: List.drop (L.length * 9 + 7 + 1) l).length = l.length := fun v => by simp; omega
    simp only [f0, f14, hds, g1, g2, n1, n2, hlen, Int.toNat_natCast, Int.natCast_nonneg, show ((L.length : Int) < (k : Int)) = True from eq_true (by omega), show (L.length * 9 + 7 + 1 ≤ l.length) = True from eq_true (by omega), show (L.length * 9 + 8 + 1 ≤ l.length) = True from eq_true (by omega), Cd.cd42, Tk.t42, base0, base1, base2, base3, Option.isNone_none, Option.isNone_some, Nat.reduceBEq, true_or, or_true, false_or, or_false, Nat.reduceLT, Nat.reduceMod, Nat.reducePow, rmaps, nsucc, List.flatten_cons, List.flatten_nil, Nat.reduceEqDiff, Nat.reduceLeDiff, Nat.reduceAdd, Nat.reduceMul, Nat.reduceSub, ↓reduceIte, reduceCtorEq, decide_true, decide_false]
    rw [hXe]
    exact ⟨q, rfl, k, by omega, g6, .sl 9 n 0 k, by simp [n2, g1, wL], .inr ⟨n, _, rfl, by simp; rfl, by simp; omega, g4, g5⟩⟩
  · have hbo := hb2 he
    have hXe : X = .ok (.mk ⟨cls, num, bl, true, p, p1, p2, s, s + 2, D⟩ l, c) := by rw [hX, he]
    obtain ⟨n, rest, g1, g2, g4, g5, g6⟩ := hW1.at (by simp; omega)
    have n1 : (n = r) = False := eq_false g4
    have n2 : (r = n) = False := eq_false (Ne.symm g4)
    have hlt := len_mid L (flatTs l) h0
    have hg0 := getD_mid L (flatTs l) h0
    generalize hLL : L ++ [h0] ++ flatTs l = LL at *
    have w2 : IntKind.i64.wrap (((s + 2 : Nat) : Int) - 2) = (s : Int) := by rw [wrapI (by omega) (by omega)]; omega
    have l7 : L.length * 9 + 7 + 1 ≤ (flatE nodeL LL ++ rest).length := by rw [List.length_append, flatE_len nodeL_len]; omega
    have s7 := flatE_splice (enc := nodeL) (k := 9) (rest := rest) (l := LL) (i := L.length) (j := 7) (cs := [.v (.int .i64 (s : Nat))]) (x := { h0 with stop := s }) nodeL_len hlt (by simp) (by rw [hg0]; rfl)
    have l8 : L.length * 9 + 8 + 1 ≤ (flatE nodeL (LL.set L.length { h0 with stop := s }) ++ rest).length := by rw [List.length_append, flatE_len nodeL_len, List.length_set]; omega
    have s8 := flatE_splice (enc := nodeL) (k := 9) (rest := rest) (l := LL.set L.length { h0 with stop := s }) (i := L.length) (j := 8) (cs := [.v (.int .i64 ((s + 2 : Nat) : Int))]) (x := { h0 with stop := s, fin := s + 2 }) nodeL_len (by rw [List.length_set]; exact hlt) (by simp) (by rw [getD_set hlt, if_pos rfl]; rfl)
    rw [List.set_set] at s8
    simp only [List.cons_append, List.nil_append, List.length_cons, List.length_nil, Nat.zero_add] at s7 s8
    simp only [f0, f14, hds, g1, g2, n1, n2, Int.toNat_natCast, Int.natCast_nonneg, show ((L.length : Int) < (LL.length : Int)) = True from eq_true (by omega), l7, s7, l8, s8, w2, Cd.cd42, Tk.t42, base0, base1, base2, base3, Option.isNone_none, Option.isNone_some, Nat.reduceBEq, true_or, or_true, false_or, or_false, Nat.reduceLT, Nat.reduceMod, Nat.reducePow, rmaps, nsucc, List.flatten_cons, List.flatten_nil, Nat.reduceEqDiff, Nat.reduceLeDiff, Nat.reduceAdd, Nat.reduceMul, Nat.reduceSub, ↓reduceIte, reduceCtorEq, decide_true, decide_false]
    have hfin : LL.set L.length { h0 with stop := s, fin := s + 2 } = L ++ flatT (.mk ⟨cls, num, bl, true, p, p1, p2, s, s + 2, D⟩ l) := by
      rw [← hLL, set_mid, ← hh0]; simp [flatT]
    rw [hXe]
    refine ⟨_, rfl, rfl, g6, .sl 9 n 0 LL.length, by simp [n2, g1, wL], .inr ⟨n, rest, ?_, ?_⟩, fun m e => by cases e; exact ⟨g4, g5⟩⟩
    · rw [← hfin, List.length_set]
    · rw [← hfin]; simp
end Go.Proofs.Ytmjjfdppaomcfaa

/- Walks: the reference's nodes of definite length. -/
namespace Go.Proofs.Ytmjjfdppaomcfaa
open Go Go.Proofs.Ytmjjfdppaomcfaa.Ab
set_option maxRecDepth 100000
set_option linter.unusedSimpArgs false

def restD42 : CC := dropS 14 Cd.cd42
theorem restC_eq : restC42 = putS 2 (dropS 12 Cd.cd42) restD42 := (putS_drop 2 (dropS 12 Cd.cd42)).symm
theorem endErr42 (b : ByteArray) (r k to : Nat) (L : List Hd) (X : Except Flt (Tree × Nat)) (e : Flt) (f : AF) (H : AH) (hk : L.length + 1 ≤ k)
    (f0 : f.t 0 = .ptr r 0) (f14 : f.t 14 = .v (.int .i64 (L.length : Nat))) (f15 : f.t 15 = .v (.int .i64 (to : Nat))) (hds : f.ds = []) (hW : WE b r H k e.1 e.2) (hX : X = .error e) :
    cwp Try.prog [108] 177 restD42 (Kont.fin Try.prog [ResultVar.tmp 8] (RnodeOut b r L X)) f H := by
  obtain ⟨n, l, g1, g2, g3, g4, g5, g6⟩ := hW.at (by omega)
  have n1 : (n = r) = False := eq_false g4
  have n2 : (r = n) = False := eq_false (Ne.symm g4)
  have hlen : ∀ v : AV, (List.take (L.length * 9 + 7) l ++ v :: List.drop (L.length * 9 + 7 + 1) l).length = l.length := fun v => by simp; omega
  unfold restD42
  simp only [dropS, f0, f14, f15, hds, g1, g2, n1, n2, hlen, Int.toNat_natCast, Int.natCast_nonneg, show ((L.length : Int) < (k : Int)) = True from eq_true (by omega), show (L.length * 9 + 7 + 1 ≤ l.length) = True from eq_true (by omega), show (L.length * 9 + 8 + 1 ≤ l.length) = True from eq_true (by omega), Cd.cd42, Tk.t42, base0, base1, base2, base3, Option.isNone_none, Option.isNone_some, Nat.reduceBEq, true_or, or_true, false_or, or_false, Nat.reduceLT, Nat.reduceMod, Nat.reducePow, rmaps, nsucc, List.flatten_cons, List.flatten_nil, Nat.reduceEqDiff, Nat.reduceLeDiff, Nat.reduceAdd, Nat.reduceMul, Nat.reduceSub, ↓reduceIte, reduceCtorEq, decide_true, decide_false]
  rw [hX]
  exact ⟨_, rfl, k, by omega, g6, .sl 9 n 0 k, by simp [n2, g1, wL], .inr ⟨n, _, rfl, by simp; rfl, by simp; omega, g4, g5⟩⟩
theorem endOk42 (b : ByteArray) (r to : Nat) (L : List Hd) (X : Except Flt (Tree × Nat)) (h0 : Hd) (l : List Tree) (c : Nat) (f : AF) (H : AH)
    (f0 : f.t 0 = .ptr r 0) (f14 : f.t 14 = .v (.int .i64 (L.length : Nat))) (f15 : f.t 15 = .v (.int .i64 (to : Nat))) (hds : f.ds = []) (hW1 : WS b r H (L ++ [h0] ++ flatTs l) 0 0)
    (hX : X = .ok (.mk { h0 with stop := to, fin := to } l, c)) :
    cwp Try.prog [108] 177 restD42 (Kont.fin Try.prog [ResultVar.tmp 8] (RnodeOut b r L X)) f H := by
  obtain ⟨n, rest, g1, g2, g4, g5, g6⟩ := hW1.at (by simp; omega)
  have n1 : (n = r) = False := eq_false g4
  have n2 : (r = n) = False := eq_false (Ne.symm g4)
  have hlt := len_mid L (flatTs l) h0
  have hg0 := getD_mid L (flatTs l) h0
  generalize hLL : L ++ [h0] ++ flatTs l = LL at *
  have l7 : L.length * 9 + 7 + 1 ≤ (flatE nodeL LL ++ rest).length := by rw [List.length_append, flatE_len nodeL_len]; omega
  have s7 := flatE_splice (enc := nodeL) (k := 9) (rest := rest) (l := LL) (i := L.length) (j := 7) (cs := [.v (.int .i64 (to : Nat))]) (x := { h0 with stop := to }) nodeL_len hlt (by simp) (by rw [hg0]; rfl)
  have l8 : L.length * 9 + 8 + 1 ≤ (flatE nodeL (LL.set L.length { h0 with stop := to }) ++ rest).length := by rw [List.length_append, flatE_len nodeL_len, List.length_set]; omega
  have s8 := flatE_splice (enc := nodeL) (k := 9) (rest := rest) (l := LL.set L.length { h0 with stop := to }) (i := L.length) (j := 8) (cs := [.v (.int .i64 (to : Nat))]) (x := { h0 with stop := to, fin := to }) nodeL_len (by rw [List.length_set]; exact hlt) (by simp) (by rw [getD_set hlt, if_pos rfl]; rfl)
  rw [List.set_set] at s8
  simp only [List.cons_append, List.nil_append, List.length_cons, List.length_nil, Nat.zero_add] at s7 s8
  unfold restD42
  simp only [dropS, f0, f14, f15, hds, g1, g2, n1, n2, Int.toNat_natCast, Int.natCast_nonneg, show ((L.length : Int) < (LL.length : Int)) = True from eq_true (by omega), l7, s7, l8, s8, Cd.cd42, Tk.t42, base0, base1, base2, base3, Option.isNone_none, Option.isNone_some, Nat.reduceBEq, true_or, or_true, false_or, or_false, Nat.reduceLT, Nat.reduceMod, Nat.reducePow, rmaps, nsucc, List.flatten_cons, List.flatten_nil, Nat.reduceEqDiff, Nat.reduceLeDiff, Nat.reduceAdd, Nat.reduceMul, Nat.reduceSub, ↓reduceIte, reduceCtorEq, decide_true, decide_false]
  have hfin : LL.set L.length { h0 with stop := to, fin := to } = L ++ flatT (.mk { h0 with stop := to, fin := to } l) := by
    rw [← hLL, set_mid]; simp [flatT]
  rw [hX]
  refine ⟨_, rfl, rfl, g6, .sl 9 n 0 LL.length, by simp [n2, g1, wL], .inr ⟨n, rest, ?_, ?_⟩, fun m e => by cases e; exact ⟨g4, g5⟩⟩
  · rw [← hfin, List.length_set]
  · rw [← hfin]; simp

set_option maxHeartbeats 2000000 in
theorem tailK42 (b : ByteArray) (hb : b.size ≤ 4000) (r lim p p1 p2 cls num D d n : Nat) (bl : Bool) (L : List Hd) (hL : L.length + 1 ≤ 300) (hl : lim ≤ b.size) (hp2 : p2 + n ≤ lim) (hD : D < 20) (X : Except Flt (Tree × Nat)) (f : AF) (H : AH)
    (f0 : f.t 0 = .ptr r 0) (f3 : f.t 3 = .v (.int .i64 (D : Nat))) (f10 : f.t 10 = .v (.bool bl)) (f11 : f.t 11 = .v (.int .i64 (p2 : Nat))) (f13 : f.t 13 = .v (.int .i64 (lenI (some n)))) (f14 : f.t 14 = .v (.int .i64 (L.length : Nat))) (f15 : f.t 15 = .v (.int .i64 (IntKind.i64.wrap ((p2 : Int) + lenI (some n))))) (hds : f.ds = [])
    (hW : WS b r H (L ++ [⟨cls, num, bl, false, p, p1, p2, 0, 0, D⟩]) 0 0)
    (hX : X = if bl = true then (match kidsC (fun a c => rd b d a (p2 + n) c) (p2 + n) n p2 (L.length + 1) [] with
              | .error e => .error e
              | .ok (kids, c) => .ok (.mk ⟨cls, num, bl, false, p, p1, p2, p2 + n, p2 + n, D⟩ kids, c))
            else .ok (.mk ⟨cls, num, bl, false, p, p1, p2, p2 + n, p2 + n, D⟩ [], L.length + 1))
    (hN : ∀ q L1 H1, L1.length ≤ 300 → WS b r H1 L1 0 0 → ACall Try.prog 42 [.ptr r 0, .v (.int .i64 (q : Nat)), .v (.int .i64 ((p2 + n : Nat) : Int)), .v (.int .i64 ((D + 1 : Nat) : Int))] H1 (RnodeOut b r L1 (rd b d q (p2 + n) L1.length))) :
    cwp Try.prog [108] 177 restC42 (Kont.fin Try.prog [ResultVar.tmp 8] (RnodeOut b r L X)) f H := by
  have e15 : IntKind.i64.wrap ((p2 : Int) + lenI (some n)) = ((p2 + n : Nat) : Int) := by simp only [lenI]; rw [wrapI (by omega) (by omega)]; omega
  rw [e15] at f15
  have en1 : ((n : Int) == -1) = false := by rw [beq_eq_false_iff_ne]; omega
  rw [restC_eq]
  cases bl with
  | false =>
    simp only [Bool.false_eq_true, if_false] at hX
    simp only [putS, dropS, f0, f3, f10, f11, f13, f14, f15, hds, lenI, en1, Cd.cd42, Tk.t42, base0, base1, base2, base3, Option.isNone_none, Option.isNone_some, Nat.reduceBEq, true_or, or_true, false_or, or_false, Nat.reduceLT, Nat.reduceMod, Nat.reducePow, rmaps, nsucc, List.flatten_cons, List.flatten_nil, Nat.reduceEqDiff, Nat.reduceLeDiff, Nat.reduceAdd, Nat.reduceMul, Nat.reduceSub, ↓reduceIte, reduceCtorEq, decide_true, decide_false]
    refine LWP.loop [108] (fun m f H' => m = 0 ∧ f.t 0 = .ptr r 0 ∧ f.t 10 = .v (.bool false) ∧ f.t 14 = .v (.int .i64 (L.length : Nat)) ∧ f.t 15 = .v (.int .i64 (p2 + n : Nat)) ∧ f.ds = [] ∧ WS b r H' (L ++ [⟨cls, num, false, false, p, p1, p2, 0, 0, D⟩]) 0 0) ?_ ?_ (m := 0)
    · exact ⟨rfl, by simp [upd, f0], by simp [upd, f10], by simp [upd, f14], by simp [upd, f15], rfl, hW⟩
    · rintro m f H' ⟨rfl, f0, f10, f14, f15, hds, hW⟩
      simp only [f0, f10, f14, f15, hds, Cd.cd42, Tk.t42, base0, base1, base2, base3, Option.isNone_none, Option.isNone_some, Nat.reduceBEq, true_or, or_true, false_or, or_false, Nat.reduceLT, Nat.reduceMod, Nat.reducePow, rmaps, nsucc, List.flatten_cons, List.flatten_nil, Nat.reduceEqDiff, Nat.reduceLeDiff, Nat.reduceAdd, Nat.reduceMul, Nat.reduceSub, ↓reduceIte, reduceCtorEq, decide_true, decide_false]
      exact endOk42 b r (p2 + n) L X ⟨cls, num, false, false, p, p1, p2, 0, 0, D⟩ [] (L.length + 1) _ _ (by simp [upd, f0]) (by simp [upd, f14]) (by simp [upd, f15]) rfl (by simpa [flatTs] using hW) hX
  | true =>
    simp only [if_true] at hX
    generalize hh0 : (⟨cls, num, true, false, p, p1, p2, 0, 0, D⟩ : Hd) = h0 at hW
    generalize hT : kidsC (fun a c => rd b d a (p2 + n) c) (p2 + n) n p2 (L.length + 1) [] = T at hX
    simp only [putS, dropS, f0, f3, f10, f11, f13, f14, f15, hds, lenI, en1, Cd.cd42, Tk.t42, base0, base1, base2, base3, Option.isNone_none, Option.isNone_some, Nat.reduceBEq, true_or, or_true, false_or, or_false, Nat.reduceLT, Nat.reduceMod, Nat.reducePow, rmaps, nsucc, List.flatten_cons, List.flatten_nil, Nat.reduceEqDiff, Nat.reduceLeDiff, Nat.reduceAdd, Nat.reduceMul, Nat.reduceSub, ↓reduceIte, reduceCtorEq, decide_true, decide_false]
    refine LWP.loop [108] (fun m f H' => ∃ pp q k acc E, m = mE (p2 + n - q + 1) E ∧ (iE (pp = (q : Int) ∧ q ≤ p2 + n ∧ p2 + n - q ≤ k ∧ (L ++ [h0] ++ flatTs acc).length ≤ 300 ∧ kidsC (fun a c => rd b d a (p2 + n) c) (p2 + n) k q (L ++ [h0] ++ flatTs acc).length acc = T) (fun e => T = .error e ∧ e.2 ≠ 0) E) ∧ f.t 0 = .ptr r 0 ∧ f.t 3 = .v (.int .i64 (D : Nat)) ∧ f.t 10 = .v (.bool true) ∧ f.t 14 = .v (.int .i64 (L.length : Nat)) ∧ f.t 15 = .v (.int .i64 (p2 + n : Nat)) ∧ f.t 16 = .v (.int .i64 pp) ∧ f.ds = [] ∧ iE (WS b r H' (L ++ [h0] ++ flatTs acc) 0 0) (fun e => ∃ k, L.length + 1 ≤ k ∧ WE b r H' k e.1 e.2) E) ?_ ?_ (m := mE (p2 + n - (p2) + 1) ((none : Option Flt)))
    · exact ⟨(p2 : Int), p2, n, [], (none : Option Flt), rfl, (⟨rfl, by omega, by omega, by simp [flatTs]; omega, by simpa [flatTs] using hT⟩), by simp [upd, f0], by simp [upd, f3], by simp [upd, f10], by simp [upd, f14], by simp [upd, f15], by simp [upd], rfl, by simpa [flatTs, iE] using hW⟩
    · rintro m f H' ⟨pp, q, k, acc, E, rfl, hE, f0, f3, f10, f14, f15, f16, hds, hW⟩
      cases E with
      | some e =>
        obtain ⟨hTe, he⟩ := hE
        obtain ⟨k', hk', hW'⟩ := hW
        have hW2 := hW'
        obtain ⟨hr, nd, hro, hnd⟩ := hW2
        simp only [wL] at hro
        have ee : (e.2 == 0) = false := by simp [he]
        cases hd : decide (pp < ((p2 + n : Nat) : Int))
        · simp only [hd, f0, f3, f10, f14, f15, f16, hds, Cd.cd42, Tk.t42, base0, base1, base2, base3, Option.isNone_none, Option.isNone_some, Nat.reduceBEq, true_or, or_true, false_or, or_false, Nat.reduceLT, Nat.reduceMod, Nat.reducePow, rmaps, nsucc, List.flatten_cons, List.flatten_nil, Nat.reduceEqDiff, Nat.reduceLeDiff, Nat.reduceAdd, Nat.reduceMul, Nat.reduceSub, ↓reduceIte, reduceCtorEq, decide_true, decide_false]
          exact endErr42 b r k' (p2 + n) L X e _ _ hk' (by simp [upd, f0]) (by simp [upd, f14]) (by simp [upd, f15]) rfl hW' (by rw [hX, hTe])
        · simp only [hd, hro, ee, f0, f3, f10, f14, f15, f16, hds, Cd.cd42, Tk.t42, base0, base1, base2, base3, Option.isNone_none, Option.isNone_some, Nat.reduceBEq, true_or, or_true, false_or, or_false, Nat.reduceLT, Nat.reduceMod, Nat.reducePow, rmaps, nsucc, List.flatten_cons, List.flatten_nil, Nat.reduceEqDiff, Nat.reduceLeDiff, Nat.reduceAdd, Nat.reduceMul, Nat.reduceSub, ↓reduceIte, reduceCtorEq, decide_true, decide_false]
          exact endErr42 b r k' (p2 + n) L X e _ _ hk' (by simp [upd, f0]) (by simp [upd, f14]) (by simp [upd, f15]) rfl hW' (by rw [hX, hTe])
      | none =>
        obtain ⟨rfl, hq, hk, hlen, hT⟩ := hE
        have hW2 : WS b r H' (L ++ [h0] ++ flatTs acc) 0 0 := hW
        obtain ⟨hr, nd, hro, hnd, hnm⟩ := hW2
        simp only [wL] at hro
        by_cases hlt : q < p2 + n
        · obtain ⟨k, rfl⟩ : ∃ k', k = k' + 1 := ⟨k - 1, by omega⟩
          simp only [kidsC, if_pos hlt] at hT
          simp only [show decide ((q : Int) < ((p2 + n : Nat) : Int)) = true from decide_eq_true (by omega), hro, show ((0 : Int) == 0) = true from rfl, wrapS (show D < 2 ^ 62 by omega), f0, f3, f10, f14, f15, f16, hds, Cd.cd42, Tk.t42, base0, base1, base2, base3, Option.isNone_none, Option.isNone_some, Nat.reduceBEq, true_or, or_true, false_or, or_false, Nat.reduceLT, Nat.reduceMod, Nat.reducePow, rmaps, nsucc, List.flatten_cons, List.flatten_nil, Nat.reduceEqDiff, Nat.reduceLeDiff, Nat.reduceAdd, Nat.reduceMul, Nat.reduceSub, ↓reduceIte, reduceCtorEq, decide_true, decide_false]
          refine RnodeOut.go (hN q _ H' hlen hW) (fun e pp k' H1 he hl' hW1 => ?_) (fun t c H1 he hW1 => ?_)
          · rw [he] at hT
            simp only [f0, f3, f10, f14, f15, f16, hds, Cd.cd42, Tk.t42, base0, base1, base2, base3, Option.isNone_none, Option.isNone_some, Nat.reduceBEq, true_or, or_true, false_or, or_false, Nat.reduceLT, Nat.reduceMod, Nat.reducePow, rmaps, nsucc, List.flatten_cons, List.flatten_nil, Nat.reduceEqDiff, Nat.reduceLeDiff, Nat.reduceAdd, Nat.reduceMul, Nat.reduceSub, ↓reduceIte, reduceCtorEq, decide_true, decide_false]
            exact ⟨0, by show 0 < p2 + n - q + 1; omega, pp, q, k, acc, some e, rfl, ⟨hT.symm, rd_err b d (p2 + n) q _ e he⟩, rfl, k', by simp at hl'; omega, hW1⟩
          · have hok := rd_ok b d (p2 + n) q _ t c he
            have hln := rd_len b d (p2 + n) q _ t c he
            rw [he] at hT
            simp only [f0, f3, f10, f14, f15, f16, hds, Cd.cd42, Tk.t42, base0, base1, base2, base3, Option.isNone_none, Option.isNone_some, Nat.reduceBEq, true_or, or_true, false_or, or_false, Nat.reduceLT, Nat.reduceMod, Nat.reducePow, rmaps, nsucc, List.flatten_cons, List.flatten_nil, Nat.reduceEqDiff, Nat.reduceLeDiff, Nat.reduceAdd, Nat.reduceMul, Nat.reduceSub, ↓reduceIte, reduceCtorEq, decide_true, decide_false]
            refine ⟨_, ?_, (t.h.fin : Int), t.h.fin, k, acc ++ [t], none, rfl, ⟨rfl, by omega, by omega, ?_, ?_⟩, rfl, ?_⟩
            · show p2 + n - t.h.fin + 1 < p2 + n - q + 1; omega
            · rw [flatTs_append, flatTs_one, ← List.append_assoc, List.length_append]; omega
            · rw [flatTs_append, flatTs_one, ← List.append_assoc, List.length_append, ← hln]; exact hT
            · show WS b r H1 _ 0 0
              rw [flatTs_append, flatTs_one, ← List.append_assoc]; exact hW1
        · have hTe : kidsC (fun a c => rd b d a (p2 + n) c) (p2 + n) k q (L ++ [h0] ++ flatTs acc).length acc = .ok (acc, (L ++ [h0] ++ flatTs acc).length) := by cases k <;> simp [kidsC, hlt]
          rw [hTe] at hT
          simp only [show decide ((q : Int) < ((p2 + n : Nat) : Int)) = false from decide_eq_false (by omega), f0, f3, f10, f14, f15, f16, hds, Cd.cd42, Tk.t42, base0, base1, base2, base3, Option.isNone_none, Option.isNone_some, Nat.reduceBEq, true_or, or_true, false_or, or_false, Nat.reduceLT, Nat.reduceMod, Nat.reducePow, rmaps, nsucc, List.flatten_cons, List.flatten_nil, Nat.reduceEqDiff, Nat.reduceLeDiff, Nat.reduceAdd, Nat.reduceMul, Nat.reduceSub, ↓reduceIte, reduceCtorEq, decide_true, decide_false]
          exact endOk42 b r (p2 + n) L X h0 acc _ _ _ (by simp [upd, f0]) (by simp [upd, f14]) (by simp [upd, f15]) rfl hW (by rw [hX, ← hT, ← hh0])
end Go.Proofs.Ytmjjfdppaomcfaa

/- Walks: the reference reads nodes. -/
namespace Go.Proofs.Ytmjjfdppaomcfaa
open Go Go.Proofs.Ytmjjfdppaomcfaa.Ab
set_option maxRecDepth 100000
set_option linter.unusedSimpArgs false

set_option maxHeartbeats 4000000 in
theorem rnode42 (b : ByteArray) (hb : b.size ≤ 4000) (r : Nat) : ∀ (d : Nat), d ≤ 16 → ∀ (p lim : Nat) (L : List Hd) (H : AH), lim ≤ b.size → L.length ≤ 300 → WS b r H L 0 0 →
    ACall Try.prog 42 [.ptr r 0, .v (.int .i64 (p : Int)), .v (.int .i64 (lim : Int)), .v (.int .i64 ((16 - d : Nat) : Int))] H (RnodeOut b r L (rd b d p lim L.length))
  | d, hd, p, lim, L, H, hl, hL, hW => by
    generalize hX : rd b d p lim L.length = X
    generalize hD : 16 - d = D
    have hW0 := hW
    obtain ⟨hr, nd, hro, hnd, hnm⟩ := hW0
    have hone := one_nd hnd
    have e00 : ((0 : Int) != 0) = false := rfl
    have e01 : ((0 : Int) == 0) = true := rfl
    refine ACall.enter [108] (cc := putS 9 Cd.cd42 restB42) (by rw [show putS 9 Cd.cd42 restB42 = Cd.cd42 from putS_drop 9 _]; exact Cd.fn42) (by simp) ?_
    simp only [putS, Cd.cd42, Tk.t42, base0, base1, base2, base3, Option.isNone_none, Option.isNone_some, Nat.reduceBEq, true_or, or_true, false_or, or_false, Nat.reduceLT, Nat.reduceMod, Nat.reducePow, rmaps, nsucc, List.flatten_cons, List.flatten_nil, Nat.reduceEqDiff, Nat.reduceLeDiff, Nat.reduceAdd, Nat.reduceMul, Nat.reduceSub, ↓reduceIte, reduceCtorEq, decide_true, decide_false]
    cases hid : ident b p lim with
    | error e =>
      have hXe : X = .error e := by rw [← hX]; exact rd_e1 hid
      have he := ident_err hid
      refine RidOut.err (rident57 b hb nd hone r p lim hl H hr hro) hid fun c' n' bl' p' H1 hk h1 => ?_
      have hkn := hk.next
      have hW1 := hW.kp hro h1 hk
      simp only [wL] at h1
      simp only [h1, show (r = H1.next) = False from eq_false (by omega), show (e.2 != 0) = true from by simp [he], Cd.cd42, Tk.t42, base0, base1, base2, base3, Option.isNone_none, Option.isNone_some, Nat.reduceBEq, true_or, or_true, false_or, or_false, Nat.reduceLT, Nat.reduceMod, Nat.reducePow, rmaps, nsucc, List.flatten_cons, List.flatten_nil, Nat.reduceEqDiff, Nat.reduceLeDiff, Nat.reduceAdd, Nat.reduceMul, Nat.reduceSub, ↓reduceIte, reduceCtorEq, decide_true, decide_false]
      rw [hXe]
      exact ⟨_, rfl, _, Nat.le_refl _, (hW1.ext (H' := AH.mk _ _ _) (by simp) fun n hn => by simp [show n ≠ H1.next by omega]).we⟩
    | ok y =>
      obtain ⟨cls, num, bl, p1⟩ := y
      have q1 := ident_ok hid
      refine RidOut.ok (rident57 b hb nd hone r p lim hl H hr hro) hid fun H1 hk h1 => ?_
      have hkn := hk.next
      have hW1 := hW.kp hro h1 hk
      have h10 := h1
      simp only [wL] at h1
      have hrn : (r = H1.next) = False := eq_false (by omega)
      have hnr : (H1.next = r) = False := eq_false (by omega)
      simp only [h1, hrn, hnr, e00, Cd.cd42, Tk.t42, base0, base1, base2, base3, Option.isNone_none, Option.isNone_some, Nat.reduceBEq, true_or, or_true, false_or, or_false, Nat.reduceLT, Nat.reduceMod, Nat.reducePow, rmaps, nsucc, List.flatten_cons, List.flatten_nil, Nat.reduceEqDiff, Nat.reduceLeDiff, Nat.reduceAdd, Nat.reduceMul, Nat.reduceSub, ↓reduceIte, reduceCtorEq, decide_true, decide_false]
      have hWl : ∀ Hl : AH, Hl.next = H1.next + 1 → (∀ n, n < H1.next → Hl.own n = H1.own n) → WS b r Hl L 0 0 := fun Hl g1 g2 => hW1.ext (by omega) g2
      cases hlen : lenOf b p1 lim bl with
      | error e =>
        have hXe : X = .error e := by rw [← hX]; exact rd_e2 hid hlen
        have he := lenOf_err hlen
        have eb : (e.2 == 0) = false := by simp [he]
        have eb' : (e.2 != 0) = true := by simp [he]
        refine RlenOut.err (rlen58 b hb nd hone r p1 lim bl hl _ (by simp [hrn, h1, wL])) hlen fun n' p' H3 hk3 h3 => ?_
        have hW3 := (hWl _ rfl fun n hn => by simp [show n ≠ H1.next by omega]).kp (by simp [hrn, h1, wL]) h3 hk3
        simp only [wL] at h3
        simp only [h3, eb, eb', Cd.cd42, Tk.t42, base0, base1, base2, base3, Option.isNone_none, Option.isNone_some, Nat.reduceBEq, true_or, or_true, false_or, or_false, Nat.reduceLT, Nat.reduceMod, Nat.reducePow, rmaps, nsucc, List.flatten_cons, List.flatten_nil, Nat.reduceEqDiff, Nat.reduceLeDiff, Nat.reduceAdd, Nat.reduceMul, Nat.reduceSub, ↓reduceIte, reduceCtorEq, decide_true, decide_false]
        rw [hXe]
        exact ⟨_, rfl, _, Nat.le_refl _, hW3.we⟩
      | ok y =>
        obtain ⟨on, p2⟩ := y
        have q2 := lenOf_ok hlen
        refine RlenOut.ok (rlen58 b hb nd hone r p1 lim bl hl _ (by simp [hrn, h1, wL])) hlen fun H3 hk3 h3 => ?_
        have hW3 := (hWl _ rfl fun n hn => by simp [show n ≠ H1.next by omega]).kp (by simp [hrn, h1, wL]) h3 hk3
        have hk3n := hk3.next
        have hloc := hk3.own H1.next (by simp) (by omega)
        simp only [if_true] at hloc
        simp only at hk3n
        have h30 := h3
        simp only [wL] at h3
        have e2 : IntKind.i64.wrap ((lim : Int) - (p2 : Int)) = ((lim - p2 : Nat) : Int) := by rw [wrapI (by omega) (by omega)]; omega
        cases hany : on.any (fun n => decide (lim - p2 < n)) with
        | true =>
          have hXe : X = .error (p1, 19) := by rw [← hX]; exact rd_e3 hid hlen hany
          obtain ⟨n, rfl⟩ : ∃ n, on = some n := by cases on with | none => cases hany | some n => exact ⟨n, rfl⟩
          have hn : lim - p2 < n := by simpa using hany
          simp only [h3, e01, e2, lenI, show decide ((n : Int) > ((lim - p2 : Nat) : Int)) = true from decide_eq_true (by omega), Cd.cd42, Tk.t42, base0, base1, base2, base3, Option.isNone_none, Option.isNone_some, Nat.reduceBEq, true_or, or_true, false_or, or_false, Nat.reduceLT, Nat.reduceMod, Nat.reducePow, rmaps, nsucc, List.flatten_cons, List.flatten_nil, Nat.reduceEqDiff, Nat.reduceLeDiff, Nat.reduceAdd, Nat.reduceMul, Nat.reduceSub, ↓reduceIte, reduceCtorEq, decide_true, decide_false]
          refine rfail.go (rfail41 b nd r p1 19 hone _ h30) fun H4 h4 hk4 => ?_
          have hW4 := hW3.kp h30 h4 hk4
          simp only [wL] at h4
          simp only [h4, show ((19 : Int) == 0) = false from rfl, show ((19 : Int) != 0) = true from rfl, Cd.cd42, Tk.t42, base0, base1, base2, base3, Option.isNone_none, Option.isNone_some, Nat.reduceBEq, true_or, or_true, false_or, or_false, Nat.reduceLT, Nat.reduceMod, Nat.reducePow, rmaps, nsucc, List.flatten_cons, List.flatten_nil, Nat.reduceEqDiff, Nat.reduceLeDiff, Nat.reduceAdd, Nat.reduceMul, Nat.reduceSub, ↓reduceIte, reduceCtorEq, decide_true, decide_false]
          rw [hXe]
          exact ⟨_, rfl, _, Nat.le_refl _, hW4.we⟩
        | false =>
          have elen : decide (lenI on > ((lim - p2 : Nat) : Int)) = false := by
            cases on with
            | none => simp only [lenI]; exact decide_eq_false (by omega)
            | some n => have : ¬ lim - p2 < n := by simpa using hany
                        simp only [lenI]; exact decide_eq_false (by omega)
          have hnd3 : Arr nodeL 9 H3 nd L := by
            obtain ⟨_, nd', g1, g2, g3⟩ := hW3
            rw [h30] at g1
            have : nd = nd' := by simp [wL] at g1; exact g1
            rw [this]; exact g2
          by_cases h300 : 300 < L.length + 1
          · have hXe : X = .error (p, 34) := by rw [← hX]; exact rd_e4 hid hlen hany h300
            have hL3 : L.length = 300 := by omega
            rw [hXe]
            rcases arr_cases hnd3 with ⟨rfl, rfl⟩ | ⟨rfl, rfl⟩ | ⟨n, rest, rfl, hn3⟩
            · simp at hL3
            · simp at hL3
            · simp only [h3, e01, e2, elen, show ((L.length : Int) == 300) = true from by simp; omega, Cd.cd42, Tk.t42, base0, base1, base2, base3, Option.isNone_none, Option.isNone_some, Nat.reduceBEq, true_or, or_true, false_or, or_false, Nat.reduceLT, Nat.reduceMod, Nat.reducePow, rmaps, nsucc, List.flatten_cons, List.flatten_nil, Nat.reduceEqDiff, Nat.reduceLeDiff, Nat.reduceAdd, Nat.reduceMul, Nat.reduceSub, ↓reduceIte, reduceCtorEq, decide_true, decide_false]
              refine rfail.go (rfail41 b _ r p 34 hone _ h30) fun H4 h4 hk4 => ?_
              have hW4 := hW3.kp h30 h4 hk4
              simp only [wL] at h4
              simp only [h4, show ((34 : Int) == 0) = false from rfl, show ((34 : Int) != 0) = true from rfl, Cd.cd42, Tk.t42, base0, base1, base2, base3, Option.isNone_none, Option.isNone_some, Nat.reduceBEq, true_or, or_true, false_or, or_false, Nat.reduceLT, Nat.reduceMod, Nat.reducePow, rmaps, nsucc, List.flatten_cons, List.flatten_nil, Nat.reduceEqDiff, Nat.reduceLeDiff, Nat.reduceAdd, Nat.reduceMul, Nat.reduceSub, ↓reduceIte, reduceCtorEq, decide_true, decide_false]
              exact ⟨_, rfl, _, Nat.le_refl _, hW4.we⟩
          have e300 : ((L.length : Int) == 300) = false := by simp; omega
          cases d with
          | zero =>
            have hXe : X = .error (p, 2) := by rw [← hX]; exact rd_e5 hid hlen hany h300
            rw [hXe]
            rcases arr_cases hnd3 with ⟨rfl, rfl⟩ | ⟨rfl, rfl⟩ | ⟨n, rest, rfl, hn3⟩
            all_goals
              simp only [h3, e01, e2, elen, e300, nilS, show (((0 : Nat) : Int) == 300) = false from rfl, show ((0 : Int) == 300) = false from rfl, show decide ((D : Int) ≥ 16) = true from decide_eq_true (by omega), Cd.cd42, Tk.t42, base0, base1, base2, base3, Option.isNone_none, Option.isNone_some, Nat.reduceBEq, true_or, or_true, false_or, or_false, Nat.reduceLT, Nat.reduceMod, Nat.reducePow, rmaps, nsucc, List.flatten_cons, List.flatten_nil, Nat.reduceEqDiff, Nat.reduceLeDiff, Nat.reduceAdd, Nat.reduceMul, Nat.reduceSub, ↓reduceIte, reduceCtorEq, decide_true, decide_false]
              refine rfail.go (rfail41 b _ r p 2 hone _ h30) fun H4 h4 hk4 => ?_
              have hW4 := hW3.kp h30 h4 hk4
              simp only [wL] at h4
              simp only [h4, show ((2 : Int) == 0) = false from rfl, show ((2 : Int) != 0) = true from rfl, Cd.cd42, Tk.t42, base0, base1, base2, base3, Option.isNone_none, Option.isNone_some, Nat.reduceBEq, true_or, or_true, false_or, or_false, Nat.reduceLT, Nat.reduceMod, Nat.reducePow, rmaps, nsucc, List.flatten_cons, List.flatten_nil, Nat.reduceEqDiff, Nat.reduceLeDiff, Nat.reduceAdd, Nat.reduceMul, Nat.reduceSub, ↓reduceIte, reduceCtorEq, decide_true, decide_false]
              exact ⟨_, rfl, _, Nat.le_refl _, hW4.we⟩
          | succ d =>
            have hIH : ∀ lim', lim' ≤ b.size → ∀ q L1 H1, L1.length ≤ 300 → WS b r H1 L1 0 0 → ACall Try.prog 42 [.ptr r 0, .v (.int .i64 (q : Nat)), .v (.int .i64 (lim' : Nat)), .v (.int .i64 ((D + 1 : Nat) : Int))] H1 (RnodeOut b r L1 (rd b d q lim' L1.length)) := fun lim' g0 q L1 H1 g1 g2 => by
              have := rnode42 b hb r d (by omega) q lim' L1 H1 g0 g1 g2
              rw [show 16 - d = D + 1 by omega] at this; exact this
            have d15 : D = 15 - d := by omega
            have eD : decide ((D : Int) ≥ 16) = false := decide_eq_false (by omega)
            have hC : ∀ (f' : AF) (H' : AH), f'.t 0 = .ptr r 0 → f'.t 2 = .v (.int .i64 (lim : Nat)) → f'.t 3 = .v (.int .i64 (D : Nat)) → f'.t 10 = .v (.bool bl) → f'.t 11 = .v (.int .i64 (p2 : Nat)) → f'.t 13 = .v (.int .i64 (lenI on)) → f'.t 14 = .v (.int .i64 (L.length : Nat)) → f'.t 15 = .v (.int .i64 (IntKind.i64.wrap ((p2 : Int) + lenI on))) → f'.ds = [] →
              WS b r H' (L ++ [⟨cls, num, bl, on.isNone, p, p1, p2, 0, 0, D⟩]) 0 0 → cwp Try.prog [108] 177 restC42 (Kont.fin Try.prog [ResultVar.tmp 8] (RnodeOut b r L X)) f' H' := fun f' H' f0 f2 f3 f10 f11 f13 f14 f15 hds hWC => by
              cases on with
              | none =>
                have hXo := rd_open (d := d) hid hlen h300
                rw [hX, ← d15] at hXo
                exact tailO42 b hb r lim p p1 p2 cls num D d bl L (by omega) hl (by omega) (by omega) X f' H' f0 f2 f3 f11 f13 f14 hds hWC hXo (hIH lim hl)
              | some n =>
                have hn : ¬ lim - p2 < n := by simpa using hany
                refine tailK42 b hb r lim p p1 p2 cls num D d n bl L (by omega) hl (by omega) (by omega) X f' H' f0 f3 f10 f11 f13 f14 f15 hds hWC ?_ (hIH (p2 + n) (by omega))
                cases bl with
                | false =>
                  have hXl := rd_leaf (d := d) hid hlen hn h300
                  rw [hX, ← d15] at hXl
                  rw [hXl]; rfl
                | true =>
                  have hXk := rd_kids (d := d) hid hlen hn h300
                  rw [hX, ← d15] at hXk
                  rw [hXk]; rfl
            have hm : H1.next ≠ r := by omega
            rcases arr_cases hnd3 with ⟨rfl, rfl⟩ | ⟨rfl, rfl⟩ | ⟨n, rest, rfl, hn3⟩
            all_goals
              simp only [h3, e01, e2, elen, e300, nilS, show (((0 : Nat) : Int) == 300) = false from rfl, show ((0 : Int) == 300) = false from rfl, eD, e00, Cd.cd42, Tk.t42, base0, base1, base2, base3, Option.isNone_none, Option.isNone_some, Nat.reduceBEq, true_or, or_true, false_or, or_false, Nat.reduceLT, Nat.reduceMod, Nat.reducePow, rmaps, nsucc, List.flatten_cons, List.flatten_nil, Nat.reduceEqDiff, Nat.reduceLeDiff, Nat.reduceAdd, Nat.reduceMul, Nat.reduceSub, ↓reduceIte, reduceCtorEq, decide_true, decide_false]
              exact tailB42 b hb r H1.next lim p p1 p2 cls num D bl on _ (by omega) _ _ _ hm (by omega) (by simp [upd]) (by simp [upd, enterA]) (by simp [upd, enterA]) (by simp [upd, enterA]) (by simp [upd]) (by simp [upd]) (by simp [upd]) (by simp [upd]) rfl hW3 hloc hC
end Go.Proofs.Ytmjjfdppaomcfaa

/- Walks: the reference reads bytes. -/
namespace Go.Proofs.Ytmjjfdppaomcfaa
open Go Go.Proofs.Ytmjjfdppaomcfaa.Ab
set_option maxRecDepth 100000
set_option linter.unusedSimpArgs false

def refOut (b : ByteArray) : Except Flt (List Tree) → AV
  | .ok l => .box (wL b (nodesV (flatTs l)) 0 0)
  | .error e => .box (wL b (nodesV []) e.1 e.2)
theorem FZ.nodesV (l : List Hd) : FZ (nodesV l) := FZ.lst rfl fun r hr => by
  obtain ⟨x, _, rfl⟩ := List.mem_map.mp hr; exact FZs.nodeL x
theorem fin_ref {H' : AH} {b : ByteArray} {r : Nat} {nd : AV} {L : List Hd} {a e : Int} {w : AV} (hro : H'.own r = some (.cells (wL b nd a e))) (hv : View H' nd (nodesV L)) (hw : w = .box (wL b (nodesV L) a e)) : ∃ v v', AOut.ret (.ptr r 0) = .ret v ∧ View H' v v' ∧ FZ v' ∧ v' = w := by
  subst hw
  refine ⟨_, _, rfl, View.ptr hro (by simp [wL]) fun j hj => ?_, FZ.box fun x hx => ?_, rfl⟩
  · have hj' : j < 4 := by simpa [wL] using hj
    rw [Nat.zero_add]
    match j, hj' with
    | 0, _ => exact (FZ.v _).view
    | 1, _ => exact hv
    | 2, _ => exact (FZ.v _).view
    | 3, _ => exact (FZ.v _).view
  · simp only [wL, List.mem_cons, List.not_mem_nil, or_false] at hx
    rcases hx with rfl | rfl | rfl | rfl <;> first | exact FZ.v _ | exact FZ.nodesV L

def rest14 : CC := dropS 3 Cd.cd14
set_option maxHeartbeats 2000000 in
theorem tail14 (b : ByteArray) (r : Nat) (T : Except Flt (List Tree × Nat)) (E0 : Option Flt) (f : AF) (H : AH) (R : AV) (hR : R = refOut b (match T with
        | .error e => .error e
        | .ok (l, _) => .ok l))
    (f0 : f.t 0 = .v (.string b)) (f3 : f.t 3 = .ptr r 0) (hds : f.ds = [])
    (hE0 : iE ((0 : Int) = ((0 : Nat) : Int) ∧ b.size ≤ 4000 ∧ 0 ≤ b.size ∧ b.size - 0 ≤ b.size ∧ (flatTs []).length ≤ 300 ∧ kidsC (fun a c => rd b 16 a b.size c) b.size b.size 0 (flatTs []).length [] = T) (fun e => T = .error e ∧ e.2 ≠ 0) E0)
    (hW0 : iE (WS b r H (flatTs []) 0 0) (fun e => ∃ k, WE b r H k e.1 e.2) E0) :
    cwp Try.prog [7] 43 rest14 (Kont.fin Try.prog [ResultVar.tmp 2] (fun out H' => ∃ v v', out = .ret v ∧ View H' v v' ∧ FZ v' ∧ v' = R)) f H := by
  have e00 : ((0 : Int) == 0) = true := rfl
  have e01 : ((0 : Int) != 0) = false := rfl
  unfold rest14
  simp only [dropS, f0, f3, hds, Cd.cd14, Tk.t14, base0, base1, base2, base3, Option.isNone_none, Option.isNone_some, Nat.reduceBEq, true_or, or_true, false_or, or_false, Nat.reduceLT, Nat.reduceMod, Nat.reducePow, rmaps, nsucc, List.flatten_cons, List.flatten_nil, Nat.reduceEqDiff, Nat.reduceLeDiff, Nat.reduceAdd, Nat.reduceMul, Nat.reduceSub, ↓reduceIte, reduceCtorEq, decide_true, decide_false]
  refine LWP.loop [7] (fun m f H' => ∃ pp q k acc E, m = mE (b.size - q + 1) E ∧ (iE (pp = (q : Int) ∧ b.size ≤ 4000 ∧ q ≤ b.size ∧ b.size - q ≤ k ∧ (flatTs acc).length ≤ 300 ∧ kidsC (fun a c => rd b 16 a b.size c) b.size k q (flatTs acc).length acc = T) (fun e => T = .error e ∧ e.2 ≠ 0) E) ∧ f.t 0 = .v (.string b) ∧ f.t 3 = .ptr r 0 ∧ f.t 4 = .v (.int .i64 pp) ∧ f.ds = [] ∧ iE (WS b r H' (flatTs acc) 0 0) (fun e => ∃ k, WE b r H' k e.1 e.2) E) ?_ ?_ (m := mE (b.size - (0) + 1) (E0))
  · exact ⟨(0 : Int), 0, b.size, [], E0, rfl, (hE0), by simp [upd, f0], by simp [upd, f3], by simp [upd], rfl, hW0⟩
  · rintro m f H' ⟨pp, q, k, acc, E, rfl, hE, f0, f3, f4, hds, hW⟩
    cases E with
    | some e =>
      obtain ⟨hTe, he⟩ := hE
      obtain ⟨k', hW'⟩ := hW
      obtain ⟨hrn, nd, hro, hnd⟩ := hW'
      have ee : (e.2 == 0) = false := by simp [he]
      have ee' : (e.2 != 0) = true := by simp [he]
      rw [hTe] at hR
      simp only [wL] at hro
      have hdone : ∀ H2 : AH, H2.own r = some (.cells (wL b nilS e.1 e.2)) → ∃ v v', AOut.ret (.ptr r 0) = .ret v ∧ View H2 v v' ∧ FZ v' ∧ v' = R := fun H2 h2 => fin_ref h2 (View.nil 9) hR
      cases hd : decide (pp < ((b.size : Nat) : Int))
      · simp only [hd, hro, ee', f0, f3, f4, hds, Cd.cd14, Tk.t14, base0, base1, base2, base3, Option.isNone_none, Option.isNone_some, Nat.reduceBEq, true_or, or_true, false_or, or_false, Nat.reduceLT, Nat.reduceMod, Nat.reducePow, rmaps, nsucc, List.flatten_cons, List.flatten_nil, Nat.reduceEqDiff, Nat.reduceLeDiff, Nat.reduceAdd, Nat.reduceMul, Nat.reduceSub, ↓reduceIte, reduceCtorEq, decide_true, decide_false]
        exact hdone _ (by simp [wL, nilS])
      · simp only [hd, hro, ee, ee', f0, f3, f4, hds, Cd.cd14, Tk.t14, base0, base1, base2, base3, Option.isNone_none, Option.isNone_some, Nat.reduceBEq, true_or, or_true, false_or, or_false, Nat.reduceLT, Nat.reduceMod, Nat.reducePow, rmaps, nsucc, List.flatten_cons, List.flatten_nil, Nat.reduceEqDiff, Nat.reduceLeDiff, Nat.reduceAdd, Nat.reduceMul, Nat.reduceSub, ↓reduceIte, reduceCtorEq, decide_true, decide_false]
        exact hdone _ (by simp [wL, nilS])
    | none =>
      obtain ⟨rfl, hb, hq, hk, hlen, hT⟩ := hE
      have hW2 : WS b r H' (flatTs acc) 0 0 := hW
      obtain ⟨hrn, nd, hro, hnd, hnm⟩ := hW2
      have hro0 := hro
      simp only [wL] at hro
      by_cases hlt : q < b.size
      · obtain ⟨k, rfl⟩ : ∃ k', k = k' + 1 := ⟨k - 1, by omega⟩
        simp only [kidsC, if_pos hlt] at hT
        simp only [show decide ((q : Int) < (b.size : Int)) = true from decide_eq_true (by omega), hro, e00, f0, f3, f4, hds, Cd.cd14, Tk.t14, base0, base1, base2, base3, Option.isNone_none, Option.isNone_some, Nat.reduceBEq, true_or, or_true, false_or, or_false, Nat.reduceLT, Nat.reduceMod, Nat.reducePow, rmaps, nsucc, List.flatten_cons, List.flatten_nil, Nat.reduceEqDiff, Nat.reduceLeDiff, Nat.reduceAdd, Nat.reduceMul, Nat.reduceSub, ↓reduceIte, reduceCtorEq, decide_true, decide_false]
        have hN := rnode42 b hb r 16 (Nat.le_refl _) q b.size (flatTs acc) H' (Nat.le_refl _) hlen hW
        rw [show ((16 - 16 : Nat) : Int) = 0 from rfl] at hN
        refine RnodeOut.go hN (fun e pp k' H1 he hl' hW1 => ?_) (fun t c H1 he hW1 => ?_)
        · rw [he] at hT
          simp only [f0, f3, f4, hds, Cd.cd14, Tk.t14, base0, base1, base2, base3, Option.isNone_none, Option.isNone_some, Nat.reduceBEq, true_or, or_true, false_or, or_false, Nat.reduceLT, Nat.reduceMod, Nat.reducePow, rmaps, nsucc, List.flatten_cons, List.flatten_nil, Nat.reduceEqDiff, Nat.reduceLeDiff, Nat.reduceAdd, Nat.reduceMul, Nat.reduceSub, ↓reduceIte, reduceCtorEq, decide_true, decide_false]
          exact ⟨0, by show 0 < b.size - q + 1; omega, pp, q, k, acc, some e, rfl, ⟨hT.symm, rd_err b 16 b.size q _ e he⟩, rfl, k', hW1⟩
        · have hok := rd_ok b 16 b.size q _ t c he
          have hln := rd_len b 16 b.size q _ t c he
          rw [he] at hT
          simp only [f0, f3, f4, hds, Cd.cd14, Tk.t14, base0, base1, base2, base3, Option.isNone_none, Option.isNone_some, Nat.reduceBEq, true_or, or_true, false_or, or_false, Nat.reduceLT, Nat.reduceMod, Nat.reducePow, rmaps, nsucc, List.flatten_cons, List.flatten_nil, Nat.reduceEqDiff, Nat.reduceLeDiff, Nat.reduceAdd, Nat.reduceMul, Nat.reduceSub, ↓reduceIte, reduceCtorEq, decide_true, decide_false]
          refine ⟨_, ?_, (t.h.fin : Int), t.h.fin, k, acc ++ [t], none, rfl, ⟨rfl, hb, by omega, by omega, ?_, ?_⟩, rfl, ?_⟩
          · show b.size - t.h.fin + 1 < b.size - q + 1; omega
          · rw [flatTs_append, flatTs_one, List.length_append]; omega
          · rw [flatTs_append, flatTs_one, List.length_append, ← hln]; exact hT
          · show WS b r H1 _ 0 0
            rw [flatTs_append, flatTs_one]; exact hW1
      · have hTe : kidsC (fun a c => rd b 16 a b.size c) b.size k q (flatTs acc).length acc = .ok (acc, (flatTs acc).length) := by cases k <;> simp [kidsC, hlt]
        rw [hTe] at hT
        rw [← hT] at hR
        simp only [show decide ((q : Int) < (b.size : Int)) = false from decide_eq_false (by omega), hro, e01, f0, f3, f4, hds, Cd.cd14, Tk.t14, base0, base1, base2, base3, Option.isNone_none, Option.isNone_some, Nat.reduceBEq, true_or, or_true, false_or, or_false, Nat.reduceLT, Nat.reduceMod, Nat.reducePow, rmaps, nsucc, List.flatten_cons, List.flatten_nil, Nat.reduceEqDiff, Nat.reduceLeDiff, Nat.reduceAdd, Nat.reduceMul, Nat.reduceSub, ↓reduceIte, reduceCtorEq, decide_true, decide_false]
        exact fin_ref hro0 (hnd.view nodeL_len FZs.nodeL) hR

set_option maxHeartbeats 2000000 in
theorem read14 (b : ByteArray) : FCall Try.prog 14 [.v (.string b)] (· = refOut b (readB b)) := by
  obtain ⟨r, hr⟩ : ∃ r, r = AH.none.next := ⟨_, rfl⟩
  refine ACall.enter [7] (cc := putS 3 Cd.cd14 rest14) (by rw [show putS 3 Cd.cd14 rest14 = Cd.cd14 from putS_drop 3 _]; exact Cd.fn14) (by simp) ?_
  by_cases h4 : 4000 < b.size
  · have hres : readB b = .error (0, 2) := by unfold readB; rw [if_pos h4]
    rw [hres]
    simp only [putS, show decide (((b.size : Nat) : Int) > 4000) = true from decide_eq_true (by omega), Cd.cd14, Tk.t14, base0, base1, base2, base3, Option.isNone_none, Option.isNone_some, Nat.reduceBEq, true_or, or_true, false_or, or_false, Nat.reduceLT, Nat.reduceMod, Nat.reducePow, rmaps, nsucc, List.flatten_cons, List.flatten_nil, Nat.reduceEqDiff, Nat.reduceLeDiff, Nat.reduceAdd, Nat.reduceMul, Nat.reduceSub, ↓reduceIte, reduceCtorEq, decide_true, decide_false]
    refine rfail.go (rfail41 b nilS _ 0 2 rfl _ (by simp [wL, nilS])) fun H1 h1 hk => ?_
    have hkn := hk.next
    simp only [Cd.cd14, Tk.t14, base0, base1, base2, base3, Option.isNone_none, Option.isNone_some, Nat.reduceBEq, true_or, or_true, false_or, or_false, Nat.reduceLT, Nat.reduceMod, Nat.reducePow, rmaps, nsucc, List.flatten_cons, List.flatten_nil, Nat.reduceEqDiff, Nat.reduceLeDiff, Nat.reduceAdd, Nat.reduceMul, Nat.reduceSub, ↓reduceIte, reduceCtorEq, decide_true, decide_false]
    exact tail14 b AH.none.next (.error (0, 2)) (some (0, 2)) _ _ _ rfl (by simp [upd, enterA]) (by simp [upd]) rfl ⟨rfl, by simp⟩ ⟨0, by simp at hkn; omega, nilS, h1, .inl ⟨rfl, .inl rfl⟩⟩
  · by_cases h0 : b.size = 0
    · have hres : readB b = .error (0, 1) := by unfold readB; rw [if_neg h4, if_pos h0]
      rw [hres]
      simp only [putS, show decide (((b.size : Nat) : Int) > 4000) = false from decide_eq_false (by omega), show (((b.size : Nat) : Int) == 0) = true from by rw [beq_iff_eq]; omega, Cd.cd14, Tk.t14, base0, base1, base2, base3, Option.isNone_none, Option.isNone_some, Nat.reduceBEq, true_or, or_true, false_or, or_false, Nat.reduceLT, Nat.reduceMod, Nat.reducePow, rmaps, nsucc, List.flatten_cons, List.flatten_nil, Nat.reduceEqDiff, Nat.reduceLeDiff, Nat.reduceAdd, Nat.reduceMul, Nat.reduceSub, ↓reduceIte, reduceCtorEq, decide_true, decide_false]
      refine rfail.go (rfail41 b nilS _ 0 1 rfl _ (by simp [wL, nilS])) fun H1 h1 hk => ?_
      have hkn := hk.next
      simp only [Cd.cd14, Tk.t14, base0, base1, base2, base3, Option.isNone_none, Option.isNone_some, Nat.reduceBEq, true_or, or_true, false_or, or_false, Nat.reduceLT, Nat.reduceMod, Nat.reducePow, rmaps, nsucc, List.flatten_cons, List.flatten_nil, Nat.reduceEqDiff, Nat.reduceLeDiff, Nat.reduceAdd, Nat.reduceMul, Nat.reduceSub, ↓reduceIte, reduceCtorEq, decide_true, decide_false]
      exact tail14 b AH.none.next (.error (0, 1)) (some (0, 1)) _ _ _ rfl (by simp [upd, enterA]) (by simp [upd]) rfl ⟨rfl, by simp⟩ ⟨0, by simp at hkn; omega, nilS, h1, .inl ⟨rfl, .inl rfl⟩⟩
    · have hres : readB b = match kidsC (fun a c => rd b 16 a b.size c) b.size b.size 0 0 [] with
        | .error e => .error e
        | .ok (l, _) => .ok l := by unfold readB; rw [if_neg h4, if_neg h0] <;> rfl
      rw [hres]
      simp only [putS, show decide (((b.size : Nat) : Int) > 4000) = false from decide_eq_false (by omega), show (((b.size : Nat) : Int) == 0) = false from by rw [beq_eq_false_iff_ne]; omega, Cd.cd14, Tk.t14, base0, base1, base2, base3, Option.isNone_none, Option.isNone_some, Nat.reduceBEq, true_or, or_true, false_or, or_false, Nat.reduceLT, Nat.reduceMod, Nat.reducePow, rmaps, nsucc, List.flatten_cons, List.flatten_nil, Nat.reduceEqDiff, Nat.reduceLeDiff, Nat.reduceAdd, Nat.reduceMul, Nat.reduceSub, ↓reduceIte, reduceCtorEq, decide_true, decide_false]
      exact tail14 b AH.none.next _ none _ _ _ rfl (by simp [upd, enterA]) (by simp [upd]) rfl ⟨rfl, by omega, by omega, by omega, by simp [flatTs], rfl⟩ ⟨by simp, nilS, by simp [wL, nilS], .inl ⟨rfl, .inl rfl⟩, fun n e => by cases e⟩
end Go.Proofs.Ytmjjfdppaomcfaa

/- Walks: limits; lists of nodes compared. -/
namespace Go.Proofs.Ytmjjfdppaomcfaa
open Go Go.Proofs.Ytmjjfdppaomcfaa.Ab
set_option maxRecDepth 100000
set_option linter.unusedSimpArgs false

theorem leT {a b : Nat} (h : a ≤ b) : ((a : Int) ≤ (b : Int)) = True := by simp; omega
theorem ltT {a b : Nat} (h : a < b) : ((a : Int) < (b : Int)) = True := by simp; omega
theorem sadd {x y : ByteArray} (h : x.size + y.size ≤ 1000000000) : astr .add x y = some (.string (x ++ y)) := by
  unfold astr
  simp only []
  rw [if_neg]
  rw [show IntKind.i64.max = 9223372036854775807 from by decide]
  omega

theorem fin_v {H' : AH} {x : Value} {w : AV} (hw : w = .v x) : ∃ v v', AOut.ret (.v x) = .ret v ∧ View H' v v' ∧ FZ v' ∧ v' = w := by
  subst hw; exact ⟨_, _, rfl, (FZ.v _).view, FZ.v _, rfl⟩
def smallB (b : ByteArray) : Bool := decide (b.size ≤ 400) || (decide (4000 < b.size) && decide (b.size < 4050))
theorem small12 (b : ByteArray) : FCall Try.prog 12 [.v (.string b)] (· = .v (.bool (smallB b))) := by
  refine ACall.enter [] Cd.fn12 (by simp) ?_
  unfold smallB
  by_cases h1 : b.size ≤ 400
  · simp only [show decide ((b.size : Int) ≤ 400) = true from decide_eq_true (by omega), decide_eq_true h1, Cd.cd12, Tk.t12, base0, base1, base2, base3, Option.isNone_none, Option.isNone_some, Nat.reduceBEq, true_or, or_true, false_or, or_false, Nat.reduceLT, Nat.reduceMod, Nat.reducePow, rmaps, nsucc, List.flatten_cons, List.flatten_nil, Nat.reduceEqDiff, Nat.reduceLeDiff, Nat.reduceAdd, Nat.reduceMul, Nat.reduceSub, ↓reduceIte, reduceCtorEq, decide_true, decide_false]
    exact fin_v rfl
  · by_cases h2 : 4000 < b.size
    · simp only [show decide ((b.size : Int) ≤ 400) = false from decide_eq_false (by omega), decide_eq_false h1, show decide ((b.size : Int) > 4000) = true from decide_eq_true (by omega), decide_eq_true h2, show decide ((b.size : Int) < 4050) = decide (b.size < 4050) from by simp; omega, Cd.cd12, Tk.t12, base0, base1, base2, base3, Option.isNone_none, Option.isNone_some, Nat.reduceBEq, true_or, or_true, false_or, or_false, Nat.reduceLT, Nat.reduceMod, Nat.reducePow, rmaps, nsucc, List.flatten_cons, List.flatten_nil, Nat.reduceEqDiff, Nat.reduceLeDiff, Nat.reduceAdd, Nat.reduceMul, Nat.reduceSub, ↓reduceIte, reduceCtorEq, decide_true, decide_false]
      exact fin_v rfl
    · simp only [show decide ((b.size : Int) ≤ 400) = false from decide_eq_false (by omega), decide_eq_false h1, show decide ((b.size : Int) > 4000) = false from decide_eq_false (by omega), decide_eq_false h2, Cd.cd12, Tk.t12, base0, base1, base2, base3, Option.isNone_none, Option.isNone_some, Nat.reduceBEq, true_or, or_true, false_or, or_false, Nat.reduceLT, Nat.reduceMod, Nat.reducePow, rmaps, nsucc, List.flatten_cons, List.flatten_nil, Nat.reduceEqDiff, Nat.reduceLeDiff, Nat.reduceAdd, Nat.reduceMul, Nat.reduceSub, ↓reduceIte, reduceCtorEq, decide_true, decide_false]
      exact fin_v rfl

end Go.Proofs.Ytmjjfdppaomcfaa

/- Readers of the arguments. -/
namespace Go.Proofs.Ytmjjfdppaomcfaa
open Go Go.Proofs.Ytmjjfdppaomcfaa.Ab
set_option maxRecDepth 100000

theorem rdI : Rd Try.prog 3 (fun n : Int => [.v (.int .i64 n)]) (fun n => IntKind.i64.min ≤ n ∧ n ≤ IntKind.i64.max) := Rd.int Try.underlying3
theorem rdS : Rd Try.prog 9 (fun b : ByteArray => [.v (.string b)]) (fun s => s.size ≤ maxLen) := Rd.str Try.underlying9
theorem rdInts : Rd Try.prog 33 (fun l : List Int => [AV.lst 1 (l.map fun x => [.v (.int .i64 x)]) .unk]) (fun _ => True) :=
  (Rd.slice Try.underlying33 (by kernel_rfl) (by decide) rdI (fun _ => rfl)).map (fun l : List Int => l) (fun _ => rfl) (fun _ _ => trivial)
theorem own : ownKnob Try.prog.godebug = none := by kernel_rfl
theorem laidOut : laidOutB Try.prog = true := by kernel_rfl
end Go.Proofs.Ytmjjfdppaomcfaa

/- Walks: bytes the other way round; the octets of a length. -/
namespace Go.Proofs.Ytmjjfdppaomcfaa
open Go Go.Proofs.Ytmjjfdppaomcfaa.Ab
set_option maxRecDepth 100000
set_option linter.unusedSimpArgs false

def byV (x : UInt8) : AV := .v (.int .u8 (x.toNat : Nat))
def byR (x : UInt8) : List AV := [byV x]
theorem byR_len (x : UInt8) : (byR x).length = 1 := rfl
theorem byGet {M : List UInt8} {i : Nat} (rest : List AV) (h : i < M.length) : (List.drop (i * 1) (flatE byR M ++ rest))[0]? = some (byV (M.getD i default)) := by
  have := flatE_drop byR_len M i 0 rest h (by omega)
  rw [Nat.add_zero] at this
  rw [this]; rfl
theorem bySet {M : List UInt8} {i : Nat} (rest : List AV) (x : UInt8) (h : i < M.length) : List.take (i * 1) (flatE byR M ++ rest) ++ byV x :: List.drop (i * 1 + 1) (flatE byR M ++ rest) = flatE byR (M.set i x) ++ rest :=
  flatE_splice (enc := byR) byR_len (l := M) (i := i) (j := 0) (rest := rest) (cs := [byV x]) (x := x) h (by simp) rfl
theorem byLen {M : List UInt8} {i : Nat} (rest : List AV) (h : i < M.length) : i * 1 + 1 ≤ (flatE byR M ++ rest).length := by
  rw [List.length_append, flatE_len byR_len]; omega
theorem getD_set' {l : List UInt8} {i j : Nat} {x : UInt8} (h : i < l.length) : (l.set i x).getD j default = if i = j then x else l.getD j default := by
  rw [List.getD_eq_getElem?_getD, List.getElem?_set]
  split
  · simp [h]
  · rw [← List.getD_eq_getElem?_getD]
theorem byV_cells (x : UInt8) : cellsA (byV x) = some [byV x] := rfl
theorem byV_one (x : UInt8) : AV.one (byV x) = true := rfl

theorem reverse62 (q : Nat) (l : List UInt8) (rest : List AV) (H : AH) (hm : H.own q = some (.cells (flatE byR l ++ rest))) (hl : l.length ≤ 1000000) :
    ACall Try.prog 62 [.sl 1 q 0 l.length] H (fun out H' => out = .ret (.tup []) ∧ H'.next = H.next ∧ (∀ n, n ≠ q → H'.own n = H.own n) ∧ H'.tip = H.tip ∧ H'.own q = some (.cells (flatE byR l.reverse ++ rest))) := by
  refine ACall.enter [] Cd.fn62 (by simp) ?_
  simp only [show IntKind.i64.wrap ((l.length : Int) - 1) = (l.length : Int) - 1 from wrapI (by omega) (by omega), Cd.cd62, Tk.t62, base0, base1, base2, base3, Option.isNone_none, Option.isNone_some, Nat.reduceBEq, true_or, or_true, false_or, or_false, Nat.reduceLT, Nat.reduceMod, Nat.reducePow, rmaps, nsucc, List.flatten_cons, List.flatten_nil, Nat.reduceEqDiff, Nat.reduceLeDiff, Nat.reduceAdd, Nat.reduceMul, Nat.reduceSub, ↓reduceIte, reduceCtorEq, decide_true, decide_false]
  refine LWP.loop [] (fun m f H' => ∃ i, m = l.length - i ∧ (i ≤ l.length) ∧ f.t 0 = .sl 1 q 0 l.length ∧ f.t 2 = .v (.int .i64 (i : Nat)) ∧ f.t 3 = .v (.int .i64 ((l.length : Int) - 1 - (i : Nat))) ∧ f.ds = [] ∧ H'.next = H.next ∧ (∀ n, n ≠ q → H'.own n = H.own n) ∧ H'.tip = H.tip ∧ ∃ M : List UInt8, M.length = l.length ∧ (∀ k, k < l.length → M.getD k default = if k < i ∨ l.length ≤ k + i then l.getD (l.length - 1 - k) default else l.getD k default) ∧ H'.own q = some (.cells (flatE byR M ++ rest))) ?_ ?_ (m := l.length - (0))
  · exact ⟨0, rfl, (by omega), rfl, rfl, (by simp [upd]), rfl, ⟨rfl, fun _ _ => rfl, rfl, l, rfl, fun k hk => by rw [if_neg (by omega)], hm⟩⟩
  · rintro m f H' ⟨i, rfl, hi, f0, f2, f3, hds, ⟨hnx,hot,htp,M,hM,hMg,hown⟩⟩
    by_cases hlt : (i : Int) < (l.length : Int) - 1 - i
    · have q1 : (i : Int) < (l.length : Int) := by omega
      have q2 : (0 : Int) ≤ (l.length : Int) - 1 - i := by omega
      have q3 : (l.length : Int) - 1 - i < (l.length : Int) := by omega
      have q4 : ((l.length : Int) - 1 - i).toNat = l.length - 1 - i := by omega
      have w1 : IntKind.i64.wrap ((l.length : Int) - 1 - i - 1) = (l.length : Int) - 1 - (i + 1 : Nat) := by rw [wrapI (by omega) (by omega)]; omega
      have g1 := byGet (M := M) (i := i) rest (by omega)
      have g2 := byGet (M := M) (i := l.length - 1 - i) rest (by omega)
      have s1 := bySet (M := M) (i := i) rest (M.getD (l.length - 1 - i) default) (by omega)
      have s2 := bySet (M := M.set i (M.getD (l.length - 1 - i) default)) (i := l.length - 1 - i) rest (M.getD i default) (by simp; omega)
      have l1 := byLen (M := M) (i := i) rest (by omega)
      have l2 := byLen (M := M.set i (M.getD (l.length - 1 - i) default)) (i := l.length - 1 - i) rest (by simp; omega)
      simp only [decide_eq_true hlt, hown, Int.natCast_nonneg, Int.toNat_natCast, q1, q2, q3, q4, g1, g2, byV_cells, byV_one, s1, s2, l1, l2, w1, wrapS (show i < 2 ^ 62 by omega), f0, f2, f3, hds, Cd.cd62, Tk.t62, base0, base1, base2, base3, Option.isNone_none, Option.isNone_some, Nat.reduceBEq, true_or, or_true, false_or, or_false, Nat.reduceLT, Nat.reduceMod, Nat.reducePow, rmaps, nsucc, List.flatten_cons, List.flatten_nil, Nat.reduceEqDiff, Nat.reduceLeDiff, Nat.reduceAdd, Nat.reduceMul, Nat.reduceSub, ↓reduceIte, reduceCtorEq, decide_true, decide_false]
      refine ⟨_, by omega, i + 1, rfl, by omega, rfl, rfl, hnx, fun n hn => by rw [if_neg hn, if_neg hn]; exact hot n hn, htp, _, ?_, ?_, rfl⟩
      · simp [hM]
      · intro k hk
        rw [getD_set' (by simp; omega), getD_set' (by omega)]
        have e1 := hMg i (by omega)
        have e2 := hMg (l.length - 1 - i) (by omega)
        have e3 := hMg k hk
        rw [if_neg (by omega)] at e1 e2
        by_cases h1 : l.length - 1 - i = k
        · subst h1
          rw [if_pos rfl, e1, if_pos (by omega)]; congr 1; omega
        · rw [if_neg h1]
          by_cases h2 : i = k
          · subst h2
            rw [if_pos rfl, e2, if_pos (by omega)]
          · rw [if_neg h2, e3]
            by_cases h3 : k < i ∨ l.length ≤ k + i
            · rw [if_pos h3, if_pos (by omega)]
            · rw [if_neg h3, if_neg (by omega)]
    · simp only [decide_eq_false hlt, f0, f2, f3, hds, Cd.cd62, Tk.t62, base0, base1, base2, base3, Option.isNone_none, Option.isNone_some, Nat.reduceBEq, true_or, or_true, false_or, or_false, Nat.reduceLT, Nat.reduceMod, Nat.reducePow, rmaps, nsucc, List.flatten_cons, List.flatten_nil, Nat.reduceEqDiff, Nat.reduceLeDiff, Nat.reduceAdd, Nat.reduceMul, Nat.reduceSub, ↓reduceIte, reduceCtorEq, decide_true, decide_false]
      refine ⟨hnx, hot, htp, ?_⟩
      rw [hown]
      congr 4
      apply List.ext_getElem
      · simp [hM]
      · intro k h1 h2
        have e := hMg k (by omega)
        simp only [List.getD_eq_getElem?_getD, List.getElem?_eq_getElem h1, Option.getD_some] at e
        rw [e, List.getElem_reverse]
        by_cases h3 : k < i ∨ l.length ≤ k + i
        · rw [if_pos h3, List.getElem?_eq_getElem (by omega)]; rfl
        · rw [if_neg h3, List.getElem?_eq_getElem (by omega)]
          simp only [Option.getD_some]
          congr 1; omega
end Go.Proofs.Ytmjjfdppaomcfaa

/- Walks: the octets of a length. -/
namespace Go.Proofs.Ytmjjfdppaomcfaa
open Go Go.Proofs.Ytmjjfdppaomcfaa.Ab
set_option maxRecDepth 100000
set_option linter.unusedSimpArgs false

theorem isB84 : isBytesT Try.prog 84 = true := by kernel_rfl
theorem wrapU8 (k : Nat) : IntKind.u8.wrap (k : Int) = ((UInt8.ofNat k).toNat : Int) := by
  simp [IntKind.wrap, IntKind.bits, IntKind.signed]
theorem byV_ofNat (k : Nat) : AV.v (.int .u8 ((UInt8.ofNat k).toNat : Int)) = byV (UInt8.ofNat k) := rfl
theorem shr8n (k : Nat) : Int.fdiv (k : Int) (2 ^ min (8 : Int).toNat IntKind.i64.bits) = ((k / 256 : Nat) : Int) := by
  rw [show (2 : Int) ^ min (8 : Int).toNat IntKind.i64.bits = 256 from by decide, Int.fdiv_eq_ediv_of_nonneg _ (by omega)]; omega
def lowF : Nat → Nat → List UInt8
  | 0, _ => []
  | m + 1, k => if k = 0 then [] else UInt8.ofNat k :: lowF m (k / 256)
theorem lowF_zero (m : Nat) : lowF m 0 = [] := by cases m <;> simp [lowF]
theorem lowF_fuel : ∀ (m m' k : Nat), k ≤ m → k ≤ m' → lowF m k = lowF m' k
  | 0, m', k, h, _ => by
    have : k = 0 := by omega
    subst this; rw [lowF_zero, lowF_zero]
  | m + 1, 0, k, _, h => by
    have : k = 0 := by omega
    subst this; rw [lowF_zero, lowF_zero]
  | m + 1, m' + 1, k, h, h' => by
    simp only [lowF]
    by_cases hk : k = 0
    · rw [if_pos hk, if_pos hk]
    · rw [if_neg hk, if_neg hk, lowF_fuel m m' (k / 256) (by omega) (by omega)]
/-- the digits of a number, the lowest first -/
def lowB (n : Nat) : List UInt8 := lowF n n
theorem lowB_step {k : Nat} (h : 0 < k) : lowB k = UInt8.ofNat k :: lowB (k / 256) := by
  unfold lowB
  obtain ⟨m, rfl⟩ : ∃ m, k = m + 1 := ⟨k - 1, by omega⟩
  rw [lowF, if_neg (by omega), lowF_fuel m ((m + 1) / 256) ((m + 1) / 256) (by omega) (by omega)]
theorem lowF_len : ∀ (m k : Nat), (lowF m k).length ≤ m
  | 0, _ => by simp [lowF]
  | m + 1, k => by
    simp only [lowF]; split
    · simp
    · have := lowF_len m (k / 256); simp; omega
def padB (L : List UInt8) (T : Nat) : List UInt8 := L ++ List.replicate (T - L.length) 0
theorem padB_step {L : List UInt8} {T : Nat} (h : L.length < T) : padB (L ++ [0]) T = padB L T := by
  unfold padB
  rw [List.append_assoc, show T - L.length = (T - (L ++ [0]).length) + 1 from by simp; omega]
  simp [List.replicate_succ]
theorem padB_done {L : List UInt8} {T : Nat} (h : T ≤ L.length) : padB L T = L := by
  unfold padB; rw [show T - L.length = 0 from by omega]; simp
theorem padB_len (L : List UInt8) (T : Nat) : (padB L T).length = max L.length T := by simp [padB]; omega
/-- the octets of a length -/
def lengthL (n least : Nat) : List UInt8 := if n < 128 ∧ least = 1 then [UInt8.ofNat n] else
  UInt8.ofNat (128 + (padB (lowB n) (max 1 (least - 1))).length) :: (padB (lowB n) (max 1 (least - 1))).reverse
def lengthB (n least : Nat) : ByteArray := ⟨(lengthL n least).toArray⟩

theorem byteA_byR (x : UInt8) : byteA (byR x) = some x := by
  have h := x.toNat_lt
  simp only [byR, byV, byteA]
  rw [if_pos (by constructor <;> omega)]
  simp
theorem bytesA_map : ∀ l : List UInt8, bytesA (l.map byR) = some l
  | [] => rfl
  | x :: l => by
    have := bytesA_map l
    simp only [bytesA, List.map_cons, List.map_map] at this ⊢
    rw [byteA_byR]
    simp only [allSome, this, Option.map_some]
theorem bytes_flat (l : List UInt8) (rest : List AV) : bytesA ((List.take l.length (flatE byR l ++ rest)).map fun a => [a]) = some l := by
  have e : l.length = (flatE byR l).length := by rw [flatE_len byR_len]; omega
  rw [e, List.take_left]
  have : (flatE byR l).map (fun a => [a]) = l.map byR := by
    unfold flatE
    induction l with
    | nil => rfl
    | cons x l ih => simp only [List.map_cons, List.flatten_cons, List.map_append, ih (by rw [flatE_len byR_len]; omega)]; rfl
  rw [this]; exact bytesA_map l
theorem bcat (l m : List UInt8) : (⟨l.toArray⟩ ++ ⟨m.toArray⟩ : ByteArray) = ⟨(l ++ m).toArray⟩ := by
  apply ByteArray.ext; simp
/-- bytes of the call's own, or nil -/
def ByA (H : AH) (v : AV) (L : List UInt8) : Prop := (L = [] ∧ v = nilS) ∨ ∃ q rest, v = .sl 1 q 0 L.length ∧ q < H.next ∧ H.own q = some (.cells (flatE byR L ++ rest))


def rest48 : CC := dropS 2 Cd.cd48
set_option maxHeartbeats 1000000 in
theorem tail48 (n least : Nat) (hn : n ≤ 1000000) (h1 : 1 ≤ least) (h2 : least ≤ 1000000) (f : AF) (hf0 : f.t 0 = iv n) (hf1 : f.t 1 = iv least) (hds : f.ds = []) (R : AOut → AH → Prop)
    (hR : ∀ H', R (.ret (.v (.string ⟨(UInt8.ofNat (128 + (padB (lowB n) (max 1 (least - 1))).length) :: (padB (lowB n) (max 1 (least - 1))).reverse).toArray⟩))) H') :
    cwp Try.prog [26,35] 47 rest48 (Kont.fin Try.prog [ResultVar.tmp 4] R) f AH.none := by
  have hlow : (lowB n).length ≤ n := lowF_len n n
  simp only [rest48, dropS, hf0, hf1, hds, Cd.cd48, Tk.t48, base0, base1, base2, base3, Option.isNone_none, Option.isNone_some, Nat.reduceBEq, true_or, or_true, false_or, or_false, Nat.reduceLT, Nat.reduceMod, Nat.reducePow, rmaps, nsucc, List.flatten_cons, List.flatten_nil, Nat.reduceEqDiff, Nat.reduceLeDiff, Nat.reduceAdd, Nat.reduceMul, Nat.reduceSub, ↓reduceIte, reduceCtorEq, decide_true, decide_false]
  refine LWP.loop [26,35] (fun m f H' => ∃ k, m = k + 1 ∧ (k ≤ n) ∧ f.t 1 = iv least ∧ f.t 6 = .v (.int .i64 (k : Nat)) ∧ f.ds = [] ∧ ∃ L, L ++ lowB k = lowB n ∧ L.length + k ≤ n ∧ ByA H' (f.t 5) L) ?_ ?_ (m := (n) + 1)
  · exact ⟨n, rfl, (Nat.le_refl n), (by simp [upd, hf1]), (by simp [upd, iv]), rfl, ⟨[], rfl, by simp, .inl ⟨rfl, rfl⟩⟩⟩
  · rintro m f H' ⟨k, rfl, hk, f1, f6, hds, ⟨L,hL,hLn,hA⟩⟩
    by_cases hk0 : 0 < k
    · have hst : (L ++ [UInt8.ofNat k]) ++ lowB (k / 256) = lowB n := by rw [← hL, lowB_step hk0]; simp
      rcases hA with ⟨rfl, h5⟩ | ⟨q, rest, h5, hq, hown⟩
      · simp only [h5, nilS, show decide ((k : Int) > 0) = true from decide_eq_true (by omega), wrapU8, byV_ofNat, shr8n, show roomA 1 1 = true from rfl, f1, f6, hds, Cd.cd48, Tk.t48, base0, base1, base2, base3, Option.isNone_none, Option.isNone_some, Nat.reduceBEq, true_or, or_true, false_or, or_false, Nat.reduceLT, Nat.reduceMod, Nat.reducePow, rmaps, nsucc, List.flatten_cons, List.flatten_nil, Nat.reduceEqDiff, Nat.reduceLeDiff, Nat.reduceAdd, Nat.reduceMul, Nat.reduceSub, ↓reduceIte, reduceCtorEq, decide_true, decide_false]
        refine ⟨_, by omega, k / 256, rfl, by omega, rfl, [UInt8.ofNat k], by simpa using hst, by simp; omega, .inr ⟨H'.next, [], rfl, by simp, by simp [flatE, byR, byV]⟩⟩
      · have e1 : L.length * 1 ≤ (flatE byR L ++ rest).length := by rw [List.length_append, flatE_len byR_len]; omega
        have e2 : List.take (L.length * 1) (flatE byR L ++ rest) ++ [byV (UInt8.ofNat k)] = flatE byR (L ++ [UInt8.ofNat k]) := by
          rw [show L.length * 1 = (flatE byR L).length from (flatE_len byR_len L).symm, List.take_left, flatE_append]; rfl
        simp only [h5, hown, show decide ((k : Int) > 0) = true from decide_eq_true (by omega), wrapU8, byV_ofNat, byV_one, byV_cells, shr8n, room1 (b := 1) (n := L.length) (by omega) (by omega), e1, e2, f1, f6, hds, Cd.cd48, Tk.t48, base0, base1, base2, base3, Option.isNone_none, Option.isNone_some, Nat.reduceBEq, true_or, or_true, false_or, or_false, Nat.reduceLT, Nat.reduceMod, Nat.reducePow, rmaps, nsucc, List.flatten_cons, List.flatten_nil, Nat.reduceEqDiff, Nat.reduceLeDiff, Nat.reduceAdd, Nat.reduceMul, Nat.reduceSub, ↓reduceIte, reduceCtorEq, decide_true, decide_false]
        refine ⟨_, by omega, k / 256, rfl, by omega, rfl, L ++ [UInt8.ofNat k], hst, by simp; omega, .inr ⟨H'.next, [], by simp, by simp, ?_⟩⟩
        simp [show ¬ H'.next = q by omega]
    · obtain rfl : k = 0 := by omega
      rw [show lowB 0 = [] from rfl, List.append_nil] at hL
      rw [← hL] at hR
      obtain ⟨T, hT⟩ : ∃ T, T = max 1 (least - 1) := ⟨_, rfl⟩
      have hT1 : 1 ≤ T := by omega
      have hT2 : T ≤ 1000000 := by omega
      have wl : IntKind.i64.wrap ((least : Int) - 1) = (least : Int) - 1 := wrapI (by omega) (by omega)
      have hmax : (if (least : Int) - 1 > 1 then (least : Int) - 1 else 1) = (T : Int) := by split <;> omega
      rw [← hT] at hR
      simp only [show decide (((0 : Nat) : Int) > 0) = false from rfl, f1, f6, hds, Cd.cd48, Tk.t48, base0, base1, base2, base3, Option.isNone_none, Option.isNone_some, Nat.reduceBEq, true_or, or_true, false_or, or_false, Nat.reduceLT, Nat.reduceMod, Nat.reducePow, rmaps, nsucc, List.flatten_cons, List.flatten_nil, Nat.reduceEqDiff, Nat.reduceLeDiff, Nat.reduceAdd, Nat.reduceMul, Nat.reduceSub, ↓reduceIte, reduceCtorEq, decide_true, decide_false]
      refine LWP.loop [26,35] (fun m f H' => ∃ j, m = T - j ∧ (j ≤ max L.length T) ∧ f.t 1 = iv least ∧ f.ds = [] ∧ ∃ M, padB M T = padB L T ∧ M.length = j ∧ ByA H' (f.t 5) M) ?_ ?_ (m := T - (L.length))
      · exact ⟨L.length, rfl, (by omega), (by simp [upd, f1]), rfl, ⟨L, rfl, rfl, hA⟩⟩
      · rintro m f H' ⟨j, rfl, hjb, f1, hds, ⟨M,hMp,hMl,hB⟩⟩
        by_cases hjT : j < T
        · have hst : padB (M ++ [0]) T = padB L T := by rw [← hMp]; exact padB_step (by omega)
          rcases hB with ⟨rfl, h5⟩ | ⟨q, rest, h5, hq, hown⟩
          · simp only [h5, nilS, iv, wl, hmax, List.length_nil, show decide (((0 : Nat) : Int) < (T : Int)) = true from decide_eq_true (by omega), show decide ((0 : Int) < (T : Int)) = true from decide_eq_true (by omega), show roomA 1 1 = true from rfl, f1, hds, Cd.cd48, Tk.t48, base0, base1, base2, base3, Option.isNone_none, Option.isNone_some, Nat.reduceBEq, true_or, or_true, false_or, or_false, Nat.reduceLT, Nat.reduceMod, Nat.reducePow, rmaps, nsucc, List.flatten_cons, List.flatten_nil, Nat.reduceEqDiff, Nat.reduceLeDiff, Nat.reduceAdd, Nat.reduceMul, Nat.reduceSub, ↓reduceIte, reduceCtorEq, decide_true, decide_false]
            refine ⟨_, by simp at hMl; omega, 1, rfl, by omega, [0], by simpa using hst, rfl, .inr ⟨H'.next, [], rfl, by simp, by simp [flatE, byR, byV]⟩⟩
          · have e1 : M.length * 1 ≤ (flatE byR M ++ rest).length := by rw [List.length_append, flatE_len byR_len]; omega
            have e2 : List.take (M.length * 1) (flatE byR M ++ rest) ++ [AV.v (.int .u8 0)] = flatE byR (M ++ [0]) := by
              rw [show M.length * 1 = (flatE byR M).length from (flatE_len byR_len M).symm, List.take_left, flatE_append]; rfl
            simp only [h5, hown, iv, wl, hmax, show decide ((M.length : Int) < (T : Int)) = true from decide_eq_true (by omega), room1 (b := 1) (n := M.length) (by omega) (by omega), e1, e2, f1, hds, Cd.cd48, Tk.t48, base0, base1, base2, base3, Option.isNone_none, Option.isNone_some, Nat.reduceBEq, true_or, or_true, false_or, or_false, Nat.reduceLT, Nat.reduceMod, Nat.reducePow, rmaps, nsucc, List.flatten_cons, List.flatten_nil, Nat.reduceEqDiff, Nat.reduceLeDiff, Nat.reduceAdd, Nat.reduceMul, Nat.reduceSub, ↓reduceIte, reduceCtorEq, decide_true, decide_false]
            refine ⟨_, by omega, j + 1, rfl, by omega, M ++ [0], hst, by simp; omega, .inr ⟨H'.next, [], by simp, by simp, ?_⟩⟩
            simp [show ¬ H'.next = q by omega]
        · have hM : M = padB L T := by rw [← hMp, padB_done (by omega)]
          rw [← hM] at hR
          rcases hB with ⟨rfl, h5⟩ | ⟨q, rest, h5, hq, hown⟩
          · simp at hMl; omega
          · have hM2 : M.length ≤ 1000000 := by omega
            simp only [h5, hown, iv, wl, hmax, show decide ((M.length : Int) < (T : Int)) = false from decide_eq_false (by omega), f1, hds, Cd.cd48, Tk.t48, base0, base1, base2, base3, Option.isNone_none, Option.isNone_some, Nat.reduceBEq, true_or, or_true, false_or, or_false, Nat.reduceLT, Nat.reduceMod, Nat.reducePow, rmaps, nsucc, List.flatten_cons, List.flatten_nil, Nat.reduceEqDiff, Nat.reduceLeDiff, Nat.reduceAdd, Nat.reduceMul, Nat.reduceSub, ↓reduceIte, reduceCtorEq, decide_true, decide_false]
            refine ACall.mono (reverse62 q M rest _ hown (by omega)) ?_
            rintro _ H1 ⟨rfl, k1, k2, k3, k4⟩
            simp only [callK]
            have hcv : bytesA ((List.take M.length (flatE byR M.reverse ++ rest)).map fun a => [a]) = some M.reverse := by
              have := bytes_flat M.reverse rest; rwa [List.length_reverse] at this
            have hcl : M.length ≤ (flatE byR M.reverse ++ rest).length := by rw [List.length_append, flatE_len byR_len, List.length_reverse]; omega
            have h128 : IntKind.u8.wrap (IntKind.i64.wrap (128 + (M.length : Int))) = ((UInt8.ofNat (128 + M.length)).toNat : Int) := by
              rw [wrapI (by omega) (by omega), show (128 + (M.length : Int)) = ((128 + M.length : Nat) : Int) from by omega, wrapU8]
            have hB : bytesA [[byV (UInt8.ofNat (128 + M.length))]] = some [UInt8.ofNat (128 + M.length)] := bytesA_map [UInt8.ofNat (128 + M.length)]
            have hcat : astr .add ⟨#[UInt8.ofNat (128 + M.length)]⟩ ⟨M.reverse.toArray⟩ = some (.string ⟨(UInt8.ofNat (128 + M.length) :: M.reverse).toArray⟩) := by
              have e := bcat [UInt8.ofNat (128 + M.length)] M.reverse
              unfold astr
              simp only []
              rw [if_neg]; · exact congrArg (fun x => some (Value.string x)) e
              · show ¬ (((([UInt8.ofNat (128 + M.length)].toArray.size + M.reverse.toArray.size : Nat) : Int)) > IntKind.i64.max)
                rw [show IntKind.i64.max = 9223372036854775807 from by decide]
                simp; omega
            simp only [h5, k4, iv, hcv, hcl, h128, byV_ofNat, byV_cells, hB, isB84, hcat, f1, hds, Cd.cd48, Tk.t48, base0, base1, base2, base3, Option.isNone_none, Option.isNone_some, Nat.reduceBEq, true_or, or_true, false_or, or_false, Nat.reduceLT, Nat.reduceMod, Nat.reducePow, rmaps, nsucc, List.flatten_cons, List.flatten_nil, Nat.reduceEqDiff, Nat.reduceLeDiff, Nat.reduceAdd, Nat.reduceMul, Nat.reduceSub, ↓reduceIte, reduceCtorEq, decide_true, decide_false]
            exact hR _
set_option maxHeartbeats 1000000 in
theorem length48 (n least : Nat) (hn : n ≤ 1000000) (h1 : 1 ≤ least) (h2 : least ≤ 1000000) : FCall Try.prog 48 [iv n, iv least] (· = .v (.string (lengthB n least))) := by
  refine ACall.enter [26,35] (cc := putS 2 Cd.cd48 rest48) (by rw [show putS 2 Cd.cd48 rest48 = Cd.cd48 from putS_drop 2 _]; exact Cd.fn48) (by simp) ?_
  have hR : ¬ (n < 128 ∧ least = 1) → ∀ H', ∃ v v', AOut.ret (.v (.string ⟨(UInt8.ofNat (128 + (padB (lowB n) (max 1 (least - 1))).length) :: (padB (lowB n) (max 1 (least - 1))).reverse).toArray⟩)) = .ret v ∧ View H' v v' ∧ FZ v' ∧ v' = .v (.string (lengthB n least)) := by
    intro hs H'
    unfold lengthB lengthL
    rw [if_neg hs]
    exact fin_v rfl
  by_cases hs1 : n < 128
  · by_cases hs2 : least = 1
    · subst hs2
      have hB : bytesA [[byV (UInt8.ofNat n)]] = some [UInt8.ofNat n] := bytesA_map [UInt8.ofNat n]
      simp only [putS, iv, show decide ((n : Int) < 128) = true from decide_eq_true (by omega), show (((1 : Nat) : Int) == 1) = true from rfl, wrapU8, byV_ofNat, byV_cells, hB, isB84, Cd.cd48, Tk.t48, base0, base1, base2, base3, Option.isNone_none, Option.isNone_some, Nat.reduceBEq, true_or, or_true, false_or, or_false, Nat.reduceLT, Nat.reduceMod, Nat.reducePow, rmaps, nsucc, List.flatten_cons, List.flatten_nil, Nat.reduceEqDiff, Nat.reduceLeDiff, Nat.reduceAdd, Nat.reduceMul, Nat.reduceSub, ↓reduceIte, reduceCtorEq, decide_true, decide_false]
      unfold lengthB lengthL
      rw [if_pos (And.intro hs1 rfl)]
      exact fin_v rfl
    · simp only [putS, iv, show decide ((n : Int) < 128) = true from decide_eq_true (by omega), show ((least : Int) == 1) = false from beq_eq_false_iff_ne.mpr (by omega), Cd.cd48, Tk.t48, base0, base1, base2, base3, Option.isNone_none, Option.isNone_some, Nat.reduceBEq, true_or, or_true, false_or, or_false, Nat.reduceLT, Nat.reduceMod, Nat.reducePow, rmaps, nsucc, List.flatten_cons, List.flatten_nil, Nat.reduceEqDiff, Nat.reduceLeDiff, Nat.reduceAdd, Nat.reduceMul, Nat.reduceSub, ↓reduceIte, reduceCtorEq, decide_true, decide_false]
      exact tail48 n least hn h1 h2 _ rfl rfl rfl _ (hR (by omega))
  · simp only [putS, iv, show decide ((n : Int) < 128) = false from decide_eq_false (by omega), Cd.cd48, Tk.t48, base0, base1, base2, base3, Option.isNone_none, Option.isNone_some, Nat.reduceBEq, true_or, or_true, false_or, or_false, Nat.reduceLT, Nat.reduceMod, Nat.reducePow, rmaps, nsucc, List.flatten_cons, List.flatten_nil, Nat.reduceEqDiff, Nat.reduceLeDiff, Nat.reduceAdd, Nat.reduceMul, Nat.reduceSub, ↓reduceIte, reduceCtorEq, decide_true, decide_false]
    exact tail48 n least hn h1 h2 _ rfl rfl rfl _ (hR (by omega))
end Go.Proofs.Ytmjjfdppaomcfaa

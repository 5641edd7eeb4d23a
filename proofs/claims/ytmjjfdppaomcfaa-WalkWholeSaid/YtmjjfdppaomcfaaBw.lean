/- The library's iterator over a slice from its end: its contract for every loop body that keeps what it reads. -/
import Derived.RangeFuncBox
import Derived.RangeFuncLeaves
import Derived.Shelf.Abstract
import Derived.WalkKit
import Derived.OwnWalkIn
import Derived.TacticsInMore
import Derived.LoopNIn
import Derived.LoopIn
import Derived.Test.YtmjjfdppaomcfaaAb26
import Derived.Test.YtmjjfdppaomcfaaProg
namespace Go.Proofs.Ytmjjfdppaomcfaa
open Go.RowKit Go.Shelf
attribute [local go_sem] Oper.semAt_some

set_option maxRecDepth 100000 in
set_option maxHeartbeats 2000000 in
theorem back68_some (l : Nat) (ad : Addr) (had : ad.spot = none) (b off len cap : Nat) (xs : Nat → Value) (hlen : len < 4611686018427387904) (J : Nat → World → Prop)
    (hB : ∀ k W, J k W → W.cell? ad = some (.slice (some ⟨b, off, none⟩) len cap))
    (hC : ∀ k W j, J k W → j < len → W.cell? ⟨b, off + j, none⟩ = some (xs j))
    (hY : ∀ k W, k < len → J (k + 1) W → YieldAt Fence.wide 0 Try.prog l #[.int .i64 k, xs k] W fun e W' => e = .returned (.bool true) ∧ J k W')
    (W : World) (h0 : J len W) :
    CallsIn Fence.wide 0 Try.prog 68 #[.func (.yield l) #[] #[], .pointer (some ad)] W fun e W' => (∃ v, e = .returned v) ∧ J 0 W' := by
  obtain ⟨ab, ao, sp⟩ := ad
  simp only at had
  subst had
  refine callsIn_of_wp Try.func68 rfl trivial ?_ rfl
  have hBs := hB _ _ h0
  simp only [Try.ntmps68, List.size_toArray, List.length_cons, List.length_nil, Nat.reduceAdd, Nat.reduceSub, Array.replicate_succ, Array.replicate_zero, List.push_toArray, List.append_toArray, List.nil_append, List.cons_append]
  gi_wp2
  gi_loopw [3] (fun i wr => ∃ k : Nat, k ≤ len ∧ i = .int .i64 ((k : Int) - 1) ∧ J k wr)
    (fun i _ => (intOf i + 1).toNat)
  case atStart => exact ⟨len, Nat.le_refl _, by simp, h0⟩
  case round =>
    obtain ⟨k, hk, rfl, hJs⟩ := hrel
    have hBx := hB _ _ hJs
    rcases k with _ | k
    · gi_wp2
      go_end0
      exact ⟨⟨_, rfl⟩, hJs⟩
    · have hcx := hC _ _ k hJs (by omega)
      obtain ⟨fn, tmps, assign, body, hy, hR⟩ := hY k wr (by omega) hJs
      have e1 : ((k + 1 : Nat) : Int) - 1 = (k : Int) := by omega
      rw [e1]
      gi_wp2
      refine ⟨rfl, hR.mono ?_⟩
      rintro e W3 ⟨rfl, hJ3⟩
      gi_wp2
      go_roundw
      case rel => exact ⟨k, by omega, by simp, hJ3⟩
      case measure => simp [intOf]

set_option maxRecDepth 100000 in
set_option maxHeartbeats 2000000 in
theorem back68_nil (l : Nat) (ad : Addr) (had : ad.spot = none) (J : Nat → World → Prop) (cap : Nat)
    (so : Option Addr) (hB : ∀ k W, J k W → W.cell? ad = some (.slice so 0 cap)) (W : World) (h0 : J 0 W) :
    CallsIn Fence.wide 0 Try.prog 68 #[.func (.yield l) #[] #[], .pointer (some ad)] W fun e W' => (∃ v, e = .returned v) ∧ J 0 W' := by
  obtain ⟨ab, ao, sp⟩ := ad
  simp only at had
  subst had
  refine callsIn_of_wp Try.func68 rfl trivial ?_ rfl
  have hBs := hB _ _ h0
  simp only [Try.ntmps68, List.size_toArray, List.length_cons, List.length_nil, Nat.reduceAdd, Nat.reduceSub, Array.replicate_succ, Array.replicate_zero, List.push_toArray, List.append_toArray, List.nil_append, List.cons_append]
  gi_wp2
  gi_loopw [3] (fun i wr => i = .int .i64 (-1) ∧ J 0 wr) (fun _ _ => 0)
  case atStart => exact ⟨rfl, h0⟩
  case round =>
    obtain ⟨rfl, hJs⟩ := hrel
    gi_wp2
    go_end0
    exact ⟨⟨_, rfl⟩, hJs⟩

theorem back68 : Ab.Back Try.prog 68 := by
  intro l ad ao len cap xs J W had hao hlen hB hC hY h0
  rcases Nat.eq_zero_or_pos len with rfl | hp
  · exact back68_nil l ad had J cap ao hB W h0
  · obtain ⟨⟨b, off, sp⟩, rfl, hs⟩ := hao hp
    simp only at hs
    subst hs
    exact back68_some l ad had b off len cap xs hlen J hB (fun k W j hj hlt => hC k W _ j hj rfl hlt) hY W h0
end Go.Proofs.Ytmjjfdppaomcfaa

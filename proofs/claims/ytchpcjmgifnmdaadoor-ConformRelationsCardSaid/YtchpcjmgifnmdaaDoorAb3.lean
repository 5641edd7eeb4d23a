/- The operations that leave the owned blocks alone: soundness. -/
import Derived.Test.YtchpcjmgifnmdaaDoorAb2
namespace Go.Proofs.YtchpcjmgifnmdaaDoor.Ab
open Go

section runs
variable {P : Program} {w : World}
theorem run_underlying' {t : TypeId} {d : TypeDesc} (h : P.underlying t = some d) : (underlying t).run P w = .ok d w := by
  simp [underlying, h]
theorem run_isAgg' {t : TypeId} {b : Bool} (h : isAggT P t = some b) : (isAgg t).run P w = .ok b w := by
  unfold isAggT at h
  cases hd : P.underlying t with
  | none => rw [hd] at h; cases h
  | some d =>
    rw [hd] at h
    simp only [isAgg, Sem.run_bind, run_underlying' hd, Result.andThen_ok]
    cases d <;> simp at h <;> subst h <;> rfl
theorem run_sizeOf' {t : TypeId} {s : Nat} (h : szOf P t = some s) : (sizeOf t).run P w = .ok s w := by
  unfold szOf at h
  cases hi : P.info? t with
  | none => rw [hi] at h; cases h
  | some i => rw [hi] at h; simp at h; simp [sizeOf, typeInfo, hi, h]
theorem run_zero' {t : TypeId} {z : List AV} (h : zeroA P t = some z) : ∃ y : Value, (zeroValue t).run P w = .ok y w ∧ z = y.cells.toList.map .v := by
  unfold zeroA at h
  cases hi : P.info? t with
  | none => rw [hi] at h; cases h
  | some i =>
    rw [hi] at h
    cases hz : i.zero with
    | none => simp [hz] at h
    | some y => simp [hz] at h; exact ⟨y, by simp [zeroValue, typeInfo, hi, hz], h.symm⟩
end runs

theorem VRs.map_v (g : G) (xs : Array Value) : VRs g (xs.toList.map .v) xs := by
  refine ⟨by simp, fun j hj => ?_⟩
  have hj' : j < xs.size := by simpa using hj
  simp only [List.getD_eq_getElem?_getD, List.getElem?_map, Array.getElem?_toList, Array.getD_eq_getD_getElem?, Array.getElem?_eq_getElem hj', Option.map_some, Option.getD_some]
  exact .v

theorem cellsA_sound {g : G} {a : AV} {x : Value} {cs : List AV} (h : VR g a x) (hc : cellsA a = some cs) : VRs g cs x.cells := by
  have one : ∀ (b : AV) (y : Value), VR g b y → VRs g [b] #[y] := fun b y hb => ⟨rfl, fun j hj => by
    have : j = 0 := by simpa using hj
    subst this; exact hb⟩
  cases h with
  | any => cases hc
  | v =>
    cases x <;> simp only [cellsA, Option.some.injEq] at hc <;> first
      | (subst hc; exact one _ _ .v)
      | (subst hc; exact VRs.map_v g _)
      | cases hc
  | agg hl hx => simp only [cellsA, Option.some.injEq] at hc; subst hc; exact ⟨hl, hx⟩
  | tup hl hx => cases hc
  | lst hl hc1 hz ha hk hf hx ht => simp only [cellsA, Option.some.injEq] at hc; subst hc; exact one _ _ (.lst hl hc1 hz ha hk hf hx ht)
  | box ha hf hx => simp only [cellsA, Option.some.injEq] at hc; subst hc; exact one _ _ (.box ha hf hx)
  | ptr e => simp only [cellsA, Option.some.injEq] at hc; subst hc; exact one _ _ (.ptr e)
  | sl e h2 h3 => simp only [cellsA, Option.some.injEq] at hc; subst hc; exact one _ _ (.sl e h2 h3)
  | fn h1 h2 h3 h4 => simp only [cellsA, Option.some.injEq] at hc; subst hc; exact one _ _ (.fn h1 h2 h3 h4)
  | ifc h1 => simp only [cellsA, Option.some.injEq] at hc; subst hc; exact one _ _ (.ifc h1)
  | map e => simp only [cellsA, Option.some.injEq] at hc; subst hc; exact one _ _ (.map e)

theorem VRs.get {g : G} {cs : List AV} {xs : Array Value} (h : VRs g cs xs) {j : Nat} {c : AV} (hc : cs[j]? = some c) : ∃ x, xs[j]? = some x ∧ VR g c x := by
  have hj : j < cs.length := (List.getElem?_eq_some_iff.mp hc).1
  have hj' : j < xs.size := by rw [h.1]; exact hj
  refine ⟨xs[j], Array.getElem?_eq_getElem hj', ?_⟩
  have := h.2 j hj
  rw [List.getD_eq_getElem?_getD, hc, Array.getD_eq_getD_getElem?, Array.getElem?_eq_getElem hj'] at this
  exact this

theorem VRs.of_get {g : G} {cs : List AV} {xs : Array Value} (hl : xs.size = cs.length) (h : ∀ (j : Nat) (c : AV) (x : Value), cs[j]? = some c → xs[j]? = some x → VR g c x) : VRs g cs xs := by
  refine ⟨hl, fun j hj => ?_⟩
  have hj' : j < xs.size := by omega
  rw [List.getD_eq_getElem?_getD, List.getElem?_eq_getElem hj, Array.getD_eq_getD_getElem?, Array.getElem?_eq_getElem hj']
  exact h j _ _ (List.getElem?_eq_getElem hj) (Array.getElem?_eq_getElem hj')

theorem VRs.extract {g : G} {cs : List AV} {xs : Array Value} (h : VRs g cs xs) (off s : Nat) (hs : off + s ≤ cs.length) :
    VRs g ((cs.drop off).take s) (xs.extract off (off + s)) := by
  refine VRs.of_get (by simp [h.1]; omega) fun j c x hc hx => ?_
  have hj : j < s := by
    have := (List.getElem?_eq_some_iff.mp hc).1
    simp at this; omega
  rw [List.getElem?_take_of_lt hj, List.getElem?_drop] at hc
  obtain ⟨y, hy, hv⟩ := h.get hc
  rw [Array.getElem?_extract] at hx
  rw [if_pos (by have := h.1; omega), hy] at hx
  cases hx; exact hv

theorem apart_sound {P : Program} {w : World} {g : G} {t : TypeId} {cs : List AV} {xs : Array Value} {off : Nat} {v : AV} (h : VRs g cs xs)
    (ha : apart P t cs off = some v) : ∃ x, (part t xs off).run P w = .ok x w ∧ VR g v x := by
  unfold apart at ha
  cases hA : isAggT P t with
  | none => rw [hA] at ha; cases ha
  | some b =>
    rw [hA] at ha
    cases b with
    | true =>
      cases hs : szOf P t with
      | none => rw [hs] at ha; cases ha
      | some s =>
        rw [hs] at ha
        by_cases hle : off + s ≤ cs.length
        · simp only [hle, if_true, Option.some.injEq] at ha
          subst ha
          refine ⟨.agg (xs.extract off (off + s)), ?_, ?_⟩
          · simp [part, run_isAgg' hA, run_sizeOf' hs]
          · have := h.extract off s hle
            exact .agg this.1 this.2
        · simp [hle] at ha
    | false =>
      obtain ⟨x, hx, hv⟩ := h.get (j := off) ha
      exact ⟨x, by simp [part, run_isAgg' hA, hx], hv⟩

/-- what lies behind a frozen pointer -/
theorem box_cells {g : G} {H : AH} {w : World} (hw : WR g H w) {cs : List AV} {x : Value} (h : VR g (.box cs) x) :
    ∃ a : Addr, x = .pointer (some a) ∧ a.spot = none ∧ ∃ xs : Array Value, VRs g cs xs ∧ ∀ (j : Nat) (y : Value), xs[j]? = some y → w.cell? (a.add j) = some y ∧ g.fz a.block (a.off + j) = some y := by
  cases h with
  | @box _ a xs ha hf hx =>
    have hget : ∀ j, (Array.ofFn (n := cs.length) fun i => xs i.1)[j]? = if j < cs.length then some (xs j) else none := fun j => by
      rw [Array.getElem?_ofFn]; split <;> rfl
    refine ⟨a, rfl, ha, Array.ofFn (n := cs.length) fun i => xs i.1, VRs.of_get (by simp) fun j c y hc hy => ?_, fun j y hy => ?_⟩
    · have hj := (List.getElem?_eq_some_iff.mp hc).1
      rw [hget, if_pos hj] at hy
      cases hy
      have := hx j hj
      rw [List.getD_eq_getElem?_getD, hc] at this
      exact this
    · rw [hget] at hy
      split at hy
      · rename_i hj
        cases hy
        have h3 := hf j hj
        refine ⟨?_, h3⟩
        have h4 := hw.fz _ _ _ h3
        rw [← h4]
        unfold Addr.add
        by_cases hj0 : j = 0
        · subst hj0
          simp only [if_true, Nat.add_zero]
          cases a; simp_all
        · simp only [hj0, if_false]
      · cases hy
end Go.Proofs.YtchpcjmgifnmdaaDoor.Ab

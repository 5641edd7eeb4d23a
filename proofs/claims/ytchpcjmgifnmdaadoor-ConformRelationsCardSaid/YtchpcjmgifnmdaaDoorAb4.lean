/- The operations that leave the owned blocks alone: soundness, continued: loads, literals. -/
import Derived.Test.YtchpcjmgifnmdaaDoorAb3
namespace Go.Proofs.YtchpcjmgifnmdaaDoor.Ab
open Go

theorem addr_add_zero (a : Addr) : a.add 0 = a := by simp [Addr.add]

theorem loadVar_sound {P : Program} {w : World} {g : G} {t : TypeId} {cs : List AV} {xs : Array Value} {a : Addr} {v : AV} (h : VRs g cs xs)
    (hc : ∀ (j : Nat) (y : Value), xs[j]? = some y → w.cell? (a.add j) = some y) (ha : apart P t cs 0 = some v) :
    ∃ x, (loadVar t a).run P w = .ok x w ∧ VR g v x := by
  unfold apart at ha
  cases hA : isAggT P t with
  | none => rw [hA] at ha; cases ha
  | some b =>
    rw [hA] at ha
    cases b with
    | true =>
      cases hs : szOf P t with
      | none => rw [hs] at ha; cases ha
      | some s =>
        rw [hs] at ha
        by_cases hle : 0 + s ≤ cs.length
        · simp only [hle, if_true, Option.some.injEq] at ha
          subst ha
          have hl : (xs.toList.take s).length = s := by have := h.1; simp; omega
          have hrun := run_loadCells_list (P := P) w a (xs.toList.take s) (fun j y hy => hc j y (by
            rw [List.getElem?_take] at hy
            split at hy
            · simpa using hy
            · cases hy))
          rw [hl] at hrun
          refine ⟨.agg (xs.toList.take s).toArray, ?_, ?_⟩
          · simp only [loadVar, Sem.run_bind, run_isAgg' hA, Result.andThen_ok, if_true, run_sizeOf' hs, hrun, Sem.run_pure]
          · have := h.extract 0 s hle
            have e : xs.extract 0 (0 + s) = (xs.toList.take s).toArray := by
              apply Array.ext'
              simp
            rw [e] at this
            exact .agg this.1 this.2
        · simp only [if_neg hle] at ha; cases ha
    | false =>
      obtain ⟨x, hx, hv⟩ := h.get (j := 0) ha
      refine ⟨x, ?_, hv⟩
      have h0 := hc 0 x hx
      rw [addr_add_zero] at h0
      simp [loadVar, run_isAgg' hA, h0]

/-! literals -/
theorem foldl_set (off : Nat) : ∀ (l : List Value) (j0 : Nat) (xs : Array Value),
    ((l.zipIdx j0).foldl (fun cs (p : Value × Nat) => cs.setIfInBounds (off + p.2) p.1) xs).size = xs.size ∧
    ∀ m, ((l.zipIdx j0).foldl (fun cs (p : Value × Nat) => cs.setIfInBounds (off + p.2) p.1) xs)[m]? =
      if off + j0 ≤ m ∧ m < off + j0 + l.length ∧ m < xs.size then l[m - (off + j0)]? else xs[m]?
  | [], j0, xs => ⟨rfl, fun m => by simp; intro h1 h2; omega⟩
  | v :: l, j0, xs => by
    have ih := foldl_set off l (j0 + 1) (xs.setIfInBounds (off + j0) v)
    simp only [List.zipIdx_cons, List.foldl_cons]
    refine ⟨by rw [ih.1]; simp, fun m => ?_⟩
    rw [ih.2 m]
    simp only [Array.size_setIfInBounds, List.length_cons]
    by_cases h1 : off + (j0 + 1) ≤ m ∧ m < off + (j0 + 1) + l.length ∧ m < xs.size
    · rw [if_pos h1, if_pos (by omega)]
      rw [show m - (off + j0) = (m - (off + (j0 + 1))) + 1 by omega, List.getElem?_cons_succ]
    · rw [if_neg h1]
      by_cases h2 : m = off + j0
      · subst h2
        by_cases h3 : off + j0 < xs.size
        · rw [if_pos (by omega)]
          simp [h3]
        · rw [if_neg (by omega), Array.getElem?_setIfInBounds]
          rw [if_pos rfl, if_neg h3, Array.getElem?_eq_none (by omega)]
      · rw [if_neg (by omega), Array.getElem?_setIfInBounds, if_neg (fun hc => h2 hc.symm)]

theorem foldl_set_array (off : Nat) (ys xs : Array Value) :
    (ys.zipIdx.foldl (fun cs (p : Value × Nat) => cs.setIfInBounds (off + p.2) p.1) xs).size = xs.size ∧
    ∀ m, (ys.zipIdx.foldl (fun cs (p : Value × Nat) => cs.setIfInBounds (off + p.2) p.1) xs)[m]? =
      if off ≤ m ∧ m < off + ys.size ∧ m < xs.size then ys[m - off]? else xs[m]? := by
  have h := foldl_set off ys.toList 0 xs
  rw [← Array.foldl_toList]
  have e : ys.zipIdx.toList = ys.toList.zipIdx 0 := by simp
  rw [e]
  simpa using h

theorem afill_sound {g : G} (place : Nat → Option (Nat × Nat)) : ∀ (ps : List (Nat × AV)) (qs : List (Nat × Value)) (cs : List AV) (xs : Array Value) (out : List AV),
    VRs g cs xs → ps.length = qs.length → (∀ (j : Nat) p q, ps[j]? = some p → qs[j]? = some q → p.1 = q.1 ∧ VR g p.2 q.2) →
    afill place cs ps = some out → ∃ ys, Instr.fill place xs qs = some ys ∧ VRs g out ys
  | [], qs, cs, xs, out, h, hl, _, ha => by
    cases qs with
    | nil => simp only [afill, Option.some.injEq] at ha; subst ha; exact ⟨xs, rfl, h⟩
    | cons q qs => simp at hl
  | (i, a) :: ps, [], cs, xs, out, h, hl, _, ha => by simp at hl
  | (i, a) :: ps, (i', y) :: qs, cs, xs, out, h, hl, hp, ha => by
    obtain ⟨e1, hv⟩ := hp 0 (i, a) (i', y) rfl rfl
    simp only at e1 hv
    subst e1
    simp only [afill] at ha
    cases hpl : place i with
    | none => rw [hpl] at ha; cases ha
    | some os =>
      obtain ⟨off, size⟩ := os
      rw [hpl] at ha
      cases hc : cellsA a with
      | none => rw [hc] at ha; cases ha
      | some ds =>
        rw [hc] at ha
        simp only at ha
        split at ha
        · rename_i hcond
          obtain ⟨h1, h2⟩ := hcond
          have hds := cellsA_sound hv hc
          have hsz : y.cells.size = size := by rw [hds.1, h1]
          have hf := foldl_set_array off y.cells xs
          have hnew : VRs g (cs.take off ++ (ds ++ cs.drop (off + ds.length)))
              (y.cells.zipIdx.foldl (fun cs (p : Value × Nat) => cs.setIfInBounds (off + p.2) p.1) xs) := by
            refine VRs.of_get (by rw [hf.1, h.1]; simp; omega) fun j c x hcj hxj => ?_
            rw [hf.2 j] at hxj
            have hxs := h.1
            have hdz := hds.1
            by_cases hj1 : j < off
            · rw [if_neg (by omega)] at hxj
              rw [List.getElem?_append_left (by simp; omega), List.getElem?_take_of_lt hj1] at hcj
              obtain ⟨x', hx', hv'⟩ := h.get hcj
              rw [hx'] at hxj; cases hxj; exact hv'
            · rw [List.getElem?_append_right (by simp; omega)] at hcj
              simp only [List.length_take] at hcj
              rw [show min off cs.length = off by omega] at hcj
              by_cases hj2 : j - off < ds.length
              · rw [List.getElem?_append_left hj2] at hcj
                rw [if_pos (by omega)] at hxj
                obtain ⟨x', hx', hv'⟩ := hds.get hcj
                rw [hx'] at hxj; cases hxj; exact hv'
              · rw [List.getElem?_append_right (by omega), List.getElem?_drop] at hcj
                rw [if_neg (by omega)] at hxj
                rw [show off + ds.length + (j - off - ds.length) = j by omega] at hcj
                obtain ⟨x', hx', hv'⟩ := h.get hcj
                rw [hx'] at hxj; cases hxj; exact hv'
          obtain ⟨ys, hys, hvs⟩ := afill_sound place ps qs _ _ out hnew (by simpa using hl) (fun j p q e1 e2 => hp (j + 1) p q (by simpa using e1) (by simpa using e2)) ha
          refine ⟨ys, ?_, hvs⟩
          simp only [Instr.fill, hpl]
          rw [if_neg (by simp [hsz]; have := h.1; have := hds.1; omega)]
          exact hys
        · cases ha

theorem allSome_get {α : Type} : ∀ (l : List (Option α)) (r : List α), allSome l = some r → ∀ (i : Nat), l[i]? = (r[i]?).map some
  | [], r, h, i => by simp only [allSome, Option.some.injEq] at h; subst h; simp
  | none :: l, r, h, i => by cases h
  | some x :: l, r, h, i => by
    simp only [allSome] at h
    cases hl : allSome l with
    | none => rw [hl] at h; cases h
    | some r' =>
      rw [hl] at h; simp at h; subst h
      cases i with
      | zero => simp
      | succ i => simpa using allSome_get l r' hl i

end Go.Proofs.YtchpcjmgifnmdaaDoor.Ab

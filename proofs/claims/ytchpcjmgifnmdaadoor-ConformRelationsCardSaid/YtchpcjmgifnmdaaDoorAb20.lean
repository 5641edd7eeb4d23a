/- Rows of one block: reading and writing one of them. -/
import Derived.Test.YtchpcjmgifnmdaaDoorAb19
namespace Go.Proofs.YtchpcjmgifnmdaaDoor.Ab
open Go
/-- the cells of rows -/
def flatE {α : Type} (enc : α → List AV) (l : List α) : List AV := (l.map enc).flatten
section
variable {α : Type} [Inhabited α] {enc : α → List AV} {k : Nat} (henc : ∀ a, (enc a).length = k)
include henc
omit [Inhabited α] in
theorem flatE_len : ∀ l : List α, (flatE enc l).length = l.length * k
  | [] => by simp [flatE]
  | x :: l => by
    have := flatE_len l
    simp only [flatE, List.map_cons, List.flatten_cons, List.length_append, List.length_cons, Nat.add_mul, Nat.one_mul] at this ⊢
    rw [henc]; omega
theorem flatE_drop : ∀ (l : List α) (i j : Nat) (rest : List AV), i < l.length → j ≤ k → (flatE enc l ++ rest).drop (i * k + j) = (enc (l.getD i default)).drop j ++ (flatE enc (l.drop (i + 1)) ++ rest)
  | [], i, j, rest, h, _ => by simp at h
  | x :: l, 0, j, rest, _, hj => by
    simp only [flatE, List.map_cons, List.flatten_cons, List.getD_cons_zero, Nat.zero_mul, Nat.zero_add, List.drop_succ_cons, List.drop_zero, List.append_assoc]
    rw [List.drop_append_of_le_length (by rw [henc]; exact hj)]
  | x :: l, i + 1, j, rest, h, hj => by
    have := flatE_drop l i j rest (by simpa using h) hj
    simp only [flatE, List.map_cons, List.flatten_cons, List.getD_cons_succ, List.drop_succ_cons, List.append_assoc] at this ⊢
    rw [← this, show (i + 1) * k + j = (enc x).length + (i * k + j) from by rw [henc, Nat.add_mul]; omega, List.drop_append, List.drop_of_length_le (by omega)]
    simp
theorem flatE_take : ∀ (l : List α) (i j : Nat) (rest : List AV), i < l.length → j ≤ k → (flatE enc l ++ rest).take (i * k + j) = flatE enc (l.take i) ++ (enc (l.getD i default)).take j
  | [], i, j, rest, h, _ => by simp at h
  | x :: l, 0, j, rest, _, hj => by
    simp only [flatE, List.map_cons, List.flatten_cons, List.getD_cons_zero, Nat.zero_mul, Nat.zero_add, List.take_zero, List.map_nil, List.flatten_nil, List.nil_append, List.append_assoc]
    rw [List.take_append_of_le_length (by rw [henc]; exact hj)]
  | x :: l, i + 1, j, rest, h, hj => by
    have := flatE_take l i j rest (by simpa using h) hj
    simp only [flatE, List.map_cons, List.flatten_cons, List.getD_cons_succ, List.take_succ_cons, List.append_assoc] at this ⊢
    rw [← this, show (i + 1) * k + j = (enc x).length + (i * k + j) from by rw [henc, Nat.add_mul]; omega, List.take_append, List.take_of_length_le (by omega)]
    simp
theorem flatE_splice {l : List α} {i j : Nat} {rest cs : List AV} {x : α} (hi : i < l.length) (hj : j + cs.length ≤ k) (hx : enc x = (enc (l.getD i default)).take j ++ (cs ++ (enc (l.getD i default)).drop (j + cs.length))) :
    (flatE enc l ++ rest).take (i * k + j) ++ (cs ++ (flatE enc l ++ rest).drop (i * k + j + cs.length)) = flatE enc (l.set i x) ++ rest := by
  rw [flatE_take henc l i j rest hi (by omega), Nat.add_assoc, flatE_drop henc l i (j + cs.length) rest hi hj]
  have : l.set i x = l.take i ++ x :: l.drop (i + 1) := by rw [List.set_eq_take_append_cons_drop, if_pos hi]
  rw [this]
  simp only [flatE, List.map_append, List.map_cons, List.flatten_append, List.flatten_cons, hx, List.append_assoc]
end
theorem flatE_append {α : Type} {enc : α → List AV} (l m : List α) : flatE enc (l ++ m) = flatE enc l ++ flatE enc m := by simp [flatE]
theorem flatE_eq {α : Type} {enc : α → List AV} (l : List α) : (l.map enc).flatten = flatE enc l := rfl

/-! growing lists -/
def GrowE {α : Type} (enc : α → List AV) (k : Nat) (H : AH) (a : AV) (l : List α) : Prop :=
  (l = [] ∧ a = .v (.slice none 0 0)) ∨ ∃ t, a = .lst k (l.map enc) (.live t) ∧ H.tip t = some l.length
theorem GrowE.nil {α : Type} {enc : α → List AV} {k : Nat} {H : AH} : GrowE enc k H (.v (.slice none 0 0)) ([] : List α) := .inl ⟨rfl, rfl⟩
theorem GrowE.view {α : Type} {enc : α → List AV} {k : Nat} {H H' : AH} {a : AV} {l : List α} (h : GrowE enc k H a l) (hz : ∀ x, FZs (enc x)) : View H' a (.lst k (l.map enc) .unk) := by
  rcases h with ⟨rfl, rfl⟩ | ⟨t, rfl, _⟩
  · exact View.nil k
  · exact View.tip fun r hr => by
      obtain ⟨x, _, rfl⟩ := List.mem_map.mp hr
      exact hz x
theorem GrowE.live {α : Type} {enc : α → List AV} {k : Nat} {H : AH} {rows : List (List AV)} {t : Nat} {l : List α} (hr : rows = l.map enc) (ht : H.tip t = some l.length) : GrowE enc k H (.lst k rows (.live t)) l := .inr ⟨t, by rw [hr], ht⟩
/-! a list of the call's own -/
def nilS : AV := .v (.slice none 0 0)
/-- the name of a list's block -/
def nmA : AV → Option Nat
  | .sl _ n _ _ => some n
  | _ => none
def Arr {α : Type} (enc : α → List AV) (k : Nat) (H : AH) (a : AV) (l : List α) : Prop :=
  (l = [] ∧ (a = nilS ∨ a = .lst k [] .full)) ∨ ∃ n rest, a = .sl k n 0 l.length ∧ H.own n = some (.cells (flatE enc l ++ rest))
theorem Arr.mono {α : Type} {enc : α → List AV} {k : Nat} {H H' : AH} {a : AV} {l : List α} (h : Arr enc k H a l) (ho : ∀ n, nmA a = some n → H'.own n = H.own n) : Arr enc k H' a l := by
  rcases h with h | ⟨n, rest, rfl, hn⟩
  · exact .inl h
  · exact .inr ⟨n, rest, rfl, by rw [ho n rfl]; exact hn⟩
theorem Arr.own {α : Type} {enc : α → List AV} {k : Nat} {H : AH} {a : AV} {l : List α} (h : Arr enc k H a l) (hl : 0 < l.length) : ∃ n rest, a = .sl k n 0 l.length ∧ H.own n = some (.cells (flatE enc l ++ rest)) := by
  rcases h with ⟨rfl, _⟩ | h
  · simp at hl
  · exact h
theorem flatE_get {α : Type} [Inhabited α] {enc : α → List AV} {k : Nat} (henc : ∀ a, (enc a).length = k) (l : List α) (i j : Nat) (rest : List AV) (hi : i < l.length) (hj : j < k) : (flatE enc l ++ rest).getD (i * k + j) .any = (enc (l.getD i default)).getD j .any := by
  have h := flatE_drop henc l i j rest hi (by omega)
  have h1 : (flatE enc l ++ rest).getD (i * k + j) .any = ((flatE enc l ++ rest).drop (i * k + j)).getD 0 .any := by simp [List.getD_eq_getElem?_getD, List.getElem?_drop]
  rw [h1, h, List.getD_eq_getElem?_getD, List.getElem?_append_left (by simp [henc]; omega), List.getElem?_drop, List.getD_eq_getElem?_getD]
  simp
theorem getDmap {α : Type} [Inhabited α] (f : α → List AV) (l : List α) (i : Nat) (h : i < l.length) : (l.map f).getD i [] = f (l.getD i default) := by
  rw [List.getD_eq_getElem?_getD, List.getElem?_map, List.getElem?_eq_getElem h, List.getD_eq_getElem?_getD, List.getElem?_eq_getElem h]; rfl
theorem Arr.view {α : Type} [Inhabited α] {enc : α → List AV} {k : Nat} (henc : ∀ a, (enc a).length = k) {H : AH} {a : AV} {l : List α} (h : Arr enc k H a l) (hz : ∀ x, FZs (enc x)) : View H a (.lst k (l.map enc) .unk) := by
  rcases h with ⟨rfl, rfl | rfl⟩ | ⟨n, rest, rfl, hn⟩
  · exact View.nil k
  · exact View.tip fun r hr => by simp at hr
  · refine View.sl hn (by rw [List.length_append, flatE_len henc]; omega) (by simp) (fun i hi => (congrArg List.length (getDmap enc l i hi)).trans (henc _)) fun i j hi hj => ?_
    · rw [Nat.zero_add, flatE_get henc l i j rest hi hj, getDmap _ _ _ hi]
      have hm : ∀ r : List AV, j < r.length → r.getD j .any ∈ r := fun r hr => by
        rw [List.getD_eq_getElem?_getD, List.getElem?_eq_getElem hr]; exact List.getElem_mem _
      exact (hz _ _ (hm _ (by rw [henc]; exact hj))).view
/-- short ranges -/
theorem rmaps : (∀ f : Nat → AV, (List.range 0).map f = []) ∧ (∀ f : Nat → AV, (List.range 1).map f = [f 0]) ∧ (∀ f : Nat → AV, (List.range 2).map f = [f 0, f 1]) ∧ (∀ f : Nat → AV, (List.range 3).map f = [f 0, f 1, f 2]) ∧ (∀ f : Nat → AV, (List.range 4).map f = [f 0, f 1, f 2, f 3]) ∧ (∀ f : Nat → AV, (List.range 5).map f = [f 0, f 1, f 2, f 3, f 4]) ∧ (∀ f : Nat → AV, (List.range 6).map f = [f 0, f 1, f 2, f 3, f 4, f 5]) ∧ (∀ f : Nat → AV, (List.range 7).map f = [f 0, f 1, f 2, f 3, f 4, f 5, f 6]) ∧ (∀ f : Nat → AV, (List.range 8).map f = [f 0, f 1, f 2, f 3, f 4, f 5, f 6, f 7]) ∧ (∀ f : Nat → AV, (List.range 9).map f = [f 0, f 1, f 2, f 3, f 4, f 5, f 6, f 7, f 8]) ∧ (∀ f : Nat → AV, (List.range 10).map f = [f 0, f 1, f 2, f 3, f 4, f 5, f 6, f 7, f 8, f 9]) ∧ (∀ f : Nat → AV, (List.range 11).map f = [f 0, f 1, f 2, f 3, f 4, f 5, f 6, f 7, f 8, f 9, f 10]) ∧ (∀ f : Nat → AV, (List.range 12).map f = [f 0, f 1, f 2, f 3, f 4, f 5, f 6, f 7, f 8, f 9, f 10, f 11]) := ⟨fun _ => rfl, fun _ => rfl, fun _ => rfl, fun _ => rfl, fun _ => rfl, fun _ => rfl, fun _ => rfl, fun _ => rfl, fun _ => rfl, fun _ => rfl, fun _ => rfl, fun _ => rfl, fun _ => rfl⟩
/-- other numbers -/
theorem nsucc : (∀ n : Nat, (n = n + 1) = False) ∧ (∀ n : Nat, (n + 1 = n) = False) ∧ (∀ n : Nat, (n = n + 1 + 1) = False) ∧ (∀ n : Nat, (n + 1 + 1 = n) = False) ∧ (∀ n : Nat, (n = n + 1 + 1 + 1) = False) ∧ (∀ n : Nat, (n + 1 + 1 + 1 = n) = False) ∧ (∀ n : Nat, (n = n + 1 + 1 + 1 + 1) = False) ∧ (∀ n : Nat, (n + 1 + 1 + 1 + 1 = n) = False) ∧ (∀ n : Nat, (n = n + 1 + 1 + 1 + 1 + 1) = False) ∧ (∀ n : Nat, (n + 1 + 1 + 1 + 1 + 1 = n) = False) ∧ (∀ n : Nat, (n = n + 1 + 1 + 1 + 1 + 1 + 1) = False) ∧ (∀ n : Nat, (n + 1 + 1 + 1 + 1 + 1 + 1 = n) = False) := by
  refine ⟨?_, ?_, ?_, ?_, ?_, ?_, ?_, ?_, ?_, ?_, ?_, ?_⟩ <;> intro n <;> simp <;> omega
end Go.Proofs.YtchpcjmgifnmdaaDoor.Ab

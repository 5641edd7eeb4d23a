/- Growing lists: worlds. -/
import Derived.Test.YtchpcjmgifnmdaaDoorAb8
import Derived.Laws.AppendOwn
namespace Go.Proofs.YtchpcjmgifnmdaaDoor.Ab
open Go

/-! rows and cells -/
def Rect (k : Nat) (rows : List (List AV)) : Prop := ∀ i, i < rows.length → (rows.getD i []).length = k

theorem Rect.cons {k : Nat} {r : List AV} {rows : List (List AV)} (h : Rect k (r :: rows)) : r.length = k ∧ Rect k rows :=
  ⟨h 0 (by simp), fun i hi => by have := h (i + 1) (by simpa using hi); simpa using this⟩

theorem Rect.flat_len {k : Nat} : ∀ {rows : List (List AV)}, Rect k rows → rows.flatten.length = rows.length * k
  | [], _ => by simp
  | r :: rows, h => by
    obtain ⟨h1, h2⟩ := h.cons
    simp only [List.flatten_cons, List.length_append, List.length_cons, h1, h2.flat_len, Nat.add_mul]; omega

theorem Rect.flat_get {k : Nat} : ∀ {rows : List (List AV)}, Rect k rows → ∀ i j, i < rows.length → j < k → rows.flatten[i * k + j]? = (rows.getD i [])[j]?
  | [], _, i, j, hi, _ => by simp at hi
  | r :: rows, h, i, j, hi, hj => by
    obtain ⟨h1, h2⟩ := h.cons
    simp only [List.flatten_cons]
    cases i with
    | zero =>
      rw [List.getElem?_append_left (by omega)]; simp
    | succ i =>
      rw [List.getElem?_append_right (by rw [h1, Nat.add_mul]; omega)]
      have := h2.flat_get i j (by simpa using hi) hj
      rw [show (i + 1) * k + j - r.length = i * k + j by rw [h1, Nat.add_mul]; omega, this]
      simp

theorem Rect.take {k : Nat} {rows : List (List AV)} (h : Rect k rows) (m : Nat) : Rect k (rows.take m) := by
  intro i hi
  simp only [List.length_take] at hi
  have := h i (by omega)
  rw [List.getD_eq_getElem?_getD] at this ⊢
  rw [List.getElem?_take_of_lt (by omega)]; exact this

theorem Rect.append {k : Nat} {r s : List (List AV)} (h : Rect k r) (h' : Rect k s) : Rect k (r ++ s) := by
  intro i hi
  simp only [List.length_append] at hi
  rw [List.getD_eq_getElem?_getD]
  by_cases h1 : i < r.length
  · rw [List.getElem?_append_left h1]; have := h i h1; rwa [List.getD_eq_getElem?_getD] at this
  · rw [List.getElem?_append_right (by omega)]; have := h' (i - r.length) (by omega); rwa [List.getD_eq_getElem?_getD] at this

theorem Rect.chunk {k n : Nat} {l : List AV} (h : n * k ≤ l.length) : Rect k (chunk k n l) := by
  intro i hi
  rw [chunk_length] at hi
  rw [chunk_getD k n l i hi]
  have : (i + 1) * k ≤ n * k := Nat.mul_le_mul_right k hi
  rw [Nat.add_mul] at this
  simp; omega

theorem chunk_flatten {k : Nat} : ∀ (n : Nat) (l : List AV), n * k ≤ l.length → (chunk k n l).flatten = l.take (n * k)
  | 0, l, _ => by simp [Ab.chunk]
  | n + 1, l, h => by
    rw [Nat.add_mul] at h
    simp only [Ab.chunk, List.flatten_cons]
    rw [chunk_flatten n (l.drop k) (by simp; omega), Nat.add_mul, Nat.one_mul, Nat.add_comm (n * k) k, List.take_add]

theorem chunk_take {k : Nat} : ∀ (n m : Nat) (l : List AV), m ≤ n → (chunk k n l).take m = chunk k m l
  | _, 0, l, _ => by simp [Ab.chunk]
  | 0, m + 1, _, h => by omega
  | n + 1, m + 1, l, h => by simp only [Ab.chunk, List.take_succ_cons]; rw [chunk_take n m _ (by omega)]

section
variable {P : Program} {w : World} {g : G} {H : AH}

theorem VRs.append {cs ds : List AV} {xs ys : Array Value} (h : VRs g cs xs) (h' : VRs g ds ys) : VRs g (cs ++ ds) (xs ++ ys) := by
  refine ⟨by simp [h.1, h'.1], fun j hj => ?_⟩
  simp only [List.length_append] at hj
  rw [List.getD_eq_getElem?_getD, Array.getD_eq_getD_getElem?]
  by_cases h1 : j < cs.length
  · rw [List.getElem?_append_left h1, Array.getElem?_append_left (by rw [h.1]; exact h1)]
    have := h.2 j h1
    rwa [List.getD_eq_getElem?_getD, Array.getD_eq_getD_getElem?] at this
  · rw [List.getElem?_append_right (by omega), Array.getElem?_append_right (by rw [h.1]; omega), h.1]
    have := h'.2 (j - cs.length) (by omega)
    rwa [List.getD_eq_getElem?_getD, Array.getD_eq_getD_getElem?] at this

/-- a frozen list's cells -/
theorem VR.lst_cells (hw : WR g H w) {k len cap : Nat} {rows : List (List AV)} {tip : Tip} {ao : Option Addr} (h : VR g (.lst k rows tip) (.slice ao len cap)) :
    Rect k rows ∧ len = rows.length ∧ ∀ m, m ≤ rows.length → ∃ ys : Array Value, VRs g (rows.take m).flatten ys ∧ ys.size = m * k ∧ (Builtin.firstCells k m (.slice ao len cap)).run P w = .ok ys w ∧
      (0 < m → ∃ a, ao = some a ∧ a.spot = none ∧ ∀ p, p < m * k → g.fz a.block (a.off + p) = ys[p]?) := by
  cases h with
  | @lst _ _ _ _ a _ _ xs hl hc hz ha hk hf hv ht =>
  refine ⟨hk, hl, fun m hm => ?_⟩
  have hr : Rect k (rows.take m) := Rect.take hk m
  have hfl := hr.flat_len
  have hlen : (rows.take m).length = m := by simp; omega
  rw [hlen] at hfl
  have hsz : ((Array.range (m * k)).map fun p => xs (p / k) (p % k)).size = m * k := by simp
  refine ⟨(Array.range (m * k)).map fun p => xs (p / k) (p % k), ⟨by rw [hsz, hfl], fun p hp => ?_⟩, hsz, ?_, fun h0 => ?_⟩
  · rw [hfl] at hp
    have hk0 : 0 < k := by
      rcases Nat.eq_zero_or_pos k with h0 | h0
      · subst h0; omega
      · exact h0
    have hd : p / k < m := by rw [Nat.div_lt_iff_lt_mul hk0]; exact hp
    have hmd : p % k < k := Nat.mod_lt _ hk0
    have e : p = p / k * k + p % k := by have := Nat.div_add_mod p k; rw [Nat.mul_comm] at this; omega
    have hg := hr.flat_get (p / k) (p % k) (by rw [hlen]; exact hd) hmd
    rw [← e] at hg
    rw [List.getD_eq_getElem?_getD, hg, Array.getD_eq_getD_getElem?]
    simp only [Array.getElem?_map]
    have : (Array.range (m * k))[p]? = some p := by simp [hp]
    rw [this]
    simp only [Option.map_some, Option.getD_some]
    have := hv (p / k) (p % k) (by omega) hmd
    have e2 : (rows.take m).getD (p / k) [] = rows.getD (p / k) [] := by
      rw [List.getD_eq_getElem?_getD, List.getD_eq_getElem?_getD, List.getElem?_take_of_lt hd]
    rw [e2, ← List.getD_eq_getElem?_getD]; exact this
  · by_cases h0 : m * k = 0
    · have e0 : ∀ f : Nat → Value, (Array.range 0).map f = #[] := fun f => by simp
      rw [h0, e0]
      cases ao with
      | none => simp [Builtin.firstCells]
      | some b =>
        have := run_firstCells_some (P := P) w k m b len cap [] (by simp [h0]) (fun j v hj => by simp at hj)
        exact this
    · have hm0 : 0 < rows.length := by
        rcases Nat.eq_zero_or_pos m with h1 | h1
        · subst h1; simp at h0
        · omega
      obtain ⟨rfl, hsp⟩ := ha hm0
      have := run_firstCells_some (P := P) w k m a len cap ((List.range (m * k)).map fun p => xs (p / k) (p % k)) (by simp) (fun p v hp => by
        rw [List.getElem?_map] at hp
        by_cases hlt : p < m * k
        · rw [List.getElem?_range hlt] at hp
          simp only [Option.map_some, Option.some.injEq] at hp
          subst hp
          have hk0 : 0 < k := by
            rcases Nat.eq_zero_or_pos k with h0 | h0
            · subst h0; omega
            · exact h0
          have hd : p / k < m := by rw [Nat.div_lt_iff_lt_mul hk0]; exact hlt
          have hmd : p % k < k := Nat.mod_lt _ hk0
          have e : p = p / k * k + p % k := by have := Nat.div_add_mod p k; rw [Nat.mul_comm] at this; omega
          rw [addr_add_off _ _ hsp]
          have := hw.fz _ _ _ (hf (p / k) (p % k) (by omega) hmd)
          rw [show a.off + p / k * k + p % k = a.off + p by omega] at this
          exact this
        · rw [List.getElem?_eq_none (by simpa using hlt)] at hp; cases hp)
      rw [this]
      congr 1
      apply Array.ext'
      simp
  · obtain ⟨rfl, hsp⟩ := ha (by omega)
    refine ⟨a, rfl, hsp, fun p hp => ?_⟩
    have hk0 : 0 < k := by
      rcases Nat.eq_zero_or_pos k with h0 | h0
      · subst h0; omega
      · exact h0
    have hd : p / k < m := by rw [Nat.div_lt_iff_lt_mul hk0]; exact hp
    have hmd : p % k < k := Nat.mod_lt _ hk0
    have e : p = p / k * k + p % k := by have := Nat.div_add_mod p k; rw [Nat.mul_comm] at this; omega
    have := hf (p / k) (p % k) (by omega) hmd
    rw [show a.off + p / k * k + p % k = a.off + p by omega] at this
    rw [this]
    simp [hp]

/-- a list whose cells lie frozen -/
theorem VR.lst_of {k n cap b off : Nat} {rows : List (List AV)} {tip : Tip} {ys : Array Value} (hr : Rect k rows) (hn : n = rows.length) (hc : n ≤ cap) (hv : VRs g rows.flatten ys)
    (hf : ∀ p, p < n * k → g.fz b (off + p) = ys[p]?) (ht : TipOk g tip k rows.length (some ⟨b, off, none⟩) cap) : VR g (.lst k rows tip) (.slice (some ⟨b, off, none⟩) n cap) := by
  have hfl := hr.flat_len
  have hb : ∀ i j, i < rows.length → j < k → i * k + j < rows.length * k := fun i j hi hj => by
    have : (i + 1) * k ≤ rows.length * k := Nat.mul_le_mul_right k hi
    rw [Nat.add_mul] at this; omega
  refine .lst (a := ⟨b, off, none⟩) (xs := fun i j => ys.getD (i * k + j) undef) hn hc (fun h => by cases h) (fun _ => ⟨rfl, rfl⟩) hr (fun i j hi hj => ?_) (fun i j hi hj => ?_) ht
  · have hlt : i * k + j < ys.size := by rw [hv.1, hfl]; exact hb i j hi hj
    have := hf (i * k + j) (by rw [hn]; exact hb i j hi hj)
    simp only [Array.getD_eq_getD_getElem?, Array.getElem?_eq_getElem hlt, Option.getD_some] at this ⊢
    rw [show off + i * k + j = off + (i * k + j) by omega]; exact this
  · have := hv.2 (i * k + j) (by rw [hfl]; exact hb i j hi hj)
    rw [List.getD_eq_getElem?_getD, hr.flat_get i j hi hj] at this
    rw [List.getD_eq_getElem?_getD]; exact this

def G.tipset (g : G) (t : Nat) (T : TipG) (b lo hi : Nat) (c : Array Value) : G :=
  { g with tp := fun s => if s = t then some T else g.tp s, fz := fun b' o => if b' = b ∧ lo ≤ o ∧ o < hi then c[o]? else g.fz b' o }

def AH.tipset (H : AH) (nx t L : Nat) : AH := { H with next := nx, tip := fun s => if s = t then some L else H.tip s }

theorem ST.tipset (h : WR g H w) {w' : World} {t nx b off lo hi L0 : Nat} {T : TipG} {c' : Array Value} {el : TypeId}
    (hfresh : (H.tip t = some L0 ∧ ∃ T0, g.tp t = some T0 ∧ T0.k = T.k ∧ T0.L = L0 ∧ L0 < T.L) ∨ H.next ≤ t)
    (ha : T.a = ⟨b, off, none⟩)
    (hblk : b = w.heap.size ∨ ∃ T0, g.tp t = some T0 ∧ T0.a.block = b ∧ H.tip t ≠ none)
    (hnx : H.next ≤ nx) (htx : t < nx)
    (heap : w'.heap[b]? = some (.cells c' el (0, 0))) (hother : ∀ d, d ≠ b → d < w.heap.size → w'.heap[d]? = w.heap[d]?) (hsz : w.heap.size ≤ w'.heap.size)
    (hfz0 : ∀ o, lo ≤ o → g.fz b o = none) (hkeep : ∀ o x, g.fz b o = some x → c'[o]? = some x) (hlo : lo ≤ hi)
    (es : Str w w') (hcap : T.L ≤ T.cap) (hfit : off + T.cap * T.k ≤ c'.size) (hhi : hi = off + T.L * T.k) :
    ST g H w (g.tipset t T b lo hi c') (H.tipset nx t T.L) w' := by
  have hle : g.le (g.tipset t T b lo hi c') := by
    refine ⟨fun b' o x e => ?_, fun _ _ e => e, fun s S e => ?_, fun _ _ e => e⟩
    · simp only [G.tipset]
      by_cases hc : b' = b ∧ lo ≤ o ∧ o < hi
      · obtain ⟨rfl, h1, h2⟩ := hc
        rw [hfz0 o h1] at e; cases e
      · rw [if_neg hc]; exact e
    · simp only [G.tipset]
      by_cases hs : s = t
      · subst hs
        rw [if_pos rfl]
        rcases hfresh with ⟨_, T0, e1, e2, e3, e4⟩ | hf
        · rw [e] at e1; cases e1
          exact ⟨T, rfl, e2.symm, by omega, fun hh => by omega⟩
        · have := h.btp s S e; omega
      · rw [if_neg hs]; exact ⟨S, e, rfl, Nat.le_refl _, fun _ => rfl⟩
  have hbne : ∀ n B, H.own n = some B → ∀ b', g.mu n = some b' → b' ≠ b := by
    intro n B hB b' e hc
    subst hc
    rcases hblk with hb | ⟨T0, e1, e2, e3⟩
    · have := h.bnext n b' e; omega
    · exact h.town t n T0 b' e3 (by rw [hB]; simp) e1 e e2
  have htne : ∀ s L, H.tip s = some L → s ≠ t → ∀ S, g.tp s = some S → S.a.block ≠ b := by
    intro s L hL hst S hS hc
    rcases hblk with hb | ⟨T0, e1, e2, e3⟩
    · have := h.tip_lt hL S hS; omega
    · exact hst (h.tinj s t S T0 (by rw [hL]; simp) e3 hS e1 (by rw [hc, e2]))
  have htip : ∀ s, s ≠ t → (H.tipset nx t T.L).tip s = H.tip s := fun s hs => by simp only [AH.tipset, hs, if_false]
  have htp : ∀ s, s ≠ t → (g.tipset t T b lo hi c').tp s = g.tp s := fun s hs => by simp only [G.tipset, hs, if_false]
  have hfzne : ∀ b' o, b' ≠ b → (g.tipset t T b lo hi c').fz b' o = g.fz b' o := fun b' o hb => by simp only [G.tipset, hb, false_and, if_false]
  have hblt : b < w'.heap.size := by
    rcases Nat.lt_or_ge b w'.heap.size with h' | h'
    · exact h'
    · rw [Array.getElem?_eq_none h'] at heap; cases heap
  refine ⟨hle, ⟨?_, ?_, h.inj, ?_, ?_, ?_, ?_, ?_, ?_, h.nbs, fun b o x e => hle.fz _ _ _ (h.gz b o x e)⟩, hsz, hnx, fun _ _ => rfl, ?_, ?_, es⟩
  · intro b' o x e
    by_cases hb : b' = b
    · subst hb
      have hc' : c'[o]? = some x := by
        simp only [G.tipset, true_and] at e
        split at e
        · exact e
        · exact hkeep o x e
      simp [World.cell?, heap, hc']
    · rw [hfzne _ _ hb] at e
      have := h.fz b' o x e
      have hlt := h.fz_lt e
      simp only [World.cell?, hother b' hb hlt] at this ⊢; exact this
  · intro n B hB
    obtain ⟨b', obj, e1, e2, e3, e4⟩ := h.own n B hB
    have hb := hbne n B hB b' e1
    exact ⟨b', obj, e1, by rw [hother b' hb (h.bnext n b' e1)]; exact e2, e3.mono hle, fun o => by rw [hfzne _ _ hb]; exact e4 o⟩
  · intro s L hL
    by_cases hs : s = t
    · subst hs
      simp only [AH.tipset, if_true, Option.some.injEq] at hL; subst hL
      refine ⟨T, c', el, by simp [G.tipset], rfl, by rw [ha], hcap, by rw [ha]; exact heap, by rw [ha]; exact hfit, fun o ho => ?_⟩
      rw [ha] at ho ⊢
      simp only [G.tipset, true_and] at ho ⊢
      rw [if_neg (by omega)]
      exact hfz0 o (by omega)
    · rw [htip s hs] at hL
      obtain ⟨S, c0, el0, e1, e2, e3, e4, e5, e6, e7⟩ := h.tip s L hL
      have hb := htne s L hL hs S e1
      exact ⟨S, c0, el0, by rw [htp s hs]; exact e1, e2, e3, e4, by rw [hother _ hb (h.tip_lt hL S e1)]; exact e5, e6, fun o ho => by rw [hfzne _ _ hb]; exact e7 o ho⟩
  · intro s r S R q1 q2 q3 q4 q5
    have one : ∀ s S, (H.tipset nx t T.L).tip s ≠ none → (g.tipset t T b lo hi c').tp s = some S → s ≠ t → S.a.block ≠ b := by
      intro s S q1 q3 hs
      rw [htip s hs] at q1; rw [htp s hs] at q3
      cases hL : H.tip s with
      | none => exact absurd hL q1
      | some L => exact htne s L hL hs S q3
    have two : ∀ S, (g.tipset t T b lo hi c').tp t = some S → S.a.block = b := by
      intro S q; simp only [G.tipset, if_true, Option.some.injEq] at q; subst q; rw [ha]
    by_cases hs : s = t <;> by_cases hr : r = t
    · omega
    · subst hs; exact absurd (q5.symm.trans (two S q3)) (one r R q2 q4 hr)
    · subst hr; exact absurd (q5.trans (two R q4)) (one s S q1 q3 hs)
    · rw [htip s hs] at q1; rw [htip r hr] at q2; rw [htp s hs] at q3; rw [htp r hr] at q4
      exact h.tinj s r S R q1 q2 q3 q4 q5
  · intro s n S b' q1 q2 q3 q4
    have q2' : H.own n ≠ none := q2
    have q4' : g.mu n = some b' := q4
    by_cases hs : s = t
    · subst hs
      simp only [G.tipset, if_true, Option.some.injEq] at q3; subst q3
      rw [ha]
      cases hB : H.own n with
      | none => exact absurd hB q2'
      | some B => exact (hbne n B hB b' q4').symm
    · rw [htip s hs] at q1; rw [htp s hs] at q3
      exact h.town s n S b' q1 q2' q3 q4'
  · intro n b' e; have := h.bmu n b' e; simp only [AH.tipset]; omega
  · intro s S e
    simp only [AH.tipset]
    by_cases hs : s = t
    · omega
    · rw [htp s hs] at e; have := h.btp s S e; omega
  · intro n b' e; have := h.bnext n b' e; omega
  · intro n hn e
    by_cases hs : n = t
    · subst hs
      rcases hfresh with ⟨_, T0, e1, _⟩ | hf
      · rw [e] at e1; cases e1
      · omega
    · rw [htp n hs]; exact e
  · intro b' hb' hm
    have hb : b' ≠ b := by
      intro hc; subst hc
      rcases hblk with hb | ⟨T0, e1, e2, e3⟩
      · omega
      · exact hm (.inr ⟨t, e3, T0, e1, e2⟩)
    refine ⟨hother b' hb hb', fun hm' => ?_, fun o => hfzne b' o hb⟩
    rcases hm' with ⟨n, q1, q2⟩ | ⟨s, q1, S, q2, q3⟩
    · exact hm (.inl ⟨n, q1, q2⟩)
    · by_cases hs : s = t
      · subst hs
        simp only [G.tipset, if_true, Option.some.injEq] at q2; subst q2
        rw [ha] at q3; exact hb q3.symm
      · rw [htip s hs] at q1; rw [htp s hs] at q2
        exact hm (.inr ⟨s, q1, S, q2, q3⟩)

/-- a name is forgotten -/
def AH.del (H : AH) (n : Nat) : AH := { H with own := fun m => if m = n then none else H.own m }

theorem WR.del (h : WR g H w) (n : Nat) : WR g (H.del n) w := by
  have hd : ∀ m, (H.del n).own m ≠ none → H.own m ≠ none := fun m hm => by
    simp only [AH.del] at hm
    split at hm
    · exact absurd rfl hm
    · exact hm
  refine ⟨h.fz, fun m B hB => ?_, fun m k b q1 q2 q3 q4 => h.inj m k b (hd m q1) (hd k q2) q3 q4, h.tip, h.tinj, fun t m T b q1 q2 q3 q4 => h.town t m T b q1 (hd m q2) q3 q4, h.bmu, h.btp, h.bnext, h.nbs, h.gz⟩
  simp only [AH.del] at hB
  split at hB
  · cases hB
  · exact h.own m B hB

theorem Mods.del {n b : Nat} (h : Mods g (H.del n) b) : Mods g H b := by
  rcases h with ⟨m, q1, q2⟩ | q
  · refine .inl ⟨m, ?_, q2⟩
    simp only [AH.del] at q1
    split at q1
    · exact absurd rfl q1
    · exact q1
  · exact .inr q

theorem ST.del {g0 : G} {H0 : AH} {w0 : World} (h : ST g0 H0 w0 g H w) (n : Nat) : ST g0 H0 w0 g (H.del n) w :=
  ⟨h.le, h.wr.del n, h.size, h.next, h.names, h.tips, fun b hb hm => ⟨(h.same b hb hm).1, fun hm' => (h.same b hb hm).2.1 hm'.del, (h.same b hb hm).2.2⟩, h.str⟩

/-- a block has another name -/
theorem ST.rename (hw : WR g H w) {n b S : Nat} {B : ABlk} (hn : H.own n = some B) (hb : g.mu n = some b) (hS : g.bs n = some S) :
    ST g H w (g.name H.next b S) ((H.add B).del n) w := by
  have hmn := hw.mu_none (Nat.le_refl H.next)
  have hle := G.le_name (b := b) (s := S) hmn (hw.nbs _ hmn)
  have hnn : n ≠ H.next := by have := hw.own_lt (n := n) (by rw [hn]; simp); omega
  have hmu : ∀ m, m ≠ H.next → (g.name H.next b S).mu m = g.mu m := fun m hm => by simp only [G.name, hm, if_false]
  have hmuN : (g.name H.next b S).mu H.next = some b := by simp [G.name]
  have hown : ∀ m, m ≠ H.next → m ≠ n → ((H.add B).del n).own m = H.own m := fun m h1 h2 => by simp only [AH.del, AH.add, h1, h2, if_false]
  have hownN : ((H.add B).del n).own H.next = some B := by simp only [AH.del, AH.add]; rw [if_neg (fun h => hnn h.symm)]; simp
  have hownn : ((H.add B).del n).own n = none := by simp only [AH.del, if_true]
  obtain ⟨b0, obj, e1, e2, e3, e4⟩ := hw.own n B hn
  rw [hb] at e1; cases e1
  have hne : ∀ m, m ≠ H.next → m ≠ n → H.own m ≠ none → g.mu m ≠ some b := fun m h1 h2 h3 h4 => h2 (hw.inj m n b h3 (by rw [hn]; simp) h4 hb)
  have hmods : ∀ c, Mods (g.name H.next b S) ((H.add B).del n) c → Mods g H c := by
    intro c hc
    rcases hc with ⟨m, q1, q2⟩ | q
    · by_cases h1 : m = H.next
      · subst h1; rw [hmuN] at q2; cases q2
        exact .inl ⟨n, by rw [hn]; simp, hb⟩
      · by_cases h2 : m = n
        · subst h2; exact absurd hownn q1
        · rw [hown m h1 h2] at q1; rw [hmu m h1] at q2
          exact .inl ⟨m, q1, q2⟩
    · exact .inr q
  refine ⟨hle, ⟨hw.fz, ?_, ?_, hw.tip, hw.tinj, ?_, ?_, ?_, ?_, G.nbs_name hw.nbs, hw.gz⟩, Nat.le_refl _, by simp [AH.del, AH.add], fun m hm => hmu m (by omega), fun _ _ h => h, fun c hc hm => ⟨rfl, fun hm' => hm (hmods c hm'), fun _ => rfl⟩, .refl w⟩
  · intro m B' hB'
    by_cases h1 : m = H.next
    · subst h1; rw [hownN] at hB'; cases hB'
      refine ⟨b, obj, hmuN, e2, ?_, e4⟩
      cases B with
      | cells l =>
        cases obj with
        | cells c el fr =>
          obtain ⟨f1, f2, f3, f4⟩ := e3
          exact ⟨f1, f2, by rw [hS] at f3; simp only [G.name, if_true]; exact f3, fun j hj => (f4 j hj).mono hle⟩
        | _ => exact e3
      | map es =>
        cases obj with
        | map ents cl =>
          exact ⟨e3.1, fun j hj => by
            obtain ⟨e, h1, h2, h3⟩ := e3.2 j hj
            exact ⟨e, h1, h2, h3.mono hle⟩⟩
        | _ => exact e3
    · by_cases h2 : m = n
      · subst h2; rw [hownn] at hB'; cases hB'
      · rw [hown m h1 h2] at hB'
        obtain ⟨b1, o1, f1, f2, f3, f4⟩ := hw.own m B' hB'
        exact ⟨b1, o1, by rw [hmu m h1]; exact f1, f2, f3.mono hle, f4⟩
  · intro m k c q1 q2 q3 q4
    by_cases h1 : m = H.next <;> by_cases h2 : k = H.next
    · omega
    · subst h1; rw [hmuN] at q3; cases q3
      by_cases h3 : k = n
      · subst h3; exact absurd hownn q2
      · rw [hown k h2 h3] at q2; rw [hmu k h2] at q4; exact absurd q4 (hne k h2 h3 q2)
    · subst h2; rw [hmuN] at q4; cases q4
      by_cases h3 : m = n
      · subst h3; exact absurd hownn q1
      · rw [hown m h1 h3] at q1; rw [hmu m h1] at q3; exact absurd q3 (hne m h1 h3 q1)
    · by_cases h3 : m = n
      · subst h3; exact absurd hownn q1
      · by_cases h4 : k = n
        · subst h4; exact absurd hownn q2
        · rw [hown m h1 h3] at q1; rw [hown k h2 h4] at q2; rw [hmu m h1] at q3; rw [hmu k h2] at q4
          exact hw.inj m k c q1 q2 q3 q4
  · intro t m T c q1 q2 q3 q4
    by_cases h1 : m = H.next
    · subst h1; rw [hmuN] at q4; cases q4
      exact hw.town t n T b q1 (by rw [hn]; simp) q3 hb
    · by_cases h3 : m = n
      · subst h3; exact absurd hownn q2
      · rw [hown m h1 h3] at q2; rw [hmu m h1] at q4
        exact hw.town t m T c q1 q2 q3 q4
  · intro m c e
    simp only [AH.del, AH.add]
    by_cases h1 : m = H.next
    · omega
    · rw [hmu m h1] at e; have := hw.bmu m c e; omega
  · intro t T e; have := hw.btp t T e; simp only [AH.del, AH.add]; omega
  · intro m c e
    by_cases h1 : m = H.next
    · subst h1; rw [hmuN] at e; cases e; exact hw.bnext n b hb
    · rw [hmu m h1] at e; exact hw.bnext m c e

end
end Go.Proofs.YtchpcjmgifnmdaaDoor.Ab

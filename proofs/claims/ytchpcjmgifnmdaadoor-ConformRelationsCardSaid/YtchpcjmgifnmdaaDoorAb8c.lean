/- Growing lists: the rows that have room, owned rows, and what is left. -/
import Derived.Test.YtchpcjmgifnmdaaDoorAb8b
namespace Go.Proofs.YtchpcjmgifnmdaaDoor.Ab
open Go

section
variable {P : Program} {w : World} {g : G} {H : AH}

/-- the cells that a row gets -/
theorem stored {b o : Nat} {el : TypeId} {vs : List Value} {c : Array Value} (h : w.heap[b]? = some (.cells c el (0, 0))) (hs : o + vs.length ≤ c.size) (h1 : ∀ v ∈ vs, v.oneCell' = true) :
    ∃ w' c', (storeCells ⟨b, o, none⟩ vs).run P w = .ok () w' ∧ Str w w' ∧ w'.heap.size = w.heap.size ∧ (∀ d, d ≠ b → w'.heap[d]? = w.heap[d]?) ∧
      w'.heap[b]? = some (.cells c' el (0, 0)) ∧ c'.size = c.size ∧ ∀ m, c'[m]? = if o ≤ m ∧ m < o + vs.length then vs[m - o]? else c[m]? := by
  obtain ⟨w', c', a1, a0, a2, a3, a4, a5, a6⟩ := run_storeCells (P := P) (b := b) (o := o) vs 0 w c h (by simpa using hs) h1
  exact ⟨w', c', a1, a0, a2, a3, a4, a5, fun m => by simpa using a6 m⟩

section
variable {t t' el ty : TypeId} {k by_ : Nat} {z : List AV} (hel : elOf P t = some el) (hs : szOf P el = some k) (hz : zeroA P el = some z) (hby : (P.info? el).map (·.bytes) = some by_) (hzl : z.length = k) (hk0 : 0 < k) (ht' : notInt P t' = true)
include hel hs ht' hz hby hzl hk0

theorem app_live (hw : WR g H w) {r rows : List (List AV)} {tt : Nat} {ao : Option Addr} {len cap : Nat} {y : Value}
    (hx : VR g (.lst k r (.live tt)) (.slice ao len cap)) (hrows : Rect k rows) (htip : H.tip tt = some r.length) (hroom : roomA by_ (r.length + rows.length) = true) (hone : rows.flatten.all AV.one = true) (h0 : rows.length ≠ 0)
    (hlen : (Builtin.lenOf y).run P w = .ok rows.length w)
    (hn : ∀ w', w'.heap = w.heap → ∃ ys : Array Value, VRs g rows.flatten ys ∧ (Builtin.firstCells k rows.length y).run P w' = .ok ys w') :
    AppOk P g H w (Builtin.append_ #[t, t'] ty #[.slice ao len cap, y]) (.lst k (r ++ rows) (.live tt)) (H.tipset H.next tt (r.length + rows.length)) := by
  obtain ⟨hr, hl, hcells⟩ := VR.lst_cells (P := P) hw hx
  obtain ⟨⟨Tk, TL, ⟨b, off, sp⟩, tcap⟩, c, el', e1, e2, e3, e4, e5, e6, e7⟩ := hw.tip tt _ htip
  simp only at e2 e3 e4 e5 e6 e7
  subst e2; subst e3
  have hx0 := hx
  cases hx with
  | @lst _ _ _ _ a _ _ xs hl' hc hz' ha hk hf hv ht =>
  obtain ⟨T', f1, f2, f3, f4⟩ := ht
  rw [e1] at f1; cases f1
  simp only at f2 f3 f4
  subst f2
  obtain ⟨rfl, rfl⟩ := f4 trivial
  subst hl
  have htlt : tt < H.next := hw.btp tt _ e1
  have hrr : Rect Tk (r ++ rows) := hr.append hrows
  have hmul : ∀ a b : Nat, a ≤ b → a * Tk ≤ b * Tk := fun a b h => Nat.mul_le_mul_right _ h
  have hlt0 : r.length < r.length + rows.length := by omega
  by_cases hfit : r.length + rows.length ≤ cap
  · obtain ⟨olds, o1, o2, o3, o4⟩ := hcells r.length (Nat.le_refl _)
    rw [List.take_length] at o1
    obtain ⟨news, n1, n2⟩ := hn w rfl
    have hrun := append_room_run (P := P) (ty := ty) (ao := some ⟨b, off, none⟩) (len := r.length) hel hs ht' hlen hfit n2
    have hnl : news.size = rows.length * Tk := by rw [n1.1, hrows.flat_len]
    have hsum : (r.length + rows.length) * Tk = r.length * Tk + rows.length * Tk := Nat.add_mul _ _ _
    have hm2 := hmul _ _ hfit
    obtain ⟨w', c', s1, s0, s2, s3, s4, s5, s6⟩ := stored (P := P) (o := off + r.length * Tk) (vs := news.toList) e5 (by rw [Array.length_toList (xs := news), hnl]; omega) (all_one n1 hone)
    rw [Array.length_toList (xs := news), hnl] at s6
    have hst := ST.tipset (w := w) (w' := w') (t := tt) (nx := H.next) (b := b) (off := off) (lo := off + r.length * Tk) (hi := off + (r.length + rows.length) * Tk) (L0 := r.length)
      (T := ⟨Tk, r.length + rows.length, ⟨b, off, none⟩, cap⟩) (c' := c') (el := el') hw (.inl ⟨htip, _, e1, rfl, rfl, hlt0⟩) rfl (.inr ⟨_, e1, rfl, by rw [htip]; simp⟩) (Nat.le_refl _) htlt s4
      (fun d hd _ => s3 d hd) (by omega) (fun o ho => e7 o ho)
      (fun o x e => by
        have hlt : o < off + r.length * Tk := by
          rcases Nat.lt_or_ge o (off + r.length * Tk) with h | h
          · exact h
          · rw [e7 o h] at e; cases e
        have := hw.fz _ _ _ e
        rw [s6 o, if_neg (by omega)]
        simpa [World.cell?, e5] using this) (by omega) s0 hfit (by rw [s5]; exact e6) rfl
    refine ⟨.slice (some ⟨b, off, none⟩) (r.length + rows.length) cap, w', _, ?_, ?_, hst⟩
    · rw [hrun]
      simp only
      rw [addr_add_off _ _ rfl]
      simp only
      rw [s1]; rfl
    · refine VR.lst_of (ys := olds ++ news) hrr (by simp) hfit (by rw [List.flatten_append]; exact (VRs.append o1 n1).mono hst.le) (fun p hp => ?_) ?_
      · simp only [G.tipset, true_and]
        by_cases hp1 : p < r.length * Tk
        · rw [if_neg (by omega), Array.getElem?_append_left (by rw [o2]; exact hp1)]
          obtain ⟨a', q1, q2, q3⟩ := o4 (by
            rcases Nat.eq_zero_or_pos r.length with h | h
            · rw [h] at hp1; simp at hp1
            · exact h)
          cases q1
          exact q3 p hp1
        · rw [if_pos ⟨by omega, by omega⟩, s6, if_pos ⟨by omega, by omega⟩, Array.getElem?_append_right (by rw [o2]; omega), o2, Array.getElem?_toList (xs := news)]
          congr 1; omega
      · exact ⟨⟨Tk, r.length + rows.length, ⟨b, off, none⟩, cap⟩, by simp only [G.tipset, if_true], rfl, by simp, fun _ => ⟨rfl, rfl⟩⟩
  · have hwd := hw.of_heap (drew_heap w)
    obtain ⟨_, _, hcd⟩ := VR.lst_cells (P := P) hwd hx0
    obtain ⟨oldd, p1, p2, p3, _⟩ := hcd r.length (Nat.le_refl _)
    rw [List.take_length] at p1
    obtain ⟨news, n1, n2⟩ := hn w.drew (drew_heap w)
    obtain ⟨z', nc, hz'', hrun, hnc⟩ := append_grow_run (P := P) (ty := ty) (ao := some ⟨b, off, none⟩) (len := r.length) (cap := cap) hel hs hz hby ht' hlen (by omega) hroom p3 n2
    have hzs : z'.cells.size = Tk := by rw [← hzl, hz'']; simp
    have hol : oldd.size = r.length * Tk := by rw [p1.1, hr.flat_len]
    have hnl : news.size = rows.length * Tk := by rw [n1.1, hrows.flat_len]
    have hall := VRs.append p1 n1
    have hsz2 : (oldd ++ news).size = (r.length + rows.length) * Tk := by simp only [Array.size_append, hol, hnl, Nat.add_mul]
    have hsz : (oldd ++ news ++ Builtin.zeroCells z'.cells (nc - (r.length + rows.length))).size = nc * Tk := by
      simp only [Array.size_append, hol, hnl, size_zeroCells, hzs, ← Nat.add_mul]; congr 1; omega
    have hle0 := hmul _ _ hnc
    have hhs : w.drew.heap.size = w.heap.size := by rw [drew_heap]
    have hst := ST.tipset (w := w.drew) (w' := w.drew.alloc (.cells (oldd ++ news ++ Builtin.zeroCells z'.cells (nc - (r.length + rows.length))) el)) (t := tt) (nx := H.next) (b := w.heap.size) (off := 0) (lo := 0)
      (hi := 0 + (r.length + rows.length) * Tk) (L0 := r.length) (T := ⟨Tk, r.length + rows.length, ⟨w.heap.size, 0, none⟩, nc⟩) (c' := oldd ++ news ++ Builtin.zeroCells z'.cells (nc - (r.length + rows.length))) (el := el) hwd
      (.inl ⟨htip, _, e1, rfl, rfl, hlt0⟩) rfl (.inl hhs.symm) (Nat.le_refl _) htlt
      (by rw [← hhs]; exact heap_alloc_new) (fun d hd hlt => heap_alloc_lt hlt) (by simp) (fun o _ => hw.fz_none (Nat.le_refl _) o)
      (fun o x e => by rw [hw.fz_none (Nat.le_refl _) o] at e; cases e) (by omega) ⟨rfl, rfl, rfl⟩ hnc (by rw [hsz]; simp) rfl
    refine ⟨_, _, _, hrun, ?_, (ST.drew hw).trans hst⟩
    refine VR.lst_of (ys := oldd ++ news) hrr (by simp) hnc (by rw [List.flatten_append]; exact hall.mono hst.le) (fun p hp => ?_) ?_
    · simp only [G.tipset, Nat.zero_add, Nat.zero_le, true_and, hp, and_self, if_true]
      rw [Array.getElem?_append_left (by rw [hsz2]; exact hp)]
    · exact ⟨⟨Tk, r.length + rows.length, ⟨w.heap.size, 0, none⟩, nc⟩, by simp only [G.tipset, if_true], rfl, by simp, fun _ => ⟨rfl, rfl⟩⟩

omit hz hby hzl hk0 in
/-- an owned row that has room -/
theorem app_room (hw : WR g H w) {rows : List (List AV)} {n b len cap : Nat} {l : List AV} {y : Value} (hb : g.mu n = some b) (hS : g.bs n = some (0 + cap * k)) (hn : H.own n = some (.cells l))
    (hll : len * k ≤ l.length) (hrows : Rect k rows) (hone : rows.flatten.all AV.one = true) (hlen : (Builtin.lenOf y).run P w = .ok rows.length w) (hfit : len + rows.length ≤ cap)
    (hnn : ∃ ys : Array Value, VRs g rows.flatten ys ∧ (Builtin.firstCells k rows.length y).run P w = .ok ys w) :
    ∃ w', (Builtin.append_ #[t, t'] ty #[.slice (some ⟨b, 0, none⟩) len cap, y]).run P w = .ok (.slice (some ⟨b, 0, none⟩) (len + rows.length) cap) w' ∧
      ST g H w g (H.set n (.cells (l.take (len * k) ++ rows.flatten))) w' ∧ ((len + rows.length) * k ≤ l.length → ST g H w g (H.set n (.cells (spliceL l (len * k) rows.flatten))) w') := by
  obtain ⟨news, n1, n2⟩ := hnn
  obtain ⟨b', c, el', e1, e2, hb', hl, hbs, hx⟩ := own_cells (n := n) (o := 0) (y := .pointer (some ⟨b, 0, none⟩)) hw (.ptr hb) hn
  rw [hb] at e2; cases e2
  rw [hS] at hbs; simp only [Nat.zero_add, Option.some.injEq] at hbs
  have hnl : news.size = rows.length * k := by rw [n1.1, hrows.flat_len]
  have hfl := hrows.flat_len
  have hsum : (len + rows.length) * k = len * k + rows.length * k := Nat.add_mul _ _ _
  have hm2 : (len + rows.length) * k ≤ cap * k := Nat.mul_le_mul_right _ hfit
  have hrun := append_room_run (P := P) (ty := ty) (ao := some ⟨b, 0, none⟩) (len := len) hel hs ht' hlen hfit n2
  obtain ⟨w', c', s1, s0, s2, s3, s4, s5, s6⟩ := stored (P := P) (o := len * k) (vs := news.toList) hb' (by rw [Array.length_toList (xs := news), hnl]; omega) (all_one n1 hone)
  rw [Array.length_toList (xs := news), hnl] at s6
  refine ⟨w', ?_, ST.set hw hn hb s2 s4 s3 ⟨rfl, by simp only [List.length_append, List.length_take, hfl, s5]; omega, by rw [s5, hS]; simp [hbs], fun j hj => ?_⟩ s0,
    fun hle => ST.set hw hn hb s2 s4 s3 ⟨rfl, by rw [spliceL_length _ _ _ (by rw [hfl]; omega), s5]; exact hl, by rw [s5, hS]; simp [hbs], fun j hj => ?_⟩ s0⟩
  · rw [hrun]
    simp only
    rw [addr_add_off _ _ rfl]
    simp only [Nat.zero_add]
    rw [s1]; rfl
  · have hlt : (l.take (len * k)).length = len * k := by simp; omega
    simp only [List.length_append, hlt, hfl] at hj
    rw [List.getD_eq_getElem?_getD, Array.getD_eq_getD_getElem?, s6]
    by_cases hj1 : j < len * k
    · rw [if_neg (by omega), List.getElem?_append_left (by omega), List.getElem?_take_of_lt hj1]
      have := hx j (by omega)
      rwa [List.getD_eq_getElem?_getD, Array.getD_eq_getD_getElem?] at this
    · rw [if_pos (by omega), List.getElem?_append_right (by omega), hlt, Array.getElem?_toList (xs := news)]
      have := n1.2 (j - len * k) (by rw [hfl]; omega)
      rwa [List.getD_eq_getElem?_getD, Array.getD_eq_getD_getElem?] at this
  · rw [spliceL_length _ _ _ (by rw [hfl]; omega)] at hj
    rw [List.getD_eq_getElem?_getD, spliceL_get _ _ _ (by rw [hfl]; omega), Array.getD_eq_getD_getElem?, s6, hfl]
    by_cases hj1 : len * k ≤ j ∧ j < len * k + rows.length * k
    · rw [if_pos hj1, if_pos hj1, Array.getElem?_toList (xs := news)]
      have := n1.2 (j - len * k) (by rw [hfl]; omega)
      rwa [List.getD_eq_getElem?_getD, Array.getD_eq_getD_getElem?] at this
    · rw [if_neg hj1, if_neg hj1]
      have := hx j hj
      rwa [List.getD_eq_getElem?_getD, Array.getD_eq_getD_getElem?] at this

theorem appTo_sound (hw : WR g H w) {mu : List Nat} {dst : Option Nat} {rows : List (List AV)} {s : AV} {u y : Value} {v : AV} {H' : AH} (hv : VR g s u) (hrows : Rect k rows)
    (h : appTo k by_ mu H dst rows s = some (v, H')) (hlen : (Builtin.lenOf y).run P w = .ok rows.length w)
    (hn : ∀ w', w'.heap = w.heap → ∃ ys : Array Value, VRs g rows.flatten ys ∧ ys.size = rows.length * k ∧ (Builtin.firstCells k rows.length y).run P w' = .ok ys w') :
    AppOk P g H w (Builtin.append_ #[t, t'] ty #[u, y]) v H' := by
  have hn' : ∀ w', w'.heap = w.heap → ∃ ys : Array Value, VRs g rows.flatten ys ∧ (Builtin.firstCells k rows.length y).run P w' = .ok ys w' := fun w' hw' => by
    obtain ⟨ys, a, _, b⟩ := hn w' hw'; exact ⟨ys, a, b⟩
  have hzero : rows.length = 0 → ∀ (ao : Option Addr) (len cap : Nat), u = .slice ao len cap → len ≤ cap → AppOk P g H w (Builtin.append_ #[t, t'] ty #[u, y]) s H := by
    intro h0 ao len cap hu hlc
    subst hu
    rw [h0] at hlen
    obtain ⟨ys, _, e2, e3⟩ := hn w rfl
    rw [h0] at e2 e3
    exact app_zero hel hs ht' hw hv hlc hlen ⟨ys, by simpa using e2, e3⟩
  have hwd := hw.of_heap (drew_heap w)
  unfold appTo at h
  split at h
  · have := hv.of_v; subst this
    split at h
    · rename_i h0
      simp only [Option.some.injEq, Prod.mk.injEq] at h
      obtain ⟨rfl, rfl⟩ := h
      exact hzero h0 none 0 0 rfl (Nat.le_refl _)
    · rename_i h0
      exact app_new hel hs hz hby hzl ht' hw (fun i hi => by simp at hi) hrows h rfl (by omega) hlen ⟨#[], ⟨by simp, fun j hj => by simp at hj⟩, by simp [Builtin.firstCells]⟩ (hn' _ (drew_heap w))
  · rename_i k' r tip
    split at h
    · rename_i hk; subst hk
      have hv0 := hv
      cases hv with
      | @lst _ _ _ ao a len cap xs hl hc hz' ha hk hf hvv ht =>
      split at h
      · rename_i h0
        simp only [Option.some.injEq, Prod.mk.injEq] at h
        obtain ⟨rfl, rfl⟩ := h
        exact hzero h0 ao len cap rfl hc
      · rename_i h0
        split at h
        · obtain ⟨q1, q2, q3⟩ := VR.lst_cells (P := P) hwd hv0
          obtain ⟨ys, y1, y2, y3, _⟩ := q3 r.length (Nat.le_refl _)
          rw [List.take_length] at y1
          have hcap : cap = r.length := ht
          exact app_new hel hs hz hby hzl ht' hw q1 hrows h hl (by omega) hlen ⟨ys, y1, by rw [hl]; rw [hl] at y3; exact y3⟩ (hn' _ (drew_heap w))
        · rename_i tt
          split at h
          · rename_i hcond
            simp only [Option.some.injEq, Prod.mk.injEq] at h
            obtain ⟨rfl, rfl⟩ := h
            exact app_live hel hs hz hby hzl hk0 ht' hw hv0 hrows hcond.1 hcond.2.1 hcond.2.2 h0 hlen hn'
          · cases h
        · cases h
    · cases h
  · rename_i k' n len
    split at h
    · rename_i hk; subst hk
      cases hv with
      | @sl _ _ _ _ cap b hb hc hS =>
      split at h
      · rename_i l hn0
        split at h
        · rename_i hcond
          split at h
          · split at h
            · rename_i hroom
              simp only [Option.some.injEq, Prod.mk.injEq] at h
              obtain ⟨rfl, rfl⟩ := h
              by_cases hfit : len + rows.length ≤ cap
              · obtain ⟨w', r1, r2, _⟩ := app_room hel hs ht' (ty := ty) hw hb hS hn0 hcond.1 hrows hcond.2 hlen hfit (hn' _ rfl)
                have hren := ST.rename (n := n) (b := b) (S := 0 + cap * k') r2.wr (by simp only [AH.set, if_true]; rfl) hb hS
                have hHH : ((H.set n (.cells (l.take (len * k') ++ rows.flatten))).add (.cells (l.take (len * k') ++ rows.flatten))).del n = (H.add (.cells (l.take (len * k') ++ rows.flatten))).del n := by
                  simp only [AH.set, AH.add, AH.del]
                  congr 1
                  funext m
                  by_cases h1 : m = n
                  · simp only [h1, if_true]
                  · simp only [h1, if_false]
                rw [hHH] at hren
                exact ⟨_, w', _, r1, .sl (by simp [G.name, AH.set]) hfit (by simp [G.name, AH.set]), r2.trans hren⟩
              · obtain ⟨olds, o1, o2, o3⟩ := own_first (P := P) (m := len) (len := len) (cap := cap) (k := k') (o := 0) hwd hn0 hb (by omega)
                obtain ⟨news, n1, n3, n2⟩ := hn _ (drew_heap w)
                obtain ⟨z', nc, hz'', hrun, hnc⟩ := append_grow_run (P := P) (ty := ty) (ao := some ⟨b, 0, none⟩) (len := len) hel hs hz hby ht' hlen (by omega) hroom o3 n2
                have hzs : z'.cells.size = k' := by rw [← hzl, hz'']; simp
                simp only [List.drop_zero] at o1
                have hall := VRs.append o1 n1
                have hsz2 : (olds ++ news).size = (len + rows.length) * k' := by simp only [Array.size_append, o2, n3, Nat.add_mul]
                have hsz : (olds ++ news ++ Builtin.zeroCells z'.cells (nc - (len + rows.length))).size = nc * k' := by
                  simp only [Array.size_append, o2, n3, size_zeroCells, hzs, ← Nat.add_mul]; congr 1; omega
                have hle0 : (len + rows.length) * k' ≤ nc * k' := Nat.mul_le_mul_right _ hnc
                have hmn := hwd.mu_none (Nat.le_refl H.next)
                have hle := G.le_name (b := w.drew.heap.size) (s := nc * k') hmn (hwd.nbs _ hmn)
                have hhs : w.drew.heap.size = w.heap.size := by rw [drew_heap]
                have hadd := ST.add hwd (.cells (l.take (len * k') ++ rows.flatten)) (.cells (olds ++ news ++ Builtin.zeroCells z'.cells (nc - (len + rows.length))) el) (nc * k')
                  ⟨rfl, by rw [← hall.1, hsz, hsz2]; exact hle0, by simp only [G.name, if_true]; rw [hsz], fun j hj => by
                    have := (hall.2 j hj).mono hle
                    rw [Array.getD_eq_getD_getElem?, Array.getElem?_append_left (by rw [hall.1]; exact hj), ← Array.getD_eq_getD_getElem?]; exact this⟩
                exact ⟨_, _, _, hrun, .sl (by simp [G.name, hhs]) hnc (by simp [G.name]), ((ST.drew hw).trans hadd).del n⟩
            · cases h
          · split at h
            · rename_i hle
              simp only [Option.some.injEq, Prod.mk.injEq] at h
              obtain ⟨rfl, rfl⟩ := h
              have hfit : len + rows.length ≤ cap := by
                obtain ⟨b', c, el', e1, e2, hb', hl, hbs, hx⟩ := own_cells (n := n) (o := 0) (y := .pointer (some ⟨b, 0, none⟩)) hw (.ptr hb) hn0
                rw [hS] at hbs; simp only [Nat.zero_add, Option.some.injEq] at hbs
                have : (len + rows.length) * k' ≤ cap * k' := by omega
                exact Nat.le_of_mul_le_mul_right this hk0
              obtain ⟨w', r1, _, r3⟩ := app_room hel hs ht' (ty := ty) hw hb hS hn0 hcond.1 hrows hcond.2 hlen hfit (hn' _ rfl)
              exact ⟨_, w', g, r1, .sl hb hfit hS, r3 hle⟩
            · cases h
        · cases h
      · cases h
    · cases h
  · cases h

end

theorem aapp_sound (hw : WR g H w) {mu : List Nat} {dst : Option Nat} {t t' ty : TypeId} {s x : AV} {u y : Value} {v : AV} {H' : AH} (hv : VR g s u) (hx : VR g x y)
    (h : aapp P mu H dst t t' s x = some (v, H')) : AppOk P g H w (Builtin.append_ #[t, t'] ty #[u, y]) v H' := by
  unfold aapp at h
  split at h
  · rename_i el hel
    split at h
    · rename_i k z by_ hs hz hby
      split at h
      · rename_i hcond
        split at h
        · rename_i rows hsrc
          obtain ⟨h1, h2, h3⟩ := srcA_sound (P := P) hw hx hsrc
          refine appTo_sound hel hs hz hby hcond.1 hcond.2.1 hcond.2.2 hw hv h1 h h2 fun w' hw' => ?_
          obtain ⟨ys, a, b, c⟩ := (srcA_sound (P := P) (hw.of_heap hw') hx hsrc).2.2 rows.length (Nat.le_refl _)
          rw [List.take_length] at a
          exact ⟨ys, a, b, c⟩
        · cases h
      · cases h
    · cases h
  · cases h

end
end Go.Proofs.YtchpcjmgifnmdaaDoor.Ab

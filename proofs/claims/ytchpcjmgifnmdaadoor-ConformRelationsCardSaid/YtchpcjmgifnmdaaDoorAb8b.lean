/- Growing lists: append, copy, clear. -/
import Derived.Test.YtchpcjmgifnmdaaDoorAb8a
namespace Go.Proofs.YtchpcjmgifnmdaaDoor.Ab
open Go

/-- what is appended, in rows -/
def srcA (H : AH) (k : Nat) (x : AV) : Option (List (List AV)) :=
  match x with
  | .v (.slice none 0 _) => some []
  | .lst k' rows _ => if k' = k then some rows else none
  | .sl k' n o len => if k' = k then (match H.own n with
    | some (.cells l) => if o + len * k ≤ l.length then some (chunk k len (l.drop o)) else none
    | _ => none) else none
  | .v (.string s) => if k = 1 then some (s.data.toList.map fun b => [.v (.int .u8 b.toNat)]) else none
  | _ => none

def roomA (by_ n : Nat) : Bool := decide (n * by_ ≤ 140737488355328) && decide (n ≤ 140737488355328)

def anew (k by_ : Nat) (mu : List Nat) (H : AH) (dst : Option Nat) (r rows : List (List AV)) : Option (AV × AH) :=
  if roomA by_ (r.length + rows.length) = true then
    (if isMut mu dst = true then some (.sl k H.next 0 (r.length + rows.length), H.add (.cells (r.flatten ++ rows.flatten)))
     else some (.lst k (r ++ rows) (.live H.next), H.tipset (H.next + 1) H.next (r.length + rows.length)))
  else none

def appTo (k by_ : Nat) (mu : List Nat) (H : AH) (dst : Option Nat) (rows : List (List AV)) (s : AV) : Option (AV × AH) :=
  match s with
  | .v (.slice none 0 0) => if rows.length = 0 then some (s, H) else anew k by_ mu H dst [] rows
  | .lst k' r tip => if k' = k then (if rows.length = 0 then some (s, H) else (match tip with
    | .full => anew k by_ mu H dst r rows
    | .live t => if H.tip t = some r.length ∧ roomA by_ (r.length + rows.length) = true ∧ rows.flatten.all AV.one = true then
        some (.lst k (r ++ rows) (.live t), H.tipset H.next t (r.length + rows.length)) else none
    | _ => none)) else none
  | .sl k' n 0 len => if k' = k then (match H.own n with
    | some (.cells l) => if len * k ≤ l.length ∧ rows.flatten.all AV.one = true then
        (if isMut mu dst = true then
          (if roomA by_ (len + rows.length) = true then some (.sl k H.next 0 (len + rows.length), (H.add (.cells (l.take (len * k) ++ rows.flatten))).del n) else none)
        else if (len + rows.length) * k ≤ l.length then some (.sl k n 0 (len + rows.length), H.set n (.cells (spliceL l (len * k) rows.flatten))) else none)
        else none
    | _ => none) else none
  | _ => none

def aapp (P : Program) (mu : List Nat) (H : AH) (dst : Option Nat) (t t' : TypeId) (s x : AV) : Option (AV × AH) :=
  match elOf P t with
  | some el => match szOf P el, zeroA P el, byOf P el with
    | some k, some z, some by_ => if z.length = k ∧ 0 < k ∧ notInt P t' = true then
      (match srcA H k x with
      | some rows => appTo k by_ mu H dst rows s
      | none => none) else none
    | _, _, _ => none
  | none => none

section
variable {P : Program} {w : World} {g : G} {H : AH}

theorem notInt_run {t : TypeId} (h : notInt P t = true) : ∃ d, P.underlying t = some d ∧ ∀ k, d ≠ .int k := by
  unfold notInt at h
  split at h
  · rename_i e hu; exact ⟨_, hu, fun k hk => by cases hk⟩
  · rename_i hu; exact ⟨_, hu, fun k hk => by cases hk⟩
  · cases h

theorem own_first (hw : WR g H w) {n b : Nat} {l : List AV} (hn : H.own n = some (.cells l)) (hb : g.mu n = some b) {o k m len cap : Nat} (h : o + m * k ≤ l.length) :
    ∃ ys : Array Value, VRs g ((l.drop o).take (m * k)) ys ∧ ys.size = m * k ∧ (Builtin.firstCells k m (.slice (some ⟨b, o, none⟩) len cap)).run P w = .ok ys w := by
  obtain ⟨b', c, el, e1, e2, hb', hl, hbs, hx⟩ := own_cells (n := n) (o := 0) (y := .pointer (some ⟨b, 0, none⟩)) hw (.ptr hb) hn
  rw [hb] at e2; cases e2
  have hsz : (c.extract o (o + m * k)).size = m * k := by simp; omega
  refine ⟨c.extract o (o + m * k), VRs.of_get (by rw [hsz]; simp; omega) fun j a x h1 h2 => ?_, hsz, ?_⟩
  · rw [List.getElem?_take] at h1
    split at h1
    · rw [List.getElem?_drop] at h1
      have hj := (List.getElem?_eq_some_iff.mp h1).1
      rw [Array.getElem?_extract] at h2
      split at h2
      · have := hx (o + j) hj
        rw [List.getD_eq_getElem?_getD, h1, Array.getD_eq_getD_getElem?, h2] at this
        exact this
      · cases h2
    · cases h1
  · have := run_firstCells_some (P := P) w k m ⟨b, o, none⟩ len cap (c.extract o (o + m * k)).toList (by rw [Array.length_toList, hsz]) (fun j v hj => by
      rw [cell_of hb']
      rw [Array.getElem?_toList, Array.getElem?_extract] at hj
      split at hj
      · exact hj
      · cases hj)
    rw [this]

theorem srcA_sound (hw : WR g H w) {k : Nat} {x : AV} {y : Value} {rows : List (List AV)} (hx : VR g x y) (h : srcA H k x = some rows) :
    Rect k rows ∧ (Builtin.lenOf y).run P w = .ok rows.length w ∧ ∀ m, m ≤ rows.length → ∃ ys : Array Value, VRs g (rows.take m).flatten ys ∧ ys.size = m * k ∧
      (Builtin.firstCells k m y).run P w = .ok ys w := by
  unfold srcA at h
  split at h
  · have := hx.of_v; subst this
    simp only [Option.some.injEq] at h; subst h
    refine ⟨fun i hi => by simp at hi, rfl, fun m hm => ⟨#[], ⟨by simp, fun j hj => by simp at hj⟩, ?_, by simp [Builtin.firstCells]⟩⟩
    have : m = 0 := by simpa using hm
    subst this; simp
  · split at h
    · rename_i hk; subst hk
      simp only [Option.some.injEq] at h; subst h
      cases hx with
      | @lst _ _ _ ao a len cap xs hl hc hz ha hk hf hv ht =>
      have hx : VR g (.lst _ _ _) (.slice ao len cap) := .lst hl hc hz ha hk hf hv ht
      refine ⟨hk, by rw [← hl]; rfl, fun m hm => ?_⟩
      obtain ⟨ys, h1, h2, h3, _⟩ := (VR.lst_cells (P := P) hw hx).2.2 m hm
      exact ⟨ys, h1, h2, h3⟩
    · cases h
  · rename_i k' n o len
    split at h
    · rename_i hk; subst hk
      split at h
      · rename_i l hn
        split at h
        · rename_i hle
          simp only [Option.some.injEq] at h; subst h
          cases hx with
          | @sl _ _ _ _ cap b hm hc hS =>
          have hd : len * k' ≤ (l.drop o).length := by simp; omega
          refine ⟨Rect.chunk hd, by rw [chunk_length]; rfl, fun m hm' => ?_⟩
          rw [chunk_length] at hm'
          rw [chunk_take _ _ _ hm']
          have hmk : m * k' ≤ len * k' := Nat.mul_le_mul_right _ hm'
          rw [chunk_flatten _ _ (by omega)]
          exact own_first hw hn hm (by omega)
        · cases h
      · cases h
    · cases h
  · rename_i s
    have := hx.of_v; subst this
    split at h
    · rename_i hk; subst hk
      simp only [Option.some.injEq] at h; subst h
      refine ⟨fun i hi => ?_, by simp only [Builtin.lenOf, Sem.run_pure, List.length_map, Array.length_toList]; rfl, fun m hm => ?_⟩
      · simp only [List.length_map] at hi
        rw [List.getD_eq_getElem?_getD, List.getElem?_map, List.getElem?_eq_getElem hi]; rfl
      · simp only [List.length_map, Array.length_toList] at hm
        have hm0 : m ≤ s.data.size := hm
        have hfl : ((s.data.toList.map fun b => [AV.v (.int .u8 b.toNat)]).take m).flatten = (s.data.toList.take m).map fun b => AV.v (.int .u8 b.toNat) := by
          rw [← List.map_take]
          induction s.data.toList.take m with
          | nil => rfl
          | cons b l ih => simp only [List.map_cons, List.flatten_cons, ih]; rfl
        rw [hfl]
        have hxs : ((s.extract 0 m).data.map fun b => Value.int .u8 b.toNat).toList = (s.data.toList.take m).map fun b => Value.int .u8 b.toNat := by
          simp [ByteArray.data_extract]
        refine ⟨((s.data.toList.take m).map fun b => Value.int .u8 b.toNat).toArray, ⟨by simp, fun j hj => ?_⟩, by simp only [List.size_toArray, List.length_map, List.length_take, Array.length_toList]; omega, ?_⟩
        · simp only [List.length_map] at hj
          rw [List.getD_eq_getElem?_getD, List.getElem?_map, List.getElem?_eq_getElem hj, Array.getD_eq_getD_getElem?]
          simp only [List.getElem?_toArray, List.getElem?_map, List.getElem?_eq_getElem hj, Option.map_some, Option.getD_some]
          exact .v
        · simp only [Builtin.firstCells, Sem.run_pure]
          congr 1
          rw [← hxs]
    · cases h
  · cases h

theorem append_grow_run {t t' el ty : TypeId} {k by_ m len cap : Nat} {z : List AV} {ao : Option Addr} {y : Value} {olds news : Array Value} (hel : elOf P t = some el) (hs : szOf P el = some k)
    (hz : zeroA P el = some z) (hby : (P.info? el).map (·.bytes) = some by_) (ht' : notInt P t' = true) (hlen : (Builtin.lenOf y).run P w = .ok m w) (hg : cap < len + m) (hroom : roomA by_ (len + m) = true)
    (ho : (Builtin.firstCells k len (.slice ao len cap)).run P w.drew = .ok olds w.drew) (hne : (Builtin.firstCells k m y).run P w.drew = .ok news w.drew) :
    ∃ (z' : Value) (nc : Nat), z = z'.cells.toList.map .v ∧ (Builtin.append_ #[t, t'] ty #[.slice ao len cap, y]).run P w =
      .ok (.slice (some ⟨w.heap.size, 0, none⟩) (len + m) nc) (w.drew.alloc (.cells (olds ++ news ++ Builtin.zeroCells z'.cells (nc - (len + m))) el)) ∧ len + m ≤ nc := by
  obtain ⟨z', hz', rfl⟩ := run_zero' (P := P) (w := w.drew) hz
  obtain ⟨d, hd, hdi⟩ := notInt_run ht'
  simp only [roomA, Bool.and_eq_true, decide_eq_true_eq] at hroom
  have hinfo : ∃ i, P.info? el = some i ∧ i.bytes = by_ := by
    cases hi : P.info? el with
    | none => rw [hi] at hby; cases hby
    | some i => rw [hi] at hby; exact ⟨i, rfl, by simpa using hby⟩
  obtain ⟨i, hi, hib⟩ := hinfo
  have hfit := growslice_fits hg hroom.1
  have hn : ¬ (len + m ≤ cap) := by omega
  have h63' : ¬ (9223372036854775807 < ((len : Int) + (m : Int))) := by omega
  have h48' : ¬ (281474976710656 < Builtin.nextslicecap (len + m) cap * i.bytes) := by rw [hib]; omega
  have hti : ∀ w', (typeInfo el).run P w' = .ok i w' := fun w' => by simp [typeInfo, hi]
  refine ⟨z', grownCap w (len + m) cap el, rfl, ?_, grownCap_ge w (len + m) cap el⟩
  simp [Builtin.append_, run_underlying' (elOf_und hel), run_underlying' hd, run_sizeOf' hs, hti, hlen, hn, h63', h48', Question.forced, ho, hne, newRow, grownCap, hz']


theorem append_room_run {t t' el ty : TypeId} {k m len cap : Nat} {ao : Option Addr} {y : Value} {news : Array Value} (hel : elOf P t = some el) (hs : szOf P el = some k)
    (ht' : notInt P t' = true) (hlen : (Builtin.lenOf y).run P w = .ok m w) (hg : len + m ≤ cap) (hne : (Builtin.firstCells k m y).run P w = .ok news w) :
    (Builtin.append_ #[t, t'] ty #[.slice ao len cap, y]).run P w =
      match ao with
      | none => .ok (.slice none (len + m) cap) w
      | some a => ((storeCells (a.add (len * k)) news.toList).run P w).andThen fun _ w' => .ok (.slice (some a) (len + m) cap) w' := by
  obtain ⟨d, hd, hdi⟩ := notInt_run ht'
  cases ao with
  | none => simp [Builtin.append_, run_underlying' (elOf_und hel), run_underlying' hd, run_sizeOf' hs, hlen, hg, hne]
  | some a => simp [Builtin.append_, run_underlying' (elOf_und hel), run_underlying' hd, run_sizeOf' hs, hlen, hg, hne]

theorem drew_heap (w : World) : w.drew.heap = w.heap := rfl

theorem ST.drew (hw : WR g H w) : ST g H w g H w.drew := ST.of_heap hw (drew_heap w) ⟨rfl, rfl, rfl⟩

/-- a new row that grows later, or an owned one -/
theorem anew_sound (hw : WR g H w) {k by_ : Nat} {mu : List Nat} {dst : Option Nat} {r rows : List (List AV)} {v : AV} {H' : AH} {nc : Nat} {olds news rest : Array Value} {el : TypeId}
    (hr : Rect k r) (hrows : Rect k rows) (h : anew k by_ mu H dst r rows = some (v, H')) (ho : VRs g r.flatten olds) (hn : VRs g rows.flatten news) (hnc : r.length + rows.length ≤ nc)
    (hrest : rest.size = (nc - (r.length + rows.length)) * k) :
    ∃ g', VR g' v (.slice (some ⟨w.heap.size, 0, none⟩) (r.length + rows.length) nc) ∧ ST g H w g' H' (w.drew.alloc (.cells (olds ++ news ++ rest) el)) := by
  have hw' := hw.of_heap (drew_heap w)
  have hall := VRs.append ho hn
  have hol : olds.size = r.length * k := by rw [ho.1, hr.flat_len]
  have hnl : news.size = rows.length * k := by rw [hn.1, hrows.flat_len]
  have hsz : (olds ++ news ++ rest).size = nc * k := by
    simp only [Array.size_append, hol, hnl, hrest, ← Nat.add_mul]; congr 1; omega
  have hsz2 : (olds ++ news).size = (r.length + rows.length) * k := by simp only [Array.size_append, hol, hnl, Nat.add_mul]
  have hle0 : (r.length + rows.length) * k ≤ nc * k := Nat.mul_le_mul_right _ hnc
  have hhs : w.drew.heap.size = w.heap.size := by rw [drew_heap]
  unfold anew at h
  split at h
  · rename_i hroom
    split at h
    · simp only [Option.some.injEq, Prod.mk.injEq] at h
      obtain ⟨rfl, rfl⟩ := h
      have hmn := hw'.mu_none (Nat.le_refl H.next)
      have hle := G.le_name (b := w.drew.heap.size) (s := nc * k) hmn (hw'.nbs _ hmn)
      refine ⟨g.name H.next w.drew.heap.size (nc * k), .sl (by simp [G.name, hhs]) hnc (by simp [G.name]), (ST.drew hw).trans (ST.add hw' _ _ _ ⟨rfl, ?_, by simp only [G.name, if_true]; rw [hsz], fun j hj => ?_⟩)⟩
      · rw [← hall.1, hsz, hsz2]; exact hle0
      · have := (hall.2 j hj).mono hle
        rw [Array.getD_eq_getD_getElem?, Array.getElem?_append_left (by rw [hall.1]; exact hj), ← Array.getD_eq_getD_getElem?]; exact this
    · simp only [Option.some.injEq, Prod.mk.injEq] at h
      obtain ⟨rfl, rfl⟩ := h
      have hst := ST.tipset (w := w.drew) (w' := w.drew.alloc (.cells (olds ++ news ++ rest) el)) (t := H.next) (nx := H.next + 1) (b := w.heap.size) (off := 0) (lo := 0) (hi := 0 + (r.length + rows.length) * k) (L0 := 0)
        (T := ⟨k, r.length + rows.length, ⟨w.heap.size, 0, none⟩, nc⟩) (c' := olds ++ news ++ rest) (el := el) hw' (.inr (Nat.le_refl _)) rfl (.inl hhs.symm) (by omega) (by omega)
        (by rw [← hhs]; exact heap_alloc_new) (fun d hd hlt => heap_alloc_lt hlt) (by simp) (fun o _ => hw.fz_none (Nat.le_refl _) o)
        (fun o x e => by rw [hw.fz_none (Nat.le_refl _) o] at e; cases e) (by omega) ⟨rfl, rfl, rfl⟩ hnc (by rw [hsz]; simp) rfl
      refine ⟨_, ?_, (ST.drew hw).trans hst⟩
      have hrr : Rect k (r ++ rows) := hr.append hrows
      refine VR.lst_of (ys := olds ++ news) hrr (by simp) hnc (by rw [List.flatten_append]; exact hall.mono hst.le) (fun p hp => ?_) ?_
      · simp only [G.tipset, Nat.zero_add, Nat.zero_le, true_and, hp, and_self, if_true]
        rw [Array.getElem?_append_left (by rw [hsz2]; exact hp)]
      · refine ⟨⟨k, r.length + rows.length, ⟨w.heap.size, 0, none⟩, nc⟩, by simp only [G.tipset, if_true], rfl, by simp, fun _ => ⟨rfl, rfl⟩⟩
  · cases h


def AppOk (P : Program) (g : G) (H : AH) (w : World) (s : Sem Value) (v : AV) (H' : AH) : Prop :=
  ∃ x w' g', s.run P w = .ok x w' ∧ VR g' v x ∧ ST g H w g' H' w'

theorem all_one {cs : List AV} {xs : Array Value} (h : VRs g cs xs) (ho : cs.all AV.one = true) : ∀ v ∈ xs.toList, v.oneCell' = true := by
  intro v hv
  obtain ⟨j, hj⟩ := List.mem_iff_getElem?.mp hv
  rw [Array.getElem?_toList] at hj
  have hjs := (Array.getElem?_eq_some_iff.mp hj).1
  have hjl : j < cs.length := by rw [← h.1]; exact hjs
  have := h.2 j hjl
  rw [Array.getD_eq_getD_getElem?, hj] at this
  refine this.one ?_
  rw [List.all_eq_true] at ho
  rw [List.getD_eq_getElem?_getD, List.getElem?_eq_getElem hjl]
  exact ho _ (List.getElem_mem hjl)

section
variable {t t' el ty : TypeId} {k by_ : Nat} {z : List AV} (hel : elOf P t = some el) (hs : szOf P el = some k) (hz : zeroA P el = some z) (hby : (P.info? el).map (·.bytes) = some by_) (hzl : z.length = k) (hk0 : 0 < k) (ht' : notInt P t' = true)
include hel hs ht'

theorem app_zero (hw : WR g H w) {s : AV} {ao : Option Addr} {len cap : Nat} {y : Value} (hv : VR g s (.slice ao len cap)) (hlc : len ≤ cap) (hlen : (Builtin.lenOf y).run P w = .ok 0 w)
    (hne : ∃ ys : Array Value, ys.size = 0 ∧ (Builtin.firstCells k 0 y).run P w = .ok ys w) : AppOk P g H w (Builtin.append_ #[t, t'] ty #[.slice ao len cap, y]) s H := by
  obtain ⟨ys, h1, h2⟩ := hne
  have hys : ys = #[] := Array.eq_empty_of_size_eq_zero h1
  subst hys
  have hr := append_room_run (P := P) (ty := ty) (ao := ao) (len := len) hel hs ht' hlen (by omega : len + 0 ≤ cap) h2
  refine ⟨.slice ao len cap, w, g, ?_, hv, ST.refl hw⟩
  rw [hr]
  cases ao with
  | none => rfl
  | some a => rfl

include hz hby hzl in
theorem app_new (hw : WR g H w) {mu : List Nat} {dst : Option Nat} {r rows : List (List AV)} {v : AV} {H' : AH} {ao : Option Addr} {len cap : Nat} {y : Value} (hr : Rect k r) (hrows : Rect k rows)
    (h : anew k by_ mu H dst r rows = some (v, H')) (hl : len = r.length) (hg : cap < len + rows.length) (hlen : (Builtin.lenOf y).run P w = .ok rows.length w)
    (ho : ∃ ys : Array Value, VRs g r.flatten ys ∧ (Builtin.firstCells k len (.slice ao len cap)).run P w.drew = .ok ys w.drew)
    (hn : ∃ ys : Array Value, VRs g rows.flatten ys ∧ (Builtin.firstCells k rows.length y).run P w.drew = .ok ys w.drew) : AppOk P g H w (Builtin.append_ #[t, t'] ty #[.slice ao len cap, y]) v H' := by
  obtain ⟨olds, o1, o2⟩ := ho
  obtain ⟨news, n1, n2⟩ := hn
  have hroom : roomA by_ (len + rows.length) = true := by
    unfold anew at h
    split at h
    · rw [hl]; assumption
    · cases h
  obtain ⟨z', nc, hz', hrun, hnc⟩ := append_grow_run (P := P) (ty := ty) hel hs hz hby ht' hlen hg hroom o2 n2
  have hzs : z'.cells.size = k := by rw [← hzl, hz']; simp
  subst hl
  obtain ⟨g', h1, h2⟩ := anew_sound hw hr hrows h o1 n1 hnc (el := el) (rest := Builtin.zeroCells z'.cells (nc - (r.length + rows.length))) (by rw [size_zeroCells, hzs])
  exact ⟨_, _, g', hrun, h1, h2⟩

end

end
end Go.Proofs.YtchpcjmgifnmdaaDoor.Ab

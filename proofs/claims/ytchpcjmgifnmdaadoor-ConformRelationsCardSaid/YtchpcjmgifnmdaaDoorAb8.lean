/- Operations on owned blocks. -/
import Derived.Test.YtchpcjmgifnmdaaDoorAb7
namespace Go.Proofs.YtchpcjmgifnmdaaDoor.Ab
open Go

def AV.one : AV → Bool
  | .any => false
  | .v x => x.oneCell'
  | .agg _ => false
  | .tup _ => false
  | _ => true

theorem VR.one {g : G} {a : AV} {x : Value} (h : VR g a x) (h1 : a.one = true) : x.oneCell' = true := by
  cases h <;> first | rfl | (simp [AV.one] at h1; done) | exact h1

def spliceL (l : List AV) (o : Nat) (cs : List AV) : List AV := l.take o ++ (cs ++ l.drop (o + cs.length))

section
variable {P : Program} {w : World} {g : G} {H : AH}

def OwnOk (P : Program) (g : G) (H : AH) (w : World) (s : Sem Next) (v : AV) (H' : AH) : Prop :=
  ∃ nx x w' g', s.run P w = .ok nx w' ∧ (nx = .value x ∨ (nx = .skip ∧ x = undef)) ∧ VR g' v x ∧ ST g H w g' H' w'

theorem own_cells (hw : WR g H w) {n o : Nat} {y : Value} {l : List AV} (h : VR g (.ptr n o) y) (hn : H.own n = some (.cells l)) :
    ∃ b c el, y = .pointer (some ⟨b, o, none⟩) ∧ g.mu n = some b ∧ w.heap[b]? = some (.cells c el (0, 0)) ∧ l.length ≤ c.size ∧ g.bs n = some c.size ∧ ∀ j, j < l.length → VR g (l.getD j .any) (c.getD j undef) := by
  cases h with
  | @ptr _ _ b hm =>
  obtain ⟨b', obj, e1, e2, e3, e4⟩ := hw.own n _ hn
  rw [hm] at e1; cases e1
  cases obj with
  | cells c el fr =>
    obtain ⟨f1, f2, f4, f3⟩ := e3
    subst f1
    exact ⟨b, c, el, rfl, hm, e2, f2, f4, f3⟩
  | _ => exact e3.elim

theorem cell_of {b o j : Nat} {c : Array Value} {el : TypeId} {fr : Nat × Nat} (h : w.heap[b]? = some (.cells c el fr)) : w.cell? (Addr.add ⟨b, o, none⟩ j) = c[o + j]? := by
  rw [addr_add_off _ _ rfl]
  simp [World.cell?, h]

theorem load_own (hw : WR g H w) {n o : Nat} {y : Value} {l : List AV} {t : TypeId} {v : AV} (h : VR g (.ptr n o) y) (hn : H.own n = some (.cells l))
    (ha : apart P t (l.drop o) 0 = some v) : Pure1 P w g (Instr.loadAt t y) v := by
  obtain ⟨b, c, el, rfl, hm, hb, hl, hbs, hx⟩ := own_cells hw h hn
  have hvs : VRs g (l.drop o) (c.extract o (l.length)) := by
    refine VRs.of_get (by simp; omega) fun j a x h1 h2 => ?_
    rw [List.getElem?_drop] at h1
    have hj := (List.getElem?_eq_some_iff.mp h1).1
    rw [Array.getElem?_extract, if_pos (by omega)] at h2
    have := hx (o + j) hj
    rw [List.getD_eq_getElem?_getD, h1, Array.getD_eq_getD_getElem?, h2] at this
    exact this
  obtain ⟨x, hr, hv⟩ := loadVar_sound (P := P) (w := w) (a := ⟨b, o, none⟩) hvs (fun j y hy => by
    rw [cell_of hb]
    rw [Array.getElem?_extract] at hy
    split at hy
    · exact hy
    · cases hy) ha
  exact ⟨x, by simp [Instr.loadAt, Instr.sureAddr, hr], hv⟩

theorem setCell_heap {b o : Nat} {x : Value} {c : Array Value} {el : TypeId} (h : w.heap[b]? = some (.cells c el (0, 0))) :
    (w.setCell ⟨b, o, none⟩ x).heap[b]? = some (.cells (c.setIfInBounds o x) el (0, 0)) ∧ ∀ d, d ≠ b → (w.setCell ⟨b, o, none⟩ x).heap[d]? = w.heap[d]? := by
  refine ⟨by simp [World.setCell, Array.getElem?_modify, h], fun d hd => ?_⟩
  simp only [World.setCell, Array.getElem?_modify]
  rw [if_neg (fun hc => hd hc.symm)]

theorem run_storeCells {b o : Nat} {el : TypeId} : ∀ (vs : List Value) (i : Nat) (w : World) (c : Array Value), w.heap[b]? = some (.cells c el (0, 0)) →
    o + i + vs.length ≤ c.size → (∀ v ∈ vs, v.oneCell' = true) →
    ∃ w' c', (storeCells ⟨b, o, none⟩ vs i).run P w = .ok () w' ∧ Str w w' ∧ w'.heap.size = w.heap.size ∧ (∀ d, d ≠ b → w'.heap[d]? = w.heap[d]?) ∧
      w'.heap[b]? = some (.cells c' el (0, 0)) ∧ c'.size = c.size ∧ ∀ m, c'[m]? = if o + i ≤ m ∧ m < o + i + vs.length then vs[m - (o + i)]? else c[m]?
  | [], i, w, c, h, _, _ => ⟨w, c, rfl, .refl w, rfl, fun _ _ => rfl, h, rfl, fun m => by rw [if_neg (by simp)]⟩
  | v :: vs, i, w, c, h, hs, h1 => by
    have hv := h1 v (by simp)
    simp only [List.length_cons] at hs
    have hcell : w.cell? (Addr.add ⟨b, o, none⟩ i) = some c[o + i] := by rw [cell_of h]; exact Array.getElem?_eq_getElem (by omega)
    have hfr : w.frozen? (Addr.add ⟨b, o, none⟩ i) = false := by
      rw [addr_add_off _ _ rfl]; simp [World.frozen?, h]
    have hset := setCell_heap (o := o + i) (x := v) h
    have hsz : (w.setCell ⟨b, o + i, none⟩ v).heap.size = w.heap.size := World.size_setCell _ _ _
    obtain ⟨w', c', hr, e0, e1, e2, e3, e4, e5⟩ := run_storeCells (b := b) (o := o) vs (i + 1) _ (c.setIfInBounds (o + i) v) hset.1 (by simp; omega) (fun v hv => h1 v (by simp [hv]))
    refine ⟨w', c', ?_, Str.trans ⟨rfl, rfl, rfl⟩ e0, by rw [e1, hsz], fun d hd => by rw [e2 d hd, hset.2 d hd], e3, by rw [e4]; simp, fun m => ?_⟩
    · simp only [storeCells, Sem.run_bind]
      rw [run_store P w _ v .plain hv, hcell]
      simp only [hfr, Bool.false_eq_true, if_false, Result.andThen_ok]
      rw [addr_add_off _ _ rfl]
      exact hr
    · rw [e5 m]
      simp only [List.length_cons]
      by_cases hm : o + (i + 1) ≤ m ∧ m < o + (i + 1) + vs.length
      · rw [if_pos hm, if_pos (by omega), show m - (o + i) = (m - (o + (i + 1))) + 1 by omega, List.getElem?_cons_succ]
      · rw [if_neg hm]
        by_cases hm2 : m = o + i
        · subst hm2
          rw [if_pos (by omega)]
          simp [Array.getElem?_setIfInBounds]; omega
        · rw [if_neg (by omega), Array.getElem?_setIfInBounds, if_neg (fun hc => hm2 hc.symm)]

theorem spliceL_length (l : List AV) (o : Nat) (cs : List AV) (h : o + cs.length ≤ l.length) : (spliceL l o cs).length = l.length := by
  simp [spliceL]; omega

theorem spliceL_get (l : List AV) (o : Nat) (cs : List AV) (h : o + cs.length ≤ l.length) (m : Nat) :
    (spliceL l o cs)[m]? = if o ≤ m ∧ m < o + cs.length then cs[m - o]? else l[m]? := by
  unfold spliceL
  by_cases h1 : m < o
  · rw [List.getElem?_append_left (by simp; omega), List.getElem?_take_of_lt h1, if_neg (by omega)]
  · rw [List.getElem?_append_right (by simp; omega)]
    simp only [List.length_take]
    rw [show min o l.length = o by omega]
    by_cases h2 : m - o < cs.length
    · rw [List.getElem?_append_left h2, if_pos (by omega)]
    · rw [List.getElem?_append_right (by omega), List.getElem?_drop, if_neg (by omega)]
      rw [show o + cs.length + (m - o - cs.length) = m by omega]

theorem store_own (hw : WR g H w) {n o : Nat} {y x : Value} {l cs : List AV} {a : AV} {t : TypeId} (h : VR g (.ptr n o) y) (hn : H.own n = some (.cells l))
    (ha : VR g a x) (hc : cellsA a = some cs) (hs : szOf P t = some cs.length) (hone : cs.all AV.one = true) (hle : o + cs.length ≤ l.length) :
    ∃ w', (Instr.storeAt t y x).run P w = .ok () w' ∧ ST g H w g (H.set n (.cells (spliceL l o cs))) w' := by
  obtain ⟨b, c, el, rfl, hm, hb, hl, hbs, hx⟩ := own_cells hw h hn
  have hvs := cellsA_sound ha hc
  have h1 : ∀ v ∈ x.cells.toList, v.oneCell' = true := by
    intro v hv
    obtain ⟨j, hj⟩ := List.mem_iff_getElem?.mp hv
    rw [Array.getElem?_toList] at hj
    have hjs := (Array.getElem?_eq_some_iff.mp hj).1
    have hjl : j < cs.length := by rw [← hvs.1]; exact hjs
    have := hvs.2 j hjl
    rw [Array.getD_eq_getD_getElem?, hj] at this
    refine this.one ?_
    rw [List.all_eq_true] at hone
    rw [List.getD_eq_getElem?_getD, List.getElem?_eq_getElem hjl]
    exact hone _ (List.getElem_mem hjl)
  obtain ⟨w', c', hr, e0, e1, e2, e3, e4, e5⟩ := run_storeCells (P := P) (o := o) x.cells.toList 0 w c hb (by simp [hvs.1]; omega) h1
  refine ⟨w', ?_, ST.set hw hn hm e1 e3 e2 ⟨rfl, by rw [spliceL_length _ _ _ hle, e4]; exact hl, by rw [e4]; exact hbs, fun j hj => ?_⟩ e0⟩
  · simp only [Instr.storeAt, Instr.sureAddr, Sem.run_bind, Sem.run_pure, Result.andThen_ok, storeVar, run_sizeOf' hs]
    rw [if_neg (by simp [hvs.1])]
    exact hr
  · rw [spliceL_length _ _ _ hle] at hj
    rw [List.getD_eq_getElem?_getD, spliceL_get _ _ _ hle, Array.getD_eq_getD_getElem?, e5 j]
    simp only [Nat.add_zero, Array.length_toList, hvs.1]
    by_cases hc2 : o ≤ j ∧ j < o + cs.length
    · rw [if_pos hc2, if_pos hc2]
      have hjl : j - o < cs.length := by omega
      have hjs : j - o < x.cells.size := by rw [hvs.1]; exact hjl
      have := hvs.2 (j - o) hjl
      rw [List.getD_eq_getElem?_getD, List.getElem?_eq_getElem hjl, Array.getD_eq_getD_getElem?, Array.getElem?_eq_getElem hjs] at this
      rw [List.getElem?_eq_getElem hjl, Array.getElem?_toList, Array.getElem?_eq_getElem hjs]
      exact this
    · rw [if_neg hc2, if_neg hc2]
      have := hx j hj
      rw [← List.getD_eq_getElem?_getD, ← Array.getD_eq_getD_getElem?]; exact this

end

/-- a new block of the call's own: its value under a name, and what it holds -/
def aall (P : Program) (mu : List Nat) (e : Operand → AV) (nm : Nat) (dst : Option Nat) (op : Op) : Option (AV × ABlk) :=
  match op with
  | .alloc t => (zeroA P t).map fun z => (.ptr nm 0, .cells z)
  | .box _ x => if isMut mu dst then (cellsA (e x)).map fun cs => (.ptr nm 0, .cells cs) else none
  | .makeSlice t l c => match e l, e c, elOf P t with
    | .v (.int _ m), .v (.int _ n), some el => match szOf P el, zeroA P el, byOf P el with
      | some s, some z, some by_ =>
        if m = n ∧ 0 ≤ m ∧ m ≤ 140737488355328 ∧ (by_ : Int) * m ≤ 2 ^ 47 ∧ s = z.length ∧ 0 < s then
          some (.sl s nm 0 m.toNat, .cells ((List.range (m.toNat * s)).map fun i => z.getD (i % s) .any))
        else none
      | _, _, _ => none
    | _, _, _ => none
  | .buildSlice t len parts => if isMut mu dst then (match elOf P t with
    | some el => match szOf P el, zeroA P el with
      | some s, some z => if s = z.length ∧ 0 < s ∧ len * s ≤ 2 ^ 24 then
          (afill (fun i => some (i * s, s)) ((List.range (len * s)).map fun i => z.getD (i % s) .any) (parts.toList.map fun p => (p.1, e p.2))).map fun cs => (.sl s nm 0 len, .cells cs)
        else none
      | _, _ => none
    | none => none) else none
  | .makeMap _ none => some (.map nm, .map [])
  | _ => none

section
variable {P : Program} {w : World} {g : G} {H : AH}

theorem wrap_i64 {m : Int} (h0 : 0 ≤ m) (h1 : m ≤ 140737488355328) : IntKind.i64.wrap m = m := by
  simp [IntKind.wrap, IntKind.bits, IntKind.signed]
  omega

/-- a new block: the machine lays it behind all others -/
theorem aall_sound {mu : List Nat} {e : Operand → AV} {ρ : Operand → Value} (he : ∀ x, VR g (e x) (ρ x)) {o : Oper} {nm : Nat} {v : AV} {B : ABlk}
    (h : aall P mu e nm o.dst o.op = some (v, B)) :
    ∃ x obj s, (execOp ρ o).run P w = .ok (.value x) (w.alloc obj) ∧ (∀ g', g.le g' → g'.bs nm = some s → BR g' nm B obj) ∧ ∀ g', g'.mu nm = some w.heap.size → g'.bs nm = some s → VR g' v x := by
  unfold aall at h
  unfold execOp
  cases hop : o.op <;> rw [hop] at h <;> simp only at h ⊢ <;> first | (cases h; done) | skip
  case makeMap t r =>
    cases r with
    | some r => cases h
    | none =>
      simp only [Option.some.injEq, Prod.mk.injEq] at h
      obtain ⟨rfl, rfl⟩ := h
      exact ⟨.map (some w.heap.size), .map #[] 0, 0, by simp [Instr.makeMap], fun g' hg hs => ⟨rfl, fun j hj => by simp at hj⟩, fun g' hg _ => .map hg⟩
  case alloc t =>
    cases hz : zeroA P t with
    | none => rw [hz] at h; cases h
    | some z =>
      rw [hz] at h; simp only [Option.map_some, Option.some.injEq, Prod.mk.injEq] at h
      obtain ⟨rfl, rfl⟩ := h
      obtain ⟨y, hy, rfl⟩ := run_zero' (P := P) (w := w) hz
      have hv := VRs.map_v g y.cells
      exact ⟨.pointer (some ⟨w.heap.size, 0, none⟩), .cells y.cells t, y.cells.size, by simp [Instr.alloc, hy, newVar, newRow], fun g' hg hs => ⟨rfl, by rw [hv.1]; exact Nat.le_refl _, hs, fun j hj => (hv.2 j hj).mono hg⟩, fun g' hg _ => .ptr hg⟩
  case box el x =>
    split at h
    · cases hc : cellsA (e x) with
      | none => rw [hc] at h; cases h
      | some cs =>
        rw [hc] at h; simp only [Option.map_some, Option.some.injEq, Prod.mk.injEq] at h
        obtain ⟨rfl, rfl⟩ := h
        have hv := cellsA_sound (he x) hc
        exact ⟨.pointer (some ⟨w.heap.size, 0, none⟩), .cells (ρ x).cells el, (ρ x).cells.size, by simp [Instr.box, newVar, newRow], fun g' hg hs => ⟨rfl, by rw [hv.1]; exact Nat.le_refl _, hs, fun j hj => (hv.2 j hj).mono hg⟩, fun g' hg _ => .ptr hg⟩
    · cases h
  case makeSlice t l c =>
    split at h
    · rename_i k1 m k2 n el hl hc hel
      split at h
      · rename_i s z by_ hs hz hby
        split at h
        · rename_i hcond
          obtain ⟨rfl, h0, h1, h2, h3, h4⟩ := hcond
          simp only [Option.some.injEq, Prod.mk.injEq] at h
          obtain ⟨rfl, rfl⟩ := h
          obtain ⟨y, hy, rfl⟩ := run_zero' (P := P) (w := w) hz
          have hys : y.cells.size = s := by simpa using h3.symm
          have e1 := he l; rw [hl] at e1; have e1 := e1.of_v
          have e2 := he c; rw [hc] at e2; have e2 := e2.of_v
          have hzz := zeros_VRs g y.cells (m.toNat * s) (by omega)
          rw [hys] at hzz
          have hinfo : ∃ i, P.info? el = some i ∧ i.bytes = by_ := by
            cases hi : P.info? el with
            | none => rw [byOf, hi] at hby; cases hby
            | some i => rw [byOf, hi] at hby; exact ⟨i, rfl, by simpa using hby⟩
          obtain ⟨i, hi, hib⟩ := hinfo
          have hti : (typeInfo el).run P w = .ok i w := by simp [typeInfo, hi]
          refine ⟨.slice (some ⟨w.heap.size, 0, none⟩) m.toNat m.toNat, .cells ((Array.range (m.toNat * s)).map fun j => y.cells[j % s]!) el, m.toNat * s, ?_, fun g' hg hs => ⟨rfl, by rw [hzz.1]; exact Nat.le_refl _, by rw [hs]; simp, fun j hj => (hzz.2 j hj).mono hg⟩, fun g' hg hs => .sl hg (Nat.le_refl _) (by rw [hs]; simp)⟩
          have hw1 := wrap_i64 h0 h1
          have hnb : ¬ ((i.bytes : Int) * m > 2 ^ 48) := by rw [hib]; omega
          have hlt : ¬ (m < 0) := by omega
          simp only [Instr.makeSlice, Sem.run_bind, run_underlying' (elOf_und hel), Result.andThen_ok, e1, e2, asInt, asIntOf, Sem.run_pure, hti, hw1]
          have hc1 : (decide (m < 0) || decide ((i.bytes : Int) * m > 2 ^ 48) || decide (m < 0) || decide (m > m)) = false := by
            simp only [hlt, hnb, decide_false, Bool.or_false, Bool.false_or]; simp
          simp only [hc1, Bool.false_eq_true, if_false, Sem.run_bind, run_askRoom, Result.andThen_ok, run_sizeOf' hs]
          by_cases hz0 : m.toNat * s = 0
          · have e4 : ∀ f : Nat → Value, (Array.range 0).map f = #[] := fun f => by simp
            simp [hz0, newRow, e4]
          · simp only [hz0, if_false, Sem.run_bind, hy, Result.andThen_ok, Sem.run_pure, newRow, run_newObj, hys]
            rfl
        · cases h
      · cases h
    · cases h
  case buildSlice t len parts =>
    split at h
    · split at h
      · rename_i el hel
        split at h
        · rename_i s z hs hz
          split at h
          · rename_i hc
            obtain ⟨hsz, hpos, hbig⟩ := hc
            obtain ⟨y, hy, rfl⟩ := run_zero' (P := P) (w := w) hz
            have hys : y.cells.size = s := by simpa using hsz.symm
            cases hf : afill (fun i => some (i * s, s)) ((List.range (len * s)).map fun i => (y.cells.toList.map AV.v).getD (i % s) .any) (parts.toList.map fun p => (p.1, e p.2)) with
            | none => rw [hf] at h; cases h
            | some cs =>
              rw [hf] at h; simp only [Option.map_some, Option.some.injEq, Prod.mk.injEq] at h
              obtain ⟨rfl, rfl⟩ := h
              have hzz := zeros_VRs g y.cells (len * s) (by omega)
              rw [hys] at hzz
              obtain ⟨ys, hyy, hvs⟩ := afill_sound (fun i => some (i * s, s)) _ (parts.toList.map fun p => (p.1, ρ p.2)) _ _ _ hzz (by simp) (fun j p q h1 h2 => by
                rw [List.getElem?_map] at h1 h2
                cases ho : parts.toList[j]? with
                | none => rw [ho] at h1; cases h1
                | some pp => rw [ho] at h1 h2; cases h1; cases h2; exact ⟨rfl, he _⟩) hf
              have hlen : cs.length = len * s := by rw [afill_length _ _ _ _ hf]; simp
              have hysz : ys.size = len * s := by rw [hvs.1, hlen]
              refine ⟨.slice (some ⟨w.heap.size, 0, none⟩) len len, .cells ys el, len * s, ?_, fun g' hg hs' => ⟨rfl, by rw [hvs.1]; exact Nat.le_refl _, by rw [hs', hysz], fun j hj => (hvs.2 j hj).mono hg⟩, fun g' hg hs' => .sl hg (Nat.le_refl _) (by rw [hs']; simp)⟩
              have e2 : (parts.map fun x => match x with | (i, x) => (i, ρ x)).toList = parts.toList.map fun p => (p.1, ρ p.2) := by simp
              simp only [Instr.buildSlice, Sem.run_bind, run_underlying' (elOf_und hel), Result.andThen_ok, run_sizeOf' hs]
              rw [if_neg (by omega)]
              by_cases h0 : len * s = 0
              · have e4 : ∀ f : Nat → Value, (Array.range 0).map f = #[] := fun f => by simp
                simp only [h0, if_true, Sem.run_pure, Result.andThen_ok, Sem.run_bind, e2, e4]
                rw [h0, e4] at hyy
                simp [hyy, newRow]
              · simp only [h0, if_false, Sem.run_bind, hy, Result.andThen_ok, Sem.run_pure, e2]
                have e3 : (Array.range (len * s)).map (fun x => y.cells[x % y.cells.size]!) = (Array.range (len * s)).map (fun i => y.cells[i % s]!) := by rw [hys]
                rw [e3, hyy]
                simp [newRow]
          · cases h
        · cases h
      · cases h
    · cases h

theorem aall_own {mu : List Nat} {e : Operand → AV} {ρ : Operand → Value} (he : ∀ x, VR g (e x) (ρ x)) (hw : WR g H w) {o : Oper} {v : AV} {H' : AH}
    (h : ((aall P mu e H.next o.dst o.op).map fun p => (p.1, H.add p.2)) = some (v, H')) : OwnOk P g H w (execOp ρ o) v H' := by
  cases hp : aall P mu e H.next o.dst o.op with
  | none => rw [hp] at h; cases h
  | some p =>
    obtain ⟨v', B⟩ := p
    rw [hp] at h; simp only [Option.map_some, Option.some.injEq, Prod.mk.injEq] at h
    obtain ⟨rfl, rfl⟩ := h
    obtain ⟨x, obj, s, h1, h2, h3⟩ := aall_sound (P := P) (w := w) (ρ := ρ) he hp
    have hn := hw.mu_none (Nat.le_refl H.next)
    exact ⟨.value x, x, w.alloc obj, _, h1, .inl rfl, h3 _ (by simp [G.name]) (by simp [G.name]), ST.add hw B obj s (h2 _ (G.le_name hn (hw.nbs _ hn)) (by simp [G.name]))⟩

end
end Go.Proofs.YtchpcjmgifnmdaaDoor.Ab

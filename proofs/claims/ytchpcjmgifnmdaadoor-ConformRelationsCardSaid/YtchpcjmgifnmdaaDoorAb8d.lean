/- Operations on owned blocks, all of them. -/
import Derived.Test.YtchpcjmgifnmdaaDoorAb8c
import Derived.Test.YtchpcjmgifnmdaaDoorAb8m
namespace Go.Proofs.YtchpcjmgifnmdaaDoor.Ab
open Go

def acopy (P : Program) (H : AH) (t : TypeId) (d s : AV) : Option (AV × AH) :=
  match (elOf P t).bind (szOf P), d with
  | some k, .sl k' n o len => match H.own n, srcA H k s with
    | some (.cells l), some rows => if k' = k ∧ o + len * k ≤ l.length ∧ (rows.take (min rows.length len)).flatten.all AV.one = true then
        some (.v (.int .i64 (min rows.length len : Nat)), H.set n (.cells (spliceL l o (rows.take (min rows.length len)).flatten))) else none
    | _, _ => none
  | _, _ => none

def zeroL (z : List AV) (n : Nat) : List AV := (List.range n).map fun i => z.getD (i % z.length) .any

def aclear (P : Program) (H : AH) (t : TypeId) (d : AV) : Option (AV × AH) :=
  match elOf P t, d with
  | some el, .sl k n o len => match zeroA P el, H.own n with
    | some z, some (.cells l) => if z.length = k ∧ 0 < k ∧ 0 < len ∧ o + len * k ≤ l.length ∧ z.all AV.one = true then
        some (.any, H.set n (.cells (spliceL l o (zeroL z (len * k))))) else none
    | _, _ => none
  | _, _ => none

def aslown (P : Program) (H : AH) (t : TypeId) (x : AV) (lo hi mx : Option AV) : Option (AV × AH) :=
  match x, hi with
  | .sl k n o _, some (.v (.int _ i)) => match H.own n with
    | some (.cells l) => if mx.isNone ∧ (elOf P t).bind (szOf P) = some k ∧ 0 < k ∧ 0 ≤ i ∧ o + i.toNat * k ≤ l.length then
        (abound lo 0 i.toNat).map fun p => (if p = 0 then .sl k n o i.toNat else if p < i.toNat then .sl k n (o + p * k) (i.toNat - p) else .lst k [] .unk, H) else none
    | _ => none
  | _, _ => none

def aocall (P : Program) (mu : List Nat) (e : Operand → AV) (H : AH) (dst : Option Nat) (c : Call) : Option (AV × AH) :=
  match c.callee with
  | .builtin .append => match c.args.toList, c.argTypes.toList with
    | [s, x], [t, t'] => aapp P mu H dst t t' (e s) (e x)
    | _, _ => none
  | .builtin .copy => match c.args.toList, c.argTypes.toList with
    | [d, s], t :: _ => acopy P H t (e d) (e s)
    | _, _ => none
  | .builtin .clear => match c.args.toList, c.argTypes.toList with
    | [d], t :: _ => aclear P H t (e d)
    | _, _ => none
  | _ => none

open Classical in
noncomputable def aown (P : Program) (mu : List Nat) (e : Operand → AV) (H : AH) (dst : Option Nat) (op : Op) : Option (AV × AH) :=
  match op with
  | .load t a => match e a with
    | .ptr n k => match H.own n with
      | some (.cells l) => (apart P t (l.drop k) 0).map fun v => (v, H)
      | _ => none
    | _ => none
  | .store t a x => match e a, cellsA (e x) with
    | .ptr n k, some cs => match H.own n with
      | some (.cells l) => if szOf P t = some cs.length ∧ cs.all AV.one = true ∧ k + cs.length ≤ l.length then some (.any, H.set n (.cells (spliceL l k cs))) else none
      | _ => none
    | _, _ => none
  | .alloc t => (aall P mu e H.next dst (.alloc t)).map fun p => (p.1, H.add p.2)
  | .box t x => (aall P mu e H.next dst (.box t x)).map fun p => (p.1, H.add p.2)
  | .makeSlice t l c => (aall P mu e H.next dst (.makeSlice t l c)).map fun p => (p.1, H.add p.2)
  | .buildSlice t n ps => (aall P mu e H.next dst (.buildSlice t n ps)).map fun p => (p.1, H.add p.2)
  | .slice t x lo hi mx => aslown P H t (e x) (lo.map e) (hi.map e) (mx.map e)
  | .call c => aocall P mu e H dst c
  | .makeMap t r => (aall P mu e H.next dst (.makeMap t r)).map fun p => (p.1, H.add p.2)
  | .lookup t m k ok => match e m, mapT P t, rawK (e k) with
    | .map n, some (kt, et), some kx => match H.own n, zvA P et with
      | some (.map es), some z => if MapOk P kt kx es then some (if ok then .tup [(findM kx es).getD (.v z), .v (.bool (findM kx es).isSome)] else (findM kx es).getD (.v z), H) else none
      | _, _ => none
    | _, _, _ => none
  | .mapUpdate t m k x => match e m, mapT P t, rawK (e k) with
    | .map n, some (kt, _), some kx => match H.own n with
      | some (.map es) => if MapOk P kt kx es then some (.any, H.set n (.map (putM kx (e x) es))) else none
      | _ => none
    | _, _, _ => none
  | .convert src dst x => match e x with
    | .sl k n o len => match H.own n with
      | some (.cells l) => if k = 1 ∧ isBytesT P src = true ∧ isStrT P dst = true ∧ o + len ≤ l.length then (bytesA (((l.drop o).take len).map fun a => [a])).map fun bs => (.v (.string ⟨bs.toArray⟩), H) else none
      | _ => none
    | _ => none
  | _ => none

section
variable {P : Program} {w : World} {g : G} {H : AH}

theorem splice_ok (hw : WR g H w) {n b o : Nat} {l cs : List AV} {xs : Array Value} (hn : H.own n = some (.cells l)) (hb : g.mu n = some b) (hv : VRs g cs xs) (hone : cs.all AV.one = true) (hle : o + cs.length ≤ l.length) :
    ∃ w', (storeCells ⟨b, o, none⟩ xs.toList).run P w = .ok () w' ∧ ST g H w g (H.set n (.cells (spliceL l o cs))) w' := by
  obtain ⟨b', c, el', e1, e2, hb', hl, hbs, hx⟩ := own_cells (n := n) (o := 0) (y := .pointer (some ⟨b, 0, none⟩)) hw (.ptr hb) hn
  rw [hb] at e2; cases e2
  obtain ⟨w', c', s1, s0, s2, s3, s4, s5, s6⟩ := stored (P := P) (o := o) (vs := xs.toList) hb' (by rw [Array.length_toList (xs := xs), hv.1]; omega) (all_one hv hone)
  rw [Array.length_toList (xs := xs), hv.1] at s6
  refine ⟨w', s1, ST.set hw hn hb s2 s4 s3 ⟨rfl, by rw [spliceL_length _ _ _ hle, s5]; exact hl, by rw [s5]; exact hbs, fun j hj => ?_⟩ s0⟩
  rw [spliceL_length _ _ _ hle] at hj
  rw [List.getD_eq_getElem?_getD, spliceL_get _ _ _ hle, Array.getD_eq_getD_getElem?, s6]
  by_cases hj1 : o ≤ j ∧ j < o + cs.length
  · rw [if_pos hj1, if_pos hj1, Array.getElem?_toList (xs := xs)]
    have := hv.2 (j - o) (by omega)
    rwa [List.getD_eq_getElem?_getD, Array.getD_eq_getD_getElem?] at this
  · rw [if_neg hj1, if_neg hj1]
    have := hx j hj
    rwa [List.getD_eq_getElem?_getD, Array.getD_eq_getD_getElem?] at this

theorem elsz {t : TypeId} {k : Nat} (h : (elOf P t).bind (szOf P) = some k) : ∃ e, elOf P t = some e ∧ szOf P e = some k := by
  cases he : elOf P t with
  | none => rw [he] at h; cases h
  | some e => rw [he] at h; exact ⟨e, rfl, h⟩

theorem acopy_sound (hw : WR g H w) {t ty : TypeId} {ts : List TypeId} {d s : AV} {x y : Value} {v : AV} {H' : AH} (hd : VR g d x) (hs : VR g s y) (h : acopy P H t d s = some (v, H')) :
    AppOk P g H w (Builtin.copy_ (t :: ts).toArray ty #[x, y]) v H' := by
  unfold acopy at h
  split at h
  · rename_i k k' n o len hk
    obtain ⟨el, hel, hsz⟩ := elsz hk
    split at h
    · rename_i l rows hn hsrc
      split at h
      · rename_i hc
        obtain ⟨rfl, h1, h2⟩ := hc
        simp only [Option.some.injEq, Prod.mk.injEq] at h
        obtain ⟨rfl, rfl⟩ := h
        cases hd with
        | @sl _ _ _ _ cap b hb hcap hS =>
        obtain ⟨q1, q2, q3⟩ := srcA_sound (P := P) hw hs hsrc
        obtain ⟨ys, y1, y2, y3⟩ := q3 (min rows.length len) (Nat.min_le_left _ _)
        have hfl := (q1.take (min rows.length len)).flat_len
        have hle : (rows.take (min rows.length len)).length * k' ≤ len * k' := Nat.mul_le_mul_right _ (by simp only [List.length_take]; omega)
        obtain ⟨w', w1, w2⟩ := splice_ok (P := P) hw hn hb y1 h2 (o := o) (by rw [hfl]; omega)
        refine ⟨goInt (min rows.length len : Nat), w', g, ?_, .v, w2⟩
        simp only [Builtin.copy_, List.getElem?_toArray, List.getElem?_cons_zero]
        simp [run_underlying' (elOf_und hel), q2, run_sizeOf' hsz, Nat.min_def] at y3 w1 ⊢
        rw [y3]
        simp only [Result.andThen_ok]
        rw [w1]; rfl
      · cases h
    · cases h
  · cases h

theorem aclear_sound (hw : WR g H w) {t ty : TypeId} {ts : List TypeId} {d : AV} {x : Value} {v : AV} {H' : AH} (hd : VR g d x) (h : aclear P H t d = some (v, H')) :
    AppOk P g H w (Builtin.clear_ (t :: ts).toArray ty #[x]) v H' := by
  unfold aclear at h
  split at h
  · rename_i el k n o len hel
    split at h
    · rename_i z l hz hn
      split at h
      · rename_i hc
        obtain ⟨rfl, h1, h2, h3, h4⟩ := hc
        simp only [Option.some.injEq, Prod.mk.injEq] at h
        obtain ⟨rfl, rfl⟩ := h
        cases hd with
        | @sl _ _ _ _ cap b hb hcap hS =>
        obtain ⟨y, hy, rfl⟩ := run_zero' (P := P) (w := w) hz
        have hzl : (y.cells.toList.map AV.v).length = y.cells.size := by simp
        rw [hzl] at h1 h3 ⊢
        have hzz := zeros_VRs g y.cells (len * y.cells.size) h1
        have hone : (zeroL (y.cells.toList.map AV.v) (len * y.cells.size)).all AV.one = true := by
          rw [List.all_eq_true]
          intro a ha
          simp only [zeroL, List.mem_map, List.mem_range, hzl] at ha
          obtain ⟨i, _, rfl⟩ := ha
          have hm : i % y.cells.size < (y.cells.toList.map AV.v).length := by rw [hzl]; exact Nat.mod_lt _ h1
          rw [List.getD_eq_getElem?_getD, List.getElem?_eq_getElem hm]
          rw [List.all_eq_true] at h4
          exact h4 _ (List.getElem_mem hm)
        have hzz' : VRs g (zeroL (y.cells.toList.map AV.v) (len * y.cells.size)) (Builtin.zeroCells y.cells len) := by
          simp only [zeroL, hzl]; exact hzz
        obtain ⟨w', w1, w2⟩ := splice_ok (P := P) hw hn hb hzz' hone (o := o) (by simp [zeroL]; omega)
        refine ⟨.tuple #[], w', g, ?_, .any, w2⟩
        have hlen : len ≠ 0 := by omega
        obtain ⟨m, rfl⟩ : ∃ m, len = m + 1 := ⟨len - 1, by omega⟩
        simp [Builtin.clear_, run_underlying' (elOf_und hel), hy]
        rw [w1]; rfl
      · cases h
    · cases h
  · cases h

theorem aslown_sound (hw : WR g H w) {t : TypeId} {x : AV} {y : Value} {lo hi mx : Option AV} {lo' hi' mx' : Option Value} {v : AV} {H' : AH} (hx : VR g x y) (hlo : VRo g lo lo') (hhi : VRo g hi hi')
    (hmx : VRo g mx mx') (h : aslown P H t x lo hi mx = some (v, H')) : H' = H ∧ Pure1 P w g (Instr.sliceAt t y lo' hi' mx') v := by
  unfold aslown at h
  split at h
  · rename_i k n o len kk i
    split at h
    · rename_i l hn
      split at h
      · rename_i hc
        obtain ⟨hm, hk, hk0, hi0, hle⟩ := hc
        obtain ⟨e, hel, hs⟩ := elsz hk
        have hu := elOf_und hel
        have hmn : mx' = none := by
          cases mx with
          | none => cases mx' with
            | none => rfl
            | some _ => cases hmx
          | some _ => simp at hm
        subst hmn
        cases hx with
        | @sl _ _ _ _ cap b hb hcap hS =>
        cases hl2 : abound lo 0 i.toNat with
        | none => rw [hl2] at h; cases h
        | some p =>
          rw [hl2] at h
          simp only [Option.map_some, Option.some.injEq, Prod.mk.injEq] at h
          obtain ⟨rfl, rfl⟩ := h
          refine ⟨rfl, ?_⟩
          obtain ⟨b', c, el', e1, e2, hb', hl, hbs, _⟩ := own_cells (n := n) (o := 0) (y := .pointer (some ⟨b, 0, none⟩)) hw (.ptr hb) hn
          rw [hS] at hbs; simp only [Option.some.injEq] at hbs
          have hcap2 : i.toNat ≤ cap := by
            have : i.toNat * k ≤ cap * k := by omega
            exact Nat.le_of_mul_le_mul_right this hk0
          have hp := abound_le hl2 (Nat.zero_le _)
          have hb1 : abound (some (.v (.int kk i))) len i.toNat = some i.toNat := by simp only [abound]; rw [if_pos ⟨hi0, by omega⟩]
          refine ⟨.slice (if cap = p then some ⟨b, o, none⟩ else (some ⟨b, o, none⟩ : Option Addr).map (·.add (p * k))) (i.toNat - p) (cap - p), ?_, ?_⟩
          · simp only [Instr.sliceAt, Sem.run_bind, run_underlying' hu, Result.andThen_ok]
            simp only [Instr.slice, Sem.run_bind, run_underlying' hu, Result.andThen_ok]
            rw [sliceBounds_run hlo hhi hb1 hl2 hcap2]
            simp only [Result.andThen_ok, run_sizeOf' hs, Sem.run_pure]
          · split
            · rename_i hl0; subst hl0
              have e0 : (if cap = 0 then some (⟨b, o, none⟩ : Addr) else (some ⟨b, o, none⟩ : Option Addr).map (·.add (0 * k))) = some ⟨b, o, none⟩ := by
                split
                · rfl
                · simp [Addr.add]
              rw [e0]
              exact .sl hb (by omega) hS
            · split
              · rename_i hlt
                rw [if_neg (by omega)]
                simp only [Option.map_some]
                rw [addr_add_off _ _ rfl]
                refine .sl hb (by omega) ?_
                rw [hS]
                simp only [Option.some.injEq]
                have : cap * k = p * k + (cap - p) * k := by rw [← Nat.add_mul]; congr 1; omega
                omega
              · exact .lst (a := ⟨b, o, none⟩) (xs := fun _ _ => undef) (by simp; omega) (by omega) (by intro hn'; split at hn' <;> cases hn') (by simp) (by simp) (by intro i j hi; simp at hi) (by intro i j hi; simp at hi) trivial
      · cases h
    · cases h
  · cases h

theorem oconv_sound (hw : WR g H w) {src dst : TypeId} {n o len : Nat} {l : List AV} {x : Value} {bs : List UInt8} (hx : VR g (.sl 1 n o len) x) (hn : H.own n = some (.cells l)) (hB : isBytesT P src = true) (hS : isStrT P dst = true)
    (hl : o + len ≤ l.length) (hb : bytesA (((l.drop o).take len).map fun a => [a]) = some bs) : (convert src dst x).run P w = .ok (.string ⟨bs.toArray⟩) w := by
  obtain ⟨e, hu, he⟩ := isBytesT_und hB
  obtain ⟨hlen, hget⟩ := bytesA_get hb
  rw [List.length_map, List.length_take, List.length_drop, Nat.min_eq_left (by omega)] at hlen
  cases hx with
  | @sl _ _ _ _ cap b hm hc hbs =>
  obtain ⟨b', c, el, e1, e2, e3, e4, e5, e6⟩ := own_cells (n := n) (o := 0) (y := .pointer (some ⟨b, 0, none⟩)) hw (.ptr hm) hn
  rw [hm] at e2; cases e2
  have := run_convert_bytes_back (P := P) w src dst e ⟨b, o, none⟩ cap bs hu he (isStrT_und hS) (fun j hj => by
    have h1 := e6 (o + j) (by omega)
    have h2 := hget j hj
    have h3 : (((l.drop o).take len).map fun a => [a]).getD j [] = [l.getD (o + j) .any] := by
      rw [List.getD_eq_getElem?_getD, List.getElem?_map, List.getElem?_take, if_pos (by omega), List.getElem?_drop, List.getD_eq_getElem?_getD, List.getElem?_eq_getElem (by omega : o + j < l.length)]; rfl
    rw [h3] at h2
    simp only [List.getD_cons_zero] at h2
    rw [h2] at h1
    have h4 := h1.of_v
    rw [addr_add_off _ _ rfl]
    simp only [World.cell?, e3]
    rw [Array.getD_eq_getD_getElem?] at h4
    have hs : o + j < c.size := by omega
    rw [Array.getElem?_eq_getElem hs] at h4 ⊢
    simp only [Option.getD_some] at h4
    rw [h4]; rfl)
  rw [hlen] at this; exact this

theorem aown_sound {mu : List Nat} {e : Operand → AV} {ρ : Operand → Value} (he : ∀ o, VR g (e o) (ρ o)) (hw : WR g H w) {o : Oper} {v : AV} {H' : AH}
    (h : aown P mu e H o.dst o.op = some (v, H')) : OwnOk P g H w (execOp ρ o) v H' := by
  unfold aown at h
  cases hop : o.op <;> rw [hop] at h <;> simp only at h <;> first | (cases h; done) | skip
  case load t a =>
    unfold execOp; rw [hop]; simp only
    split at h
    · rename_i n k hc
      split at h
      · rename_i l hn
        cases ha : apart P t (l.drop k) 0 with
        | none => rw [ha] at h; cases h
        | some v' =>
          rw [ha] at h; simp only [Option.map_some, Option.some.injEq, Prod.mk.injEq] at h
          obtain ⟨rfl, rfl⟩ := h
          have h1 := he a; rw [hc] at h1
          obtain ⟨x, hr, hv⟩ := load_own (P := P) hw h1 hn ha
          exact ⟨.value x, x, w, g, by simp [hr], .inl rfl, hv, ST.refl hw⟩
      · cases h
    · cases h
  case store t a x =>
    unfold execOp; rw [hop]; simp only
    split at h
    · rename_i n k cs hc hcs
      split at h
      · rename_i l hn
        split at h
        · rename_i hcond
          simp only [Option.some.injEq, Prod.mk.injEq] at h
          obtain ⟨rfl, rfl⟩ := h
          have h1 := he a; rw [hc] at h1
          obtain ⟨w', hr, hst⟩ := store_own (P := P) hw h1 hn (he x) hcs hcond.1 hcond.2.1 hcond.2.2
          exact ⟨.skip, undef, w', g, by simp [hr], .inr ⟨rfl, rfl⟩, .any, hst⟩
        · cases h
      · cases h
    · cases h
  case alloc t => rw [← hop] at h; exact aall_own he hw h
  case box t x => rw [← hop] at h; exact aall_own he hw h
  case makeSlice t l c => rw [← hop] at h; exact aall_own he hw h
  case buildSlice t n ps => rw [← hop] at h; exact aall_own he hw h
  case makeMap t r => rw [← hop] at h; exact aall_own he hw h
  case lookup t m k ok =>
    unfold execOp; rw [hop]; simp only
    split at h
    · rename_i n kt et kx hm ht hk
      split at h
      · rename_i es z hn hz
        split at h
        · rename_i hok
          simp only [Option.some.injEq, Prod.mk.injEq] at h
          obtain ⟨rfl, rfl⟩ := h
          have h1 := he m; rw [hm] at h1
          obtain ⟨x, hr, hv⟩ := lookup_own (P := P) (ok := ok) hw h1 hn ht hz (he k) hk hok
          exact ⟨.value x, x, w, g, by simp [hr], .inl rfl, hv, ST.refl hw⟩
        · cases h
      · cases h
    · cases h
  case mapUpdate t m k x =>
    unfold execOp; rw [hop]; simp only
    split at h
    · rename_i n kt et kx hm ht hk
      split at h
      · rename_i es hn
        split at h
        · rename_i hok
          simp only [Option.some.injEq, Prod.mk.injEq] at h
          obtain ⟨rfl, rfl⟩ := h
          have h1 := he m; rw [hm] at h1
          obtain ⟨w', hr, hst⟩ := update_own (P := P) hw h1 hn ht (he k) hk hok (he x)
          exact ⟨.skip, undef, w', g, by simp [hr], .inr ⟨rfl, rfl⟩, .any, hst⟩
        · cases h
      · cases h
    · cases h
  case convert src dst x =>
    unfold execOp; rw [hop]; simp only
    split at h
    · rename_i k n o' len hc
      split at h
      · rename_i l hn
        split at h
        · rename_i hcond
          obtain ⟨rfl, c1, c2, c3⟩ := hcond
          cases hb : bytesA (((l.drop o').take len).map fun a => [a]) with
          | none => rw [hb] at h; cases h
          | some bs =>
            rw [hb] at h; simp only [Option.map_some, Option.some.injEq, Prod.mk.injEq] at h
            obtain ⟨rfl, rfl⟩ := h
            have h1 := he x; rw [hc] at h1
            exact ⟨.value _, _, w, g, by simp [oconv_sound (P := P) hw h1 hn c1 c2 c3 hb], .inl rfl, .v, ST.refl hw⟩
        · cases h
      · cases h
    · cases h
  case slice t x lo hi mx =>
    unfold execOp; rw [hop]; simp only
    obtain ⟨rfl, x', hr, hv⟩ := aslown_sound (P := P) (lo' := lo.map ρ) (hi' := hi.map ρ) (mx' := mx.map ρ) hw (he x) (by cases lo <;> first | trivial | exact he _) (by cases hi <;> first | trivial | exact he _) (by cases mx <;> first | trivial | exact he _) h
    exact ⟨.value x', x', w, g, by simp [hr], .inl rfl, hv, ST.refl hw⟩
  case call c =>
    have fin : ∀ (k : Array TypeId → TypeId → Array Value → Sem Value), (∀ a b d c', builtin (match c.callee with | .builtin x => x | _ => .len) a b c' d = do pure (Next.value (← k a b d))) → (∃ b, c.callee = .builtin b) →
        AppOk P g H w (k c.argTypes o.type (c.args.map ρ)) v H' → OwnOk P g H w (execOp ρ o) v H' := by
      intro k hb hc hk
      obtain ⟨b, hc⟩ := hc
      obtain ⟨x, w', g', h1, h2, h3⟩ := hk
      refine ⟨.value x, x, w', g', ?_, .inl rfl, h2, h3⟩
      rw [hc] at hb
      unfold execOp
      rw [hop]
      simp [resolve, hc, invoke, hb, h1]
    unfold aocall at h
    split at h
    · rename_i hb
      split at h
      · rename_i s x t t' ha ht
        refine fin Builtin.append_ (by rw [hb]; intro a b d c'; rfl) ⟨_, hb⟩ ?_
        have e1 : c.argTypes = #[t, t'] := by rw [← ht]
        have e2 : c.args.map ρ = #[ρ s, ρ x] := by
          apply Array.ext'
          rw [Array.toList_map, ha]; rfl
        rw [e1, e2]
        exact aapp_sound hw (he s) (he x) h
      · cases h
    · rename_i hb
      split at h
      · rename_i d s t ts ha ht
        refine fin Builtin.copy_ (by rw [hb]; intro a b d c'; rfl) ⟨_, hb⟩ ?_
        have e1 : c.argTypes = (t :: ts).toArray := by rw [← ht]
        have e2 : c.args.map ρ = #[ρ d, ρ s] := by
          apply Array.ext'
          rw [Array.toList_map, ha]; rfl
        rw [e1, e2]
        exact acopy_sound hw (he d) (he s) h
      · cases h
    · rename_i hb
      split at h
      · rename_i d t ts ha ht
        refine fin Builtin.clear_ (by rw [hb]; intro a b d c'; rfl) ⟨_, hb⟩ ?_
        have e1 : c.argTypes = (t :: ts).toArray := by rw [← ht]
        have e2 : c.args.map ρ = #[ρ d] := by
          apply Array.ext'
          rw [Array.toList_map, ha]; rfl
        rw [e1, e2]
        exact aclear_sound hw (he d) h
      · cases h
    · cases h

end
end Go.Proofs.YtchpcjmgifnmdaaDoor.Ab

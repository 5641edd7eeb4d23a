/- The operations that leave the owned blocks alone: soundness, put together. -/
import Derived.Test.YtchpcjmgifnmdaaDoorAb6
import Derived.Laws.BytesArg
import Derived.Laws.IdiomStrings
namespace Go.Proofs.YtchpcjmgifnmdaaDoor.Ab
open Go

def FloOk (P : Program) (g : G) (H : AH) (w : World) (s : Sem Next) (v : AV) : Prop :=
  ∃ x w' g', s.run P w = .ok (.value x) w' ∧ VR g' v x ∧ ST g H w g' H w'

section
variable {P : Program} {w : World} {g : G} {H : AH}

theorem FloOk.pure1 {s : Sem Value} {v : AV} (hw : WR g H w) (h : Pure1 P w g s v) : FloOk P g H w (do pure (.value (← s))) v := by
  obtain ⟨x, hr, hv⟩ := h
  exact ⟨x, w, g, by simp [hr], hv, ST.refl hw⟩

theorem FloOk.const {x : Value} {v : AV} (hw : WR g H w) (h : VR g v x) : FloOk P g H w (pure (.value x)) v := ⟨x, w, g, rfl, h, ST.refl hw⟩

theorem VR.frz_box {cs : List AV} {xs : Array Value} (hw : WR g H w) (h : VRs g cs xs) : VR (g.frz w.heap.size xs) (.box cs) (.pointer (some ⟨w.heap.size, 0, none⟩)) := by
  have hle := G.le_frz (c := xs) (hw.fz_none (Nat.le_refl w.heap.size))
  refine .box (xs := fun j => xs.getD j undef) rfl (fun j hj => ?_) (fun j hj => (h.2 j hj).mono hle)
  have hj' : j < xs.size := by rw [h.1]; exact hj
  simp only [G.frz, if_true, Nat.zero_add, Array.getD_eq_getD_getElem?, Array.getElem?_eq_getElem hj', Option.getD_some]

theorem run_places {fs : Array Field} {pl : List (Nat × Nat)} (h : allSome (fs.toList.map fun f => (szOf P f.type).map fun s => (f.offset, s)) = some pl) :
    (fs.mapM fun f => do pure (f.offset, ← sizeOf f.type) : Sem (Array (Nat × Nat))).run P w = .ok pl.toArray w := by
  rw [Array.mapM_eq_mapM_toList]
  have key : ∀ (l : List Field) (pl : List (Nat × Nat)), allSome (l.map fun f => (szOf P f.type).map fun s => (f.offset, s)) = some pl →
      (l.mapM (fun f => do pure (f.offset, ← sizeOf f.type)) : Sem (List (Nat × Nat))).run P w = .ok pl w := by
    intro l
    induction l with
    | nil => intro pl h; simp only [List.map_nil, allSome, Option.some.injEq] at h; subst h; rfl
    | cons f l ih =>
      intro pl h
      simp only [List.map_cons] at h
      cases hs : szOf P f.type with
      | none => rw [hs] at h; cases h
      | some s =>
        rw [hs] at h
        simp only [Option.map_some, allSome] at h
        cases hr : allSome (l.map fun f => (szOf P f.type).map fun s => (f.offset, s)) with
        | none => rw [hr] at h; cases h
        | some r =>
          rw [hr] at h
          simp only [Option.map_some, Option.some.injEq] at h
          subst h
          simp only [List.mapM_cons, Sem.run_bind, run_sizeOf' hs, Result.andThen_ok, Sem.run_pure, ih r hr]
  simp only [Sem.run_map, key _ _ h, Result.andThen_ok]

theorem amax_sound : ∀ (l : List AV) (l' : List Value) (x : AV) (y : Value) (v : AV), l.length = l'.length → (∀ (j : Nat) a b, l[j]? = some a → l'[j]? = some b → VR g a b) →
    VR g x y → amax x l = some v → ∃ z, (l'.foldlM Builtin.max2 y).run P w = .ok z w ∧ VR g v z
  | [], l', x, y, v, hl, _, hx, h => by
    cases l' with
    | nil => simp only [amax, Option.some.injEq] at h; subst h; exact ⟨y, rfl, hx⟩
    | cons => simp at hl
  | a :: l, [], x, y, v, hl, _, hx, h => by simp at hl
  | a :: l, b :: l', x, y, v, hl, hp, hx, h => by
    have hab := hp 0 a b rfl rfl
    simp only [amax] at h
    split at h
    · rename_i k m k' n
      have := hx.of_v; subst this; have := hab.of_v; subst this
      obtain ⟨z, hz, hv⟩ := amax_sound l l' _ (.int k (if n > m then n else m)) v (by simpa using hl) (fun j a b e1 e2 => hp (j + 1) a b (by simpa using e1) (by simpa using e2)) .v h
      exact ⟨z, by simp only [List.foldlM_cons, Sem.run_bind, Builtin.max2, Sem.run_pure, Result.andThen_ok]; exact hz, hv⟩
    · cases h

theorem amin_sound : ∀ (l : List AV) (l' : List Value) (x : AV) (y : Value) (v : AV), l.length = l'.length → (∀ (j : Nat) a b, l[j]? = some a → l'[j]? = some b → VR g a b) →
    VR g x y → amin x l = some v → ∃ z, (l'.foldlM Builtin.min2 y).run P w = .ok z w ∧ VR g v z
  | [], l', x, y, v, hl, _, hx, h => by
    cases l' with
    | nil => simp only [amin, Option.some.injEq] at h; subst h; exact ⟨y, rfl, hx⟩
    | cons => simp at hl
  | a :: l, [], x, y, v, hl, _, hx, h => by simp at hl
  | a :: l, b :: l', x, y, v, hl, hp, hx, h => by
    have hab := hp 0 a b rfl rfl
    simp only [amin] at h
    split at h
    · rename_i k m k' n
      have := hx.of_v; subst this; have := hab.of_v; subst this
      obtain ⟨z, hz, hv⟩ := amin_sound l l' _ (.int k (if n < m then n else m)) v (by simpa using hl) (fun j a b e1 e2 => hp (j + 1) a b (by simpa using e1) (by simpa using e2)) .v h
      exact ⟨z, by simp only [List.foldlM_cons, Sem.run_bind, Builtin.min2, Sem.run_pure, Result.andThen_ok]; exact hz, hv⟩
    · cases h

theorem map_get {e : Operand → AV} {ρ : Operand → Value} (he : ∀ o, VR g (e o) (ρ o)) (l : List Operand) :
    ∀ (j : Nat) a b, (l.map e)[j]? = some a → (l.map ρ)[j]? = some b → VR g a b := by
  intro j a b h1 h2
  rw [List.getElem?_map] at h1 h2
  cases ho : l[j]? with
  | none => rw [ho] at h1; cases h1
  | some o => rw [ho] at h1 h2; cases h1; cases h2; exact he o

theorem VRs.of_map {e : Operand → AV} {ρ : Operand → Value} (he : ∀ o, VR g (e o) (ρ o)) (xs : Array Operand) : VRs g (xs.toList.map e) (xs.map ρ) :=
  VRs.of_get (by simp) fun j c x hc hx => by
    rw [List.getElem?_map] at hc
    rw [Array.getElem?_map] at hx
    simp only [Array.getElem?_toList] at hc
    cases ho : xs[j]? with
    | none => rw [ho] at hc; cases hc
    | some o => rw [ho] at hc hx; cases hc; cases hx; exact he o

theorem VRo.of_map {e : Operand → AV} {ρ : Operand → Value} (he : ∀ o, VR g (e o) (ρ o)) (x : Option Operand) : VRo g (x.map e) (x.map ρ) := by
  cases x with
  | none => trivial
  | some o => exact he o

theorem acall_sound {e : Operand → AV} {ρ : Operand → Value} (he : ∀ o, VR g (e o) (ρ o)) (hw : WR g H w) {c : Call} {ty : TypeId} {v : AV} (h : acall P e c = some v) :
    FloOk P g H w (do let d ← resolve ρ c ty; invoke d.target d.args) v := by
  unfold acall at h
  split at h
  · rename_i hc
    split at h
    · rename_i x t r hx ht
      have hargs : c.args.map ρ = #[ρ x] := by
        have : c.args = #[x] := by apply Array.ext'; simpa using hx
        rw [this]; simp
      have ht' : c.argTypes[0]? = some t := by
        rw [← Array.getElem?_toList, ht]; rfl
      obtain ⟨z, hz, hv⟩ := alen_sound (P := P) (w := w) (ty := ty) (he x) ht' h
      exact ⟨z, w, g, by simp [resolve, hc, invoke, builtin, hargs, hz], hv, ST.refl hw⟩
    · cases h
  · rename_i hc
    split at h
    · rename_i x r hx
      have hargs : (c.args.map ρ).toList = ρ x :: r.map ρ := by simp [hx]
      obtain ⟨z, hz, hv⟩ := amax_sound (P := P) (w := w) (r.map e) (r.map ρ) _ _ v (by simp) (map_get he r) (he x) h
      exact ⟨z, w, g, by simp [resolve, hc, invoke, builtin, Builtin.max_, hx, hz], hv, ST.refl hw⟩
    · cases h
  · rename_i hc
    split at h
    · rename_i x r hx
      have hargs : (c.args.map ρ).toList = ρ x :: r.map ρ := by simp [hx]
      obtain ⟨z, hz, hv⟩ := amin_sound (P := P) (w := w) (r.map e) (r.map ρ) _ _ v (by simp) (map_get he r) (he x) h
      exact ⟨z, w, g, by simp [resolve, hc, invoke, builtin, Builtin.min_, hx, hz], hv, ST.refl hw⟩
    · cases h
  · cases h

theorem aunop_sound {op : UnOp} {a : AV} {x : Value} {v : AV} (hx : VR g a x) (h : aunop op a = some v) : Pure1 P w g (Op.unary op x) v := by
  unfold aunop at h
  split at h <;> first
    | (have := hx.of_v; subst this; simp only [Option.some.injEq] at h; subst h; exact ⟨_, by simp [Op.unary, Op.intArith, Op.intBits], .v⟩)
    | cases h

theorem aconv_sound {src dst : TypeId} {a : AV} {x : Value} {v : AV} (hx : VR g a x) (hs : (P.underlying src).isSome = true) (h : aconv P dst a = some v) :
    Pure1 P w g (convert src dst x) v := by
  obtain ⟨d, hd⟩ := Option.isSome_iff_exists.mp hs
  unfold aconv at h
  split at h
  · have := hx.of_v; subst this
    cases hk : intT P dst with
    | none => rw [hk] at h; cases h
    | some k =>
      rw [hk] at h; simp only [Option.map_some, Option.some.injEq] at h; subst h
      exact ⟨_, by simp [convert, run_underlying' hd, run_underlying' (intT_und hk), Conv.intToInt], .v⟩
  · have := hx.of_v; subst this
    split at h
    · rename_i hB
      simp only [Option.some.injEq] at h; subst h
      refine ⟨_, ?_, .v⟩
      simp only [convert, Sem.run_bind, run_underlying' hd, run_underlying' (isStrT_und hB), Result.andThen_ok]
      rfl
    · cases h
  · cases h

theorem isBytesT_und {t : TypeId} (h : isBytesT P t = true) : ∃ e, P.underlying t = some (.slice e) ∧ P.underlying e = some (.int .u8) := by
  unfold isBytesT at h
  split at h
  · rename_i e he
    split at h
    · rename_i hu; exact ⟨e, elOf_und he, hu⟩
    · cases h
  · cases h
theorem allSome_len {α : Type} : ∀ {l : List (Option α)} {r : List α}, allSome l = some r → r.length = l.length
  | [], r, h => by simp only [allSome, Option.some.injEq] at h; subst h; rfl
  | none :: l, r, h => by cases h
  | some x :: l, r, h => by
    simp only [allSome] at h
    cases hl : allSome l with
    | none => rw [hl] at h; cases h
    | some r' => rw [hl] at h; simp only [Option.map_some, Option.some.injEq] at h; subst h; simp [allSome_len hl]
theorem bytesA_get {rows : List (List AV)} {l : List UInt8} (h : bytesA rows = some l) : l.length = rows.length ∧ ∀ j (hj : j < l.length), (rows.getD j []).getD 0 .any = .v (.int .u8 (l[j].toNat : Int)) := by
  have hlen := allSome_len h
  rw [List.length_map] at hlen
  refine ⟨hlen, fun j hj => ?_⟩
  have := allSome_get _ _ h j
  rw [List.getElem?_map, List.getElem?_eq_getElem hj, List.getElem?_eq_getElem (by omega : j < rows.length)] at this
  simp only [Option.map_some, Option.some.injEq] at this
  rw [show rows.getD j [] = rows[j]'(by omega) from by rw [List.getD_eq_getElem?_getD, List.getElem?_eq_getElem (by omega : j < rows.length)]; rfl]
  generalize rows[j]'(by omega) = row at this ⊢
  unfold byteA at this
  split at this
  · rename_i n
    split at this
    · rename_i hn
      simp only [Option.some.injEq] at this
      rw [← this]
      simp only [List.getD_cons_zero, UInt8.toNat_ofNat']
      congr 2
      omega
    · cases this
  · cases this
theorem aconvB_sound {src dst : TypeId} {a : AV} {x : Value} {v : AV} (hw : WR g H w) (hx : VR g a x) (hs : (P.underlying src).isSome = true) (h : aconvB P src dst a = some v) :
    Pure1 P w g (convert src dst x) v := by
  unfold aconvB at h
  split at h
  · rename_i k rows tip
    split at h
    · rename_i hc
      obtain ⟨rfl, hB, hS⟩ := hc
      obtain ⟨e, hu, he⟩ := isBytesT_und hB
      cases hb : bytesA rows with
      | none => rw [hb] at h; cases h
      | some l =>
        rw [hb] at h; simp only [Option.map_some, Option.some.injEq] at h; subst h
        obtain ⟨hlen, hget⟩ := bytesA_get hb
        generalize hxx : x = y at hx
        cases hx with
        | @lst _ _ _ ao ad len cap xs q1 q2 q3 q4 q5 q6 q7 q8 =>
        refine ⟨.string ⟨l.toArray⟩, ?_, .v⟩
        by_cases h0 : rows.length = 0
        · have hl0 : l = [] := List.eq_nil_of_length_eq_zero (by omega)
          subst hl0
          rw [h0] at q1; subst q1
          cases ao with
          | none => exact run_convert_bytes_nil w src e hu he 0 cap dst (isStrT_und hS)
          | some a0 => exact run_convert_bytes_back w src dst e a0 cap [] hu he (isStrT_und hS) (fun j hj => by simp at hj)
        · obtain ⟨rfl, ha⟩ := q4 (by omega)
          have := run_convert_bytes_back w src dst e ad cap l hu he (isStrT_und hS) (fun j hj => by
            have h1 := q6 j 0 (by omega) (by omega)
            have h2 := q7 j 0 (by omega) (by omega)
            rw [hget j hj] at h2
            have h3 := h2.of_v
            rw [Nat.mul_one, Nat.add_zero, h3] at h1
            rw [addr_add_off _ _ ha]
            exact hw.fz _ _ _ h1)
          rw [hlen] at this
          rw [q1]; exact this
    · cases h
  · split at h
    · rename_i hc
      simp only [Option.some.injEq] at h; subst h
      obtain ⟨e, hu, he⟩ := isBytesT_und hc.1
      have := hx.of_v; subst this
      exact ⟨_, run_convert_bytes_nil w src e hu he _ _ dst (isStrT_und hc.2), .v⟩
    · cases h
  · exact aconv_sound hx hs h

theorem chunk_length (k : Nat) : ∀ (n : Nat) (l : List AV), (chunk k n l).length = n
  | 0, _ => rfl
  | n + 1, l => by simp [chunk, chunk_length k n]

theorem chunk_getD (k : Nat) : ∀ (n : Nat) (l : List AV) (i : Nat), i < n → (chunk k n l).getD i [] = (l.drop (i * k)).take k
  | 0, _, i, h => by omega
  | n + 1, l, 0, _ => by simp [chunk]
  | n + 1, l, i + 1, h => by
    have := chunk_getD k n (l.drop k) i (by omega)
    simp only [chunk, List.getD_cons_succ, this, List.drop_drop]
    rw [show k + i * k = (i + 1) * k by rw [Nat.add_mul]; omega]

theorem afill_length (place : Nat → Option (Nat × Nat)) : ∀ (ps : List (Nat × AV)) (cs out : List AV), afill place cs ps = some out → out.length = cs.length
  | [], cs, out, h => by simp only [afill, Option.some.injEq] at h; rw [h]
  | (i, a) :: ps, cs, out, h => by
    simp only [afill] at h
    split at h
    · split at h
      · rename_i hc
        rw [afill_length place ps _ _ h]; simp; omega
      · cases h
    · cases h

/-- a new row of frozen elements -/
theorem VR.frz_lst {k n : Nat} {cs : List AV} {xs : Array Value} (hw : WR g H w) (h : VRs g cs xs) (hl : cs.length = n * k) (tip : Tip)
    (ht : TipOk (g.frz w.heap.size xs) tip k n (some ⟨w.heap.size, 0, none⟩) n) : VR (g.frz w.heap.size xs) (.lst k (chunk k n cs) tip) (.slice (some ⟨w.heap.size, 0, none⟩) n n) := by
  have hle := G.le_frz (c := xs) (hw.fz_none (Nat.le_refl w.heap.size))
  have hb : ∀ i j, i < n → j < k → i * k + j < n * k := fun i j hi hj => by
    have : (i + 1) * k ≤ n * k := Nat.mul_le_mul_right k hi
    rw [Nat.add_mul] at this; omega
  have hrow : ∀ i, i < n → ((cs.drop (i * k)).take k).length = k := fun i hi => by
    have : (i + 1) * k ≤ n * k := Nat.mul_le_mul_right k hi
    rw [Nat.add_mul] at this
    simp; omega
  refine .lst (a := ⟨w.heap.size, 0, none⟩) (xs := fun i j => xs.getD (i * k + j) undef) (chunk_length k n cs).symm (Nat.le_refl _) (fun h => by cases h) (fun _ => ⟨rfl, rfl⟩) (fun i hi => ?_) (fun i j hi hj => ?_) (fun i j hi hj => ?_) (by rw [chunk_length]; exact ht)
  · rw [chunk_length] at hi; rw [chunk_getD k n cs i hi]; exact hrow i hi
  · rw [chunk_length] at hi
    have hlt : i * k + j < xs.size := by rw [h.1, hl]; exact hb i j hi hj
    simp only [G.frz, if_true, Nat.zero_add, Array.getD_eq_getD_getElem?, Array.getElem?_eq_getElem hlt, Option.getD_some]
  · rw [chunk_length] at hi
    rw [chunk_getD k n cs i hi]
    have := (h.2 (i * k + j) (by rw [hl]; exact hb i j hi hj)).mono hle
    rw [List.getD_eq_getElem?_getD, List.getElem?_take_of_lt hj, List.getElem?_drop, ← List.getD_eq_getElem?_getD]
    exact this

theorem zeros_VRs (g : G) (y : Array Value) (n : Nat) (hy : 0 < y.size) :
    VRs g ((List.range n).map fun i => (y.toList.map AV.v).getD (i % y.size) .any) ((Array.range n).map fun i => y[i % y.size]!) := by
  refine VRs.of_get (by simp) fun j c x hc hx => ?_
  rw [List.getElem?_map] at hc
  rw [Array.getElem?_map] at hx
  by_cases hj : j < n
  · have hm : j % y.size < y.size := Nat.mod_lt _ hy
    rw [List.getElem?_range hj] at hc
    rw [Array.getElem?_range] at hx
    simp only [hj, if_true, Option.map_some, Option.some.injEq] at hc hx
    subst hc; subst hx
    rw [List.getD_eq_getElem?_getD, List.getElem?_map, Array.getElem?_toList, Array.getElem?_eq_getElem hm, getElem!_pos y _ hm]
    exact .v
  · rw [List.getElem?_eq_none (by simp; omega)] at hc; cases hc

theorem aflo_sound {mu : List Nat} {e : Operand → AV} {ρ : Operand → Value} (he : ∀ o, VR g (e o) (ρ o)) (hw : WR g H w) {o : Oper} {v : AV}
    (h : aflo P mu e o.dst o.op = some v) : FloOk P g H w (execOp ρ o) v := by
  unfold aflo at h
  unfold execOp
  cases hop : o.op <;> rw [hop] at h <;> simp only at h ⊢ <;> first | (cases h; done) | skip
  case move x => simp only [Option.some.injEq] at h; subst h; exact .const hw (he x)
  case assign x => simp only [Option.some.injEq] at h; subst h; exact .const hw (he x)
  case pick c a b =>
    split at h
    · rename_i t hc
      simp only [Option.some.injEq] at h; subst h
      have h1 := he c; rw [hc] at h1; have h2 := h1.of_v
      cases t
      · exact ⟨ρ b, w, g, by simp [h2, asBool], he b, ST.refl hw⟩
      · exact ⟨ρ a, w, g, by simp [h2, asBool], he a, ST.refl hw⟩
    · cases h
  case box el x =>
    split at h
    · cases h
    · cases hc : cellsA (e x) with
      | none => rw [hc] at h; cases h
      | some cs =>
        rw [hc] at h; simp only [Option.map_some, Option.some.injEq] at h; subst h
        have hv := cellsA_sound (he x) hc
        exact ⟨.pointer (some ⟨w.heap.size, 0, none⟩), w.alloc (.cells (ρ x).cells el), g.frz w.heap.size (ρ x).cells, by simp [Instr.box, newVar, newRow], VR.frz_box hw hv, ST.frz hw _ _⟩
  case build t parts =>
    split at h
    · rename_i pl z hpl hz
      obtain ⟨y, hy, rfl⟩ := run_zero' (P := P) (w := w) hz
      unfold placesOf at hpl
      split at hpl
      · rename_i fs hu
        cases hf : afill (fun i => pl[i]?) (y.cells.toList.map .v) (parts.toList.map fun p => (p.1, e p.2)) with
        | none => rw [hf] at h; cases h
        | some cs =>
          rw [hf] at h; simp only [Option.map_some, Option.some.injEq] at h; subst h
          obtain ⟨ys, hys, hvs⟩ := afill_sound (fun i => pl[i]?) _ (parts.toList.map fun p => (p.1, ρ p.2)) _ _ _ (VRs.map_v g y.cells) (by simp) (fun j p q h1 h2 => by
            rw [List.getElem?_map] at h1 h2
            cases ho : parts.toList[j]? with
            | none => rw [ho] at h1; cases h1
            | some pp => rw [ho] at h1 h2; cases h1; cases h2; exact ⟨rfl, he _⟩) hf
          refine FloOk.pure1 hw ⟨.agg ys, ?_, .agg hvs.1 hvs.2⟩
          have e1 : (fun i : Nat => pl.toArray[i]?) = fun i : Nat => pl[i]? := by funext i; simp
          have e2 : (parts.map fun x => match x with | (i, x) => (i, ρ x)).toList = parts.toList.map fun p => (p.1, ρ p.2) := by simp
          simp only [Instr.build, Sem.run_bind, hy, run_underlying' hu, Result.andThen_ok, run_places hpl, e1, e2, hys, Sem.run_pure]
      · cases hpl
    · cases h
  case load t a =>
    split at h
    · rename_i cs hc
      have h1 := he a; rw [hc] at h1
      obtain ⟨ad, e1, e2, xs, e3, e4⟩ := box_cells hw h1
      obtain ⟨x, hx, hv⟩ := loadVar_sound (P := P) e3 (fun j y hy => (e4 j y hy).1) h
      exact FloOk.pure1 hw ⟨x, by simp [Instr.loadAt, Instr.sureAddr, e1, hx], hv⟩
    · cases h
  case nilCheck x =>
    split at h
    · rename_i cs hc
      simp only [Option.some.injEq] at h; subst h
      have h1 := he x; rw [hc] at h1
      obtain ⟨ad, e1, _⟩ := box_cells hw h1
      rw [e1] at h1 ⊢
      exact .const hw h1
    · rename_i n o hc
      simp only [Option.some.injEq] at h; subst h
      have h1 := he x; rw [hc] at h1
      generalize ρ x = y at h1
      cases h1 with
      | ptr hm => exact .const hw (.ptr hm)
    · rename_i fn a b hc
      simp only [Option.some.injEq] at h; subst h
      have h1 := he x; rw [hc] at h1
      generalize ρ x = y at h1
      cases h1 with
      | fn q1 q2 q3 q4 => exact .const hw (.fn q1 q2 q3 q4)
    · cases h
  case binOp op t x y _ => exact FloOk.pure1 hw (abinop_sound (he x) (he y) h)
  case unOp op _ x => exact FloOk.pure1 hw (aunop_sound (he x) h)
  case convert src dst x =>
    split at h
    · rename_i hs; exact FloOk.pure1 hw (aconvB_sound hw (he x) hs h)
    · cases h
  case makeInterface t x =>
    split at h
    · cases h
    · rename_i hc
      simp only [Option.some.injEq] at h; subst h
      refine FloOk.pure1 hw ⟨.iface t (ρ x), ?_, .ifc (he x)⟩
      simp only [Bool.or_eq_true, not_or] at hc
      obtain ⟨h1, h2⟩ := hc
      cases hu : P.underlying t with
      | none => simp [hu] at h2
      | some d =>
        simp only [Instr.makeInterface, Sem.run_bind, run_underlying' hu, Result.andThen_ok]
        cases d <;> first | rfl | (exfalso; exact h1 (by simp [isIfc, hu]))
  case typeAssert x xt t ok =>
    split at h
    · rename_i u v' hc
      split at h
      · rename_i hcond
        obtain ⟨rfl, rfl, h3⟩ := hcond
        simp only [Option.some.injEq] at h; subst h
        have h1 := he x; rw [hc] at h1
        generalize ρ x = y at h1
        cases h1 with
        | @ifc _ _ z hz =>
        refine FloOk.pure1 hw ⟨.tuple #[z, .bool true], ?_, .tup rfl fun j hj => ?_⟩
        · unfold concT at h3
          cases hu : P.underlying u with
          | none => rw [hu] at h3; cases h3
          | some d =>
            rw [hu] at h3
            simp only [Instr.typeAssert, Sem.run_bind, run_underlying' hu, Result.andThen_ok]
            cases d <;> first | (cases h3; done) | (simp; done) | (simp; rfl)
        · match j, hj with
          | 0, _ => exact hz
          | 1, _ => exact .v
      · cases h
    · cases h
  case makeFunc fn first cap =>
    simp only [Option.some.injEq] at h; subst h
    have h1 := VRs.of_map he first
    have h2 := VRs.of_map he cap
    exact FloOk.pure1 hw ⟨.func fn (first.map ρ) (cap.map ρ), by simp [Instr.makeFunc], .fn h1.1 h2.1 h1.2 h2.2⟩
  case slice t x lo hi mx => exact FloOk.pure1 hw (aslice_sound (he x) (VRo.of_map he lo) (VRo.of_map he hi) (VRo.of_map he mx) h)
  case fieldAddr s x i =>
    unfold fldOff at h
    cases hu : P.underlying s with
    | none => simp [hu] at h
    | some d =>
      cases d <;> simp only [hu] at h <;> first | (cases h; done) | skip
      rename_i fs
      cases hf : fs[i]? with
      | none => simp [hf] at h
      | some f =>
        simp only [hf] at h
        cases hs : szOf P f.type with
        | none => simp [hs] at h
        | some k =>
          cases k with
          | zero => simp [hs] at h
          | succ k =>
            simp only [hs] at h
            have hplace : ∀ ad : Addr, (fieldPlace ad f).run P w = .ok (ad.add f.offset) w := fun ad => by
              simp [fieldPlace, run_sizeOf' hs]
            split at h
            · rename_i heq hc
              simp only [Option.some.injEq] at heq h; subst heq; subst h
              have h1 := he x; rw [hc] at h1
              generalize ρ x = y at h1
              cases h1 with
              | @box _ ad xs ha hfz hxx =>
              refine FloOk.pure1 hw ⟨.pointer (some (ad.add f.offset)), by simp [Instr.fieldAt, run_underlying' hu, hf, Instr.sureAddr, hplace], ?_⟩
              refine .box (xs := fun j => xs (f.offset + j)) (by rw [addr_add_off _ _ ha]) (fun j hj => ?_) (fun j hj => ?_)
              · rw [addr_add_off _ _ ha]
                simp only [List.length_drop] at hj
                rw [Nat.add_assoc]; exact hfz _ (by omega)
              · simp only [List.length_drop] at hj
                have := hxx (f.offset + j) (by omega)
                rw [List.getD_eq_getElem?_getD, List.getElem?_drop, ← List.getD_eq_getElem?_getD]; exact this
            · rename_i off n1 o1 heq hc
              simp only [Option.some.injEq] at heq h; subst heq; subst h
              have h1 := he x; rw [hc] at h1
              generalize ρ x = y at h1
              cases h1 with
              | @ptr _ _ b hm =>
              refine FloOk.pure1 hw ⟨.pointer (some ⟨b, o1 + f.offset, none⟩), ?_, .ptr hm⟩
              simp [Instr.fieldAt, run_underlying' hu, hf, Instr.sureAddr, hplace, addr_add_off]
            · cases h
  case field s x i =>
    unfold fldOff fldTy at h
    cases hu : P.underlying s with
    | none => simp [hu] at h
    | some d =>
      cases d <;> simp only [hu] at h <;> first | (cases h; done) | skip
      rename_i fs
      cases hf : fs[i]? with
      | none => simp [hf] at h
      | some f =>
        simp only [hf, Option.map_some] at h
        cases hs : szOf P f.type with
        | none => simp [hs] at h
        | some k =>
          cases k with
          | zero => simp [hs] at h
          | succ k =>
            simp only [hs] at h
            split at h
            · rename_i h1 h2 hc
              simp only [Option.some.injEq] at h1 h2; subst h1; subst h2
              have h1 := he x; rw [hc] at h1
              generalize ρ x = y at h1
              cases h1 with
              | @agg _ xs hl hxx =>
              obtain ⟨z, hz, hv⟩ := apart_sound (P := P) (w := w) ⟨hl, hxx⟩ h
              exact FloOk.pure1 hw ⟨z, by simp [Instr.field, run_underlying' hu, hf, asAgg, hz], hv⟩
            · cases h
  case indexAddr t x i => exact FloOk.pure1 hw (aindex_sound hw (he x) (he i) h)
  case index t x i => exact FloOk.pure1 hw (asindex_sound (he x) (he i) h)
  case extract t i =>
    split at h
    · rename_i vs hc
      have h1 := he t; rw [hc] at h1
      generalize ρ t = y at h1
      cases h1 with
      | @tup _ xs hl hxx =>
      obtain ⟨z, hz, hv⟩ := VRs.get ⟨hl, hxx⟩ h
      exact FloOk.pure1 hw ⟨z, by simp [Instr.extract, hz], hv⟩
    · cases h
  case call c => exact acall_sound he hw h
  case buildSlice t len parts =>
    split at h
    · cases h
    · split at h
      · rename_i el hel
        split at h
        · rename_i s z hs hz
          split at h
          · rename_i hc
            obtain ⟨hsz, hpos, hbig⟩ := hc
            obtain ⟨y, hy, rfl⟩ := run_zero' (P := P) (w := w) hz
            have hys : y.cells.size = s := by simpa using hsz.symm
            cases hf : afill (fun i => some (i * s, s)) ((List.range (len * s)).map fun i => (y.cells.toList.map AV.v).getD (i % s) .any) (parts.toList.map fun p => (p.1, e p.2)) with
            | none => rw [hf] at h; cases h
            | some cs =>
              rw [hf] at h; simp only [Option.map_some, Option.some.injEq] at h; subst h
              have hzz := zeros_VRs g y.cells (len * s) (by omega)
              rw [hys] at hzz
              obtain ⟨ys, hyy, hvs⟩ := afill_sound (fun i => some (i * s, s)) _ (parts.toList.map fun p => (p.1, ρ p.2)) _ _ _ hzz (by simp) (fun j p q h1 h2 => by
                rw [List.getElem?_map] at h1 h2
                cases ho : parts.toList[j]? with
                | none => rw [ho] at h1; cases h1
                | some pp => rw [ho] at h1 h2; cases h1; cases h2; exact ⟨rfl, he _⟩) hf
              have hlen : cs.length = len * s := by rw [afill_length _ _ _ _ hf]; simp
              refine ⟨_, w.alloc (.cells ys el), g.frz w.heap.size ys, ?_, VR.frz_lst hw hvs hlen .full rfl, ST.frz hw _ _⟩
              have e2 : (parts.map fun x => match x with | (i, x) => (i, ρ x)).toList = parts.toList.map fun p => (p.1, ρ p.2) := by simp
              simp only [Instr.buildSlice, Sem.run_bind, run_underlying' (elOf_und hel), Result.andThen_ok, run_sizeOf' hs]
              rw [if_neg (by omega)]
              by_cases h0 : len * s = 0
              · have e4 : ∀ f : Nat → Value, (Array.range 0).map f = #[] := fun f => by simp
                simp only [h0, if_true, Sem.run_pure, Result.andThen_ok, Sem.run_bind, e2, e4]
                rw [h0, e4] at hyy
                simp [hyy, newRow]
              · simp only [h0, if_false, Sem.run_bind, hy, Result.andThen_ok, Sem.run_pure, e2]
                have e3 : (Array.range (len * s)).map (fun x => y.cells[x % y.cells.size]!) = (Array.range (len * s)).map (fun i => y.cells[i % s]!) := by rw [hys]
                rw [e3, hyy]
                simp [newRow]
          · cases h
        · cases h
      · cases h

end
end Go.Proofs.YtchpcjmgifnmdaaDoor.Ab

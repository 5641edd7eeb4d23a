/- Maps of the call's own: a new one, looking a key up, writing an entry. -/
import Derived.Test.YtchpcjmgifnmdaaDoorAb8
import Derived.WideKeyMaps
import Derived.MapKept
namespace Go.Proofs.YtchpcjmgifnmdaaDoor.Ab
open Go

/-- a key as the machine has it: numbers side by side -/
def rawC : AV → Option Value
  | .v (.int k n) => some (.int k n)
  | _ => none
def rawK : AV → Option Value
  | .agg cs => (allSome (cs.map rawC)).map fun l => .agg l.toArray
  | _ => none

section
variable {P : Program} {w : World} {g : G} {H : AH}
theorem rawC_sound {a : AV} {x y : Value} (h : VR g a x) (hr : rawC a = some y) : x = y := by
  unfold rawC at hr
  split at hr
  · simp only [Option.some.injEq] at hr; subst hr; exact h.of_v
  · cases hr
theorem rawK_sound {a : AV} {x y : Value} (h : VR g a x) (hr : rawK a = some y) : x = y := by
  unfold rawK at hr
  split at hr
  · rename_i cs
    cases ha : allSome (cs.map rawC) with
    | none => rw [ha] at hr; cases hr
    | some l =>
      rw [ha] at hr
      simp only [Option.map_some, Option.some.injEq] at hr
      subst hr
      cases h with
      | @agg _ xs hl hx =>
        congr 1
        have hll : l.length = cs.length := by have := allSome_len ha; simpa using this
        apply Array.ext
        · simp [hl, hll]
        · intro i h1 h2
          have hi : i < cs.length := by omega
          have hv := hx i hi
          have hg := allSome_get _ _ ha i
          rw [List.getElem?_map, List.getElem?_eq_getElem hi, Option.map_some] at hg
          rw [List.getD_eq_getElem?_getD, List.getElem?_eq_getElem hi, Array.getD_eq_getD_getElem?, Array.getElem?_eq_getElem h1] at hv
          simp only [Option.getD_some] at hv
          have h3 : i < l.length := by omega
          rw [List.getElem?_eq_getElem h3] at hg
          simp only [Option.map_some, Option.some.injEq] at hg
          have := rawC_sound hv hg
          simp [this]
  · cases hr

open Classical in
/-- what a key leads to -/
noncomputable def findM (x : Value) : List (Value × AV) → Option AV
  | [] => none
  | p :: es => if p.1 = x then some p.2 else findM x es
theorem findM_none {x : Value} : ∀ {es : List (Value × AV)}, (∀ p ∈ es, p.1 ≠ x) → findM x es = none
  | [], _ => rfl
  | p :: es, h => by
    rw [findM, if_neg (h p (by simp))]
    exact findM_none fun q hq => h q (by simp [hq])
theorem findM_get {x : Value} : ∀ {es : List (Value × AV)} {j : Nat}, (es.map (·.1)).Nodup → j < es.length → (es.getD j (undef, .any)).1 = x → findM x es = some (es.getD j (undef, .any)).2
  | [], j, _, h, _ => by simp at h
  | p :: es, 0, _, _, hx => by
    simp only [List.getD_cons_zero] at hx ⊢
    rw [findM, if_pos hx]
  | p :: es, j + 1, hn, h, hx => by
    simp only [List.getD_cons_succ] at hx ⊢
    simp only [List.map_cons, List.nodup_cons] at hn
    have hj : j < es.length := by simpa using h
    rw [findM, if_neg, findM_get hn.2 hj hx]
    intro e
    refine hn.1 (List.mem_map.mpr ⟨es.getD j (undef, .any), ?_, by rw [hx, e]⟩)
    rw [List.getD_eq_getElem?_getD, List.getElem?_eq_getElem hj]
    exact List.getElem_mem hj
open Classical in
/-- with another entry -/
noncomputable def putM (x : Value) (v : AV) (es : List (Value × AV)) : List (Value × AV) := match findM x es with
  | none => es ++ [(x, v)]
  | some _ => es.map fun p => if p.1 = x then (x, v) else p

/-- what the keys of a type must be: the type's words, and every key readable -/
def MapOk (P : Program) (kt : TypeId) (x : Value) (es : List (Value × AV)) : Prop := WideMaps.KeyLaw P kt ∧ (keyOf P kt x).isSome = true ∧ (∀ p ∈ es, (keyOf P kt p.1).isSome = true) ∧ (es.map (·.1)).Nodup

theorem own_map (hw : WR g H w) {n : Nat} {y : Value} {es : List (Value × AV)} (h : VR g (.map n) y) (hn : H.own n = some (.map es)) :
    ∃ b ents cl, y = .map (some b) ∧ g.mu n = some b ∧ w.heap[b]? = some (.map ents cl) ∧ ents.size = es.length ∧ ∀ j, j < es.length → ∃ e, ents[j]? = some e ∧ e.key = (es.getD j (undef, .any)).1 ∧ VR g (es.getD j (undef, .any)).2 e.val := by
  cases h with
  | @map _ b hm =>
  obtain ⟨b', obj, e1, e2, e3, e4⟩ := hw.own n _ hn
  rw [hm] at e1; cases e1
  cases obj with
  | map ents cl => exact ⟨b, ents, cl, rfl, hm, e2, e3.1, e3.2⟩
  | _ => exact e3.elim

/-- looking a key up -/
theorem find_own {kt : TypeId} {x : Value} {es : List (Value × AV)} {ents : Array MapEntry} (hok : MapOk P kt x es) (hs : ents.size = es.length) (he : ∀ j, j < es.length → ∃ e, ents[j]? = some e ∧ e.key = (es.getD j (undef, .any)).1 ∧ VR g (es.getD j (undef, .any)).2 e.val) :
    (findM x es = none ∧ (Instr.findKey kt x ents.toList).run P w = .ok none w) ∨ ∃ j e, j < es.length ∧ ents[j]? = some e ∧ e.key = x ∧ findM x es = some (es.getD j (undef, .any)).2 ∧ VR g (es.getD j (undef, .any)).2 e.val ∧ (Instr.findKey kt x ents.toList).run P w = .ok (some (j, e.val)) w := by
  obtain ⟨law, hx, hall, hnd⟩ := hok
  obtain ⟨lx, hlx⟩ := Option.isSome_iff_exists.mp hx
  have hmem : ∀ e ∈ ents.toList, ∃ j, j < es.length ∧ ents[j]? = some e := fun e hm => by
    obtain ⟨j, hj⟩ := List.mem_iff_getElem?.mp hm
    rw [Array.getElem?_toList] at hj
    have := (Array.getElem?_eq_some_iff.mp hj).1
    exact ⟨j, by omega, hj⟩
  rcases law.find w hlx ents.toList (fun e hm => by
    obtain ⟨j, hj, hje⟩ := hmem e hm
    obtain ⟨e', h1, h2, _⟩ := he j hj
    rw [hje] at h1; cases h1
    rw [h2]
    refine Option.isSome_iff_exists.mp (hall _ ?_)
    rw [List.getD_eq_getElem?_getD, List.getElem?_eq_getElem hj]
    exact List.getElem_mem hj) with ⟨h1, h2⟩ | ⟨j, e, h1, h2, h3⟩
  · refine .inl ⟨findM_none fun p hp => ?_, h1⟩
    obtain ⟨j, hj⟩ := List.mem_iff_getElem?.mp hp
    have hjl := (List.getElem?_eq_some_iff.mp hj).1
    obtain ⟨e, e1, e2, _⟩ := he j hjl
    have : e ∈ ents.toList := List.mem_iff_getElem?.mpr ⟨j, by rw [Array.getElem?_toList]; exact e1⟩
    have hne := h2 e this
    rw [e2, List.getD_eq_getElem?_getD, hj] at hne
    exact hne
  · rw [Array.getElem?_toList] at h2
    have hjs := (Array.getElem?_eq_some_iff.mp h2).1
    obtain ⟨e', e1, e2, e3⟩ := he j (by omega)
    rw [h2] at e1; cases e1
    exact .inr ⟨j, e, by omega, h2, h3, findM_get hnd (by omega) (by rw [← e2, h3]), e3, h1⟩

theorem run_keyStays {kt : TypeId} {x : Value} {es : List (Value × AV)} (hok : MapOk P kt x es) : (Instr.keyThatStays x x).run P w = .ok x w := by
  obtain ⟨law, hx, _⟩ := hok
  obtain ⟨lx, hlx⟩ := Option.isSome_iff_exists.mp hx
  exact law.stays w hlx
theorem run_keyCheck {kt : TypeId} {x : Value} {es : List (Value × AV)} (hok : MapOk P kt x es) (em : Bool) : (Instr.checkKey em 10000 kt x).run P w = .ok () w := by
  obtain ⟨law, hx, _⟩ := hok
  obtain ⟨lx, hlx⟩ := Option.isSome_iff_exists.mp hx
  exact law.check w em hlx
def mapT (P : Program) (t : TypeId) : Option (TypeId × TypeId) := match P.underlying t with
  | some (.map k e) => some (k, e)
  | _ => none
theorem mapT_und {t k e : TypeId} (h : mapT P t = some (k, e)) : P.underlying t = some (.map k e) := by
  unfold mapT at h
  split at h
  · rename_i k' e' hu
    simp only [Option.some.injEq, Prod.mk.injEq] at h
    obtain ⟨rfl, rfl⟩ := h
    exact hu
  · cases h
def zvA (P : Program) (t : TypeId) : Option Value := (P.info? t).bind (·.zero)
theorem run_zvA {t : TypeId} {z : Value} (h : zvA P t = some z) : (zeroValue t).run P w = .ok z w := by
  unfold zvA at h
  cases hi : P.info? t with
  | none => rw [hi] at h; cases h
  | some i =>
    rw [hi] at h
    simp only [Option.bind_some] at h
    simp [zeroValue, typeInfo, hi, h]
/-- look-ups -/
theorem lookup_own (hw : WR g H w) {n : Nat} {y x kx : Value} {a : AV} {es : List (Value × AV)} {t kt et : TypeId} {ok : Bool} (h : VR g (.map n) y) (hn : H.own n = some (.map es)) (ht : mapT P t = some (kt, et)) {z : Value} (hzv : zvA P et = some z) (ha : VR g a x) (hr : rawK a = some kx) (hok : MapOk P kt kx es) :
    Pure1 P w g (Instr.lookup t y x ok) (if ok then .tup [(findM kx es).getD (.v z), .v (.bool (findM kx es).isSome)] else (findM kx es).getD (.v z)) := by
  have hx := rawK_sound ha hr
  subst hx
  obtain ⟨b, ents, cl, rfl, hm, hh, hs, he⟩ := own_map hw h hn
  have hz := run_zvA (w := w) hzv
  have hchk := run_keyCheck (P := P) (w := w) hok ents.isEmpty
  have hty := run_underlying' (w := w) (mapT_und ht)
  rcases find_own (P := P) (w := w) hok hs he with ⟨h1, h2⟩ | ⟨j, e, hj, h1, h2, h3, h4, h5⟩
  · rw [h1]
    cases ok
    · exact ⟨z, by simp [Instr.lookup, hty, MapKept.run_getObj_map hh, hchk, h2, hz, Result.andThen], .v⟩
    · refine ⟨.tuple #[z, .bool false], by simp [Instr.lookup, hty, MapKept.run_getObj_map hh, hchk, h2, hz, Result.andThen], ?_⟩
      exact .tup rfl fun j hj => by
        match j, hj with
        | 0, _ => exact .v
        | 1, _ => exact .v
  · rw [h3]
    cases ok
    · exact ⟨e.val, by simp [Instr.lookup, hty, MapKept.run_getObj_map hh, hchk, h5, Result.andThen], h4⟩
    · refine ⟨.tuple #[e.val, .bool true], by simp [Instr.lookup, hty, MapKept.run_getObj_map hh, hchk, h5, Result.andThen], ?_⟩
      exact .tup rfl fun j hj => by
        match j, hj with
        | 0, _ => exact h4
        | 1, _ => exact .v
open Classical in
/-- writing an entry -/
theorem update_own (hw : WR g H w) {n : Nat} {y x u kx : Value} {a v : AV} {es : List (Value × AV)} {t kt et : TypeId} (h : VR g (.map n) y) (hn : H.own n = some (.map es)) (ht : mapT P t = some (kt, et)) (ha : VR g a x) (hr : rawK a = some kx) (hok : MapOk P kt kx es) (hv : VR g v u) :
    ∃ w', (Instr.mapUpdate t y x u).run P w = .ok () w' ∧ ST g H w g (H.set n (.map (putM kx v es))) w' := by
  have hx := rawK_sound ha hr
  subst hx
  obtain ⟨b, ents, cl, rfl, hm, hh, hs, he⟩ := own_map hw h hn
  have hb : b < w.heap.size := (Array.getElem?_eq_some_iff.mp hh).1
  have hchk := run_keyCheck (P := P) (w := w) hok false
  have hst := run_keyStays (P := P) (w := w) hok
  have hty := run_underlying' (w := w) (mapT_und ht)
  have fin : ∀ (ents' : Array MapEntry) (cl' : Nat), BR g n (.map (putM x v es)) (.map ents' cl') → ST g H w g (H.set n (.map (putM x v es))) { w with heap := w.heap.setIfInBounds b (.map ents' cl') } := fun ents' cl' hB =>
    ST.set hw hn hm (by simp) (by simp [hb]) (fun c hc => by show (w.heap.setIfInBounds b _)[c]? = _; rw [Array.getElem?_setIfInBounds, if_neg (fun e => hc e.symm)]) hB ⟨rfl, rfl, rfl⟩
  rcases find_own (P := P) (w := w) hok hs he with ⟨h1, h2⟩ | ⟨j, e, hj, h1, h2, h3, h4, h5⟩
  · refine ⟨{ w with heap := w.heap.setIfInBounds b (.map (ents.push { key := x, val := u, born := cl }) (cl + 1)) }, by simp [Instr.mapUpdate, hty, MapKept.run_getObj_map hh, hchk, h2, MapKept.run_setObj_map _ hh, Result.andThen], fin _ _ ?_⟩
    unfold putM
    rw [h1]
    refine ⟨by simp [hs], fun j hj => ?_⟩
    simp only [List.length_append, List.length_singleton] at hj
    by_cases hjl : j < es.length
    · obtain ⟨e, e1, e2, e3⟩ := he j hjl
      refine ⟨e, by rw [Array.getElem?_push, if_neg (by omega)]; exact e1, ?_, ?_⟩ <;> simp only [List.getD_eq_getElem?_getD, List.getElem?_append_left hjl] at e2 e3 ⊢ <;> assumption
    · have : j = es.length := by omega
      subst this
      refine ⟨{ key := x, val := u, born := cl }, by rw [Array.getElem?_push, if_pos hs.symm], ?_, ?_⟩ <;> simp
      exact hv
  · have hk : ((ents[j]?).map (·.key)).getD x = x := by rw [h1]; simp [h2]
    refine ⟨{ w with heap := w.heap.setIfInBounds b (.map (ents.modify j fun e => { e with key := x, val := u }) cl) }, by
      simp only [Instr.mapUpdate, Sem.run_bind, hty, MapKept.run_getObj_map hh, hchk, h5, hk, hst, Result.andThen_ok]
      exact MapKept.run_setObj_map _ hh, fin _ _ ?_⟩
    unfold putM
    rw [h3]
    refine ⟨by simp [hs], fun i hi => ?_⟩
    simp only [List.length_map] at hi
    obtain ⟨e', e1, e2, e3⟩ := he i hi
    have hgd : (es.map fun p => if p.1 = x then (x, v) else p).getD i (undef, .any) = if (es.getD i (undef, .any)).1 = x then (x, v) else es.getD i (undef, .any) := by
      simp only [List.getD_eq_getElem?_getD, List.getElem?_map, List.getElem?_eq_getElem hi, Option.map_some, Option.getD_some]
    rw [hgd]
    by_cases hij : j = i
    · subst hij
      rw [h1] at e1; cases e1
      rw [if_pos (by rw [← e2, h2])]
      exact ⟨_, by rw [Array.getElem?_modify, if_pos rfl, h1]; rfl, rfl, hv⟩
    · have hne : (es.getD i (undef, .any)).1 ≠ x := by
        intro hx
        obtain ⟨_, _, _, hnd⟩ := hok
        have ej : (es.getD j (undef, .any)).1 = x := by
          obtain ⟨e'', q1, q2, _⟩ := he j hj
          rw [h1] at q1; cases q1
          rw [← q2, h2]
        refine hij ((List.getElem_inj (h₀ := by simpa using hj) (h₁ := by simpa using hi) hnd).mp ?_)
        simp only [List.getD_eq_getElem?_getD, List.getElem?_eq_getElem hi, List.getElem?_eq_getElem hj, Option.getD_some] at hx ej
        simp [hx, ej]
      rw [if_neg hne]
      exact ⟨e', by rw [Array.getElem?_modify, if_neg hij]; exact e1, e2, e3⟩
end
end Go.Proofs.YtchpcjmgifnmdaaDoor.Ab

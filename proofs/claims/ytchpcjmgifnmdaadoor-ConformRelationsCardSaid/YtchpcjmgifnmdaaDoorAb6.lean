/- The operations that leave the owned blocks alone: soundness, all of them. -/
import Derived.Test.YtchpcjmgifnmdaaDoorAb5
namespace Go.Proofs.YtchpcjmgifnmdaaDoor.Ab
open Go

section
variable {P : Program} {w : World} {g : G}

def VRo (g : G) : Option AV → Option Value → Prop
  | none, none => True
  | some a, some x => VR g a x
  | _, _ => False

theorem sliceBound_run {k : IntKind} {i : Int} {y : Nat} {code : BoundsCode} (h : 0 ≤ i ∧ i ≤ y) : (Instr.sliceBound (.int k i) y code).run P w = .ok i.toNat w := by
  simp [Instr.sliceBound, asIntOf, h]

theorem abound_cases {x : Option AV} {x' : Option Value} {d top n : Nat} (hx : VRo g x x') (h : abound x d top = some n) :
    (x' = none ∧ n = d) ∨ ∃ k i, x' = some (.int k i) ∧ 0 ≤ i ∧ i ≤ (top : Int) ∧ n = i.toNat := by
  cases x with
  | none =>
    cases x' with
    | none => simp only [abound, Option.some.injEq] at h; exact .inl ⟨rfl, h.symm⟩
    | some _ => cases hx
  | some a =>
    cases x' with
    | none => cases hx
    | some y =>
      simp only [abound] at h
      split at h
      · rename_i heq; cases heq
      · rename_i k i heq
        cases heq
        have := VR.of_v hx; subst this
        split at h
        · rename_i hc
          simp only [Option.some.injEq] at h
          exact .inr ⟨k, i, rfl, hc.1, hc.2, h.symm⟩
        · cases h
      · cases h

theorem sliceBounds_run {isSlice : Bool} {len cap top : Nat} {lo hi : Option AV} {lo' hi' : Option Value} {l h : Nat} (hlo : VRo g lo lo') (hhi : VRo g hi hi')
    (hh : abound hi len top = some h) (hl : abound lo 0 h = some l) (hc : top ≤ cap) :
    (Instr.sliceBounds isSlice len cap lo' hi' none).run P w = .ok (l, h, cap) w := by
  rcases abound_cases hhi hh with ⟨rfl, rfl⟩ | ⟨k, i, rfl, h0, h1, rfl⟩ <;> rcases abound_cases hlo hl with ⟨rfl, rfl⟩ | ⟨k', i', rfl, h0', h1', rfl⟩
  · simp [Instr.sliceBounds]
  · simp only [Instr.sliceBounds, Sem.run_bind, Sem.run_pure, Result.andThen_ok]
    rw [sliceBound_run ⟨h0', h1'⟩]; rfl
  · simp only [Instr.sliceBounds, Sem.run_bind, Sem.run_pure, Result.andThen_ok]
    rw [sliceBound_run ⟨h0, by omega⟩]; rfl
  · simp only [Instr.sliceBounds, Sem.run_bind, Sem.run_pure, Result.andThen_ok]
    rw [sliceBound_run ⟨h0, by omega⟩]
    simp only [Result.andThen_ok]
    rw [sliceBound_run ⟨h0', h1'⟩]; rfl

theorem abound_le {x : Option AV} {d top n : Nat} (h : abound x d top = some n) (hd : d ≤ top) : n ≤ top := by
  unfold abound at h
  split at h
  · simp only [Option.some.injEq] at h; omega
  · split at h
    · simp only [Option.some.injEq] at h; omega
    · cases h
  · cases h

theorem addr_add_off (a : Addr) (n : Nat) (h : a.spot = none) : a.add n = ⟨a.block, a.off + n, none⟩ := by
  unfold Addr.add
  split
  · subst_vars; cases a; simp_all
  · simp

theorem sliceBounds_run3 {isSlice : Bool} {len cap top dm dh : Nat} {lo hi mx : Option AV} {lo' hi' mx' : Option Value} {l h m : Nat} (hlo : VRo g lo lo') (hhi : VRo g hi hi') (hmx : VRo g mx mx')
    (s1 : mx.isSome = true) (s2 : hi.isSome = true) (hm : abound mx dm top = some m) (hh : abound hi dh m = some h) (hl : abound lo 0 h = some l) (hc : top ≤ cap) :
    (Instr.sliceBounds isSlice len cap lo' hi' mx').run P w = .ok (l, h, m) w := by
  rcases abound_cases hmx hm with ⟨rfl, rfl⟩ | ⟨k2, i2, rfl, h2, h3, rfl⟩
  · cases mx with
    | none => cases s1
    | some _ => cases hmx
  rcases abound_cases hhi hh with ⟨rfl, rfl⟩ | ⟨k, i, rfl, h0, h1, rfl⟩
  · cases hi with
    | none => cases s2
    | some _ => cases hhi
  rcases abound_cases hlo hl with ⟨rfl, rfl⟩ | ⟨k', i', rfl, h0', h1', rfl⟩
  · simp only [Instr.sliceBounds, Sem.run_bind, Sem.run_pure, Result.andThen_ok]
    rw [sliceBound_run ⟨h2, by omega⟩]
    simp only [Result.andThen_ok]
    rw [sliceBound_run ⟨h0, h1⟩]; rfl
  · simp only [Instr.sliceBounds, Sem.run_bind, Sem.run_pure]
    rw [sliceBound_run ⟨h2, by omega⟩]
    simp only [Result.andThen_ok]
    rw [sliceBound_run ⟨h0, h1⟩]
    simp only [Result.andThen_ok]
    rw [sliceBound_run ⟨h0', h1'⟩]; rfl

/-- the bounds of a slicing of a slice: where it begins, where it ends, where it may end -/
theorem slice_bounds {len cap : Nat} {lo hi mx : Option AV} {lo' hi' mx' : Option Value} {l h m : Nat} (hlo : VRo g lo lo') (hhi : VRo g hi hi') (hmx : VRo g mx mx')
    (hs : mx.isNone = true ∨ hi.isSome = true) (hm : abound mx len len = some m) (hh : abound hi len m = some h) (hl : abound lo 0 h = some l) (hc : len ≤ cap) :
    ∃ m', (Instr.sliceBounds true len cap lo' hi' mx').run P w = .ok (l, h, m') w ∧ l ≤ h ∧ h ≤ m ∧ m ≤ len ∧ h ≤ m' ∧ m' ≤ cap ∧ (mx.isSome = true → m' = m) ∧ (mx.isNone = true → m' = cap) := by
  have h3 := abound_le hm (Nat.le_refl _)
  cases mx with
  | none =>
    cases mx' with
    | some _ => cases hmx
    | none =>
      simp only [abound, Option.some.injEq] at hm
      subst hm
      have h1 := abound_le hh (Nat.le_refl _)
      have h2 := abound_le hl (Nat.zero_le _)
      exact ⟨cap, sliceBounds_run hlo hhi hh hl hc, h2, h1, h3, by omega, Nat.le_refl _, (fun hx => by cases hx), fun _ => rfl⟩
  | some a =>
    have s2 : hi.isSome = true := by rcases hs with h | h
                                     · cases h
                                     · exact h
    have h1 : h ≤ m := by
      cases hi with
      | none => cases s2
      | some b =>
        simp only [abound] at hh
        split at hh
        · rename_i heq; cases heq
        · split at hh
          · simp only [Option.some.injEq] at hh; omega
          · cases hh
        · cases hh
    have h2 := abound_le hl (Nat.zero_le _)
    exact ⟨m, sliceBounds_run3 hlo hhi hmx rfl s2 hm hh hl hc, h2, h1, h3, h1, by omega, fun _ => rfl, (fun hx => by cases hx)⟩

theorem VR.slice_lst {k l h m' len cap : Nat} {rows : List (List AV)} {tip tip' : Tip} {ao : Option Addr} (hx : VR g (.lst k rows tip) (.slice ao len cap)) (h1 : l ≤ h) (h2 : h ≤ rows.length) (h3 : h ≤ m') (h4 : m' ≤ cap)
    (ht : tip' = .unk ∨ (tip' = .full ∧ m' = h)) : VR g (.lst k ((rows.take h).drop l) tip') (.slice (if m' = l then ao else ao.map (·.add (l * k))) (h - l) (m' - l)) := by
  cases hx with
  | @lst _ _ _ _ a _ _ xs hl hc hz ha hk hf hv _ =>
  have hlen : ((rows.take h).drop l).length = h - l := by simp; omega
  have hget : ∀ i, i < h - l → ((rows.take h).drop l).getD i [] = rows.getD (l + i) [] := by
    intro i hi
    rw [List.getD_eq_getElem?_getD, List.getD_eq_getElem?_getD, List.getElem?_drop, List.getElem?_take_of_lt (by omega)]
  have htip : ∀ (ao' : Option Addr), TipOk g tip' k ((rows.take h).drop l).length ao' (m' - l) := by
    intro ao'
    rcases ht with rfl | ⟨rfl, rfl⟩
    · trivial
    · rw [hlen]; rfl
  have hzz : (if m' = l then ao else ao.map (·.add (l * k))) = none → m' - l = 0 := by
    intro hn
    split at hn
    · omega
    · rw [Option.map_eq_none_iff] at hn
      have := hz hn; omega
  by_cases hz0 : h - l = 0
  · have hnil : (rows.take h).drop l = [] := List.eq_nil_of_length_eq_zero (by omega)
    have ht' := htip (if m' = l then ao else ao.map (·.add (l * k)))
    rw [hnil] at ht' ⊢
    exact .lst (a := a) (xs := fun _ _ => undef) (by simp; omega) (by omega) hzz (by simp) (by simp) (by intro i j hi; simp at hi) (by intro i j hi; simp at hi) ht'
  · obtain ⟨hao, hsp⟩ := ha (by omega)
    have hcap : ¬ m' = l := by omega
    have ht' := htip (if m' = l then ao else ao.map (·.add (l * k)))
    rw [if_neg hcap, hao] at ht' hzz ⊢
    refine .lst (a := a.add (l * k)) (xs := fun i j => xs (l + i) j) hlen.symm (by omega) hzz ?_ ?_ ?_ ?_ ht'
    · intro _; exact ⟨rfl, by rw [addr_add_off _ _ hsp]⟩
    · intro i hi; rw [hlen] at hi; rw [hget i hi]; exact hk _ (by omega)
    · intro i j hi hj
      rw [hlen] at hi
      have := hf (l + i) j (by omega) hj
      rw [addr_add_off _ _ hsp]
      simp only
      rw [show a.off + l * k + i * k + j = a.off + (l + i) * k + j by rw [Nat.add_mul]; omega]
      exact this
    · intro i j hi hj
      rw [hlen] at hi
      rw [hget i hi]; exact hv _ _ (by omega) hj

theorem aslice_sound {t : TypeId} {x : AV} {y : Value} {lo hi mx : Option AV} {lo' hi' mx' : Option Value} {v : AV} (hx : VR g x y) (hlo : VRo g lo lo') (hhi : VRo g hi hi')
    (hmx : VRo g mx mx') (h : aslice P t x lo hi mx = some v) : Pure1 P w g (Instr.sliceAt t y lo' hi' mx') v := by
  unfold aslice at h
  split at h
  · have := hx.of_v; subst this
    rename_i s
    split at h
    · rename_i hB
      have hu := isStrT_und hB.1
      have hmn : mx' = none := by
        cases mx with
        | none => cases mx' with
          | none => rfl
          | some _ => cases hmx
        | some _ => simp at hB
      subst hmn
      cases hh : abound hi s.size s.size with
      | none => rw [hh] at h; cases h
      | some hn =>
        rw [hh] at h
        simp only [Option.bind_some] at h
        cases hl : abound lo 0 hn with
        | none => rw [hl] at h; cases h
        | some l =>
          rw [hl] at h
          simp only [Option.map_some, Option.some.injEq] at h; subst h
          refine ⟨.string (s.extract l hn), ?_, .v⟩
          simp only [Instr.sliceAt, Sem.run_bind, run_underlying' hu, Result.andThen_ok]
          simp only [Instr.slice, Sem.run_bind, run_underlying' hu, Result.andThen_ok, Option.isSome_none, Bool.false_eq_true, if_false, Sem.run_pure]
          rw [sliceBounds_run hlo hhi hh hl (Nat.le_refl _)]
          rfl
    · cases h
  · have := hx.of_v; subst this
    split at h
    · rename_i e he
      have hu := elOf_und he
      split at h
      · rename_i hB
        cases hm : abound mx 0 0 with
        | none => rw [hm] at h; cases h
        | some m =>
          rw [hm] at h
          simp only [Option.bind_some] at h
          cases hh : abound hi 0 m with
          | none => rw [hh] at h; cases h
          | some hn =>
            rw [hh] at h
            simp only [Option.bind_some] at h
            cases hl : abound lo 0 hn with
            | none => rw [hl] at h; cases h
            | some l =>
              rw [hl] at h
              simp only [Option.map_some, Option.some.injEq] at h; subst h
              obtain ⟨m', hr, q1, q2, q3, q4, q5, _, _⟩ := slice_bounds (P := P) (w := w) hlo hhi hmx hB.2 hm hh hl (Nat.le_refl _)
              have : l = 0 := by omega
              subst this
              have : hn = 0 := by omega
              subst this
              have : m' = 0 := by omega
              subst this
              cases hs : szOf P e with
              | none => rw [hs] at hB; simp at hB
              | some sz =>
              refine ⟨.slice none 0 0, ?_, .v⟩
              simp only [Instr.sliceAt, Sem.run_bind, run_underlying' hu, Result.andThen_ok]
              simp only [Instr.slice, Sem.run_bind, run_underlying' hu, Result.andThen_ok]
              rw [hr]
              simp only [Result.andThen_ok, run_sizeOf' hs, Sem.run_pure, if_true]
      · cases h
    · cases h
  · rename_i k rows tip
    split at h
    · rename_i e he
      have hu := elOf_und he
      split at h
      · rename_i hk
        obtain ⟨hs, hkp, hB⟩ := hk
        have hx0 := hx
        cases hx with
        | @lst _ _ _ ao a len cap xs hl hc hz ha hk hf hv ht =>
        cases hm : abound mx rows.length rows.length with
        | none => rw [hm] at h; cases h
        | some m =>
          rw [hm] at h
          simp only [Option.bind_some] at h
          cases hh : abound hi rows.length m with
          | none => rw [hh] at h; cases h
          | some hn =>
            rw [hh] at h
            simp only [Option.bind_some] at h
            cases hl2 : abound lo 0 hn with
            | none => rw [hl2] at h; cases h
            | some l =>
              rw [hl2] at h
              simp only [Option.map_some, Option.some.injEq] at h; subst h
              obtain ⟨m', hr, q1, q2, q3, q4, q5, q6, q7⟩ := slice_bounds (P := P) (w := w) hlo hhi hmx hB hm hh hl2 (by omega : rows.length ≤ cap)
              refine ⟨.slice (if m' = l then ao else ao.map (·.add (l * k))) (hn - l) (m' - l), ?_, hx0.slice_lst q1 (by omega) q4 q5 ?_⟩
              · simp only [Instr.sliceAt, Sem.run_bind, run_underlying' hu, Result.andThen_ok]
                simp only [Instr.slice, Sem.run_bind, run_underlying' hu, Result.andThen_ok]
                rw [hl, hr]
                simp only [Result.andThen_ok, run_sizeOf' hs, Sem.run_pure]
              · unfold sltip
                split
                · split
                  · rename_i heq
                    exact .inr ⟨rfl, by have := q6 rfl; omega⟩
                  · exact .inl rfl
                · split
                  · have hcap : cap = rows.length := ht
                    have h5 := q7 rfl
                    simp only [abound, Option.some.injEq] at hm hh
                    exact .inr ⟨rfl, by omega⟩
                  · exact .inl rfl
      · cases h
    · cases h
  · rename_i k n o len
    split at h
    · rename_i e he
      have hu := elOf_und he
      split at h
      · rename_i hk
        obtain ⟨hs, hB⟩ := hk
        cases hx with
        | @sl _ _ _ _ cap b hm0 hc hS =>
        cases hm : abound mx len len with
        | none => rw [hm] at h; cases h
        | some m =>
          rw [hm] at h
          simp only [Option.bind_some] at h
          cases hh : abound hi len m with
          | none => rw [hh] at h; cases h
          | some hn =>
            rw [hh] at h
            simp only [Option.bind_some] at h
            cases hl2 : abound lo 0 hn with
            | none => rw [hl2] at h; cases h
            | some l =>
              rw [hl2] at h
              simp only [Option.map_some, Option.some.injEq] at h; subst h
              obtain ⟨m', hr, q1, q2, q3, q4, q5, q6, q7⟩ := slice_bounds (P := P) (w := w) hlo hhi hmx hB hm hh hl2 hc
              refine ⟨.slice (if m' = l then some ⟨b, o, none⟩ else (some ⟨b, o, none⟩ : Option Addr).map (·.add (l * k))) (hn - l) (m' - l), ?_, ?_⟩
              · simp only [Instr.sliceAt, Sem.run_bind, run_underlying' hu, Result.andThen_ok]
                simp only [Instr.slice, Sem.run_bind, run_underlying' hu, Result.andThen_ok]
                rw [hr]
                simp only [Result.andThen_ok, run_sizeOf' hs, Sem.run_pure]
              · split
                · exact .any
                · rename_i hms
                  have hmn : mx.isNone = true := by cases mx <;> simp_all
                  have := q7 hmn; subst this
                  split
                  · rename_i hl0; subst hl0
                    have e0 : (if m' = 0 then some (⟨b, o, none⟩ : Addr) else (some ⟨b, o, none⟩ : Option Addr).map (·.add (0 * k))) = some ⟨b, o, none⟩ := by
                      split
                      · rfl
                      · simp [Addr.add]
                    rw [e0]
                    exact .sl hm0 (by omega) hS
                  · split
                    · rename_i hlt
                      rw [if_neg (by omega)]
                      simp only [Option.map_some]
                      rw [addr_add_off _ _ rfl]
                      refine .sl hm0 (by omega) ?_
                      rw [hS]
                      simp only [Option.some.injEq]
                      have : m' * k = l * k + (m' - l) * k := by rw [← Nat.add_mul]; congr 1; omega
                      omega
                    · exact .lst (a := ⟨b, o, none⟩) (xs := fun _ _ => undef) (by simp; omega) (by omega) (by intro hn'; split at hn' <;> cases hn') (by simp) (by simp) (by intro i j hi; simp at hi) (by intro i j hi; simp at hi) trivial
      · cases h
    · cases h
  · cases h

theorem arrOf_und {t e : TypeId} {n : Nat} (h : arrOf P t = some (n, e)) : P.underlying t = some (.array n e) := by
  unfold arrOf at h
  split at h
  · simp only [Option.some.injEq, Prod.mk.injEq] at h; obtain ⟨rfl, rfl⟩ := h; assumption
  · cases h

theorem aindex_sound {H : AH} (hw : WR g H w) {t : TypeId} {x i : AV} {y z : Value} {v : AV} (hx : VR g x y) (hi : VR g i z) (h : aindex P t x i = some v) :
    Pure1 P w g (Instr.indexAt t y z) v := by
  unfold aindex at h
  split at h
  · have := hi.of_v; subst this
    rename_i kk n
    split at h
    · rename_i e k rows tip he
      have hu := elOf_und he
      split at h
      · rename_i hc
        obtain ⟨hs, h0, h1⟩ := hc
        simp only [Option.some.injEq] at h; subst h
        cases hx with
        | @lst _ _ _ ao a len cap xs hl hcap _ ha hk hf hv ht =>
        obtain ⟨hao, hsp⟩ := ha (by omega)
        have hn : n.toNat < rows.length := by omega
        refine ⟨.pointer (some (a.add (n.toNat * k))), ?_, ?_⟩
        · subst hao
          simp only [Instr.indexAt, asIntOf, Sem.run_bind, Sem.run_pure, Result.andThen_ok, run_underlying' hu]
          rw [if_pos ⟨h0, by rw [hl]; exact h1⟩]
          simp only [Sem.run_bind, run_sizeOf' hs, Result.andThen_ok, Sem.run_pure]
        · refine .box (xs := xs n.toNat) (by rw [addr_add_off _ _ hsp]) (fun j hj => ?_) (fun j hj => ?_)
          · rw [addr_add_off _ _ hsp]; exact hf _ _ hn (by rw [hk _ hn] at hj; exact hj)
          · exact hv _ _ hn (by rw [hk _ hn] at hj; exact hj)
      · cases h
    · rename_i s k n' o len he
      have hu := elOf_und he
      split at h
      · rename_i hc
        obtain ⟨hs, hc⟩ := hc
        simp only [Option.some.injEq] at h; subst h
        cases hx with
        | @sl _ _ _ _ cap b hb hcap =>
        refine ⟨.pointer (some ⟨b, o + n.toNat * k, none⟩), ?_, .ptr hb⟩
        simp only [Instr.indexAt, asIntOf, Sem.run_bind, Sem.run_pure, Result.andThen_ok, run_underlying' hu]
        rw [if_pos hc]
        simp only [Sem.run_bind, run_sizeOf' hs, Result.andThen_ok, Sem.run_pure]
        rw [addr_add_off _ _ rfl]
      · cases h
    · rename_i k _
      have hy := hx.of_v; subst hy
      unfold aglob at h
      split at h
      · rename_i m e ha
        have hu := arrOf_und ha
        split at h
        · rename_i hc
          obtain ⟨hs, hc⟩ := hc
          cases hg : gCell k n.toNat with
          | none => rw [hg] at h; cases h
          | some c =>
            rw [hg] at h; simp only [Option.map_some, Option.some.injEq] at h; subst h
            refine ⟨.pointer (some ⟨k, n.toNat, .none⟩), ?_, ?_⟩
            · simp only [Instr.indexAt, asIntOf, Sem.run_bind, Sem.run_pure, Result.andThen_ok, run_underlying' hu, Instr.sureAddr]
              rw [if_pos hc]
              simp only [Sem.run_bind, run_sizeOf' hs, Result.andThen_ok, Sem.run_pure]
              rw [addr_add_off _ _ rfl]; simp
            · refine .box (xs := fun _ => c) rfl (fun j hj => ?_) (fun j hj => ?_)
              · have : j = 0 := by simpa using hj
                subst this; exact hw.gz _ _ _ hg
              · have : j = 0 := by simpa using hj
                subst this; exact .v
        · cases h
      · cases h
    · cases h
  · cases h

theorem asindex_sound {t : TypeId} {x i : AV} {y z : Value} {v : AV} (hx : VR g x y) (hi : VR g i z) (h : asindex P t x i = some v) :
    Pure1 P w g (Instr.index t y z) v := by
  unfold asindex at h
  split at h
  · have := hi.of_v; subst this; have := hx.of_v; subst this
    rename_i s kk n
    split at h
    · rename_i hc
      have hu := isStrT_und hc.1
      cases hb : s[n.toNat]? with
      | none => rw [hb] at h; cases h
      | some b =>
        rw [hb] at h; simp only [Option.map_some, Option.some.injEq] at h; subst h
        refine ⟨_, ?_, .v⟩
        simp only [Instr.index, asIntOf, Sem.run_bind, Sem.run_pure, Result.andThen_ok, run_underlying' hu]
        rw [if_pos hc.2, hb]; rfl
    · cases h
  · cases h

theorem len_run_slice {t e : TypeId} {ts : Array TypeId} {ty : TypeId} {a : Option Addr} {n c : Nat} (ht : ts[0]? = some t) (hu : P.underlying t = some (.slice e)) :
    (Builtin.len_ ts ty #[.slice a n c]).run P w = .ok (.int .i64 n) w := by
  simp [Builtin.len_, ht, run_underlying' hu, goInt]

theorem alen_sound {t : TypeId} {ts : Array TypeId} {ty : TypeId} {x : AV} {y : Value} {v : AV} (hx : VR g x y) (ht : ts[0]? = some t) (h : alen P t x = some v) :
    Pure1 P w g (Builtin.len_ ts ty #[y]) v := by
  unfold alen at h
  split at h
  · have := hx.of_v; subst this
    split at h
    · rename_i hB
      simp only [Option.some.injEq] at h; subst h
      exact ⟨_, by simp [Builtin.len_, ht, run_underlying' (isStrT_und hB), goInt], .v⟩
    · cases h
  · have := hx.of_v; subst this
    cases he : elOf P t with
    | none => rw [he] at h; cases h
    | some e =>
      rw [he] at h; simp only [Option.map_some, Option.some.injEq] at h; subst h
      exact ⟨_, by simp [Builtin.len_, ht, run_underlying' (elOf_und he), goInt], .v⟩
  · cases he : elOf P t with
    | none => rw [he] at h; cases h
    | some e =>
      rw [he] at h; simp only [Option.map_some, Option.some.injEq] at h; subst h
      cases hx with
      | lst hl =>
      exact ⟨_, len_run_slice ht (elOf_und he), by rw [hl]; exact .v⟩
  · cases he : elOf P t with
    | none => rw [he] at h; cases h
    | some e =>
      rw [he] at h; simp only [Option.map_some, Option.some.injEq] at h; subst h
      cases hx with
      | sl hb =>
      exact ⟨_, len_run_slice ht (elOf_und he), .v⟩
  · cases h

end
end Go.Proofs.YtchpcjmgifnmdaaDoor.Ab

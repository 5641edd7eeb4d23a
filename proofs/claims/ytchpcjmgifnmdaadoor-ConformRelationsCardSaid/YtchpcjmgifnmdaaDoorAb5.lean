/- The operations that leave the owned blocks alone: soundness of the pure ones. -/
import Derived.Test.YtchpcjmgifnmdaaDoorAb4
import Derived.Laws.StructEq
namespace Go.Proofs.YtchpcjmgifnmdaaDoor.Ab
open Go

theorem VR.of_v {g : G} {x y : Value} (h : VR g (.v x) y) : y = x := by cases h; rfl

section
variable {P : Program} {w : World} {g : G}

/-- a pure operation: a value, the world as it was -/
def Pure1 (P : Program) (w : World) (g : G) (s : Sem Value) (v : AV) : Prop := ∃ x, s.run P w = .ok x w ∧ VR g v x

theorem intArith_run {t : TypeId} {op : BinOp} {k : IntKind} {m n : Int} {v : Value} (h : aint op k m n = some v) (hs : op ≠ .shl) (hs' : op ≠ .shr) :
    (binOp op t (.int k m) (.int k n)).run P w = .ok v w := by
  cases op <;> simp only [aint, Option.some.injEq] at h <;> first
    | (exact absurd rfl hs)
    | (exact absurd rfl hs')
    | (subst h; simp [binOp, Op.intArith, Op.intBits, Op.intCmp]; done)
    | (split at h
       · cases h
       · rename_i hy; simp only [Option.some.injEq] at h; subst h; simp [binOp, Op.intDiv, hy]; done)
    | cases h

theorem eqGuard_int {t : TypeId} {op : BinOp} {x y : Operand} {k k' : IntKind} {m n : Int} : (eqGuard op t x y (.int k m) (.int k' n)).run P w = .ok () w := by
  cases op <;> simp [eqGuard]
theorem eqGuard_str {t : TypeId} {op : BinOp} {x y : Operand} {m n : ByteArray} : (eqGuard op t x y (.string m) (.string n)).run P w = .ok () w := by
  cases op <;> simp [eqGuard]
theorem eqGuard_bool {t : TypeId} {op : BinOp} {x y : Operand} {m n : Bool} : (eqGuard op t x y (.bool m) (.bool n)).run P w = .ok () w := by
  cases op <;> simp [eqGuard]
theorem eqGuard_ptr {t : TypeId} {op : BinOp} {x y : Operand} {a b : Option Addr} : (eqGuard op t x y (.pointer a) (.pointer b)).run P w = .ok () w := by
  cases op <;> simp [eqGuard]
theorem eqGuard_ifc {t : TypeId} {op : BinOp} {x y : Operand} {u : TypeId} {z : Value} : (eqGuard op t x y (.iface u z) .nilIface).run P w = .ok () w := by
  cases op <;> simp [eqGuard]

theorem isBoolT_und {t : TypeId} (h : isBoolT P t = true) : P.underlying t = some .bool := by
  unfold isBoolT at h
  split at h
  · assumption
  · cases h
theorem isStrT_und {t : TypeId} (h : isStrT P t = true) : P.underlying t = some .string := by
  unfold isStrT at h
  split at h
  · assumption
  · cases h
theorem isPtrT_und {t : TypeId} (h : isPtrT P t = true) : ∃ e, P.underlying t = some (.pointer e) := by
  unfold isPtrT at h
  split at h
  · exact ⟨_, by assumption⟩
  · cases h
theorem isIfc_und {t : TypeId} (h : isIfc P t = true) : ∃ e, P.underlying t = some (.interface e) := by
  unfold isIfc at h
  split at h
  · exact ⟨_, by assumption⟩
  · cases h
theorem elOf_und {t e : TypeId} (h : elOf P t = some e) : P.underlying t = some (.slice e) := by
  unfold elOf at h
  split at h
  · simp only [Option.some.injEq] at h; subst h; assumption
  · cases h
theorem intT_und {t : TypeId} {k : IntKind} (h : intT P t = some k) : P.underlying t = some (.int k) := by
  unfold intT at h
  split at h
  · simp only [Option.some.injEq] at h; subst h; assumption
  · cases h

theorem equal_unfold (t : TypeId) (x y : Value) : ∃ d, Op.equal t x y = Op.equalIn (d + 1) t x y := ⟨9999, rfl⟩
theorem equal_bool {t : TypeId} (hu : P.underlying t = some .bool) (a b : Bool) : (Op.equal t (.bool a) (.bool b)).run P w = .ok (a == b) w := by
  obtain ⟨d, e⟩ := equal_unfold t (.bool a) (.bool b)
  rw [e]; simp only [Op.equalIn, Sem.run_bind, run_underlying' hu, Result.andThen_ok, Sem.run_pure]
theorem equal_ptr_nil {t e : TypeId} (hu : P.underlying t = some (.pointer e)) (a : Addr) : (Op.equal t (.pointer (some a)) (.pointer none)).run P w = .ok false w := by
  obtain ⟨d, e⟩ := equal_unfold t (.pointer (some a)) (.pointer none)
  rw [e]; simp only [Op.equalIn, Sem.run_bind, run_underlying' hu, Result.andThen_ok, Sem.run_pure]
theorem equal_nil_nil {t e : TypeId} (hu : P.underlying t = some (.pointer e)) : (Op.equal t (.pointer none) (.pointer none)).run P w = .ok true w := by
  obtain ⟨d, e⟩ := equal_unfold t (.pointer none) (.pointer none)
  rw [e]; simp only [Op.equalIn, Sem.run_bind, run_underlying' hu, Result.andThen_ok, Sem.run_pure, Option.isNone_none]
theorem equal_ifc_nil {t : TypeId} {ms : Array (String × TypeId)} (hu : P.underlying t = some (.interface ms)) (u : TypeId) (z : Value) : (Op.equal t (.iface u z) .nilIface).run P w = .ok false w := by
  obtain ⟨d, e⟩ := equal_unfold t (.iface u z) .nilIface
  rw [e]; simp only [Op.equalIn, Sem.run_bind, run_underlying' hu, Result.andThen_ok, Sem.run_pure]
theorem equal_nilifc {t : TypeId} {ms : Array (String × TypeId)} (hu : P.underlying t = some (.interface ms)) : (Op.equal t .nilIface .nilIface).run P w = .ok true w := by
  obtain ⟨d, e⟩ := equal_unfold t .nilIface .nilIface
  rw [e]; simp only [Op.equalIn, Sem.run_bind, run_underlying' hu, Result.andThen_ok, Sem.run_pure]

theorem equal_slice {t e : TypeId} (hu : P.underlying t = some (.slice e)) (a : Option Addr) (l c l' c' : Nat) : (Op.equal t (.slice a l c) (.slice none l' c')).run P w = .ok a.isNone w := by
  obtain ⟨d, e⟩ := equal_unfold t (.slice a l c) (.slice none l' c')
  rw [e]; cases a <;> simp only [Op.equalIn, Sem.run_bind, run_underlying' hu, Result.andThen_ok, Sem.run_pure, Option.isNone_none, Option.isNone_some]
theorem eqGuard_slice {t : TypeId} {op : BinOp} {x y : Operand} {a b : Option Addr} {l c l' c' : Nat} : (eqGuard op t x y (.slice a l c) (.slice b l' c')).run P w = .ok () w := by
  cases op <;> simp [eqGuard]

theorem aeq0_sound {d : Nat} {t : TypeId} {a b : AV} {x y : Value} {r : Bool} (ha : VR g a x) (hb : VR g b y) (h : aeq0 P t a b = some r) : (Op.equalIn (d + 1) t x y).run P w = .ok r w := by
  unfold aeq0 at h
  split at h
  · have := ha.of_v; subst this; have := hb.of_v; subst this
    split at h
    · rename_i hc
      simp only [Option.some.injEq] at h; subst h
      obtain ⟨rfl, hk⟩ := hc
      cases hi : intT P t with
      | none => rw [hi] at hk; cases hk
      | some k' => exact run_equalIn_int w d t _ k' _ _ (intT_und hi)
    · cases h
  · have := ha.of_v; subst this; have := hb.of_v; subst this
    split at h
    · rename_i hc
      simp only [Option.some.injEq] at h; subst h
      exact run_equalIn_bool' w d t _ _ (isBoolT_und hc)
    · cases h
  · have := ha.of_v; subst this; have := hb.of_v; subst this
    split at h
    · rename_i hc
      simp only [Option.some.injEq] at h; subst h
      rw [run_equalIn_string w d t _ _ (isStrT_und hc), beq_toListBytes]
    · cases h
  · cases h

theorem aeqL_sound {d : Nat} {q0 : TypeId → AV → AV → Option Bool} (hq0 : ∀ (t : TypeId) (a b : AV) (x y : Value) (r : Bool), VR g a x → VR g b y → q0 t a b = some r → (Op.equalIn (d + 1) t x y).run P w = .ok r w) {cs ds : List AV} {xs ys : Array Value} (hc : VRs g cs xs) (hd : VRs g ds ys) : ∀ (fs : List Field) (r : Bool), (∀ f ∈ fs, f.name ≠ "_") → aeqL q0 P cs ds (fs.map fun f => (f.type, f.offset)) = some r →
    (Op.eqFields (d + 1) xs ys fs).run P w = .ok r w
  | [], r, _, h => by simp only [List.map_nil, aeqL, Option.some.injEq] at h; subst h; rfl
  | f :: fs, r, hnm, h => by
    have hn : f.name ≠ "_" := hnm f (by simp)
    simp only [List.map_cons] at h
    unfold aeqL at h
    split at h
    · rename_i a b h1 h2
      split at h
      · rename_i p q h3 h4
        simp only [Option.some.injEq] at h; subst h
        obtain ⟨x, e1, v1⟩ := apart_sound (P := P) (w := w) hc h1
        obtain ⟨y, e2, v2⟩ := apart_sound (P := P) (w := w) hd h2
        have e3 := hq0 _ _ _ _ _ _ v1 v2 h3
        have ih := aeqL_sound hq0 hc hd fs q (fun f hf => hnm f (by simp [hf])) h4
        simp only at e1 e2 e3
        simp only [Op.eqFields, ne_eq, hn, not_false_eq_true, if_true, Sem.run_bind, e1, e2, e3, Result.andThen_ok, Sem.run_ite]
        cases p
        · simp
        · simpa using ih
      · cases h
    · cases h

theorem eqS_sound {d : Nat} {q0 : TypeId → AV → AV → Option Bool} (hq0 : ∀ (t : TypeId) (a b : AV) (x y : Value) (r : Bool), VR g a x → VR g b y → q0 t a b = some r → (Op.equalIn (d + 1) t x y).run P w = .ok r w) {t : TypeId} {cs ds : List AV} {xs ys : Array Value} {r : Bool} (hc : VRs g cs xs) (hd : VRs g ds ys) (h : (eqFs P t).bind (aeqL q0 P cs ds) = some r) :
    (∀ op x y, (eqGuard op t x y (.agg xs) (.agg ys)).run P w = .ok () w) ∧ (Op.equalIn (d + 1 + 1) t (.agg xs) (.agg ys)).run P w = .ok r w := by
  cases hq : eqFs P t with
  | none => rw [hq] at h; cases h
  | some fl =>
  rw [hq] at h
  simp only [Option.bind_some] at h
  unfold eqFs at hq
  split at hq
  · rename_i fs hu
    split at hq
    · cases hq
    · rename_i hb
      simp only [Option.some.injEq] at hq; subst hq
      simp only [Bool.or_eq_true, not_or, Bool.not_eq_true] at hb
      refine ⟨fun op x y => run_eqGuard_agg w op t x y xs ys hb.1.2, ?_⟩
      have hf : P.fieldsOf t = fs := by simp [Program.fieldsOf, hu]
      rw [run_equalIn_struct w (d + 1) t xs ys (by rw [hf]; exact hu) hb.1.1, hf]
      have hnm : ∀ f ∈ fs.toList, f.name ≠ "_" := by
        intro f hf' he
        have := List.any_eq_false.mp hb.2 f hf'
        simp [he] at this
      exact aeqL_sound hq0 hc hd _ _ hnm h
  · cases hq
theorem aeq1_sound {d : Nat} {t : TypeId} {a b : AV} {x y : Value} {r : Bool} (ha : VR g a x) (hb : VR g b y) (h : aeq1 P t a b = some r) : (Op.equalIn (d + 1 + 1) t x y).run P w = .ok r w := by
  unfold aeq1 at h
  split at h
  · cases ha with
    | agg q1 q2 => cases hb with
      | agg q3 q4 => exact (eqS_sound (d := d) (fun t a b x y r h1 h2 h3 => aeq0_sound h1 h2 h3) ⟨q1, q2⟩ ⟨q3, q4⟩ h).2
  · exact aeq0_sound ha hb h
theorem aeqS_sound {t : TypeId} {cs ds : List AV} {xs ys : Array Value} {r : Bool} (hc : VRs g cs xs) (hd : VRs g ds ys) (h : aeqS P t cs ds = some r) :
    (∀ op x y, (eqGuard op t x y (.agg xs) (.agg ys)).run P w = .ok () w) ∧ (Op.equal t (.agg xs) (.agg ys)).run P w = .ok r w :=
  eqS_sound (d := 9998) (fun _ _ _ _ _ _ h1 h2 h3 => aeq1_sound (d := 9997) h1 h2 h3) hc hd h

theorem abinop_sound {op : BinOp} {t : TypeId} {x y : Operand} {a b : AV} {p q : Value} {v : AV} (ha : VR g a p) (hb : VR g b q)
    (h : abinop P op t x y a b = some v) :
    Pure1 P w g (do eqGuard op t x y p q; binOp op t p q) v := by
  unfold abinop at h
  split at h
  · -- ints
    have := ha.of_v; subst this; have := hb.of_v; subst this
    rename_i k m k' n
    split at h
    · split at h
      · cases h
      · rename_i hn; simp only [Option.some.injEq] at h; subst h
        exact ⟨_, by simp [eqGuard_int, binOp, Op.shift, hn], .v⟩
    · split at h
      · cases h
      · rename_i hn; simp only [Option.some.injEq] at h; subst h
        exact ⟨_, by simp [eqGuard_int, binOp, Op.shift, hn], .v⟩
    · rename_i h1 h2
      split at h
      · rename_i hk; subst hk
        cases hv : aint op k m n with
        | none => rw [hv] at h; cases h
        | some r =>
          rw [hv] at h; simp only [Option.map_some, Option.some.injEq] at h; subst h
          exact ⟨r, by simp only [Sem.run_bind, eqGuard_int, Result.andThen_ok]; exact intArith_run hv h1 h2, .v⟩
      · cases h
  · have := ha.of_v; subst this; have := hb.of_v; subst this
    rename_i m n
    cases hv : astr op m n with
    | none => rw [hv] at h; cases h
    | some r =>
      rw [hv] at h; simp only [Option.map_some, Option.some.injEq] at h; subst h
      refine ⟨r, ?_, .v⟩
      cases op <;> simp only [astr] at hv <;> first
        | (split at hv
           · cases hv
           · rename_i hn; simp only [Option.some.injEq] at hv; subst hv; simp only [Sem.run_bind, eqGuard_str, Result.andThen_ok]; simp only [binOp, Op.stringOp]; rw [if_neg hn]; rfl)
        | (simp only [Option.some.injEq] at hv; subst hv; simp only [Sem.run_bind, eqGuard_str, Result.andThen_ok]; rfl)
        | cases hv
  · have := ha.of_v; subst this; have := hb.of_v; subst this
    split at h
    · rename_i hB
      have hu := isBoolT_und hB
      cases op <;> simp only [Option.some.injEq] at h <;> first
        | (subst h; exact ⟨_, by simp [eqGuard_bool, binOp, equal_bool hu], .v⟩)
        | (cases h; done)
    · cases h
  · obtain ⟨ad, rfl, _⟩ : ∃ ad, p = .pointer (some ad) ∧ True := by cases ha; exact ⟨_, rfl, trivial⟩
    have := hb.of_v; subst this
    split at h
    · rename_i hB
      obtain ⟨e, hu⟩ := isPtrT_und hB
      cases op <;> simp only [Option.some.injEq] at h <;> first
        | (subst h; exact ⟨_, by simp [eqGuard_ptr, binOp, equal_ptr_nil hu], .v⟩)
        | (cases h; done)
    · cases h
  · obtain ⟨ad, rfl, _⟩ : ∃ ad, p = .pointer (some ad) ∧ True := by cases ha; exact ⟨_, rfl, trivial⟩
    have := hb.of_v; subst this
    split at h
    · rename_i hB
      obtain ⟨e, hu⟩ := isPtrT_und hB
      cases op <;> simp only [Option.some.injEq] at h <;> first
        | (subst h; exact ⟨_, by simp [eqGuard_ptr, binOp, equal_ptr_nil hu], .v⟩)
        | (cases h; done)
    · cases h
  · have := ha.of_v; subst this; have := hb.of_v; subst this
    split at h
    · rename_i hB
      obtain ⟨e, hu⟩ := isPtrT_und hB
      cases op <;> simp only [Option.some.injEq] at h <;> first
        | (subst h; exact ⟨_, by simp [eqGuard_ptr, binOp, equal_nil_nil hu], .v⟩)
        | (cases h; done)
    · cases h
  · obtain ⟨u, z, rfl⟩ : ∃ u z, p = .iface u z := by cases ha; exact ⟨_, _, rfl⟩
    have := hb.of_v; subst this
    split at h
    · rename_i hB
      obtain ⟨e, hu⟩ := isIfc_und hB
      cases op <;> simp only [Option.some.injEq] at h <;> first
        | (subst h; exact ⟨_, by simp [eqGuard_ifc, binOp, equal_ifc_nil hu], .v⟩)
        | (cases h; done)
    · cases h
  · have := ha.of_v; subst this; have := hb.of_v; subst this
    split at h
    · rename_i hB
      simp only [Bool.and_eq_true] at hB
      obtain ⟨hB, hc⟩ := hB
      obtain ⟨e, hu⟩ := isIfc_und hB
      have hg : ∀ op', (eqGuard op' t x y .nilIface .nilIface).run P w = .ok () w := by
        intro op'
        cases op' <;> simp only [eqGuard] <;> first
          | rfl
          | (cases x <;> cases y <;> first | rfl | (simp [isConstO] at hc; done))
      cases op <;> simp only [Option.some.injEq] at h <;> first
        | (subst h; exact ⟨_, by simp [hg, binOp, equal_nilifc hu], .v⟩)
        | (cases h; done)
    · cases h
  · have := ha.of_v; subst this; have := hb.of_v; subst this
    split at h
    · rename_i hB
      cases he : elOf P t with
      | none => rw [he] at hB; cases hB
      | some e =>
        have hu := elOf_und he
        cases op <;> simp only [Option.some.injEq] at h <;> first
          | (subst h; exact ⟨_, by simp [eqGuard_slice, binOp, equal_slice hu], .v⟩)
          | (cases h; done)
    · cases h
  · have := hb.of_v; subst this
    split at h
    · rename_i hB
      cases ha with
      | @lst _ _ _ ao a len cap xs hl hc hz hao hk hf hx ht =>
      have hao' : ao.isNone = false := by
        rcases hB.2 with h1 | h1
        · rw [(hao h1).1]; rfl
        · subst h1
          cases ao with
          | none => exact absurd rfl ht
          | some _ => rfl
      cases he : elOf P t with
      | none => rw [he] at hB; cases hB.1
      | some e =>
        have hu := elOf_und he
        cases op <;> simp only [Option.some.injEq] at h <;> first
          | (subst h; exact ⟨_, by simp [eqGuard_slice, binOp, equal_slice hu, hao'], .v⟩)
          | (cases h; done)
    · cases h
  · have := hb.of_v; subst this
    split at h
    · rename_i hB
      cases ha with
      | sl hm hc hS =>
      cases he : elOf P t with
      | none => rw [he] at hB; cases hB
      | some e =>
        have hu := elOf_und he
        cases op <;> simp only [Option.some.injEq] at h <;> first
          | (subst h; exact ⟨_, by simp [eqGuard_slice, binOp, equal_slice hu], .v⟩)
          | (cases h; done)
    · cases h
  · cases ha with
    | @agg _ xs hl1 hx1 =>
    cases hb with
    | @agg _ ys hl2 hx2 =>
    split at h
    · rename_i r hr
      obtain ⟨h1, h2⟩ := aeqS_sound (P := P) (w := w) ⟨hl1, hx1⟩ ⟨hl2, hx2⟩ hr
      cases op <;> simp only [Option.some.injEq] at h <;> first
        | (subst h; exact ⟨_, by simp [h1, binOp, h2], .v⟩)
        | (cases h; done)
    · cases h
  · have := hb.of_v; subst this
    cases ha with
    | @agg _ xs hl1 hx1 =>
    split at h
    · rename_i r hr
      obtain ⟨h1, h2⟩ := aeqS_sound (P := P) (w := w) ⟨hl1, hx1⟩ (VRs.map_v g _) hr
      cases op <;> simp only [Option.some.injEq] at h <;> first
        | (subst h; exact ⟨_, by simp [h1, binOp, h2], .v⟩)
        | (cases h; done)
    · cases h
  · cases h
end
end Go.Proofs.YtchpcjmgifnmdaaDoor.Ab

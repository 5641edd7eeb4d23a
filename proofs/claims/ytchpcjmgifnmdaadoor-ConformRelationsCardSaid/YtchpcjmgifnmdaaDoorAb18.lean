/- The bridge: what an argument reads as, as an abstract value; a call that returns true, as a row says it. -/
import Derived.Test.YtchpcjmgifnmdaaDoorAb17
import Derived.ProofKit
import Derived.Deep.Slices
namespace Go.Proofs.YtchpcjmgifnmdaaDoor.Ab
open Go Go.ChangeShapes Go.WideShapes Go.ChangeAt Go.RowKit Go.Deep

/-- the ghost in which all cells are frozen -/
def gAll (W : World) : G := ⟨fun b o => W.cell? ⟨b, o, .none⟩, fun _ => .none, fun _ => .none, fun _ => .none⟩

theorem gAll_wr (W : World) (hz : ∀ b o x, gCell b o = some x → W.cell? ⟨b, o, .none⟩ = some x) : WR (gAll W) AH.none W := wr_none (fun _ _ _ e => e) hz

def VRl (g : G) (as : List AV) (cs : List Value) : Prop := cs.length = as.length ∧ ∀ j, j < as.length → VR g (as.getD j .any) (cs.getD j undef)

theorem VRl.one {g : G} {a : AV} {x : Value} (h : VR g a x) : VRl g [a] [x] := ⟨rfl, fun j hj => by
  have : j = 0 := by simpa using hj
  subst this; exact h⟩

theorem VRl.append {g : G} {as bs : List AV} {xs ys : List Value} (h : VRl g as xs) (h' : VRl g bs ys) : VRl g (as ++ bs) (xs ++ ys) := by
  refine ⟨by simp [h.1, h'.1], fun j hj => ?_⟩
  simp only [List.length_append] at hj
  by_cases h1 : j < as.length
  · rw [List.getD_eq_getElem?_getD, List.getD_eq_getElem?_getD, List.getElem?_append_left h1, List.getElem?_append_left (by rw [h.1]; exact h1)]
    have := h.2 j h1
    rwa [List.getD_eq_getElem?_getD, List.getD_eq_getElem?_getD] at this
  · rw [List.getD_eq_getElem?_getD, List.getD_eq_getElem?_getD, List.getElem?_append_right (by omega), List.getElem?_append_right (by rw [h.1]; omega), h.1]
    have := h'.2 (j - as.length) (by omega)
    rwa [List.getD_eq_getElem?_getD, List.getD_eq_getElem?_getD] at this

/-- values of a type are read as encoded ones -/
structure Rd (P : Program) (t : TypeId) {α : Type} (enc : α → List AV) (inv : α → Prop) : Prop where
  rd : ∀ {H : Type} (eh : TypeId × Value → H) (W : World) (base : Nat) (sp : Nat → Bool) (hd : Bool) (fuel : Nat) (cs : List Value) (x : DataW H × List MemPlace),
    DataW.trod eh P W base sp hd fuel t cs = some x → ∃ a, inv a ∧ VRl (gAll W) (enc a) cs

section
variable {P : Program} {t : TypeId}

theorem Rd.int {k : IntKind} (ht : P.underlying t = some (.int k)) : Rd P t (fun n : Int => [.v (.int k n)]) (fun n => k.min ≤ n ∧ n ≤ k.max) where
  rd eh W base sp hd fuel cs x h := by
    obtain ⟨n, rfl, _, hw⟩ := DataW.trod_int ht h
    simp only [Lit.wf, Bool.and_eq_true, decide_eq_true_eq] at hw
    exact ⟨n, hw, .one .v⟩

theorem Rd.bool (ht : P.underlying t = some .bool) : Rd P t (fun b : Bool => [.v (.bool b)]) (fun _ => True) where
  rd eh W base sp hd fuel cs x h := by
    obtain ⟨b, rfl, _⟩ := DataW.trod_bool ht h
    exact ⟨b, trivial, .one .v⟩

theorem Rd.str (ht : P.underlying t = some .string) : Rd P t (fun s : ByteArray => [.v (.string s)]) (fun s => s.size ≤ maxLen) where
  rd eh W base sp hd fuel cs x h := by
    obtain ⟨s, rfl, _, hs⟩ := DataW.trod_string ht h
    exact ⟨s, hs, .one .v⟩

theorem Rd.map {α β : Type} {enc : α → List AV} {inv : α → Prop} (r : Rd P t enc inv) (f : α → β) {enc' : β → List AV} {inv' : β → Prop} (he : ∀ a, enc' (f a) = enc a) (hi : ∀ a, inv a → inv' (f a)) : Rd P t enc' inv' where
  rd eh W base sp hd fuel cs x h := by
    obtain ⟨a, h1, h2⟩ := r.rd eh W base sp hd fuel cs x h
    exact ⟨f a, hi a h1, by rw [he]; exact h2⟩

theorem exists_list {α : Type} (p : Nat → α → Prop) : ∀ n, (∀ i, i < n → ∃ a, p i a) → ∃ l : List α, l.length = n ∧ ∀ i (h : i < l.length), p i l[i]
  | 0, _ => ⟨[], rfl, fun i h => by simp at h⟩
  | n + 1, h => by
    obtain ⟨l, hl, hp⟩ := exists_list p n fun i hi => h i (by omega)
    obtain ⟨a, ha⟩ := h n (by omega)
    refine ⟨l ++ [a], by simp [hl], fun i hi => ?_⟩
    by_cases h1 : i < l.length
    · rw [List.getElem_append_left h1]; exact hp i h1
    · have : i = l.length := by simp at hi; omega
      subst this
      rw [List.getElem_append_right (by omega)]
      simp only [Nat.sub_self, List.getElem_cons_zero]
      rw [hl]; exact ha

theorem cells?_get {W : World} {base : Nat} {a : Addr} {n : Nat} {cs : List Value} (h : W.cells? base a n = some cs) : cs.length = n ∧ ∀ j, j < n → W.cell? (a.add j) = cs[j]? := by
  unfold World.cells? at h
  split at h
  · have key : ∀ (l : List Nat) (cs : List Value), l.mapM (fun i => W.cell? (a.add i)) = some cs → cs.length = l.length ∧ ∀ (j i : Nat), l[j]? = some i → W.cell? (a.add i) = cs[j]? := by
      intro l
      induction l with
      | nil =>
        intro cs h
        simp only [List.mapM_nil] at h
        cases h
        exact ⟨rfl, fun j i hj => by simp at hj⟩
      | cons k l ih =>
        intro cs h
        simp only [List.mapM_cons] at h
        cases hk : W.cell? (a.add k) with
        | none => rw [hk] at h; cases h
        | some v =>
          rw [hk] at h
          cases hr : l.mapM (fun i => W.cell? (a.add i)) with
          | none => rw [hr] at h; cases h
          | some r =>
            rw [hr] at h; cases h
            obtain ⟨h1, h2⟩ := ih r hr
            refine ⟨by simp [h1], fun j i hj => ?_⟩
            cases j with
            | zero => simp only [List.getElem?_cons_zero, Option.some.injEq] at hj; subst hj; simpa using hk
            | succ j => simp only [List.getElem?_cons_succ] at hj ⊢; exact h2 j i hj
    obtain ⟨h1, h2⟩ := key _ _ h
    simp only [List.length_range] at h1
    exact ⟨h1, fun j hj => h2 j j (by simp [hj])⟩
  · cases h

theorem Rd.slice {e : TypeId} {k : Nat} {α : Type} {enc : α → List AV} {inv : α → Prop} (ht : P.underlying t = some (.slice e)) (hk : P.cellsOf e = k) (hk0 : 0 < k) (r : Rd P e enc inv) (hl : ∀ a, (enc a).length = k) :
    Rd P t (fun l : List α => [.lst k (l.map enc) .unk]) (fun l => (∀ a ∈ l, inv a) ∧ l.length ≤ maxLen) where
  rd eh W base sp hd fuel cs x h := by
    rcases open_slice ht h with ⟨rfl, _⟩ | ⟨a, len, cap, m, n, D, Pl, rfl, _, hlc, hcm, hm, _, hel⟩
    · refine ⟨[], ⟨(fun a ha => by simp at ha), Nat.zero_le _⟩, .one ?_⟩
      exact .lst (a := ⟨0, 0, .none⟩) (xs := fun _ _ => undef) rfl (Nat.le_refl _) (fun _ => rfl) (by simp) (by simp) (by intro i j hi; simp at hi) (by intro i j hi; simp at hi) trivial
    · have hlm : len ≤ m := by rw [hm]; split <;> omega
      obtain ⟨l, hll, hp⟩ := exists_list (fun i a' => inv a' ∧ ∃ cs', W.cells? base (a.add (i * k)) k = some cs' ∧ VRl (gAll W) (enc a') cs') len (fun i hi => by
        obtain ⟨cs', h1, h2⟩ := hel i (by omega)
        rw [hk] at h1
        obtain ⟨a', h3, h4⟩ := r.rd eh W base sp hd n cs' _ h2
        exact ⟨a', h3, cs', h1, h4⟩)
      refine ⟨l, ⟨fun a' ha' => ?_, by omega⟩, .one ?_⟩
      · obtain ⟨i, hi, rfl⟩ := List.getElem_of_mem ha'
        exact (hp i hi).1
      · have hsp : 0 < len → a.spot = none := fun h0 => by
          obtain ⟨_, cs', h1, _⟩ := hp 0 (by omega)
          obtain ⟨h3, h4⟩ := cells?_get h1
          have := h4 0 hk0
          rw [Nat.zero_mul, addr_add_zero, addr_add_zero, List.getElem?_eq_getElem (by omega)] at this
          exact World.cell?_spot this
        have hget : ∀ i (h : i < l.length), (l.map enc).getD i [] = enc l[i] := fun i h => by
          rw [List.getD_eq_getElem?_getD, List.getElem?_map, List.getElem?_eq_getElem h]; rfl
        have hcell : ∀ i j, i < l.length → j < k → ∃ y, (gAll W).fz a.block (a.off + i * k + j) = some y ∧ VR (gAll W) (((l.map enc).getD i []).getD j .any) y := fun i j hi hj => by
          obtain ⟨_, cs', h1, h2⟩ := hp i hi
          obtain ⟨h3, h4⟩ := cells?_get h1
          have h5 := h4 j hj
          rw [addr_add_off _ _ (hsp (by omega)), addr_add_off _ _ rfl, List.getElem?_eq_getElem (by omega)] at h5
          refine ⟨cs'[j], h5, ?_⟩
          have := h2.2 j (by rw [hl]; exact hj)
          rw [hget i hi]
          rw [List.getD_eq_getElem?_getD (l := cs'), List.getElem?_eq_getElem (by omega)] at this
          exact this
        refine .lst (a := a) (xs := fun i j => ((gAll W).fz a.block (a.off + i * k + j)).getD undef) (by simp [hll]) hlc (fun h => by cases h) (fun h0 => ⟨rfl, hsp (by simpa [hll] using h0)⟩) (fun i hi => ?_) (fun i j hi hj => ?_) (fun i j hi hj => ?_) trivial
        · simp only [List.length_map] at hi
          rw [hget i hi, hl]
        · simp only [List.length_map] at hi
          obtain ⟨y, h1, _⟩ := hcell i j hi hj
          rw [h1]; rfl
        · simp only [List.length_map] at hi
          obtain ⟨y, h1, h2⟩ := hcell i j hi hj
          rw [h1]; exact h2

structure RdF (P : Program) (total : Nat) (fs : List Field) (off : Nat) {α : Type} (enc : α → List AV) (inv : α → Prop) : Prop where
  rd : ∀ {H : Type} (eh : TypeId × Value → H) (W : World) (base : Nat) (sp : Nat → Bool) (hd : Bool) (fuel : Nat) (cs : List Value), cs.length = total →
    (∀ f ∈ fs, ∃ y, DataW.trod eh P W base sp hd fuel f.type ((cs.drop f.offset).take (P.cellsOf f.type)) = some y) → ∃ a, inv a ∧ VRl (gAll W) (enc a) (cs.drop off)

theorem RdF.nil {total : Nat} : RdF P total [] total (fun _ : Unit => []) (fun _ => True) where
  rd eh W base sp hd fuel cs hl _ := ⟨(), trivial, by rw [List.drop_eq_nil_of_le (by omega)]; exact ⟨rfl, fun j hj => by simp at hj⟩⟩

theorem RdF.cons {total off s : Nat} {f : Field} {fs : List Field} {α β : Type} {enc : α → List AV} {inv : α → Prop} {enc' : β → List AV} {inv' : β → Prop} (ho : f.offset = off) (hs : P.cellsOf f.type = s)
    (r : Rd P f.type enc inv) (rs : RdF P total fs (off + s) enc' inv') : RdF P total (f :: fs) off (fun p : α × β => enc p.1 ++ enc' p.2) (fun p => inv p.1 ∧ inv' p.2) where
  rd eh W base sp hd fuel cs hl hall := by
    obtain ⟨y, hy⟩ := hall f (by simp)
    obtain ⟨a, h1, h2⟩ := r.rd eh W base sp hd fuel _ y hy
    obtain ⟨b, h3, h4⟩ := rs.rd eh W base sp hd fuel cs hl fun g hg => hall g (by simp [hg])
    refine ⟨(a, b), ⟨h1, h3⟩, ?_⟩
    rw [ho, hs] at h2
    have e : cs.drop off = (cs.drop off).take s ++ cs.drop (off + s) := by
      rw [← List.drop_drop]; exact (List.take_append_drop s (cs.drop off)).symm
    rw [e]; exact h2.append h4

theorem Rd.struct {fs : Array Field} {fl : List Field} {total : Nat} {α : Type} {enc : α → List AV} {inv : α → Prop} (ht : P.underlying t = some (.struct fs)) (hf : fs.toList = fl) (hn : P.cellsOf t = total) (rs : RdF P total fl 0 enc inv) : Rd P t enc inv where
  rd eh W base sp hd fuel cs x h := by
    obtain ⟨xs, n, _, _, hl, hlen, hfs⟩ := DataW.trod_struct ht h
    have := rs.rd eh W base sp hd n cs (by rw [hl, hn]) fun f hfm => by
      rw [← hf] at hfm
      obtain ⟨i, hi⟩ := List.mem_iff_getElem?.mp hfm
      rw [Array.getElem?_toList] at hi
      have hi' : i < xs.length := by rw [hlen]; exact (Array.getElem?_eq_some_iff.mp hi).1
      exact ⟨xs[i], by rw [hfs i f hi, List.getElem?_eq_getElem hi']⟩
    simpa using this

/-! arguments -/
theorem arg_struct {fs : Array Field} {α : Type} {enc : α → List AV} {inv : α → Prop} {H : Type} {eh : TypeId × Value → H} {W : World} {base b0 : Nat} {r0 : Reach} {sp : Nat → Bool} {hd : Bool} {v : Value} {d : DataW H} {ps : List MemPlace} (r : Rd P t enc inv)
    (ht : P.underlying t = some (.struct fs)) (hval : Value.okWide P W r0 b0 t v) (h : DataW.Trod eh P W base sp hd t v d ps) : ∃ a, inv a ∧ VR (gAll W) (.agg (enc a)) v := by
  obtain ⟨cs, rfl, _⟩ := okWide_struct ht hval
  obtain ⟨fuel, hf⟩ := h
  obtain ⟨a, h1, h2⟩ := r.rd eh W base sp hd fuel _ _ hf
  refine ⟨a, h1, .agg (h2.1) fun j hj => ?_⟩
  have := h2.2 j hj
  rw [List.getD_eq_getElem?_getD (l := (Value.agg cs).cells.toList), Array.getElem?_toList] at this
  rw [Array.getD_eq_getD_getElem?]; exact this

theorem arg_one {α : Type} {f : α → AV} {inv : α → Prop} {H : Type} {eh : TypeId × Value → H} {W : World} {base : Nat} {sp : Nat → Bool} {hd : Bool} {v : Value} {d : DataW H} {ps : List MemPlace} (r : Rd P t (fun a => [f a]) inv)
    (h : DataW.Trod eh P W base sp hd t v d ps) (hv : v.cells = #[v]) : ∃ a, inv a ∧ VR (gAll W) (f a) v := by
  obtain ⟨fuel, hf⟩ := h
  rw [hv] at hf
  obtain ⟨a, h1, h2⟩ := r.rd eh W base sp hd fuel _ _ hf
  exact ⟨a, h1, h2.2 0 (by simp)⟩

/-- a call that returns true, of a world all of whose cells are frozen -/
theorem FCall.true {n : FuncId} {args : List AV} {xs : Array Value} {W : World} (h : FCall P n args (· = .v (.bool true))) (hx : VRs (gAll W) args xs) (hz : ∀ b o x, gCell b o = Option.some x → W.cell? ⟨b, o, .none⟩ = Option.some x := by exact fun _ _ _ h => nomatch h) :
    Calls P n xs W fun e W' => e = .returned (.bool true) ∧ Below W.heap.size W W' := by
  refine (h.2 (gAll W) xs W (gAll_wr W hz) hx).mono fun e w' hp => ?_
  obtain ⟨o, H', g', ⟨v, v', rfl, h2, h3, rfl⟩, h5, h6⟩ := hp
  refine ⟨?_, ⟨h6.str.1, h6.str.2.1, h6.str.2.2, h6.size, fun k hk => (h6.same k hk not_mods_none).1⟩⟩
  cases e with
  | returned x =>
    have := (h2 g' w' x h6.wr h5).of_v
    rw [this]
  | _ => exact h5.elim

end
end Go.Proofs.YtchpcjmgifnmdaaDoor.Ab

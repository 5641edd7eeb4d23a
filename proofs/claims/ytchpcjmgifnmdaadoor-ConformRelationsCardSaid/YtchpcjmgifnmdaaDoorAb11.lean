/- An evaluation looks at its own operands alone. -/
import Derived.Test.YtchpcjmgifnmdaaDoorAb10
import Derived.Orders
namespace Go.Proofs.YtchpcjmgifnmdaaDoor.Ab
open Go

section
variable {P : Program} {mu : List Nat} {e e' : Operand → AV} {dst : Option Nat} {H : AH}

theorem map_congr_ops {l : List Operand} (h : ∀ x ∈ l, e x = e' x) : l.map e = l.map e' := List.map_congr_left h

theorem omap_congr {x : Option Operand} (h : ∀ y ∈ x.toList, e y = e' y) : x.map e = x.map e' := by
  cases x with
  | none => rfl
  | some y => simp [h y (by simp)]

theorem acall_congr {c : Call} (h : ∀ x ∈ c.args.toList, e x = e' x) : acall P e c = acall P e' c := by
  unfold acall
  split
  · split
    · rename_i x t r hx ht; rw [h x (by rw [hx]; simp)]
    · rfl
  · split
    · rename_i x r hx; rw [h x (by rw [hx]; simp), List.map_congr_left (fun y hy => h y (by rw [hx]; simp [hy]))]
    · rfl
  · split
    · rename_i x r hx; rw [h x (by rw [hx]; simp), List.map_congr_left (fun y hy => h y (by rw [hx]; simp [hy]))]
    · rfl
  · rfl

theorem parts_congr {ps : Array (Nat × Operand)} (h : ∀ x ∈ ps.toList.map (·.2), e x = e' x) : (ps.toList.map fun p => (p.1, e p.2)) = ps.toList.map fun p => (p.1, e' p.2) :=
  List.map_congr_left fun p hp => by rw [h p.2 (List.mem_map.mpr ⟨p, hp, rfl⟩)]

theorem aflo_congr {op : Op} (h : ∀ x ∈ op.operands.toList, e x = e' x) : aflo P mu e dst op = aflo P mu e' dst op := by
  cases op <;> first | rfl | skip
  case move x => simp only [aflo]; rw [h x (by simp [Op.operands])]
  case assign x => simp only [aflo]; rw [h x (by simp [Op.operands])]
  case pick c a b => simp only [aflo]; rw [h c (by simp [Op.operands]), h a (by simp [Op.operands]), h b (by simp [Op.operands])]
  case box el x => simp only [aflo]; rw [h x (by simp [Op.operands])]
  case build t ps => simp only [aflo]; rw [parts_congr (fun x hx => h x (by simpa [Op.operands] using hx))]
  case buildSlice t n ps => simp only [aflo]; rw [parts_congr (fun x hx => h x (by simpa [Op.operands] using hx))]
  case load t a => simp only [aflo]; rw [h a (by simp [Op.operands])]
  case nilCheck x => simp only [aflo]; rw [h x (by simp [Op.operands])]
  case binOp op t x y t' => simp only [aflo]; rw [h x (by simp [Op.operands]), h y (by simp [Op.operands])]
  case unOp op t x => simp only [aflo]; rw [h x (by simp [Op.operands])]
  case convert s d x => simp only [aflo]; rw [h x (by simp [Op.operands])]
  case makeInterface t x => simp only [aflo]; rw [h x (by simp [Op.operands])]
  case typeAssert x xt t ok => simp only [aflo]; rw [h x (by simp [Op.operands])]
  case makeFunc fn fs cs =>
    simp only [aflo]
    rw [List.map_congr_left (fun y hy => h y (by simp [Op.operands, hy])), List.map_congr_left (l := cs.toList) (fun y hy => h y (by simp only [Op.operands, Array.toList_append, List.mem_append]; exact .inr hy))]
  case slice t x lo hi mx =>
    simp only [aflo]
    rw [h x (by simp [Op.operands]), omap_congr (x := lo) (fun y hy => h y (by cases lo <;> simp_all [Op.operands])), omap_congr (x := hi) (fun y hy => h y (by cases hi <;> simp_all [Op.operands])),
      omap_congr (x := mx) (fun y hy => h y (by cases mx <;> simp_all [Op.operands]))]
  case fieldAddr s x i => simp only [aflo]; rw [h x (by simp [Op.operands])]
  case field s x i => simp only [aflo]; rw [h x (by simp [Op.operands])]
  case indexAddr t x i => simp only [aflo]; rw [h x (by simp [Op.operands]), h i (by simp [Op.operands])]
  case index t x i => simp only [aflo]; rw [h x (by simp [Op.operands]), h i (by simp [Op.operands])]
  case extract t i => simp only [aflo]; rw [h t (by simp [Op.operands])]
  case call c => simp only [aflo]; exact acall_congr (fun x hx => h x (by simp only [Op.operands, Call.operands, Array.toList_append, List.mem_append]; exact .inr hx))

theorem aown_congr {op : Op} (h : ∀ x ∈ op.operands.toList, e x = e' x) : aown P mu e H dst op = aown P mu e' H dst op := by
  cases op <;> first | rfl | skip
  case load t a => simp only [aown]; rw [h a (by simp [Op.operands])]
  case store t a x => simp only [aown]; rw [h a (by simp [Op.operands]), h x (by simp [Op.operands])]
  case convert s d x => simp only [aown]; rw [h x (by simp [Op.operands])]
  case makeMap t r => cases r <;> rfl
  case lookup t m k ok => simp only [aown]; rw [h m (by simp [Op.operands]), h k (by simp [Op.operands])]
  case mapUpdate t m k x => simp only [aown]; rw [h m (by simp [Op.operands]), h k (by simp [Op.operands]), h x (by simp [Op.operands])]
  case box el x => simp only [aown, aall]; rw [h x (by simp [Op.operands])]
  case makeSlice t l c => simp only [aown, aall]; rw [h l (by simp [Op.operands]), h c (by simp [Op.operands])]
  case buildSlice t n ps => simp only [aown, aall]; rw [parts_congr (fun x hx => h x (by simpa [Op.operands] using hx))]
  case slice t x lo hi mx =>
    simp only [aown]
    rw [h x (by simp [Op.operands]), omap_congr (x := lo) (fun y hy => h y (by cases lo <;> simp_all [Op.operands])), omap_congr (x := hi) (fun y hy => h y (by cases hi <;> simp_all [Op.operands])),
      omap_congr (x := mx) (fun y hy => h y (by cases mx <;> simp_all [Op.operands]))]
  case call c =>
    simp only [aown]
    have hh : ∀ x ∈ c.args.toList, e x = e' x := fun x hx => h x (by simp only [Op.operands, Call.operands, Array.toList_append, List.mem_append]; exact .inr hx)
    unfold aocall
    split
    · split
      · rename_i s x t t' ha ht; rw [hh s (by rw [ha]; simp), hh x (by rw [ha]; simp)]
      · rfl
    · split
      · rename_i d s t ts ha ht; rw [hh d (by rw [ha]; simp), hh s (by rw [ha]; simp)]
      · rfl
    · split
      · rename_i d t ts ha ht; rw [hh d (by rw [ha]; simp)]
      · rfl
    · rfl

theorem aall_congr {op : Op} {nm : Nat} (h : ∀ x ∈ op.operands.toList, e x = e' x) : aall P mu e nm dst op = aall P mu e' nm dst op := by
  cases op <;> first | rfl | skip
  case makeMap t r => cases r <;> rfl
  case box el x => simp only [aall]; rw [h x (by simp [Op.operands])]
  case makeSlice t l c => simp only [aall]; rw [h l (by simp [Op.operands]), h c (by simp [Op.operands])]
  case buildSlice t n ps => simp only [aall]; rw [parts_congr (fun x hx => h x (by simpa [Op.operands] using hx))]

theorem callOf_congr {op : Op} (h : ∀ x ∈ op.operands.toList, e x = e' x) : callOf e op = callOf e' op := by
  cases op <;> first | rfl | skip
  case call c =>
    simp only [callOf]
    cases hc : c.callee with
    | value x =>
      simp only
      rw [h x (by simp [Op.operands, Call.operands, hc]), List.map_congr_left (fun y hy => h y (by simp only [Op.operands, Call.operands, Array.toList_append, List.mem_append]; exact .inr hy))]
    | invoke r m => rfl
    | builtin b => rfl

theorem panicOf_congr {op : Op} (h : ∀ x ∈ op.operands.toList, e x = e' x) : panicOf e op = panicOf e' op := by
  cases op <;> first | rfl | skip
  case panic x => simp only [panicOf]; rw [h x (by simp [Op.operands])]

end

/-- the slots that an operation looks at -/
def slotsOf (c : COp) : List Nat :=
  (match c.guard with | none => [] | some (d, _) => [d]) ++ c.op.operands.toList.filterMap fun | .tmp t => some t | _ => none

theorem aev_agree {f f' : AF} {c : COp} (h : ∀ s ∈ slotsOf c, f.t s = f'.t s) : ∀ x ∈ c.op.operands.toList, aev f x = aev f' x := by
  intro x hx
  cases x with
  | tmp t => exact h t (by unfold slotsOf; rw [List.mem_append]; exact .inr (List.mem_filterMap.mpr ⟨.tmp t, hx, rfl⟩))
  | _ => rfl

theorem guardC_agree {f f' : AF} {c : COp} (h : ∀ s ∈ slotsOf c, f.t s = f'.t s) : guardC f c.guard = guardC f' c.guard := by
  unfold guardC
  cases hg : c.guard with
  | none => rfl
  | some p =>
    obtain ⟨d, want⟩ := p
    simp only
    rw [h d (by simp [slotsOf, hg])]

end Go.Proofs.YtchpcjmgifnmdaaDoor.Ab

import Derived.Test.YtchomggcjicokaaAbsStep
set_option linter.unusedVariables false
set_option linter.unusedSimpArgs false
namespace Go.Abs

section
variable {P : Program} {σ : AState}

theorem aop_congr {op : Op} {ty : TypeId} {rg rg' : Regs} (h : ∀ x ∈ op.operands, aev rg x = aev rg' x) : aop P op ty rg σ = aop P op ty rg' σ := by
  have pairs : ∀ ps : Array (Nat × Operand), (∀ x ∈ ps.map (·.2), aev rg x = aev rg' x) → (ps.toList.map fun p => (p.1, aev rg p.2)) = (ps.toList.map fun p => (p.1, aev rg' p.2)) := fun ps hp =>
    List.map_congr_left fun p hm => by rw [hp p.2 (Array.mem_map.2 ⟨p, by simpa using hm, rfl⟩)]
  cases op <;> simp only [Op.operands] at h <;> simp only [aop]
  case build t ps => rw [pairs ps fun x hx => h x (by simpa using hx)]
  case buildSlice t n ps => rw [pairs ps fun x hx => h x (by simpa using hx)]
  case makeFunc fn first cap =>
    have : cap.toList.map (aev rg) = cap.toList.map (aev rg') := List.map_congr_left fun x hx => h x (Array.mem_append.2 (.inr (by simpa using hx)))
    rw [this]
  case call c =>
    have : c.args.toList.map (aev rg) = c.args.toList.map (aev rg') := List.map_congr_left fun x hx => h x (Array.mem_append.2 (.inr (by simpa using hx)))
    rw [this]
  case makeMap t r => cases r <;> simp_all
  case slice t x lo hi mx => cases lo <;> cases hi <;> cases mx <;> simp_all
  all_goals (first | rfl | (simp_all; done))

theorem acallee_congr {op : Op} {rg rg' : Regs} (h : ∀ x ∈ op.operands, aev rg x = aev rg' x) : acallee op rg = acallee op rg' := by
  unfold acallee
  split
  · rename_i f as ts
    simp only [Op.operands, Call.operands] at h
    have hf : aev rg f = aev rg' f := h f (by simp)
    have ha : as.toList.map (aev rg) = as.toList.map (aev rg') := List.map_congr_left fun x hx => h x (Array.mem_append.2 (.inr (by simpa using hx)))
    rw [hf, ha]
  · rfl

/-- what has nothing to do with the heap -/
theorem aop_pure {op : Op} {ty : TypeId} {rg : Regs} {out : Out} (hp : isPure op = true) (h : aop P op ty rg σ = some out) : out.σ = σ ∧ ∀ σ2, aop P op ty rg σ2 = some ⟨out.v, σ2, out.cs⟩ := by
  cases op <;> simp only [isPure, Bool.false_eq_true] at hp <;> simp only [aop] at h ⊢
  case move x => cases h; exact ⟨rfl, fun _ => rfl⟩
  case assign x => cases h; exact ⟨rfl, fun _ => rfl⟩
  case pick c x y => cases h
  case nilCheck x => unfold anilCheck at h ⊢; split at h <;> cases h <;> exact ⟨rfl, fun _ => rfl⟩
  case unOp op t x => unfold aunOp at h ⊢; split at h <;> cases h <;> exact ⟨rfl, fun _ => rfl⟩
  case extract x i =>
    unfold aextract at h ⊢
    split at h
    · rw [Option.map_eq_some_iff] at h
      obtain ⟨v, h1, rfl⟩ := h
      exact ⟨rfl, fun _ => by rw [h1]; rfl⟩
    · cases h
  case field t x i =>
    unfold afield at h ⊢
    split at h
    · split at h
      · split at h
        · rename_i hc; cases h; exact ⟨rfl, fun _ => by simp [*]⟩
        · cases h
      · cases h
    · cases h
  case fieldAddr t x i =>
    unfold afieldAddr at h ⊢
    split at h
    · split at h
      · split at h
        · cases h
        · rename_i hc
          split at h <;> cases h <;> exact ⟨rfl, fun _ => by simp [*]⟩
      · cases h
    · cases h
  case binOp op t x y u =>
    unfold abinOp at h ⊢
    split at h
    · cases op <;> dsimp only at h ⊢ <;> first
        | (cases h; done)
        | (rw [Option.map_eq_some_iff] at h
           obtain ⟨b, h1, rfl⟩ := h
           exact ⟨rfl, fun _ => by simp [h1]⟩)
    · cases op <;> dsimp only at h ⊢ <;> first
        | (cases h; exact ⟨rfl, fun _ => rfl⟩)
        | (split at h
           · rename_i hc; cases h; exact ⟨rfl, fun _ => by rw [if_pos hc]⟩
           · cases h)
    · cases op <;> dsimp only at h ⊢ <;> first
        | (cases h; exact ⟨rfl, fun _ => rfl⟩)
        | (cases h; done)
    · cases op <;> dsimp only at h ⊢ <;> first
        | (cases h; done)
        | (rw [Option.map_eq_some_iff] at h
           obtain ⟨b, h1, rfl⟩ := h
           exact ⟨rfl, fun _ => by simp [h1]⟩)

theorem take_app {α : Type} (a b : List α) : (a ++ b).take a.length = a := by simp

theorem aop_ext {op : Op} {ty : TypeId} {rg : Regs} {out : Out} (hp : isExt op = true) (h : aop P op ty rg σ = some out) : out.σ.take σ.length = σ := by
  cases op <;> simp only [isExt, Bool.false_eq_true] at hp <;> simp only [aop] at h
  case load t x =>
    unfold aload at h
    dsimp only at h
    repeat' (first | (cases h <;> simp <;> done) | split at h)
  case alloc t =>
    unfold aalloc at h
    rw [Option.bind_eq_some_iff] at h
    obtain ⟨z, _, h⟩ := h
    unfold abox at h
    dsimp only at h
    split at h
    · cases h; exact take_app _ _
    · cases h
  case box t x =>
    unfold abox at h
    dsimp only at h
    split at h
    · cases h; exact take_app _ _
    · cases h
  case build t ps =>
    unfold abuild at h
    rw [Option.map_eq_some_iff] at h
    obtain ⟨c, _, rfl⟩ := h
    simp
  case buildSlice t n ps =>
    unfold abuildSlice at h
    dsimp only at h
    repeat' (first | (cases h; done) | split at h)
    rw [Option.bind_eq_some_iff] at h
    obtain ⟨c, _, h⟩ := h
    split at h
    · cases h; exact take_app _ _
    · cases h
  case lookup t x k ok =>
    unfold alookup at h
    repeat' (first | (cases h <;> simp <;> done) | split at h)
  case indexAddr t x i =>
    unfold aindexAddr at h
    repeat' (first | (cases h <;> simp <;> done) | split at h)
  case index t x i =>
    unfold aindex at h
    repeat' (first | (cases h <;> simp <;> done) | split at h)
  case makeSlice t l c =>
    unfold amakeSlice at h
    split at h
    · rw [Option.bind_eq_some_iff] at h
      obtain ⟨z, _, h⟩ := h
      dsimp only at h
      split at h
      · cases h; exact take_app _ _
      · cases h
    · cases h
  case makeMap t r =>
    unfold amakeMap at h
    split at h
    · cases h; exact take_app _ _
    · cases h
  case makeInterface t x =>
    unfold amakeIface at h
    repeat' (first | (cases h <;> simp <;> done) | split at h)
  case makeFunc f a b =>
    unfold amakeFunc at h
    repeat' (first | (cases h <;> simp <;> done) | split at h)

end
end Go.Abs

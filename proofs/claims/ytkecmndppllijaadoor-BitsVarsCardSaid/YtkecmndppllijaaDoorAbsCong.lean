import Derived.Test.YtkecmndppllijaaDoorAbsStep
set_option linter.unusedVariables false
set_option linter.unusedSectionVars false
set_option linter.unusedSimpArgs false
namespace Go.Abs
variable [Glob]

section
variable {P : Program} {σ : AState}

theorem aop_congr {op : Op} {ty : TypeId} {rg rg' : Regs} (h : ∀ x ∈ op.operands, aev rg x = aev rg' x) : aop P op ty rg σ = aop P op ty rg' σ := by
  have pairs : ∀ ps : Array (Nat × Operand), (∀ x ∈ ps.map (·.2), aev rg x = aev rg' x) → (ps.toList.map fun p => (p.1, aev rg p.2)) = (ps.toList.map fun p => (p.1, aev rg' p.2)) := fun ps hp =>
    List.map_congr_left fun p hm => by rw [hp p.2 (Array.mem_map.2 ⟨p, by simpa using hm, rfl⟩)]
  cases op <;> simp only [Op.operands] at h <;> simp only [aop]
  case build t ps => rw [pairs ps fun x hx => h x (by simpa using hx)]
  case buildSlice t n ps => rw [pairs ps fun x hx => h x (by simpa using hx)]
  case makeFunc fn first cap =>
    have : cap.toList.map (aev rg) = cap.toList.map (aev rg') := List.map_congr_left fun x hx => h x (Array.mem_append.2 (.inr (by simpa using hx)))
    rw [this]
  case call c =>
    have : c.args.toList.map (aev rg) = c.args.toList.map (aev rg') := List.map_congr_left fun x hx => h x (Array.mem_append.2 (.inr (by simpa using hx)))
    rw [this]
  case makeMap t r => cases r <;> simp_all
  case slice t x lo hi mx => cases lo <;> cases hi <;> cases mx <;> simp_all
  all_goals (first | rfl | (simp_all; done))

theorem acallee_congr {op : Op} {rg rg' : Regs} (h : ∀ x ∈ op.operands, aev rg x = aev rg' x) : acallee op rg = acallee op rg' := by
  unfold acallee
  split
  · rename_i f as ts
    simp only [Op.operands, Call.operands] at h
    have hf : aev rg f = aev rg' f := h f (by simp)
    have ha : as.toList.map (aev rg) = as.toList.map (aev rg') := List.map_congr_left fun x hx => h x (Array.mem_append.2 (.inr (by simpa using hx)))
    rw [hf, ha]
  · rfl

end
end Go.Abs

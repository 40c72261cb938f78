import Derived.Test.YtkecmndppllijaaDoorAbsCode
set_option linter.unusedVariables false
set_option linter.unusedSectionVars false
set_option linter.unusedSimpArgs false
namespace Go.Abs
variable [Glob]

section
variable {N : Nat} {P : Program}

/-! ## What is done with is let go; what is kept gets new names -/

theorem TripN.move {c : Code} {rg rg' rg2 : Regs} {σ σ' σ2 : AState} {e : AExit} (h : TripN P N c rg σ e rg' σ') (m : List Bool) (π : List Nat) (hr : keepR m rg' = renL (old π) rg2)
    (hh : π.map (fun j => σ'[j]?) = σ2.map fun o => some (renO (old π) o)) (ok : okMove N π σ'.length rg2 σ2 = true) : TripN P N c rg σ e rg2 σ2 := by
  intro hn F w ρ a Q r ha hQ
  refine h hn F w ρ a Q r ha fun ρ' F' w' a' t r' ha' => ?_
  obtain ⟨t2, r2⟩ := move_rel t r' hh ok
  have hlen : π.length = σ2.length := by have := congrArg List.length hh; simpa using this
  unfold okMove at ok
  simp only [Bool.and_eq_true] at ok
  exact hQ _ _ _ _ t2 r2 (ha'.move hr (Nat.le_of_eq hlen.symm) ok.1.2)

theorem FOkN.move {f : FuncId} {as : List AVal} {σ σ' σ2 : AState} {v v2 : AVal} (h : FOkN P f as σ v σ') (π : List Nat) (hv : v = ren (old π) v2)
    (hh : π.map (fun j => σ'[j]?) = σ2.map fun o => some (renO (old π) o)) (ok : (okMove σ.length π σ'.length [v2] σ2 && (σ2.drop σ.length).all AObj.live) = true) : FOk P f as σ v2 σ2 := by
  rw [Bool.and_eq_true] at ok
  obtain ⟨ok, hlive⟩ := ok
  refine ⟨h.1, fun F w ρ args r hp => (h.2 F w ρ args r hp).mono fun e w' ⟨x, ρ', F', he, t, r', hx⟩ => ?_⟩
  obtain ⟨t2, r2⟩ := move_rel t r' hh ok
  have hlen : π.length = σ2.length := by have := congrArg List.length hh; simpa using this
  unfold okMove at ok
  simp only [Bool.and_eq_true] at ok
  have hs : inScope σ2.length v2 = true := by have := ok.1.2; simpa [inScopeL] using this
  subst hv
  refine ⟨x, _, F', he, ⟨fun id b h => ?_, t2.frz, t2.os, t2.tape, t2.output, t2.size, t2.row, t2.keep, t2.newF, fun id b h => ?_, t2.len, fun id o' h1 h2 h3 => t2.live id o' h1 h2 h3⟩, r2, move_val hx (Nat.le_of_eq hlen.symm) hs⟩
  · rcases Nat.lt_or_ge id σ.length with hl | hl
    · exact t2.map id b hl h
    · rw [r.dom id hl] at h; cases h
  · rcases Nat.lt_or_ge id σ.length with hl | hl
    · exact .inl (t2.back id b hl h)
    · refine .inr ⟨hl, ?_⟩
      rcases Nat.lt_or_ge id σ2.length with hl2 | hl2
      · have ho : σ2[id]? = some σ2[id] := List.getElem?_eq_getElem hl2
        refine t2.newρ id _ b hl ho ?_ h
        refine List.all_eq_true.1 hlive _ (List.mem_of_getElem? (i := id - σ.length) ?_)
        rw [List.getElem?_drop, show σ.length + (id - σ.length) = id by omega]; exact ho
      · rw [r2.dom id hl2] at h; cases h

theorem TripN.keep {c : Code} {rg rg' rg0 : Regs} {σ σ' : AState} {e : AExit} (h : TripN P N c rg σ e rg' σ') (m : List Bool) (hk : keepR m rg0 = rg) : TripN P N c rg0 σ e rg' σ' := by
  subst hk; exact h.imp (keepR_imp m rg0)

end
end Go.Abs

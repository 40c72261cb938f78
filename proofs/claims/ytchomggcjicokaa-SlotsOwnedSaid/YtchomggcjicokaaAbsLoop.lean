import Derived.Test.YtchomggcjicokaaAbsCode
set_option linter.unusedVariables false
set_option linter.unusedSimpArgs false
namespace Go.Abs

section
variable {N : Nat} {P : Program}

/-! ## What is done with is let go; what is kept gets new names -/
def old (π : List Nat) (i : Nat) : Nat := π.getD i 0
def okMove (n : Nat) (π : List Nat) (m : Nat) (vs : List AVal) (σ2 : AState) : Bool :=
  nodupB π && π.all (fun j => decide (j < m)) && decide (n ≤ π.length) && (π.take n == List.range n) && inScopeL σ2.length vs && σ2.all (inScopeO σ2.length)

def moved (π : List Nat) (ρ : RMap) : RMap := fun i => if i < π.length then ρ (old π i) else none

theorem move_rel {n : Nat} {ρ : RMap} {F : Nat → Prop} {σ σ' σ2 : AState} {w w' : World} {ρ' : RMap} {F' : Nat → Prop} {π : List Nat} {vs : List AVal} (t : TrN n σ σ' ρ ρ' F F' w w') (r : Rel ρ' F' σ' w')
    (hh : π.map (fun j => σ'[j]?) = σ2.map fun o => some (renO (old π) o)) (ok : okMove n π σ'.length vs σ2 = true) :
    TrN n σ σ2 ρ (moved π ρ') F F' w w' ∧ Rel (moved π ρ') F' σ2 w' := by
  unfold okMove at ok
  simp only [Bool.and_eq_true, decide_eq_true_eq, beq_iff_eq] at ok
  obtain ⟨⟨⟨⟨⟨hnd, hlt⟩, hn⟩, htk⟩, _⟩, hsO⟩ := ok
  have hlen : π.length = σ2.length := by have := congrArg List.length hh; simpa using this
  have hget : ∀ i o, σ2[i]? = some o → i < π.length ∧ σ'[old π i]? = some (renO (old π) o) := fun i o ho => by
    have hi : i < π.length := by rw [hlen]; exact (List.getElem?_eq_some_iff.1 ho).1
    refine ⟨hi, ?_⟩
    have := congrArg (·[i]?) hh
    simp only [List.getElem?_map, ho, Option.map_some] at this
    have hp : π[i]? = some (old π i) := by unfold old; rw [List.getD_eq_getElem?_getD, List.getElem?_eq_getElem hi]; rfl
    rw [hp] at this
    simpa using this
  have hinj : ∀ i j, i < π.length → j < π.length → old π i = old π j → i = j := fun i j hi hj he => nodupB_inj hnd i j hi hj he
  have hlow : ∀ i, i < n → old π i = i := fun i hi => by
    have h1 := congrArg (·[i]?) htk
    simp only [List.getElem?_take_of_lt hi, List.getElem?_range hi] at h1
    unfold old
    rw [List.getD_eq_getElem?_getD, h1]; rfl
  have hhigh : ∀ i, n ≤ i → i < π.length → n ≤ old π i := fun i hi hl => by
    rcases Nat.lt_or_ge (old π i) n with h | h
    · have := hinj i (old π i) hl (by omega) (hlow _ h).symm
      omega
    · exact h
  have hsome : ∀ {i b}, moved π ρ' i = some b → i < π.length ∧ ρ' (old π i) = some b := fun {i b} h => by
    unfold moved at h; split at h
    · exact ⟨by assumption, h⟩
    · cases h
  have hof : ∀ {i b}, i < π.length → ρ' (old π i) = some b → moved π ρ' i = some b := fun {i b} hi h => by unfold moved; rw [if_pos hi]; exact h
  have hLive : ∀ b, Live (moved π ρ') σ2 b → Live ρ' σ' b := fun b ⟨i, o, h1, h2, h3⟩ => ⟨old π i, _, (hget i o h1).2, by rw [renO_live]; exact h2, (hsome h3).2⟩
  refine ⟨⟨fun id b h1 h2 => hof (by omega) (by rw [hlow id h1]; exact t.map id b h1 h2), t.frz, t.os, t.tape, t.output, t.size, t.row, t.keep, t.newF, fun id b h1 h2 => ?_, fun id o' b h1 h2 h3 h4 => ?_, by omega, fun id o' h1 h2 h3 => ?_⟩,
    ⟨fun id o b h1 h2 => ?_, fun id id' o o' b h1 h2 h3 h4 h5 h6 => ?_, fun b hb => ⟨(r.fr b hb).1, fun hl => (r.fr b hb).2 (hLive b hl)⟩, fun id b h => r.lt _ b (hsome h).2, fun id h => by unfold moved; rw [if_neg (by omega)]⟩⟩
  · have := (hsome h2).2
    rw [hlow id h1] at this
    exact t.back id b h1 this
  · obtain ⟨g1, g2⟩ := hget id o' h2
    exact t.newρ (old π id) _ b (hhigh id h1 g1) g2 (by rw [renO_live]; exact h3) (hsome h4).2
  · obtain ⟨g1, g2⟩ := hget id o' h1
    rw [hlow id h3] at g2
    exact t.live id _ g2 (by rw [renO_live]; exact h2) h3
  · obtain ⟨g1, g2⟩ := hget id o h1
    exact ORel.unren (k := σ2.length) (r.obj _ _ b g2 (hsome h2).2) (fun i b hi h => hof (by omega) h) (List.all_eq_true.1 hsO o (List.mem_of_getElem? h1))
  · obtain ⟨g1, g2⟩ := hget id o h1
    obtain ⟨k1, k2⟩ := hget id' o' h2
    exact hinj id id' g1 k1 (r.inj _ _ _ _ b g2 k2 (by rw [renO_live]; exact h3) (by rw [renO_live]; exact h4) (hsome h5).2 (hsome h6).2)

theorem move_val {F : Nat → Prop} {w : World} {ρ : RMap} {π : List Nat} {k : Nat} {v2 : AVal} {c : Value} (h : VRel F w ρ (ren (old π) v2) c) (hk : k ≤ π.length) (hs : inScope k v2 = true) : VRel F w (moved π ρ) v2 c :=
  VRel.unren (k := k) h (fun i b hi h => by unfold moved; rw [if_pos (by omega)]; exact h) v2 rfl hs

/-- registers, some of them forgotten -/
def keepR (m : List Bool) (rg : Regs) : Regs := rg.mapIdx fun i v => if m.getD i false then v else .any
theorem keepR_imp (m : List Bool) (rg : Regs) : RImp rg (keepR m rg) := by
  refine ⟨by simp [keepR], fun t => ?_⟩
  rw [List.getD_eq_getElem?_getD, List.getD_eq_getElem?_getD, keepR, List.getElem?_mapIdx]
  cases rg[t]? with
  | none => exact Imp.refl _
  | some v =>
    simp only [Option.map_some, Option.getD_some]
    split
    · exact Imp.refl _
    · exact fun F w ρ c hc => .any _ _

theorem ARel.move {F : Nat → Prop} {w : World} {ρ : RMap} {rg rg2 : Regs} {a : Act} {π : List Nat} {k : Nat} (h : ARel F w ρ rg a) {m : List Bool} (hr : keepR m rg = renL (old π) rg2) (hk : k ≤ π.length) (hs : inScopeL k rg2 = true) : ARel F w (moved π ρ) rg2 a := by
  have h2 := h.imp (keepR_imp m rg)
  rw [hr] at h2
  refine ⟨by have := h2.size; rw [renL_length] at this; exact this, fun i v u h1 hu => ?_, h2.defers⟩
  exact move_val (h2.val i (ren (old π) v) u (by rw [renL_get, h1]; rfl) hu) hk (scopeL hs i v h1)

theorem TripN.move {c : Code} {rg rg' rg2 : Regs} {σ σ' σ2 : AState} {e : AExit} (h : TripN P N c rg σ e rg' σ') (m : List Bool) (π : List Nat) (hr : keepR m rg' = renL (old π) rg2)
    (hh : π.map (fun j => σ'[j]?) = σ2.map fun o => some (renO (old π) o)) (ok : okMove N π σ'.length rg2 σ2 = true) : TripN P N c rg σ e rg2 σ2 := by
  intro hn F w ρ a Q r ha hQ
  refine h hn F w ρ a Q r ha fun ρ' F' w' a' t r' ha' => ?_
  obtain ⟨t2, r2⟩ := move_rel t r' hh ok
  have hlen : π.length = σ2.length := by have := congrArg List.length hh; simpa using this
  unfold okMove at ok
  simp only [Bool.and_eq_true] at ok
  exact hQ _ _ _ _ t2 r2 (ha'.move hr (Nat.le_of_eq hlen.symm) ok.1.2)

theorem FOkN.move {f : FuncId} {as : List AVal} {σ σ' σ2 : AState} {v v2 : AVal} (h : FOkN P f as σ v σ') (π : List Nat) (hv : v = ren (old π) v2)
    (hh : π.map (fun j => σ'[j]?) = σ2.map fun o => some (renO (old π) o)) (ok : (okMove σ.length π σ'.length [v2] σ2 && (σ2.drop σ.length).all AObj.live) = true) : FOk P f as σ v2 σ2 := by
  rw [Bool.and_eq_true] at ok
  obtain ⟨ok, hlive⟩ := ok
  refine ⟨h.1, fun F w ρ args r hp => (h.2 F w ρ args r hp).mono fun e w' ⟨x, ρ', F', he, t, r', hx⟩ => ?_⟩
  obtain ⟨t2, r2⟩ := move_rel t r' hh ok
  have hlen : π.length = σ2.length := by have := congrArg List.length hh; simpa using this
  unfold okMove at ok
  simp only [Bool.and_eq_true] at ok
  have hs : inScope σ2.length v2 = true := by have := ok.1.2; simpa [inScopeL] using this
  subst hv
  refine ⟨x, _, F', he, ⟨fun id b h => ?_, t2.frz, t2.os, t2.tape, t2.output, t2.size, t2.row, t2.keep, t2.newF, fun id b h => ?_, t2.len, fun id o' h1 h2 h3 => t2.live id o' h1 h2 h3⟩, r2, move_val hx (Nat.le_of_eq hlen.symm) hs⟩
  · rcases Nat.lt_or_ge id σ.length with hl | hl
    · exact t2.map id b hl h
    · rw [r.dom id hl] at h; cases h
  · rcases Nat.lt_or_ge id σ.length with hl | hl
    · exact .inl (t2.back id b hl h)
    · refine .inr ⟨hl, ?_⟩
      rcases Nat.lt_or_ge id σ2.length with hl2 | hl2
      · have ho : σ2[id]? = some σ2[id] := List.getElem?_eq_getElem hl2
        refine t2.newρ id _ b hl ho ?_ h
        refine List.all_eq_true.1 hlive _ (List.mem_of_getElem? (i := id - σ.length) ?_)
        rw [List.getElem?_drop, show σ.length + (id - σ.length) = id by omega]; exact ho
      · rw [r2.dom id hl2] at h; cases h

theorem TripN.keep {c : Code} {rg rg' rg0 : Regs} {σ σ' : AState} {e : AExit} (h : TripN P N c rg σ e rg' σ') (m : List Bool) (hk : keepR m rg0 = rg) : TripN P N c rg0 σ e rg' σ' := by
  subst hk; exact h.imp (keepR_imp m rg0)

end
end Go.Abs

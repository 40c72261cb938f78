import Derived.Test.YtpfnoilcmoaplaaAbsCode
set_option linter.unusedVariables false
set_option linter.unusedSimpArgs false
namespace Go.Abs

section
variable {P : Program}

/-! ## What is done with -/
def sweep : List Bool → AState → AState
  | b :: bs, o :: os => (if b then o else .dead) :: sweep bs os
  | _, _ => []
theorem sweep_get : ∀ (m : List Bool) (σ : AState) (id : Nat) (o : AObj), (sweep m σ)[id]? = some o → ∃ o', σ[id]? = some o' ∧ (o = o' ∨ o = .dead)
  | [], σ, id, o, h => by simp [sweep] at h
  | b :: bs, [], id, o, h => by simp [sweep] at h
  | b :: bs, o1 :: os, 0, o, h => by
    simp only [sweep, List.getElem?_cons_zero, Option.some.injEq] at h
    refine ⟨o1, rfl, ?_⟩
    split at h
    · exact .inl h.symm
    · exact .inr h.symm
  | b :: bs, o1 :: os, id + 1, o, h => by simpa using sweep_get bs os id o (by simpa [sweep] using h)
theorem sweep_length_le : ∀ (m : List Bool) (σ : AState), (sweep m σ).length ≤ σ.length
  | [], σ => by simp [sweep]
  | b :: bs, [] => by simp [sweep]
  | b :: bs, o :: os => by simpa [sweep] using sweep_length_le bs os

/-- regs, without what leads outside -/
def clip (k : Nat) (rg : Regs) : Regs := rg.map fun v => if inScope k v then v else .any

theorem sweep_rel {ρ : RMap} {F : Nat → Prop} {σ σ' : AState} {w w' : World} {ρ' : RMap} {F' : Nat → Prop} {m : List Bool} (r0 : Rel ρ F σ w) (t : Tr σ σ' ρ ρ' F F' w w') (r : Rel ρ' F' σ' w')
    (hl : σ.length ≤ (sweep m σ').length) (hs : (sweep m σ').all (inScopeO (sweep m σ').length) = true) :
    Tr σ (sweep m σ') ρ (cut (sweep m σ').length ρ') F F' w w' ∧ Rel (cut (sweep m σ').length ρ') F' (sweep m σ') w' := by
  have hsub : ∀ b, Live (cut (sweep m σ').length ρ') (sweep m σ') b → Live ρ' σ' b := fun b ⟨id, o, h1, h2, h3⟩ => by
    obtain ⟨o', g1, g2⟩ := sweep_get m σ' id o h1
    rcases g2 with rfl | rfl
    · exact ⟨id, o, g1, h2, (cut_some h3).2⟩
    · simp [AObj.live] at h2
  refine ⟨⟨fun id b h => ?_, t.frz, t.os, t.tape, t.output, t.size, t.row, t.keep, t.newF, fun id b h => t.newρ id b (cut_some h).2, hl, fun id o' h1 h2 h3 => ?_⟩,
    ⟨fun id o b h1 h2 => ?_, fun id id' o o' b h1 h2 h3 h4 h5 h6 => ?_, fun b hb => ⟨(r.fr b hb).1, fun hl => (r.fr b hb).2 (hsub b hl)⟩, fun id b h => r.lt id b (cut_some h).2, fun id h => by unfold cut; rw [if_neg (by omega)]⟩⟩
  · refine cut_of ?_ (t.map id b h)
    rcases Nat.lt_or_ge id σ.length with h' | h'
    · omega
    · rw [r0.dom id h'] at h; cases h
  · obtain ⟨o2, g1, g2⟩ := sweep_get m σ' id o' h1
    rcases g2 with rfl | rfl
    · exact t.live id o' g1 h2 h3
    · simp [AObj.live] at h2
  · obtain ⟨o2, g1, g2⟩ := sweep_get m σ' id o h1
    obtain ⟨g3, g4⟩ := cut_some h2
    rcases g2 with rfl | rfl
    · exact (r.obj id o b g1 g4).scope (List.all_eq_true.1 hs o (List.mem_of_getElem? h1))
    · trivial
  · obtain ⟨o2, g1, g2⟩ := sweep_get m σ' id o h1
    obtain ⟨o3, g3, g4⟩ := sweep_get m σ' id' o' h2
    rcases g2 with rfl | rfl
    · rcases g4 with rfl | rfl
      · exact r.inj id id' o o' b g1 g3 h3 h4 (cut_some h5).2 (cut_some h6).2
      · simp [AObj.live] at h4
    · simp [AObj.live] at h3

theorem ARel.clip {ρ : RMap} {F : Nat → Prop} {w : World} {rg : Regs} {a : Act} (h : ARel F w ρ rg a) (k : Nat) : ARel F w (cut k ρ) (Abs.clip k rg) a := by
  refine ⟨by simpa [Abs.clip] using h.size, fun i v u h1 h2 => ?_, h.defers⟩
  simp only [Abs.clip, List.getElem?_map, Option.map_eq_some_iff] at h1
  obtain ⟨v0, hv0, rfl⟩ := h1
  split
  · rename_i hs; exact (h.val i v0 u hv0 h2).scope hs
  · exact .any _ _

/-- What is done with is let go. -/
theorem Trip.gc {c : Code} {rg rg' : Regs} {σ σ' : AState} {e : AExit} (h : Trip P c rg σ e rg' σ') (m : List Bool) (hok : (decide (σ.length ≤ (sweep m σ').length) && (sweep m σ').all (inScopeO (sweep m σ').length)) = true) :
    Trip P c rg σ e (clip (sweep m σ').length rg') (sweep m σ') := by
  simp only [Bool.and_eq_true, decide_eq_true_eq] at hok
  intro F w ρ a Q r ha hQ
  refine h F w ρ a Q r ha fun ρ' F' w' a' t r' ha' => ?_
  obtain ⟨t2, r2⟩ := sweep_rel r t r' hok.1 hok.2
  exact hQ _ _ _ _ t2 r2 (ha'.clip _)

theorem FOk.gc {f : FuncId} {as : List AVal} {σ σ' : AState} {v : AVal} (h : FOk P f as σ v σ') (m : List Bool) (hok : (decide (σ.length ≤ (sweep m σ').length) && (sweep m σ').all (inScopeO (sweep m σ').length) && inScope (sweep m σ').length v) = true) :
    FOk P f as σ v (sweep m σ') := by
  simp only [Bool.and_eq_true, decide_eq_true_eq] at hok
  refine ⟨h.1, fun F w ρ args r hp => (h.2 F w ρ args r hp).mono fun e w' ⟨x, ρ', F', he, t, r', hv⟩ => ?_⟩
  obtain ⟨t2, r2⟩ := sweep_rel r t r' hok.1.1 hok.1.2
  exact ⟨x, _, F', he, t2, r2, hv.scope hok.2⟩

/-! ## Loops -/
inductive LoopRun (P : Program) (c : Code) : Regs → AState → AExit → Regs → AState → Prop
  | done {rg σ e rg' σ'} (h : Trip P c rg σ e rg' σ') (he : e ≠ .normal) : LoopRun P c rg σ e rg' σ'
  | more {rg σ rg1 σ1 e rg' σ'} (h : Trip P c rg σ .normal rg1 σ1) (h' : LoopRun P c rg1 σ1 e rg' σ') : LoopRun P c rg σ e rg' σ'

theorem LoopRun.run {c : Code} {rg rg' : Regs} {σ σ' : AState} {e : AExit} (h : LoopRun P c rg σ e rg' σ') : ∀ (F : Nat → Prop) (w : World) (ρ : RMap) (a : Act) (Q : Exit → Act → World → Prop), Rel ρ F σ w → ARel F w ρ rg a →
    (∀ ρ' F' w' a', Tr σ σ' ρ ρ' F F' w w' → Rel ρ' F' σ' w' → ARel F' w' ρ' rg' a' → Q e.real a' w') → ∀ (b : Frame) (k : List Item) (cs : List Frame),
      ∃ e a' w', Q e a' w' ∧ Arrives P (lone (b.at a (.code c :: .inLoop c :: k)) cs w) b k cs e a' w' := by
  induction h with
  | @done rg σ e rg' σ' h he =>
    intro F w ρ a Q r ha hQ b k cs
    obtain ⟨e1, a1, w1, hq, harr⟩ := h F w ρ a (fun e' a' w' => e' ≠ .normal ∧ Q e' a' w') r ha (fun ρ' F' w' a' t r' ha' => ⟨by cases e <;> simp [AExit.real] at he ⊢, hQ ρ' F' w' a' t r' ha'⟩) b (.inLoop c :: k) cs
    exact ⟨e1, a1, w1, hq.2, .pass (x := .inLoop c) rfl (fun _ _ => .inl hq.1) harr⟩
  | @more rg σ rg1 σ1 e rg' σ' h h' ih =>
    intro F w ρ a Q r ha hQ b k cs
    obtain ⟨e1, a1, w1, ⟨rfl, ρ1, F1, t1, r1, ha1⟩, harr⟩ := h F w ρ a (fun e' a' w' => e' = .normal ∧ ∃ ρ' F', Tr σ σ1 ρ ρ' F F' w w' ∧ Rel ρ' F' σ1 w' ∧ ARel F' w' ρ' rg1 a') r ha
      (fun ρ' F' w' a' t r' ha' => ⟨rfl, ρ', F', t, r', ha'⟩) b (.inLoop c :: k) cs
    obtain ⟨e2, a2, w2, hq2, harr2⟩ := ih F1 w1 ρ1 a1 Q r1 ha1 (fun ρ' F' w' a' t r' ha' => hQ ρ' F' w' a' (Tr.trans r t1 t) r' ha') b k cs
    exact ⟨e2, a2, w2, hq2, .of_steps (Steps.trans harr (.one step_inLoop)) harr2⟩

theorem LoopRun.trip {c : Code} {rg rg' : Regs} {σ σ' : AState} {e : AExit} (h : LoopRun P c rg σ e rg' σ') : Trip P (.loop c) rg σ e rg' σ' :=
  fun F w ρ a Q r ha hQ b k cs => let ⟨e, a', w', q, arr⟩ := h.run F w ρ a Q r ha hQ b k cs; ⟨e, a', w', q, .of_steps (.one step_loop) arr⟩

theorem LoopRun.imp {c : Code} {rg rg' rg0 : Regs} {σ σ' : AState} {e : AExit} (h : LoopRun P c rg σ e rg' σ') (hi : RImp rg0 rg) : LoopRun P c rg0 σ e rg' σ' := by
  cases h with
  | done h he => exact .done (h.imp hi) he
  | more h h' => exact .more (h.imp hi) h'

end
end Go.Abs

import Derived.Test.YtkecmndppllijaaDoorAbsAny3
set_option linter.unusedVariables false
set_option linter.unusedSectionVars false
set_option linter.unusedSimpArgs false
namespace Go.Abs
variable [Glob]

section
variable {P : Program} {F : Nat → Prop} {w : World} {ρ : RMap} {σ : AState}

/-- The world stays what it is. -/
def FineS (P : Program) (F : Nat → Prop) (w : World) (ρ : RMap) (σ : AState) (out : Out) (s : Sem Value) : Prop := out.σ = σ ∧ ∃ cv, s.run P w = .ok cv w ∧ VRel F w ρ out.v cv
theorem FineS.same {out : Out} {s : Sem Value} {cv : Value} (r : Rel ρ F σ w) (h : s.run P w = .ok cv w) (hσ : out.σ = σ) (hv : VRel F w ρ out.v cv) : FineS P F w ρ σ out s := ⟨hσ, cv, h, hv⟩

theorem aload_same {t : TypeId} {a : AVal} {ca : Value} {out : Out} (r : Rel ρ F σ w) (ha : VRel F w ρ a ca) (h : aload P t a σ = some out) (hcs : allP out.cs) :
    FineS P F w ρ σ out (Instr.loadAt t ca) := by
  unfold aload at h
  cases hu : P.underlying t with
  | none => simp [hu] at h
  | some d =>
  simp only [hu, Option.isNone_some, Bool.false_eq_true, if_false] at h
  have hfin : ∀ {b o : Nat} {cs : List Value} {xs : List AVal}, ca = .pointer (some ⟨b, o, none⟩) → w.rangeAt b o cs → PW F w ρ xs cs → P.cellsOf t = cs.length → cs.length ≠ 0 → out.σ = σ → out.v = asType P t xs → FineS P F w ρ σ out (Instr.loadAt t ca) := by
    intro b o cs xs e1 e2 e3 e4 e5 e6 e7
    subst e1
    refine FineS.same r (cv := if isAggT P t then .agg cs.toArray else cs.headD undef) ?_ e6 ?_
    · simp only [Instr.loadAt, Instr.sureAddr, Sem.run_bind, Sem.run_pure, Result.andThen_ok]
      exact run_loadVar_cells hu e2 e4 e5
    · rw [e7]; exact asType_ok e3 (by rw [e3.1]; omega)
  have hfin2 : ∀ {b o : Nat} {cs : List Value} {xs : List AVal}, ca = .pointer (some ⟨b, o, none⟩) → w.rangeAt b o cs → PW F w noId xs cs → P.cellsOf t = cs.length → cs.length ≠ 0 → out.σ = σ → out.v = .pagg xs → d.isRow = true → FineS P F w ρ σ out (Instr.loadAt t ca) := by
    intro b o cs xs e1 e2 e3 e4 e5 e6 e7 e8
    subst e1
    have hagg : isAggT P t = true := by
      unfold isAggT; rw [hu]; cases d <;> first | rfl | cases e8
    refine FineS.same r (cv := if isAggT P t then .agg cs.toArray else cs.headD undef) ?_ e6 ?_
    · simp only [Instr.loadAt, Instr.sureAddr, Sem.run_bind, Sem.run_pure, Result.andThen_ok]
      exact run_loadVar_cells hu e2 e4 e5
    · rw [e7, hagg, if_pos rfl]; exact e3.pagg
  split at h
  · rename_i id es i j
    obtain ⟨b, hb, rfl⟩ := ha.ptr_inv
    split at h
    · rename_i es' rs ho
      split at h
      · rename_i hc
        simp only [Bool.and_eq_true, beq_iff_eq, decide_eq_true_eq] at hc
        obtain ⟨he, hn⟩ := hc
        subst he
        split at h
        · rename_i harr
          simp only [Bool.and_eq_true, beq_iff_eq] at harr
          obtain ⟨harr, hne⟩ := harr
          cases h
          obtain ⟨hi, hj⟩ := hcs.cons
          have hi : i < rs.length := by simpa using hi
          have hj : j + P.cellsOf t ≤ es := by have := hj.cons.1; simpa using this
          have ho := r.objP ho rfl hb
          obtain ⟨cs, hl, hr, hp⟩ := ho.part hi hj
          have hw := ho.width hi
          have hj0 : j = 0 := by omega
          subst hj0
          rw [List.drop_zero, List.take_of_length_le (by omega)] at hp
          refine hfin2 rfl hr hp hl.symm (by omega) rfl rfl ?_
          unfold isArr at harr
          rw [hu] at harr
          cases d <;> first | rfl | cases harr
        split at h
        · cases h
          obtain ⟨hi, hk⟩ := hcs.cons
          obtain ⟨hj, hk⟩ := hk.cons
          have hk := hk.cons.1
          have hi : i < rs.length := by simpa using hi
          have hj : j + P.cellsOf t ≤ es := by simpa using hj
          have ho := r.objP ho rfl hb
          obtain ⟨cs, hl, hr, hp⟩ := ho.part hi hj
          rw [← cellsAt_eq (ho.width hi) hj] at hp
          exact hfin rfl hr (reifyL_ok _ _ _ hp.pure hk) hl.symm (by omega) rfl rfl
        · cases h
      · cases h
    · rename_i es' rs ho
      split at h
      · rename_i hc
        simp only [Bool.and_eq_true, beq_iff_eq, decide_eq_true_eq] at hc
        obtain ⟨he, hn⟩ := hc
        subst he
        cases h
        obtain ⟨hi, hj⟩ := hcs.cons
        have hi : i < rs.length := by simpa using hi
        have hj : j + P.cellsOf t ≤ es := by have := hj.cons.1; simpa using this
        have ho := r.objP ho rfl hb
        obtain ⟨cs, hl, hr, hp⟩ := ho.part hi hj
        rw [← cellsAt_eq (ho.width hi) hj] at hp
        exact hfin rfl hr hp hl.symm (by omega) rfl rfl
      · cases h
    · cases h
  · rename_i es rs i j
    obtain ⟨b, o, f, hF, hw, hg, hv, rfl⟩ := ha.fptr_inv
    split at h
    · rename_i hn
      simp only [decide_eq_true_eq] at hn
      split at h
      · cases h
        obtain ⟨hi, hk⟩ := hcs.cons
        obtain ⟨hj, hk⟩ := hk.cons
        have hk := hk.cons.1
        have hi : i < rs.length := by simpa using hi
        have hj : j + P.cellsOf t ≤ es := by simpa using hj
        obtain ⟨cs, hl, hr, hp⟩ := part_of (ρ := noId) (n := P.cellsOf t) hi hj hw hg hv
        rw [← cellsAt_eq (by rw [List.getD_eq_getElem?_getD, List.getElem?_eq_getElem hi]; exact hw i _ (List.getElem?_eq_getElem hi)) hj] at hp
        exact hfin rfl hr (reifyL_ok _ _ _ hp.pure hk) hl.symm (by omega) rfl rfl
      · cases h
    · cases h
  · cases h


/-! ## What a function hands back -/
def resOne (P : Program) (rg : Regs) (σ : AState) : ResultVar → Option (AVal × List Prop)
  | .tmp t => some (rg.getD t .any, [])
  | .cell a t => (aload P t (rg.getD a .any) σ).map fun o => (o.v, o.cs)
def resAll (P : Program) (rg : Regs) (σ : AState) : List ResultVar → Option (List AVal × List Prop)
  | [] => some ([], [])
  | r :: rs => (resOne P rg σ r).bind fun x => (resAll P rg σ rs).map fun y => (x.1 :: y.1, x.2 ++ y.2)
def resVal (vs : List AVal) : AVal :=
  match vs with
  | [v] => v
  | vs => .tuple vs

def resSem (tmps : Array Value) : ResultVar → Sem Value
  | .tmp t => pure (tmps.getD t undef)
  | .cell a t => do loadVar t (← asAddr (tmps.getD a undef))

theorem resOne_ok {rg : Regs} {a : Act} {rv : ResultVar} {x : AVal × List Prop} (r : Rel ρ F σ w) (ha : ARel F w ρ rg a) (h : resOne P rg σ rv = some x) (hcs : allP x.2) : ∃ cv, (resSem a.tmps rv).run P w = .ok cv w ∧ VRel F w ρ x.1 cv := by
  cases rv with
  | tmp t => cases h; exact ⟨_, rfl, (ha.look [t]).2 t (by simp)⟩
  | cell c t =>
    simp only [resOne, Option.map_eq_some_iff] at h
    obtain ⟨o, ho, rfl⟩ := h
    have hv := (ha.look [c]).2 c (by simp)
    obtain ⟨_, cv, h1, h2⟩ := aload_same r hv ho hcs
    refine ⟨cv, ?_, h2⟩
    simp only [resSem]
    have hp : ∃ ad, a.tmps.getD c undef = .pointer (some ad) := by
      unfold aload at ho
      generalize rg.getD c .any = q at ho hv
      dsimp only at ho
      split at ho
      · cases ho
      · cases q <;> first
          | (obtain ⟨b, hb, e⟩ := hv.ptr_inv; exact ⟨_, e⟩)
          | (obtain ⟨b, o, f, _, _, _, _, e⟩ := hv.fptr_inv; exact ⟨_, e⟩)
          | (simp at ho; done)
    obtain ⟨ad, e⟩ := hp
    rw [e] at h1 ⊢
    exact h1

theorem resAll_ok {rg : Regs} {a : Act} (r : Rel ρ F σ w) (ha : ARel F w ρ rg a) : ∀ (rvs : List ResultVar) {x : List AVal × List Prop}, resAll P rg σ rvs = some x → allP x.2 →
    ∃ cvs : List Value, (rvs.mapM (resSem a.tmps)).run P w = .ok cvs w ∧ PW F w ρ x.1 cvs
  | [], x, h, _ => by cases h; exact ⟨[], by simp, rfl, fun i x y h => by simp at h⟩
  | rv :: rvs, x, h, hcs => by
    simp only [resAll, Option.bind_eq_some_iff, Option.map_eq_some_iff] at h
    obtain ⟨y, hy, z, hz, rfl⟩ := h
    obtain ⟨h1, h2⟩ := hcs.append
    obtain ⟨cv, e1, e2⟩ := resOne_ok r ha hy h1
    obtain ⟨cvs, e3, e4⟩ := resAll_ok r ha rvs hz h2
    refine ⟨cv :: cvs, by simp [List.mapM_cons, e1, e3], by simp [e4.1], fun i u v g1 g2 => ?_⟩
    match i with
    | 0 => simp at g1 g2; subst g1; subst g2; exact e2
    | i + 1 => exact e4.2 i u v (by simpa using g1) (by simpa using g2)

theorem results_ok {fn : Func} {rg : Regs} {a : Act} {x : List AVal × List Prop} (r : Rel ρ F σ w) (ha : ARel F w ρ rg a) (h : resAll P rg σ fn.results.toList = some x) (hcs : allP x.2) :
    ∃ cv, (results fn a.tmps).run P w = .ok cv w ∧ VRel F w ρ (resVal x.1) cv := by
  obtain ⟨cvs, h1, h2⟩ := resAll_ok r ha _ h hcs
  have hm : (fn.results.mapM (resSem a.tmps)).run P w = .ok cvs.toArray w := by
    have e : (Array.toList <$> fn.results.mapM (resSem a.tmps)).run P w = .ok cvs w := by rw [Array.toList_mapM]; exact h1
    rw [map_eq_pure_bind, Sem.run_bind] at e
    cases hr : (fn.results.mapM (resSem a.tmps)).run P w with
    | halt y w' => rw [hr] at e; cases e
    | ok y w' =>
      rw [hr] at e
      simp only [Result.andThen, Sem.run_pure, Result.ok.injEq] at e
      obtain ⟨rfl, rfl⟩ := e
      rfl
  have hrun : (results fn a.tmps).run P w = .ok (if h : cvs.toArray.size = 1 then cvs.toArray[0] else .tuple cvs.toArray) w := by
    unfold results
    have e : (fn.results.mapM fun | .tmp t => pure (a.tmps.getD t undef) | .cell c t => do loadVar t (← asAddr (a.tmps.getD c undef))) = fn.results.mapM (resSem a.tmps) := by
      congr 1
    rw [Sem.run_bind]
    erw [e]
    rw [hm]
    rfl
  refine ⟨_, hrun, ?_⟩
  obtain ⟨hl, hp⟩ := h2
  by_cases h1 : cvs.length = 1
  · obtain ⟨c, rfl⟩ := List.length_eq_one_iff.1 h1
    obtain ⟨v, hv⟩ := List.length_eq_one_iff.1 (hl.trans h1)
    rw [hv] at hp ⊢
    exact hp 0 v c rfl rfl
  · rw [dif_neg (by simpa using h1)]
    have : resVal x.1 = .tuple x.1 := by
      unfold resVal
      split
      · rename_i v e; rw [e] at hl; simp at hl; omega
      · rfl
    rw [this]
    exact .tuple _ _ _ (by simpa using hl) fun i v u g1 g2 => hp i v u g1 (by simpa using g2)

end
end Go.Abs

import Derived.Test.YtkecmndppllijaaDoorAbsOps2
set_option linter.unusedVariables false
set_option linter.unusedSimpArgs false
namespace Go.Abs

section
variable {P : Program} {F : Nat → Prop} {w : World} {ρ : RMap} {σ : AState}

theorem pureCell_noId {v : AVal} {c : Value} (h : VRel F w ρ v c) (hp : pureCell v = true) : VRel F w noId v c := by
  cases h <;> simp only [pureCell, Bool.false_eq_true] at hp
  all_goals first
    | exact .tt _ _
    | exact .bool _ _
    | exact .int _ _ _
    | exact .str _ _
    | exact .nilp _
    | exact .nilm _
    | exact .nilf _
    | exact .nili _
    | (constructor <;> assumption)
    | skip

theorem inMap_noId {p : Bool} {v : AVal} {c : Value} (h : VRel F w (inMap p ρ) v c) (hp : (p || pureCell v) = true) : VRel F w noId v c := by
  cases p with
  | true => exact h
  | false => exact pureCell_noId h (by simpa using hp)

/-- ### A slice that is kept as it is -/
theorem freezeV_ok {v : AVal} {c : Value} {x : Frz} (r : Rel ρ F σ w) (hv : VRel F w ρ v c) (h : freezeV σ v = some x) (hcs : allP x.cs) :
    ∃ F', Rel ρ F' x.σ w ∧ Tr σ x.σ ρ ρ F F' w w ∧ ∃ u, x.v = [u] ∧ VRel F' w noId u c := by
  have hsame : ∀ v : AVal, (if pureCell v then some (⟨[v], σ, []⟩ : Frz) else none) = some x → VRel F w ρ v c → ∃ F', Rel ρ F' x.σ w ∧ Tr σ x.σ ρ ρ F F' w w ∧ ∃ u, x.v = [u] ∧ VRel F' w noId u c := by
    intro v h hv
    split at h
    · cases h; exact ⟨F, r, Tr.refl _ _ _ _, _, rfl, pureCell_noId hv (by assumption)⟩
    · cases h
  unfold freezeV at h
  split at h
  · rename_i isnil id es off len cap
    split at h
    · rename_i p es' rs ho
      split at h
      · rename_i hc
        cases h
        simp only [Bool.and_eq_true, beq_iff_eq, Bool.or_eq_true] at hc
        obtain ⟨he, hp⟩ := hc
        subst he
        have hlen : off + len ≤ rs.length := by have := hcs _ (by simp : (decide (off + len ≤ rs.length) = true) ∈ [decide (off + len ≤ rs.length) = true]); simpa using this
        obtain ⟨o0, hid, hpl, hlv, _⟩ := objP_some ho rfl
        rcases hv.slc_inv with ⟨rfl, c, b, hb, hl, hcp, hs, rfl⟩ | ⟨rfl, base, hbn, hcp, rfl⟩
        · obtain ⟨cs, T, fr, h1, h2, h3, h4, h5⟩ := r.objP ho rfl hb
          obtain ⟨r', t'⟩ := r.kill id (fun b' => ρ id = some b') (fun b' hb' => ⟨_, hid, hlv, hb'⟩)
          refine ⟨_, r', t', _, rfl, ?_⟩
          have hlr : ((rs.drop off).take len).length = len := by simp; omega
          have hget : ∀ (i : Nat) (row : List AVal), ((rs.drop off).take len)[i]? = some row → rs[off + i]? = some row := by
            intro i row h
            rw [List.getElem?_take] at h
            split at h
            · rwa [List.getElem?_drop] at h
            · cases h
          have := VRel.fsl (F := fun b' => F b' ∨ ρ id = some b') (w := w) noId es ((rs.drop off).take len) b (off * es) c none (fun i j => cs.getD ((off + i) * es + j) undef) (.inr hb) (by rw [hlr]; exact hl) (by simp)
            (fun i row h => h4 _ _ (hget i row h))
            (fun i j row v e1 e2 => by
              obtain ⟨cv, e3, _⟩ := h5 _ _ _ _ (hget i row e1) e2
              rw [cell_of_row w b _ cs T fr h1, show off * es + i * es + j = (off + i) * es + j by rw [Nat.add_mul], e3, Array.getD_eq_getD_getElem?, e3]; rfl)
            (fun i j row v e1 e2 => by
              obtain ⟨cv, e3, e4⟩ := h5 _ _ _ _ (hget i row e1) e2
              rw [Array.getD_eq_getD_getElem?, e3]
              refine VRel.mono (F := F) (w := w) (fun b hb => ⟨.inl hb, rfl⟩) (fun _ cs _ _ h => ⟨cs, _, h, rfl⟩) (inMap_noId e4 ?_) (fun _ _ h => h)
              rcases hp with hp | hp
              · simp [hp]
              · rw [List.all_eq_true] at hp
                have h6 := hp row (List.mem_of_getElem? (hget i row e1))
                rw [List.all_eq_true] at h6
                simp [h6 v (List.mem_of_getElem? e2)])
          rw [hlr] at this
          exact this
        · obtain ⟨r', t'⟩ := r.kill id (fun _ => False) (fun _ h => h.elim)
          refine ⟨_, r', t', _, rfl, ?_⟩
          rw [List.take_zero]
          cases base with
          | none => subst hbn; exact .fnil _ _ _ (by simp)
          | some a => subst hbn; exact .femp _ _ _ _ _ (by simp)
      · cases h
    · cases h
  · exact hsame _ h hv

theorem freezeL_ok : ∀ {σ : AState} {F : Nat → Prop} (vs : List AVal) (cs : List Value) {x : Frz}, Rel ρ F σ w → PW F w ρ vs cs → freezeL σ vs = some x → allP x.cs →
    ∃ F', Rel ρ F' x.σ w ∧ Tr σ x.σ ρ ρ F F' w w ∧ PW F' w noId x.v cs
  | σ, F, [], cs, x, r, h, hx, _ => by
    simp only [freezeL, Option.some.injEq] at hx
    subst hx
    match cs, h with
    | [], _ => exact ⟨F, r, Tr.refl _ _ _ _, PW.nil⟩
    | _ :: _, h => have := h.1; simp at this
  | σ, F, v :: vs, cs, x, r, h, hx, hcs => by
    match cs, h with
    | [], h => have := h.1; simp at this
    | c :: cs, h =>
      simp only [freezeL] at hx
      rw [Option.bind_eq_some_iff] at hx
      obtain ⟨y, hy, hx⟩ := hx
      rw [Option.map_eq_some_iff] at hx
      obtain ⟨z, hz, hx⟩ := hx
      subst hx
      obtain ⟨F1, r1, t1, u, hu, hv⟩ := freezeV_ok r (h.2 0 v c rfl rfl) hy hcs.append.1
      have h' : PW F1 w ρ vs cs := ⟨h.tail.1, fun i a b e1 e2 => (h.tail.2 i a b e1 e2).tr r t1⟩
      obtain ⟨F2, r2, t2, hp⟩ := freezeL_ok vs cs r1 h' hz hcs.append.2
      refine ⟨F2, r2, Tr.trans r t1 t2, ?_⟩
      rw [show (y.v ++ z.v) = u :: z.v by rw [hu]; rfl]
      exact .cons (hv.tr0 r1 t2) hp

/-- ### load -/
theorem aload_ok {t : TypeId} {a : AVal} {ca : Value} {out : Out} (r : Rel ρ F σ w) (ha : VRel F w ρ a ca) (h : aload P t a σ = some out) (hcs : allP out.cs) :
    Fine P F w ρ σ out (Instr.loadAt t ca) := by
  unfold aload at h
  cases hu : P.underlying t with
  | none => simp [hu] at h
  | some d =>
  simp only [hu, Option.isNone_some, Bool.false_eq_true, if_false] at h
  have hfin : ∀ {b o : Nat} {cs : List Value} {xs : List AVal}, ca = .pointer (some ⟨b, o, none⟩) → w.rangeAt b o cs → PW F w ρ xs cs → P.cellsOf t = cs.length → cs.length ≠ 0 → out.σ = σ → out.v = asType P t xs → Fine P F w ρ σ out (Instr.loadAt t ca) := by
    intro b o cs xs e1 e2 e3 e4 e5 e6 e7
    subst e1
    refine Fine.same r (cv := if isAggT P t then .agg cs.toArray else cs.headD undef) ?_ e6 ?_
    · simp only [Instr.loadAt, Instr.sureAddr, Sem.run_bind, Sem.run_pure, Result.andThen_ok]
      exact run_loadVar_cells hu e2 e4 e5
    · rw [e7]; exact asType_ok e3 (by rw [e3.1]; omega)
  have hfin2 : ∀ {b o : Nat} {cs : List Value} {xs : List AVal}, ca = .pointer (some ⟨b, o, none⟩) → w.rangeAt b o cs → PW F w noId xs cs → P.cellsOf t = cs.length → cs.length ≠ 0 → out.σ = σ → out.v = .pagg xs → d.isRow = true → Fine P F w ρ σ out (Instr.loadAt t ca) := by
    intro b o cs xs e1 e2 e3 e4 e5 e6 e7 e8
    subst e1
    have hagg : isAggT P t = true := by
      unfold isAggT; rw [hu]; cases d <;> first | rfl | cases e8
    refine Fine.same r (cv := if isAggT P t then .agg cs.toArray else cs.headD undef) ?_ e6 ?_
    · simp only [Instr.loadAt, Instr.sureAddr, Sem.run_bind, Sem.run_pure, Result.andThen_ok]
      exact run_loadVar_cells hu e2 e4 e5
    · rw [e7, hagg, if_pos rfl]; exact e3.pagg
  split at h
  · rename_i id es i j
    obtain ⟨b, hb, rfl⟩ := ha.ptr_inv
    split at h
    · rename_i es' rs ho
      split at h
      · rename_i hc
        simp only [Bool.and_eq_true, beq_iff_eq, decide_eq_true_eq] at hc
        obtain ⟨he, hn⟩ := hc
        subst he
        split at h
        · rename_i harr
          simp only [Bool.and_eq_true, beq_iff_eq] at harr
          obtain ⟨harr, hne⟩ := harr
          cases h
          obtain ⟨hi, hj⟩ := hcs.cons
          have hi : i < rs.length := by simpa using hi
          have hj : j + P.cellsOf t ≤ es := by have := hj.cons.1; simpa using this
          have ho := r.objP ho rfl hb
          obtain ⟨cs, hl, hr, hp⟩ := ho.part hi hj
          have hw := ho.width hi
          have hj0 : j = 0 := by omega
          subst hj0
          rw [List.drop_zero, List.take_of_length_le (by omega)] at hp
          refine hfin2 rfl hr hp hl.symm (by omega) rfl rfl ?_
          unfold isArr at harr
          rw [hu] at harr
          cases d <;> first | rfl | cases harr
        split at h
        · cases h
          obtain ⟨hi, hk⟩ := hcs.cons
          obtain ⟨hj, hk⟩ := hk.cons
          have hk := hk.cons.1
          have hi : i < rs.length := by simpa using hi
          have hj : j + P.cellsOf t ≤ es := by simpa using hj
          have ho := r.objP ho rfl hb
          obtain ⟨cs, hl, hr, hp⟩ := ho.part hi hj
          rw [← cellsAt_eq (ho.width hi) hj] at hp
          exact hfin rfl hr (reifyL_ok _ _ _ hp.pure hk) hl.symm (by omega) rfl rfl
        · cases h
      · cases h
    · rename_i es' rs ho
      split at h
      · rename_i hc
        simp only [Bool.and_eq_true, beq_iff_eq, decide_eq_true_eq] at hc
        obtain ⟨he, hn⟩ := hc
        subst he
        cases h
        obtain ⟨hi, hj⟩ := hcs.cons
        have hi : i < rs.length := by simpa using hi
        have hj : j + P.cellsOf t ≤ es := by have := hj.cons.1; simpa using this
        have ho := r.objP ho rfl hb
        obtain ⟨cs, hl, hr, hp⟩ := ho.part hi hj
        rw [← cellsAt_eq (ho.width hi) hj] at hp
        exact hfin rfl hr hp hl.symm (by omega) rfl rfl
      · cases h
    · cases h
  · rename_i es rs i j
    obtain ⟨b, o, f, hF, hw, hg, hv, rfl⟩ := ha.fptr_inv
    split at h
    · rename_i hn
      simp only [decide_eq_true_eq] at hn
      split at h
      · cases h
        obtain ⟨hi, hk⟩ := hcs.cons
        obtain ⟨hj, hk⟩ := hk.cons
        have hk := hk.cons.1
        have hi : i < rs.length := by simpa using hi
        have hj : j + P.cellsOf t ≤ es := by simpa using hj
        obtain ⟨cs, hl, hr, hp⟩ := part_of (ρ := noId) (n := P.cellsOf t) hi hj hw hg hv
        rw [← cellsAt_eq (by rw [List.getD_eq_getElem?_getD, List.getElem?_eq_getElem hi]; exact hw i _ (List.getElem?_eq_getElem hi)) hj] at hp
        exact hfin rfl hr (reifyL_ok _ _ _ hp.pure hk) hl.symm (by omega) rfl rfl
      · cases h
    · cases h
  · cases h

end
end Go.Abs

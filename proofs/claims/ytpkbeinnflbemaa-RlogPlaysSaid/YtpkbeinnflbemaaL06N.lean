import Derived.Test.YtpkbeinnflbemaaL06M
import Derived.Test.YtpkbeinnflbemaaAbsLaw
set_option linter.unusedVariables false
set_option linter.unusedSimpArgs false
set_option maxRecDepth 100000
namespace Go.L06
open Go Go.Abs Go.Proofs

/-! ## The document's log -/
abbrev Lg.q (L : Lg) : AVal := qV L.a L.m L.b (L.l.map En.row)
theorem rlast_ok {L : Lg} (h : L.ok) : FOk Try.prog 34 [L.q] [] (.int .i64 L.last) [] := by
  have h1 := h.a0; have h2 := h.n
  have := rlast_1 L.a L.m L.b (L.l.map En.row)
  rw [List.length_map, wrapS (by omega) (by omega)] at this
  exact this
theorem rterm_ok {L : Lg} (h : L.ok) (i : Int) : FOk Try.prog 29 [L.q, .int .i64 i] [] (.tuple [.int .i64 (L.term i).1, .int .i64 (L.term i).2]) [] := by
  have hl := rlast_ok h
  unfold Lg.term
  by_cases h1 : i < L.a
  · rw [if_pos h1]; exact rterm_1 L.a L.m 0 i L.b (L.l.map En.row) (decide_eq_true h1)
  · rw [if_neg h1]
    by_cases h2 : i > L.last
    · rw [if_pos h2]; exact rterm_2 L.a L.m L.last i L.b (L.l.map En.row) (decide_eq_true h2) hl (decide_eq_false h1)
    · rw [if_neg h2]
      by_cases h3 : i = L.a
      · rw [if_pos h3]; exact rterm_3 L.a L.m L.last i L.b (L.l.map En.row) (beq_iff_eq.2 h3) (decide_eq_false h2) hl (decide_eq_false h1)
      · rw [if_neg h3]
        obtain ⟨e1, e2⟩ := place_ok h (i := i) (by omega) (by omega)
        have key := rterm_4 L.a L.m L.last i L.b (L.l.map En.row)
        simp only [e1, Nat.add_zero, getD_map (f := En.row) L.l _ z e2, List.length_map, List.getD_cons_zero, AVal.toInt] at key
        exact key (decide_eq_true e2) (by kernel_rfl) (decide_eq_true (by omega)) (beq_eq_false_iff_ne.2 h3) (decide_eq_false h2) hl (decide_eq_false h1)
theorem rentry_ok {L : Lg} (h : L.ok) (i : Int) : FOk Try.prog 30 [L.q, .int .i64 i] [] (.tuple [.agg (L.entry i).1.row, .int .i64 (L.entry i).2]) [] := by
  have hl := rlast_ok h
  unfold Lg.entry
  by_cases h1 : i ≤ L.a
  · rw [if_pos h1]; exact rentry_1 L.a L.m 0 i L.b (L.l.map En.row) (decide_eq_true h1)
  · rw [if_neg h1]
    by_cases h2 : i > L.last
    · rw [if_pos h2]; exact rentry_2 L.a L.m L.last i L.b (L.l.map En.row) (decide_eq_true h2) hl (decide_eq_false h1)
    · rw [if_neg h2]
      obtain ⟨e1, e2⟩ := place_ok h (i := i) (by omega) (by omega)
      have key := rentry_3 L.a L.m L.last i L.b (L.l.map En.row)
      simp only [e1, Nat.add_zero, getD_map (f := En.row) L.l _ z e2, List.length_map, List.getD_cons_zero, List.getD_cons_succ, AVal.toInt, AVal.toStr] at key
      exact key (decide_eq_true e2) (by kernel_rfl) (decide_eq_true (by omega)) (decide_eq_false h2) hl (decide_eq_false h1)
theorem rend_ok {L : Lg} (h : L.ok) : FOk Try.prog 35 [L.q] [] (.int .i64 L.endT) [] :=
  rend_1 L.a L.m L.last L.endT (L.term L.last).2 L.b (L.l.map En.row) (rterm_ok h L.last) (rlast_ok h)
theorem rnewer_ok {L : Lg} (h : L.ok) (i t : Int) : FOk Try.prog 33 [L.q, .int .i64 i, .int .i64 t] [] (.bool (decide (t > L.endT ∨ t = L.endT ∧ i ≥ L.last))) [] := by
  have he := rend_ok h
  by_cases h1 : t > L.endT
  · exact (rnewer_1 L.a L.m L.last L.endT i t L.b (L.l.map En.row) (decide_eq_true h1) he).imp (Imp.bool (decide_eq_true (.inl h1)).symm)
  · by_cases h2 : t = L.endT
    · exact (rnewer_2 L.a L.m L.last L.endT i t L.b (L.l.map En.row) (rlast_ok h) (beq_iff_eq.2 h2) he (decide_eq_false h1)).imp (Imp.bool (by congr 1; simp [h2]))
    · exact (rnewer_3 L.a L.m L.last L.endT i t L.b (L.l.map En.row) (beq_eq_false_iff_ne.2 h2) he (decide_eq_false h1)).imp (Imp.bool (decide_eq_false (by rintro (h | ⟨h, _⟩); exact h1 h; exact h2 h)).symm)
theorem rcut_no {L : Lg} (h : L.ok) (i : Int) (hw : (L.frm i).2 ≠ 0) : FOk Try.prog 27 [L.q, .int .i64 i] [] (.tuple [L.q, .int .i64 (L.frm i).2]) [] := by
  have hl := rlast_ok h
  have a0 := h.a0; have a1 := h.a1; have n0 := h.n
  have w : IntKind.wrap .i64 (L.last + 1) = L.last + 1 := by unfold Lg.last; exact wrapS (by omega) (by omega)
  unfold Lg.frm at hw ⊢
  by_cases h1 : i ≤ L.a
  · rw [if_pos h1]; exact rcut_1 L.a L.m 0 i L.b (L.l.map En.row) (decide_eq_true h1)
  · rw [if_neg h1] at hw ⊢
    by_cases h2 : i > L.last + 1
    · rw [if_pos h2]; exact rcut_2 L.a L.m L.last i L.b (L.l.map En.row) (decide_eq_true (by rw [w]; exact h2)) hl (decide_eq_false h1)
    · rw [if_neg h2] at hw; exact absurd rfl hw
theorem rcut_yes {L : Lg} (h : L.ok) (i : Int) (hw : (L.frm i).2 = 0) : FOk Try.prog 27 [L.q, .int .i64 i] [] (.tuple [(L.cut i).q, .int .i64 0]) [] := by
  obtain ⟨h1, h2, h3⟩ := frm_in hw
  have hl := rlast_ok h
  have a0 := h.a0; have a1 := h.a1; have n0 := h.n
  have w : IntKind.wrap .i64 (L.last + 1) = L.last + 1 := by unfold Lg.last; exact wrapS (by omega) (by omega)
  have key := rcut_3 L.a L.m L.last i L.b (L.l.map En.row)
  unfold Lg.last at h2
  rw [w, wrapS (n := i - L.a) (by omega) (by omega), wrapS (by omega) (by omega)] at key
  simp only [AVal.toRows, List.drop_zero, ← List.map_take, List.length_map] at key
  exact key (decide_eq_true ⟨by omega, by omega, by omega, by omega⟩) (decide_eq_false (by unfold Lg.last; omega)) hl (decide_eq_false (by omega))
theorem rcmp_no {L : Lg} (h : L.ok) (i : Int) (hw : (L.term i).2 ≠ 0) : FOk Try.prog 28 [L.q, .int .i64 i] [] (.tuple [L.q, .int .i64 (L.term i).2]) [] :=
  rcmp_1 L.a L.m i (L.term i).1 (L.term i).2 L.b (L.l.map En.row) (bne_iff_ne.2 hw) (rterm_ok h i)
theorem rcmp_yes {L : Lg} (h : L.ok) (i : Int) (hw : (L.term i).2 = 0) : FOk Try.prog 28 [L.q, .int .i64 i] [] (.tuple [(L.cmp i).q, .int .i64 0]) [] := by
  obtain ⟨h1, h2⟩ := term_in hw
  have ht := rterm_ok h i
  rw [hw] at ht
  have a0 := h.a0; have a1 := h.a1; have n0 := h.n
  have key := rcmp_2 L.a L.m i (L.term i).1 0 L.b (L.l.map En.row)
  unfold Lg.last at h2
  rw [wrapS (n := i - L.a) (by omega) (by omega)] at key
  simp only [AVal.toRows, List.length_map, Int.toNat_natCast] at key
  rw [List.take_of_length_le (by rw [List.length_map]; exact Nat.le_refl _), ← List.map_drop] at key
  exact key (decide_eq_true ⟨by omega, by omega, by omega⟩) (bne_eq_false_iff_eq.2 rfl) ht
theorem rapp_no {L : Lg} (h : L.ok) (x : En) (hw : L.why x ≠ 0) : FOk Try.prog 26 [L.q, .agg x.row] [] (.tuple [L.q, .int .i64 0, .int .i64 (L.why x)]) [] := by
  have he := rend_ok h
  have hl := rlast_ok h
  unfold Lg.why at hw ⊢
  by_cases h1 : x.t > 1099511627776
  · rw [if_pos h1]; exact rapp_1 L.a L.m 0 0 x.t 0 x.d L.b (L.l.map En.row) (decide_eq_true h1)
  · rw [if_neg h1] at hw ⊢
    by_cases h2 : (x.d.size : Int) > 262144
    · rw [if_pos h2]; exact rapp_2 L.a L.m 0 0 x.t 0 x.d L.b (L.l.map En.row) (decide_eq_true h2) (decide_eq_false h1)
    · rw [if_neg h2] at hw ⊢
      by_cases h3 : x.t < L.endT
      · rw [if_pos h3]; exact rapp_3 L.a L.m 0 0 x.t L.endT x.d L.b (L.l.map En.row) (decide_eq_true h3) he (decide_eq_false h2) (decide_eq_false h1)
      · rw [if_neg h3] at hw ⊢
        by_cases h4 : L.last ≥ 1099511627776
        · rw [if_pos h4]; exact rapp_4 L.a L.m L.last 0 x.t L.endT x.d L.b (L.l.map En.row) (decide_eq_true h4) hl (decide_eq_false h3) he (decide_eq_false h2) (decide_eq_false h1)
        · rw [if_neg h4] at hw; exact absurd rfl hw
theorem freeze_q (a m : Int) (rs : List (List AVal)) (u v : Int) : freezeAL [.rows true 2 rs] [.agg [.int .i64 a, .int .i64 m, .slc false 0 2 0 rs.length none], .int .i64 u, .int .i64 v] = some ([.agg [.int .i64 a, .int .i64 m, .fsl false 2 rs none], .int .i64 u, .int .i64 v], [.dead], [decide (0 + rs.length ≤ rs.length) = true]) := by
  have o : Abs.obj [AObj.rows true 2 rs] 0 = .rows true 2 rs := rfl
  simp [freezeAL, freezeA, freezeL, freezeV, o, pureCell]
theorem rapp_yes {L : Lg} (h : L.ok) (x : En) (hw : L.why x = 0) : FOk Try.prog 26 [L.q, .agg x.row] [] (.tuple [(L.add x).q, .int .i64 (L.last + 1), .int .i64 0]) [] := by
  have he := rend_ok h
  have hl := rlast_ok h
  have hL := add_ok h hw
  have a0 := h.a0; have a1 := h.a1; have n0 := h.n
  have n1 := hL.n
  have e0 : (L.add x).last = L.last + 1 := by simp [Lg.last, Lg.add]; omega
  have el : (L.add x).l.length = L.l.length + 1 := by simp [Lg.add]
  have c1 : ¬ x.t > 1099511627776 := by intro c; unfold Lg.why at hw; rw [if_pos c] at hw; simp at hw
  have c2 : ¬ (x.d.size : Int) > 262144 := by intro c; unfold Lg.why at hw; rw [if_neg c1, if_pos c] at hw; simp at hw
  have c3 : ¬ x.t < L.endT := by intro c; unfold Lg.why at hw; rw [if_neg c1, if_neg c2, if_pos c] at hw; simp at hw
  have c4 : ¬ L.last ≥ 1099511627776 := by intro c; unfold Lg.why at hw; rw [if_neg c1, if_neg c2, if_neg c3, if_pos c] at hw; simp at hw
  have e1 : (L.l.map En.row) ++ [[.int .i64 x.t, .str x.d]] = (L.add x).l.map En.row := by simp [Lg.add]
  have key := rapp_5 L.a L.m L.last (L.last + 1) x.t L.endT x.d L.b (L.l.map En.row)
  have hl2 := rlast2_1 L.a L.m false (L.l.length + 1) ((L.add x).l.map En.row)
  rw [wrapS (by omega) (by omega), show L.a + ((L.l.length + 1 : Nat) : Int) = L.last + 1 by unfold Lg.last; omega] at hl2
  simp only [List.isEmpty_cons, Bool.and_false, List.length_cons, List.length_nil, Nat.zero_add, List.length_map] at key
  rw [e1] at key
  have k2 := key hl2 (by simp) (decide_eq_true (by omega)) (decide_eq_true (by omega)) (rows_plain _) (decide_eq_false c4) hl (decide_eq_false c3) he (decide_eq_false c2) (decide_eq_false c1)
  rw [show L.l.length + 1 = ((L.add x).l.map En.row).length by rw [List.length_map, el]] at k2
  have k3 := k2.freezeT (freeze_q _ _ _ _ _) (allP_of ⟨decide_eq_true (by omega), trivial⟩)
  exact k3.toN.move [] (by kernel_rfl) (by kernel_rfl) (by kernel_rfl)
end Go.L06

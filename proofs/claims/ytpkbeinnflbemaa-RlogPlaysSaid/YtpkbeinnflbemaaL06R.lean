import Derived.Test.YtpkbeinnflbemaaL06Q
import Derived.Test.YtpkbeinnflbemaaL06G
set_option linter.unusedVariables false
set_option linter.unusedSimpArgs false
set_option maxRecDepth 100000
namespace Go.L06
open Go Go.Abs Go.Proofs

/-! ## What does does; what same tells -/
theorem same_log {L : Lg} (h : L.ok) : FOk Try.prog 20 [logP, L.q] L.o (.bool true) L.o := by
  have a0 := h.a0; have a1 := h.a1; have n0 := h.n
  obtain ⟨b1, hs⟩ := slice_ok h (L.a + 1) (L.l.length + 1)
  have hf : (L.frm (L.a + 1)).2 = 0 := by
    unfold Lg.frm Lg.last
    rw [if_neg (by omega), if_neg (by omega)]
  have e : L.slc (L.a + 1) (L.l.length + 1) = (L.l, 0) := by
    unfold Lg.slc
    rw [if_neg (by omega), if_neg (by rw [hf]; simp), show (L.a + 1 - L.a - 1).toNat = 0 by omega, List.drop_zero, List.take_of_length_le (by omega)]
  rw [e] at hs
  have ht := term_ok h L.a
  have et : L.term L.a = (L.m, 0) := by
    unfold Lg.term Lg.last
    rw [if_neg (by omega), if_neg (by omega), if_pos rfl]
  rw [et] at ht
  have key := same_1 L.a L.m L.last L.b b1 L.l.length (L.l.map En.row)
  rw [wrapS (by omega) (by omega), List.length_map, wrapS (by omega) (by omega)] at key
  exact key (by simp) (same_ok _ _ _ (by omega)) (by simp) (rlast_ok h) (last_ok h) (by simp) (base_ok L) ht hs

theorem does_app_yes {L : Lg} (h : L.ok) (x : Op) (hk : x.kd = 1) (hw : L.why x.e = 0) : FOk Try.prog 19 [logP, L.q, .agg x.row] L.o (.tuple [(L.add x.e).q, .bool true]) (L.add x.e).o' := by
  obtain ⟨kd, n, m, e⟩ := x
  dsimp only at hk hw ⊢
  subst hk
  exact dA_1 L.a L.m 0 0 n m e.t (L.last + 1) 0 e.d L.b false L.l.length (L.add e).l.length (L.l.map En.row) ((L.add e).l.map En.row) (by simp) (rapp_yes h e hw) (append_yes h e hw)
theorem does_app_no {L : Lg} (h : L.ok) (x : Op) (hk : x.kd = 1) (hw : L.why x.e ≠ 0) : FOk Try.prog 19 [logP, L.q, .agg x.row] L.o (.tuple [L.q, .bool true]) L.o := by
  obtain ⟨kd, n, m, e⟩ := x
  dsimp only at hk hw ⊢
  subst hk
  have key := dAn_1 L.a L.m 0 0 n m e.t 0 (L.why e) e.d L.b false L.l.length 0 (L.l.map En.row) [] (rapp_no h e hw) (append_no h e hw)
  rw [beq_self_eq_true] at key
  exact key
theorem does_cut_no {L : Lg} (h : L.ok) (x : Op) (hk : x.kd = 2) (hw : (L.frm x.n).2 ≠ 0) : FOk Try.prog 19 [logP, L.q, .agg x.row] L.o (.tuple [L.q, .bool true]) L.o := by
  obtain ⟨kd, n, m, e⟩ := x
  dsimp only at hk hw ⊢
  subst hk
  have key := dCn_1 L.a L.m 0 0 n m e.t 0 (L.frm n).2 e.d L.b false L.l.length 0 (L.l.map En.row) [] (cut_no h n hw) (rcut_no h n hw)
  rw [beq_self_eq_true] at key
  exact key
theorem does_cmp_no {L : Lg} (h : L.ok) (x : Op) (hk : x.kd = 3) (hw : (L.term x.n).2 ≠ 0) : FOk Try.prog 19 [logP, L.q, .agg x.row] L.o (.tuple [L.q, .bool true]) L.o := by
  obtain ⟨kd, n, m, e⟩ := x
  dsimp only at hk hw ⊢
  subst hk
  have key := dPn_1 L.a L.m 0 0 n m e.t 0 (L.term n).2 e.d L.b false L.l.length 0 (L.l.map En.row) [] (cmp_no h n hw) (rcmp_no h n hw)
  rw [beq_self_eq_true] at key
  exact key
theorem does_term {L : Lg} (h : L.ok) (x : Op) (hk : x.kd = 4) : FOk Try.prog 19 [logP, L.q, .agg x.row] L.o (.tuple [L.q, .bool true]) L.o := by
  obtain ⟨kd, n, m, e⟩ := x
  dsimp only at hk ⊢
  subst hk
  have key := dT_1 L.a L.m 0 0 n m e.t (L.term n).1 (L.term n).2 e.d L.b false L.l.length 0 (L.l.map En.row) [] (by simp) (rterm_ok h n) (term_ok h n)
  rw [beq_self_eq_true] at key
  exact key
theorem does_entry {L : Lg} (h : L.ok) (x : Op) (hk : x.kd = 5) : FOk Try.prog 19 [logP, L.q, .agg x.row] L.o (.tuple [L.q, .bool true]) L.o := by
  obtain ⟨kd, n, m, e⟩ := x
  dsimp only at hk ⊢
  subst hk
  have key := dE_1 L.a L.m n m e.t 0 (L.entry n).1.t (L.entry n).2 e.d (L.entry n).1.d L.b L.l.length (L.l.map En.row) (by simp) (rentry_ok h n) (entry_ok h n)
  rw [beq_self_eq_true] at key
  exact key
theorem does_slice {L : Lg} (h : L.ok) (x : Op) (hk : x.kd = 6) : FOk Try.prog 19 [logP, L.q, .agg x.row] L.o (.tuple [L.q, .bool true]) L.o := by
  obtain ⟨kd, n, m, e⟩ := x
  dsimp only at hk ⊢
  subst hk
  obtain ⟨b1, h1⟩ := slice_ok h n m
  obtain ⟨b2, h2⟩ := rslice_ok h n m
  have hlen : (L.slc n m).1.length ≤ 1099511627776 := by
    have n0 := h.n; have a0 := h.a0
    unfold Lg.slc
    split
    · simp
    · split
      · simp
      · have : (List.take m.toNat (List.drop (n - L.a - 1).toNat L.l)).length ≤ L.l.length := by rw [List.length_take, List.length_drop]; omega
        dsimp only; omega
  have key := dS_1 L.a L.m n m e.t (L.slc n m).2 e.d L.b b1 b2 L.l.length (L.l.map En.row) ((L.slc n m).1.map En.row) (same_ok _ _ _ hlen) h2 h1
  rw [beq_self_eq_true] at key
  exact key
theorem does_newer {L : Lg} (h : L.ok) (x : Op) (hk : x.kd = 7) : FOk Try.prog 19 [logP, L.q, .agg x.row] L.o (.tuple [L.q, .bool true]) L.o := by
  obtain ⟨kd, n, m, e⟩ := x
  dsimp only at hk ⊢
  subst hk
  have key := dN_1 L.a L.m n m e.t e.d L.b _ L.l.length (L.l.map En.row) (rnewer_ok h n m) (newer_ok h n m)
  rw [beq_self_eq_true] at key
  exact key
theorem does_else {L : Lg} (h : L.ok) (x : Op) (hk : x.kd ≠ 1 ∧ x.kd ≠ 2 ∧ x.kd ≠ 3 ∧ x.kd ≠ 4 ∧ x.kd ≠ 5 ∧ x.kd ≠ 6 ∧ x.kd ≠ 7) : FOk Try.prog 19 [logP, L.q, .agg x.row] L.o (.tuple [L.q, .bool true]) L.o := by
  obtain ⟨k1, k2, k3, k4, k5, k6, k7⟩ := hk
  exact dO_1 x.kd L.a L.m x.n x.m x.e.t x.e.d L.b L.l.length (L.l.map En.row) (beq_eq_false_iff_ne.2 k7) (beq_eq_false_iff_ne.2 k6) (beq_eq_false_iff_ne.2 k5) (beq_eq_false_iff_ne.2 k4) (beq_eq_false_iff_ne.2 k3) (beq_eq_false_iff_ne.2 k2) (beq_eq_false_iff_ne.2 k1)
end Go.L06

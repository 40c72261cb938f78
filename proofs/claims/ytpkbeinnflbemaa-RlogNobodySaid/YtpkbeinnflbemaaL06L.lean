import Derived.Test.YtpkbeinnflbemaaL06K
set_option linter.unusedVariables false
set_option linter.unusedSimpArgs false
set_option maxRecDepth 100000
namespace Go.L06
open Go Go.Abs Go.Proofs

/-! ## RlogNobody -/
theorem nslice_ok (i o : Int) : FOk Try.prog 21 [.nilp, .int .i64 i, .int .i64 o] [] (.tuple [.fsl true 2 [] none, .int .i64 1]) [] := by
  by_cases h : o < 0
  · exact nslice_1 i o (decide_eq_true h)
  · exact nslice_2 i o (nfrm_1 i ngiven_1) (decide_eq_false h)
theorem uslice_ok (i o : Int) : FOk Try.prog 21 [logP, .int .i64 i, .int .i64 o] NL (.tuple [.fsl true 2 [] none, .int .i64 1]) NL := by
  by_cases h : o < 0
  · exact uslice_1 i o (decide_eq_true h)
  · exact uslice_2 i o (ufrm_1 i ugiven_1) (decide_eq_false h)
theorem nobody_law (k t : Int) (d : ByteArray) : FOk Try.prog 7 [.int .i64 k, .agg [.int .i64 t, .str d]] [] (.bool true) [] :=
  nobody_1 k t d awake_ok (unewer_1 k k ugiven_1) (ulast_1 ugiven_1) (ubase_1 ugiven_1) (ucmp_1 k (uterm_1 k ugiven_1)) (ucut_1 k (ufrm_1 k ugiven_1)) (uslice_ok k k) (uapp_1 t d ugiven_1) (uentry_1 k ugiven_1) (uterm_1 k ugiven_1)
    (nnewer_1 k k ngiven_1) (nlast_1 ngiven_1) (nbase_1 ngiven_1) (ncmp_1 k (nterm_1 k ngiven_1)) (ncut_1 k (nfrm_1 k ngiven_1)) (nslice_ok k k) (napp_1 t d ngiven_1) (nentry_1 k ngiven_1) (nterm_1 k ngiven_1)
theorem nobody_row (xs : List AVal) (h : okArgs Try.prog Try.f7.params.toList [[.int .i64], [.int .i64, .str]] xs) : ∃ σ', FOk Try.prog 7 xs [] (.bool true) σ' := by
  obtain ⟨a, bs, rfl, h1, a2, bs2, rfl, h2, h4⟩ := h
  cases h4
  simp only [okArg, show isAggT Try.prog 3 = false from by kernel_rfl, show isAggT Try.prog 29 = true from by kernel_rfl, okKs, okK] at h1 h2
  obtain ⟨v, us, e, ⟨k, rfl, _⟩, rfl⟩ := h1
  cases e
  obtain ⟨cells, rfl, v, us, rfl, ⟨t, rfl, _⟩, v2, us2, rfl, ⟨d, rfl, _⟩, rfl⟩ := h2
  exact ⟨_, nobody_law k t d⟩
end Go.L06

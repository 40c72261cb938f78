import Derived.Test.YtkecmndppllijaaDoorL01T
import Derived.Test.YtkecmndppllijaaDoorL01G
set_option linter.unusedVariables false
set_option linter.unusedSimpArgs false
set_option maxRecDepth 100000
namespace Go.L01
open Go Go.Abs Go.Proofs
theorem vars_row (xs : List AVal) (h : okArgs Tryd.prog Tryd.f5.params.toList [[.int .i64], [.str]] xs) : ∃ σ', FOk Tryd.prog 5 xs [] (.bool true) σ' := by
  obtain ⟨a, bs, rfl, h1, a2, bs2, rfl, h2, h3⟩ := h
  cases h3
  simp only [okArg, show isAggT Tryd.prog 3 = false from by kernel_rfl, show isAggT Tryd.prog 9 = false from by kernel_rfl, okKs, okK] at h1 h2
  obtain ⟨v, us, e, ⟨n, rfl, hw⟩, rfl⟩ := h1
  cases e
  obtain ⟨v, us, e, ⟨t, rfl, ht⟩, rfl⟩ := h2
  cases e
  have hn : n < 9223372036854775808 := by
    simp [Lit.wf, IntKind.signed, IntKind.bits] at hw
    omega
  have ht' : t.size ≤ 140737488355328 := Nat.le_trans ht (by decide)
  exact ⟨_, vars_law n t hn ht'⟩
end Go.L01

import Derived.Test.YtkecmndppllijaaDoorL01AD
set_option linter.unusedVariables false
set_option linter.unusedSimpArgs false
set_option maxRecDepth 100000
namespace Go.L01
open Go Go.Abs Go.Proofs
theorem apart_row (xs : List AVal) (h : okArgs Tryd.prog Tryd.f8.params.toList [[.int .i64, .int .i64], [.str], [.str]] xs) : ∃ σ', FOk Tryd.prog 8 xs [] (.bool true) σ' := by
  obtain ⟨a, bs, rfl, h1, a2, bs2, rfl, h2, a3, bs3, rfl, h3, h4⟩ := h
  cases h4
  unfold okArg at h1 h2 h3
  rw [if_pos (by kernel_rfl)] at h1
  rw [if_neg (by rw [show isAggT Tryd.prog 9 = false from by kernel_rfl]; simp)] at h2 h3
  simp only [okKs, okK] at h1 h2 h3
  obtain ⟨cs, rfl, v, us, rfl, ⟨m, rfl, hm⟩, v2, us2, rfl, ⟨n, rfl, hn⟩, rfl⟩ := h1
  obtain ⟨v, us, e, ⟨t, rfl, ht⟩, rfl⟩ := h2
  cases e
  obtain ⟨v, us, e, ⟨u, rfl, hu⟩, rfl⟩ := h3
  cases e
  have hm : m < 9223372036854775808 := by
    simp [Lit.wf, IntKind.signed, IntKind.bits] at hm
    omega
  have hn : n < 9223372036854775808 := by
    simp [Lit.wf, IntKind.signed, IntKind.bits] at hn
    omega
  exact ⟨_, apart_law m n t u hm hn (Nat.le_trans ht (by decide)) (Nat.le_trans hu (by decide))⟩
end Go.L01

import Derived.Test.YtpncnfhfjegibaaDoorL09g0
section
set_option linter.unusedVariables false
set_option linter.unusedSimpArgs false
set_option maxRecDepth 100000
namespace Go.L09
open Go Go.Abs Go.Proofs
theorem full_row (xs : List AVal) (h : okArgs Tryd.prog Tryd.f5.params.toList [[.int .i64]] xs) : ∃ σ', FOk Tryd.prog 5 xs [] (.bool true) σ' := by
  obtain ⟨a, bs, rfl, h1, h2⟩ := h
  cases h2
  unfold okArg at h1
  rw [if_neg (by rw [show isAggT Tryd.prog 3 = false from by kernel_rfl]; simp)] at h1
  simp only [okKs, okK] at h1
  obtain ⟨v, us, e, ⟨n, rfl, _⟩, rfl⟩ := h1
  cases e
  exact ⟨_, full_law n⟩
end Go.L09
end

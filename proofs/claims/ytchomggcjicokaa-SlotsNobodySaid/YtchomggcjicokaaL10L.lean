import Derived.Test.YtchomggcjicokaaL10K
import Derived.Test.YtchomggcjicokaaAbsLaw
set_option linter.unusedVariables false
set_option linter.unusedSimpArgs false
set_option maxRecDepth 100000
namespace Go.L10
open Go Go.Abs Go.Proofs

/-! ## SlotsNobody -/
abbrev zrow : List AVal := List.replicate 32 (.int .i64 0)
theorem ugiven_ok : FOk Try.prog 21 [.ptr 0 32 0 0] [.rows true 32 [zrow]] (.bool false) [.rows true 32 [zrow]] :=
  (given_1 zrow (by kernel_rfl)).imp (Imp.bool (by rfl))
theorem nobody_law (i j : Int) : FOk Try.prog 6 [.int .i64 i, .int .i64 j] [] (.bool true) [] :=
  nobody_1 i j awake_ok (uranges_1 zrow ugiven_ok) (ugive_1 zrow i j ugiven_ok) (ubytes_1 zrow ugiven_ok) (uowner_1 zrow i ugiven_ok)
    (nranges_1 ngiven_1) (ngive_1 i j ngiven_1) (nbytes_1 ngiven_1) (nowner_1 i ngiven_1)
theorem nobody_row (xs : List AVal) (h : okArgs Try.prog Try.f6.params.toList [[.int .i64], [.int .i64]] xs) : ∃ σ', FOk Try.prog 6 xs [] (.bool true) σ' := by
  obtain ⟨a, bs, rfl, h1, a2, bs2, rfl, h2, h3⟩ := h
  cases h3
  simp only [okArg, show isAggT Try.prog 3 = false from by kernel_rfl, okKs, okK] at h1 h2
  obtain ⟨v, us, e, ⟨n, rfl, _⟩, rfl⟩ := h1
  cases e
  obtain ⟨v, us, e, ⟨m, rfl, _⟩, rfl⟩ := h2
  cases e
  exact ⟨_, nobody_law n m⟩
end Go.L10

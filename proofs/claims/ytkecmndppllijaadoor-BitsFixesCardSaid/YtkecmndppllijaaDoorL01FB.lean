import Derived.Test.YtkecmndppllijaaDoorL01FA
import Derived.Test.YtkecmndppllijaaDoorL01G
set_option linter.unusedVariables false
set_option linter.unusedSimpArgs false
set_option maxRecDepth 100000
namespace Go.L01
open Go Go.Abs Go.Proofs
theorem fixs_law (n k : Int) (t : ByteArray) (hn : n < 9223372036854775808) (ht : t.size ≤ 140737488355328) : FOk Tryd.prog 6 [.int .i64 n, .int .i64 k, .str t] [] (.bool true) [] := by
  by_cases h : fits n k
  · obtain ⟨h1, h2, h3, h4⟩ := h
    obtain ⟨m, rfl⟩ : ∃ m : Nat, n = m := ⟨n.toNat, by omega⟩
    obtain ⟨j, rfl⟩ : ∃ j : Nat, k = j := ⟨k.toNat, by omega⟩
    refine FOk.wp (fixs_wp m j t ?_)
    unfold fixs_T
    refine ⟨by omega, by omega, ?_, by omega, fun c => absurd c (by simp), fun _ => ⟨decide_eq_true (by rw [bS_size, fxb_len]; omega), fun _ => ⟨awake_ok, rfl, rfl⟩, fun c => absurd c (by simp)⟩⟩
    rcases h4 with h | h
    · exact .inl (by omega)
    · exact .inr (by simpa using h)
  · refine FOk.wp (fixsN_wp n k t ?_)
    unfold fixsN_T
    exact ⟨h, awake_ok, rfl, rfl⟩
theorem fixs_row (xs : List AVal) (h : okArgs Tryd.prog Tryd.f6.params.toList [[.int .i64], [.int .i64], [.str]] xs) : ∃ σ', FOk Tryd.prog 6 xs [] (.bool true) σ' := by
  obtain ⟨a, bs, rfl, h1, a2, bs2, rfl, h2, a3, bs3, rfl, h3, h4⟩ := h
  cases h4
  simp only [okArg, show isAggT Tryd.prog 3 = false from by kernel_rfl, show isAggT Tryd.prog 9 = false from by kernel_rfl, okKs, okK] at h1 h2 h3
  obtain ⟨v, us, e, ⟨n, rfl, hw⟩, rfl⟩ := h1
  cases e
  obtain ⟨v, us, e, ⟨k, rfl, _⟩, rfl⟩ := h2
  cases e
  obtain ⟨v, us, e, ⟨t, rfl, ht⟩, rfl⟩ := h3
  cases e
  have hn : n < 9223372036854775808 := by
    simp [Lit.wf, IntKind.signed, IntKind.bits] at hw
    omega
  exact ⟨_, fixs_law n k t hn (Nat.le_trans ht (by decide))⟩
end Go.L01

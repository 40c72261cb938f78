import Derived.Test.YtpkbeinnflbemaaL06U
set_option linter.unusedVariables false
set_option linter.unusedSimpArgs false
set_option maxRecDepth 100000
namespace Go.L06
open Go Go.Abs Go.Proofs

theorem plays_law (a m : Int) (b : Bool) (xs : List Op) : FOk Try.prog 6 [.int .i64 a, .int .i64 m, .fsl b 5 (xs.map Op.row) none] [] (.bool true) [] := by
  have key : ∀ hn : okNew a m, EndsP b (xs.map Op.row) 0 ⟨a, m, true, []⟩ := fun hn => by
    have := pl_rounds b xs _ 0 ⟨a, m, true, []⟩ (Nat.le_refl _) ⟨hn.1, hn.2.1, by have := hn.2.1; simpa using this, fun _ => rfl⟩
    exact this
  by_cases hn : okNew a m
  · rcases key hn with ⟨L, j, v, r⟩ | r
    · refine FOk.wp (plF_wp L b (xs.map Op.row) a m j ?_)
      exact ⟨fun _ => ⟨fun _ => ⟨rfl, rfl⟩, fun _ => ⟨fun _ => ⟨r.trip, v, rfl, rfl⟩, fun _ => ⟨rfl, rfl⟩, Classical.em _⟩⟩, fun _ => ⟨fun _ => ⟨r.trip, v, rfl, rfl⟩, fun _ => ⟨rfl, rfl⟩, Classical.em _⟩⟩
    · refine FOk.wp (plR_wp b (xs.map Op.row) a m ?_)
      exact ⟨fun _ => ⟨fun _ => ⟨rfl, rfl⟩, fun _ => ⟨fun _ => ⟨r.trip, rfl, rfl⟩, fun _ => ⟨rfl, rfl⟩, Classical.em _⟩⟩, fun _ => ⟨fun _ => ⟨r.trip, rfl, rfl⟩, fun _ => ⟨rfl, rfl⟩, Classical.em _⟩⟩
  · refine FOk.wp (plR_wp b (xs.map Op.row) a m ?_)
    exact ⟨fun _ => ⟨fun _ => ⟨rfl, rfl⟩, fun _ => ⟨fun h => absurd h hn, fun _ => ⟨rfl, rfl⟩, Classical.em _⟩⟩, fun _ => ⟨fun h => absurd h hn, fun _ => ⟨rfl, rfl⟩, Classical.em _⟩⟩

theorem plays_row (xs : List AVal) (h : okArgs Try.prog Try.f6.params.toList [[.int .i64], [.int .i64], [.sl 48 [.int .i64, .int .i64, .int .i64, .int .i64, .str]]] xs) : ∃ σ', FOk Try.prog 6 xs [] (.bool true) σ' := by
  obtain ⟨a1, bs1, rfl, g1, a2, bs2, rfl, g2, a, bs, rfl, h1, h3⟩ := h
  cases h3
  simp only [okArg, show isAggT Try.prog 41 = false from by kernel_rfl, show isAggT Try.prog 3 = false from by kernel_rfl, okKs, okK] at h1 g1 g2
  obtain ⟨v, us, e, ⟨n, rfl, _⟩, rfl⟩ := g1
  cases e
  obtain ⟨v, us, e, ⟨m, rfl, _⟩, rfl⟩ := g2
  cases e
  obtain ⟨v, us, e, ⟨b, rows, rfl, _, _, _, hr⟩, rfl⟩ := h1
  cases e
  obtain ⟨l, rfl⟩ := rows_of (f := Op.row) rows (fun row hrow => by
    obtain ⟨v, us, rfl, ⟨x1, rfl, _⟩, v, us, rfl, ⟨x2, rfl, _⟩, v, us, rfl, ⟨x3, rfl, _⟩, v, us, rfl, ⟨x4, rfl, _⟩, v2, us2, rfl, ⟨y, rfl, _⟩, rfl⟩ := hr row hrow
    exact ⟨⟨x1, x2, x3, ⟨x4, y⟩⟩, rfl⟩)
  exact ⟨_, plays_law n m b l⟩
end Go.L06

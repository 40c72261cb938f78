import Derived.Test.YtchomggcjicokaaL10C
import Derived.Test.YtchomggcjicokaaAbsRead
import Derived.Test.YtchomggcjicokaaAbsLaw
set_option linter.unusedVariables false
set_option linter.unusedSimpArgs false
set_option maxRecDepth 100000
namespace Go.L10
open Go Go.Abs Go.Proofs

theorem good_of {l : List Own} (h1 : l.length = 16) (h2 : (l.getD 0 z).g > 0) : Good l := ⟨h1, h2⟩
theorem awake_ok : FOk Try.prog 13 [] [] (.bool true) [] := by
  have g0 : Good (newS 2) := ⟨rfl, by decide⟩
  have g1 : Good (giveS (newS 2) 8 1).2 := ⟨rfl, by decide⟩
  exact awake_1 (flat (newS 2)) (flat (giveS (newS 2) 8 1).2) ((rngS (giveS (newS 2) 8 1).2).map Rng.row) (rngS (giveS (newS 2) 8 1).2).isEmpty
    (ranges_ok g1) (owner_ok g1 8) (give_ok g0 8 1) (give_ok g0 8 2) (new_ok 2 (by omega) (by omega))

theorem manyG_ok (m : Int) : ∃ k : Nat, manyG m = k ∧ 1 ≤ k ∧ k ≤ 8 := by
  obtain ⟨h0, h1⟩ := and_small m 7 (by omega)
  have h1 : bits .and .i64 m 7 ≤ 7 := h1
  have h0 : 0 ≤ bits .and .i64 m 7 := h0
  have e : manyG m = 1 + bits .and .i64 m 7 := wrapS (by omega) (by omega)
  exact ⟨(1 + bits .and .i64 m 7).toNat, by rw [e]; omega, by omega, by omega⟩

abbrev irow (x : Int) : List AVal := [.int .i64 x]
def cnt (l : List Own) : Nat → List Int
  | 0 => List.replicate 9 0
  | s + 1 => (cnt l s).set (l.getD s z).g.toNat (IntKind.wrap .i64 ((cnt l s).getD (l.getD s z).g.toNat 0 + 1))
theorem cnt_len (l : List Own) : ∀ s, (cnt l s).length = 9
  | 0 => rfl
  | s + 1 => by simp [cnt, cnt_len l s]

theorem ev_rounds {l : List Own} (h : Good l) (k : Nat) (hk : k ≤ 8) (hg : ∀ s, s < 16 → 1 ≤ (l.getD s z).g ∧ (l.getD s z).g ≤ k) : ∀ (d s : Nat), s + d = 16 →
    LoopRun Try.prog 0 (loopNo Try.f4 0) (rgE k s) [.rows true 32 [flat l], .rows true 1 ((cnt l s).map irow)] (.exit 0) (rgE k 16) [.rows true 32 [flat l], .rows true 1 ((cnt l 16).map irow)]
  | 0, s, hs => by
    obtain rfl : s = 16 := by omega
    exact .done (evA_4 _ _ _ 16 0 0 (by simp)) (by simp)
  | d + 1, s, hs => by
    obtain ⟨h1, h2⟩ := hg s (by omega)
    refine .more ?_ (ev_rounds h k hk hg d (s + 1) (by omega))
    have hw : IntKind.wrap .i64 ((s : Int) + 1) = ((s + 1 : Nat) : Int) := by rw [wrapS (by omega) (by omega)]; omega
    have ho := owner_ok h (s : Int)
    have hb : inB (s : Int) 0 15 = true := by simp [inB]; omega
    unfold ownerS at ho
    simp only [hb, if_true, Int.toNat_natCast] at ho
    have hl := cnt_len l s
    have hc : (l.getD s z).g.toNat < (cnt l s).length := by omega
    have key := evA_3 (flat l) ((cnt l s).map irow) k s (l.getD s z).g (l.getD s z).e
    simp only [Nat.add_zero, getD_map (f := irow) (cnt l s) _ 0 hc, hw, List.length_map, List.getD_cons_zero] at key
    have := key (by simpa using hc) (decide_eq_true (by omega)) (by kernel_rfl) (decide_eq_false (by omega)) (decide_eq_false (by omega)) ho (decide_eq_true (by omega))
    have e2 := set_map (f := irow) (cnt l s) (l.getD s z).g.toNat (IntKind.wrap .i64 ((cnt l s).getD (l.getD s z).g.toNat 0 + 1))
    have e3 : setCells (irow ((cnt l s).getD (l.getD s z).g.toNat 0)) 0 [.int .i64 (IntKind.wrap .i64 (AVal.toInt (.int .i64 ((cnt l s).getD (l.getD s z).g.toNat 0)) + 1))] = irow (IntKind.wrap .i64 ((cnt l s).getD (l.getD s z).g.toNat 0 + 1)) := rfl
    rw [e3, e2] at this
    exact this

theorem ev_checks {l : List Own} (k : Nat) (hk : k ≤ 8) (hk1 : 1 ≤ k) (hg : ∀ s : Nat, s < 9 → 1 ≤ s → s ≤ k → ¬ (cnt l 16).getD s 0 < 16 / (k : Int) ∧ ¬ (cnt l 16).getD s 0 > (16 + k - 1) / (k : Int)) : ∀ (d s : Nat), 1 ≤ s → s + d = k + 1 →
    LoopRun Try.prog 0 (loopNo Try.f4 1) (rgE2 k s) [.rows true 32 [flat l], .rows true 1 ((cnt l 16).map irow)] (.exit 2) (rgE2 k (k + 1)) [.rows true 32 [flat l], .rows true 1 ((cnt l 16).map irow)]
  | 0, s, h1, hs => by
    obtain rfl : s = k + 1 := by omega
    exact .done (evB_4 _ _ _ _ (by simp; omega)) (by simp)
  | d + 1, s, h1, hs => by
    obtain ⟨h2, h3⟩ := hg s (by omega) h1 (by omega)
    refine .more ?_ (ev_checks k hk hk1 hg d (s + 1) (by omega) (by omega))
    have hw : IntKind.wrap .i64 ((s : Int) + 1) = ((s + 1 : Nat) : Int) := by rw [wrapS (by omega) (by omega)]; omega
    have hl := cnt_len l 16
    have hc : s < (cnt l 16).length := by omega
    have w1 : IntKind.wrap .i64 (16 + (k : Int)) = 16 + k := wrapS (by omega) (by omega)
    have w2 : IntKind.wrap .i64 (16 + (k : Int) - 1) = 16 + k - 1 := wrapS (by omega) (by omega)
    have q1 : Int.tdiv 16 (k : Int) = 16 / k := Int.tdiv_eq_ediv_of_nonneg (by omega)
    have q2 : Int.tdiv (16 + (k : Int) - 1) k = (16 + k - 1) / k := Int.tdiv_eq_ediv_of_nonneg (by omega)
    have b1 : 0 ≤ 16 / (k : Int) ∧ 16 / (k : Int) ≤ 16 := ⟨Int.ediv_nonneg (by omega) (by omega), Int.ediv_le_self _ (by omega)⟩
    have b2 : 0 ≤ (16 + (k : Int) - 1) / k ∧ (16 + (k : Int) - 1) / k ≤ 16 + k - 1 := ⟨Int.ediv_nonneg (by omega) (by omega), Int.ediv_le_self _ (by omega)⟩
    have w3 : IntKind.wrap .i64 (16 / (k : Int)) = 16 / k := wrapS (by omega) (by omega)
    have w4 : IntKind.wrap .i64 ((16 + (k : Int) - 1) / k) = (16 + k - 1) / k := wrapS (by omega) (by omega)
    have key := evB_3 (flat l) ((cnt l 16).map irow) k s
    simp only [Int.toNat_natCast, Nat.add_zero, getD_map (f := irow) (cnt l 16) _ 0 hc, hw, List.length_map, List.getD_cons_zero, AVal.toInt, w1, w2, q1, q2, w3, w4] at key
    exact key (by simpa using h3) (by simp; omega) (by simpa using hc) (by kernel_rfl) (by simp; omega) (by simpa using h2) (by simp; omega)

theorem even_facts : ∀ k : Nat, 1 ≤ k → k ≤ 8 → (∀ s, s < 16 → 1 ≤ ((newS k).getD s z).g ∧ ((newS k).getD s z).g ≤ k) ∧
    (∀ s : Nat, s < 9 → 1 ≤ s → s ≤ k → ¬ (cnt (newS k) 16).getD s 0 < 16 / (k : Int) ∧ ¬ (cnt (newS k) 16).getD s 0 > (16 + k - 1) / (k : Int)) ∧ (rngS (newS k)).length = k ∧ ((newS k).getD 0 z).g > 0 := by
  intro k h1 h8
  have : k = 1 ∨ k = 2 ∨ k = 3 ∨ k = 4 ∨ k = 5 ∨ k = 6 ∨ k = 7 ∨ k = 8 := by omega
  rcases this with rfl | rfl | rfl | rfl | rfl | rfl | rfl | rfl <;> refine ⟨by decide +kernel, by decide +kernel, by decide +kernel, by decide +kernel⟩

theorem even_law (m : Int) : FOk Try.prog 4 [.int .i64 m] [] (.bool true) [] := by
  obtain ⟨k, hk, h1, h8⟩ := manyG_ok m
  obtain ⟨f1, f2, f3, f4⟩ := even_facts k h1 h8
  have hG : Good (newS k) := ⟨by simp [newS], f4⟩
  have hA := (ev_rounds hG k h8 f1 16 0 rfl).trip
  have hB := (ev_checks k h8 h1 f2 k 1 (by omega) (by omega)).trip
  have hR := ranges_ok hG
  have hN : FOk Try.prog 9 [.int .i64 (manyG m)] [] (.tuple [.ptr 0 32 0 0, .int .i64 0]) (MapO (newS k)) := by rw [hk]; exact new_ok k (by omega) (by omega)
  have key := even_1 m (flat (newS k)) ((cnt (newS k) 16).map irow) ((rngS (newS k)).map Rng.row) (rngS (newS k)).isEmpty awake_ok (by rw [List.length_map, f3, hk]; simp) hR
  rw [hk] at key
  refine key hB ?_ ?_
  · have e : (IntKind.wrap .i64 (1 + bits .and .i64 m 7)) = (k : Int) := hk
    rw [e]
    exact hA
  · exact hN

theorem even_row (xs : List AVal) (h : okArgs Try.prog Try.f4.params.toList [[.int .i64]] xs) : ∃ σ', FOk Try.prog 4 xs [] (.bool true) σ' := by
  obtain ⟨a, bs, rfl, h1, h2⟩ := h
  cases h2
  simp only [okArg, show isAggT Try.prog 3 = false from by kernel_rfl, okKs, okK] at h1
  obtain ⟨v, us, e, ⟨n, rfl, _⟩, rfl⟩ := h1
  cases e
  exact ⟨_, even_law n⟩

end Go.L10

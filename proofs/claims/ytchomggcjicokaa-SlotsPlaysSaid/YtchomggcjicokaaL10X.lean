import Derived.Test.YtchomggcjicokaaL10W
import Derived.Test.YtchomggcjicokaaAbsLaw
set_option linter.unusedVariables false
set_option linter.unusedSimpArgs false
set_option maxRecDepth 100000
namespace Go.L10
open Go Go.Abs Go.Proofs

/-! ## SlotsReads -/
theorem reads_law (s : ByteArray) : FOk Try.prog 7 [.str s] [] (.bool true) [] := by
  cases h : fromS (lB s) with
  | none =>
    refine FOk.wp (reads_wp s ?_)
    unfold reads_T
    exact ⟨h, awake_ok, rfl, rfl⟩
  | some l =>
    obtain ⟨hf, he⟩ := fromS_back h
    refine FOk.wp (readsY_wp s l ?_)
    unfold readsY_T
    rw [show bS (83 :: l.flatMap enc1) = s from he]
    exact ⟨h, hf, fun _ => ⟨awake_ok, rfl, rfl⟩, fun c => absurd c (by simp)⟩
theorem reads_row (xs : List AVal) (h : okArgs Try.prog Try.f7.params.toList [[.str]] xs) : ∃ σ', FOk Try.prog 7 xs [] (.bool true) σ' := by
  obtain ⟨a, bs, rfl, h1, h3⟩ := h
  cases h3
  simp only [okArg, show isAggT Try.prog 9 = false from by kernel_rfl, okKs, okK] at h1
  obtain ⟨v, us, e, ⟨n, rfl, _⟩, rfl⟩ := h1
  cases e
  exact ⟨_, reads_law n⟩

/-! ## SlotsPlays -/
abbrev prow (x : Int × Int) : List AVal := [.int .i64 x.1, .int .i64 x.2]
theorem gp (l : List (Int × Int)) (i : Nat) (h : i < l.length) : (l.map prow).getD i [] = prow (l.getD i (0, 0)) := getD_map l i (0, 0) h
theorem pl_rounds (gs : List (Int × Int)) (b : Bool) : ∀ (d i : Nat) (l : List Own), i + d = 200 → Fine l → ∃ (i' : Nat) (l' : List Own), Fine l' ∧
    LoopRun Try.prog 0 (loopNo Try.f5 0) (rgP (gs.map prow) b i) [.rows true 32 [flat l], .rows false 2 [[.fsl false 1 (l.map gR) none, .fsl false 1 (l.map eR) none]]] (.exit 0)
      (rgP (gs.map prow) b i') [.rows true 32 [flat l'], .rows false 2 [[.fsl false 1 (l'.map gR) none, .fsl false 1 (l'.map eR) none]]] := by
  intro d
  induction d with
  | zero =>
    intro i l hi h
    refine ⟨i, l, h, .done (TripN.wp (pll_wp _ _ _ _ ?_)) (by simp)⟩
    unfold pll_T
    exact ⟨fun _ => ⟨fun c => absurd (of_decide_eq_true c) (by omega), fun _ => ⟨rfl, rfl, rfl⟩⟩, fun _ => ⟨rfl, rfl, rfl⟩⟩
  | succ d ih =>
    intro i l hi h
    by_cases hl : i < gs.length
    · obtain ⟨i', l', f', r⟩ := ih (i + 1) (giveS l (gs.getD i (0, 0)).1 (gs.getD i (0, 0)).2).2 (by omega) (give_fine h _ _)
      refine ⟨i', l', f', .more (TripN.wp (pll_wp _ _ _ _ ?_)) r⟩
      unfold pll_T
      rw [w1 (by omega), Int.toNat_natCast, gp gs i hl, List.length_map]
      exact ⟨fun _ => ⟨fun _ => ⟨decide_eq_true (by omega), rfl, decide_eq_true (by omega), rfl, h, h.good, fun c => absurd c (by simp), fun _ => ⟨rfl, rfl, rfl⟩⟩, fun c => absurd (of_decide_eq_false c) (by omega)⟩, fun c => absurd (of_decide_eq_false c) (by omega)⟩
    · refine ⟨i, l, h, .done (TripN.wp (pll_wp _ _ _ _ ?_)) (by simp)⟩
      unfold pll_T
      rw [List.length_map]
      exact ⟨fun c => absurd (of_decide_eq_true c) (by omega), fun _ => ⟨rfl, rfl, rfl⟩⟩
theorem new_no (n : Int) (h : ¬ (1 ≤ n ∧ n ≤ 8)) : FOk Try.prog 9 [.int .i64 n] [] (.tuple [.nilp, .int .i64 1]) [] := by
  have hi := in_ok n 1 8
  rw [show inB n 1 8 = false by simp [inB]; omega] at hi
  exact new_1 n false rfl hi
theorem plays_law (n : Int) (b : Bool) (gs : List (Int × Int)) : FOk Try.prog 5 [.int .i64 n, .fsl b 2 (gs.map prow) none] [] (.bool true) [] := by
  by_cases h : 1 ≤ n ∧ n ≤ 8
  · obtain ⟨i', l', f', r⟩ := pl_rounds gs b 200 0 (newS n) rfl (new_fine n h.1 h.2)
    refine FOk.wp (playsY_wp n i' b (gs.map prow) l' ?_)
    unfold playsY_T
    exact ⟨h.1, h.2, r.trip, f', awake_ok, rfl, rfl⟩
  · refine FOk.wp (plays_wp n b (gs.map prow) ?_)
    unfold plays_T
    exact ⟨new_no n h, h, awake_ok, rfl, rfl⟩
theorem plays_row (xs : List AVal) (h : okArgs Try.prog Try.f5.params.toList [[.int .i64], [.sl 16 [.int .i64, .int .i64]]] xs) : ∃ σ', FOk Try.prog 5 xs [] (.bool true) σ' := by
  obtain ⟨a, bs, rfl, h1, a2, bs2, rfl, h2, h3⟩ := h
  cases h3
  simp only [okArg, show isAggT Try.prog 3 = false from by kernel_rfl, show isAggT Try.prog 22 = false from by kernel_rfl, okKs, okK] at h1 h2
  obtain ⟨v, us, e, ⟨n, rfl, _⟩, rfl⟩ := h1
  cases e
  obtain ⟨v, us, e, ⟨b, rows, rfl, _, _, _, hr⟩, rfl⟩ := h2
  cases e
  obtain ⟨gs, rfl⟩ := rows_of (f := prow) rows (fun row hrow => by
    obtain ⟨v, us, rfl, ⟨x, rfl, _⟩, v2, us2, rfl, ⟨y, rfl, _⟩, rfl⟩ := hr row hrow
    exact ⟨(x, y), rfl⟩)
  exact ⟨_, plays_law n b gs⟩

/-! ## SlotsBack -/
theorem and7 (n : Int) : 0 ≤ bits .and .i64 n 7 ∧ bits .and .i64 n 7 ≤ 7 := by
  have h : bits .and .i64 n 7 = IntKind.wrap .i64 (((BitVec.ofInt 64 n) &&& (BitVec.ofInt 64 7)).toNat : Int) := rfl
  have e : ((BitVec.ofInt 64 n) &&& (BitVec.ofInt 64 7)).toNat ≤ 7 := by
    rw [BitVec.toNat_and]
    exact Nat.le_trans Nat.and_le_right (by decide)
  rw [h, wrapS (by omega) (by omega)]
  omega
theorem kl1_rounds (gs rs : List (Int × Int)) (b c : Bool) : ∀ (d i : Nat) (l : List Own), i + d = 100 → Fine l → ∃ (i' : Nat) (l' : List Own), Fine l' ∧
    LoopRun Try.prog 0 (loopNo Try.f8 0) (rgK (gs.map prow) (rs.map prow) b c i) [.rows true 32 [flat l], .rows false 2 [[.fsl false 1 (l.map gR) none, .fsl false 1 (l.map eR) none]]] (.exit 0)
      (rgK (gs.map prow) (rs.map prow) b c i') [.rows true 32 [flat l'], .rows false 2 [[.fsl false 1 (l'.map gR) none, .fsl false 1 (l'.map eR) none]]] := by
  intro d
  induction d with
  | zero =>
    intro i l hi h
    refine ⟨i, l, h, .done (TripN.wp (kl1_wp _ _ _ _ _ _ ?_)) (by simp)⟩
    unfold kl1_T
    exact ⟨fun _ => ⟨fun c => absurd (of_decide_eq_true c) (by omega), fun _ => ⟨rfl, rfl, rfl⟩⟩, fun _ => ⟨rfl, rfl, rfl⟩⟩
  | succ d ih =>
    intro i l hi h
    by_cases hl : i < gs.length
    · obtain ⟨i', l', f', r⟩ := ih (i + 1) (giveS l (gs.getD i (0, 0)).1 (gs.getD i (0, 0)).2).2 (by omega) (give_fine h _ _)
      refine ⟨i', l', f', .more (TripN.wp (kl1_wp _ _ _ _ _ _ ?_)) r⟩
      unfold kl1_T
      rw [w1 (by omega), Int.toNat_natCast, gp gs i hl, List.length_map]
      exact ⟨fun _ => ⟨fun _ => ⟨decide_eq_true (by omega), rfl, decide_eq_true (by omega), rfl, h.good, h, rfl, rfl, rfl⟩, fun c => absurd (of_decide_eq_false c) (by omega)⟩, fun c => absurd (of_decide_eq_false c) (by omega)⟩
    · refine ⟨i, l, h, .done (TripN.wp (kl1_wp _ _ _ _ _ _ ?_)) (by simp)⟩
      unfold kl1_T
      rw [List.length_map]
      exact ⟨fun c => absurd (of_decide_eq_true c) (by omega), fun _ => ⟨rfl, rfl, rfl⟩⟩
theorem kl2_rounds (rs : List (Int × Int)) (c : Bool) : ∀ (d i : Nat) (l : List Own), i + d = 100 → Fine l → ∃ (i' : Nat) (l' : List Own), Fine l' ∧
    LoopRun Try.prog 0 (loopNo Try.f8 1) (rgL (rs.map prow) c i) [.rows false 2 [[.fsl false 1 (l.map gR) none, .fsl false 1 (l.map eR) none]], .rows true 32 [flat l]] (.exit 2)
      (rgL (rs.map prow) c i') [.rows false 2 [[.fsl false 1 (l'.map gR) none, .fsl false 1 (l'.map eR) none]], .rows true 32 [flat l']] := by
  intro d
  induction d with
  | zero =>
    intro i l hi h
    refine ⟨i, l, h, .done (TripN.wp (kl2_wp _ _ _ _ ?_)) (by simp)⟩
    unfold kl2_T
    exact ⟨fun _ => ⟨fun c => absurd (of_decide_eq_true c) (by omega), fun _ => ⟨rfl, rfl, rfl⟩⟩, fun _ => ⟨rfl, rfl, rfl⟩⟩
  | succ d ih =>
    intro i l hi h
    by_cases hl : i < rs.length
    · obtain ⟨i', l', f', r⟩ := ih (i + 1) (giveS l (rs.getD i (0, 0)).1 (rs.getD i (0, 0)).2).2 (by omega) (give_fine h _ _)
      refine ⟨i', l', f', .more (TripN.wp (kl2_wp _ _ _ _ ?_)) r⟩
      unfold kl2_T
      rw [w1 (by omega), Int.toNat_natCast, gp rs i hl, List.length_map]
      exact ⟨fun _ => ⟨fun _ => ⟨decide_eq_true (by omega), rfl, decide_eq_true (by omega), rfl, h, h.good, fun c => absurd c (by simp), fun _ => ⟨rfl, rfl, rfl⟩⟩, fun c => absurd (of_decide_eq_false c) (by omega)⟩, fun c => absurd (of_decide_eq_false c) (by omega)⟩
    · refine ⟨i, l, h, .done (TripN.wp (kl2_wp _ _ _ _ ?_)) (by simp)⟩
      unfold kl2_T
      rw [List.length_map]
      exact ⟨fun c => absurd (of_decide_eq_true c) (by omega), fun _ => ⟨rfl, rfl, rfl⟩⟩
theorem back_law (n : Int) (b c : Bool) (gs rs : List (Int × Int)) : FOk Try.prog 8 [.int .i64 n, .fsl b 2 (gs.map prow) none, .fsl c 2 (rs.map prow) none] [] (.bool true) [] := by
  have h7 := and7 n
  have hw : IntKind.wrap .i64 (1 + bits .and .i64 n 7) = 1 + bits .and .i64 n 7 := wrapS (by omega) (by omega)
  have h1 : 1 ≤ IntKind.wrap .i64 (1 + bits .and .i64 n 7) := by omega
  have h8 : IntKind.wrap .i64 (1 + bits .and .i64 n 7) ≤ 8 := by omega
  obtain ⟨i, l, f, r⟩ := kl1_rounds gs rs b c 100 0 (newS (IntKind.wrap .i64 (1 + bits .and .i64 n 7))) rfl (new_fine _ h1 h8)
  obtain ⟨j, l2, f2, r2⟩ := kl2_rounds rs c 100 0 l rfl f
  refine FOk.wp (back_wp n i j (gs.map prow) (rs.map prow) b c l l2 ?_)
  unfold back_T
  exact ⟨h1, h8, r.trip, f, from_some _ l (fromS_enc f), r2.trip, f2, awake_ok, rfl, rfl⟩
theorem back_row (xs : List AVal) (h : okArgs Try.prog Try.f8.params.toList [[.int .i64], [.sl 16 [.int .i64, .int .i64]], [.sl 16 [.int .i64, .int .i64]]] xs) : ∃ σ', FOk Try.prog 8 xs [] (.bool true) σ' := by
  obtain ⟨a, bs, rfl, h1, a2, bs2, rfl, h2, a3, bs3, rfl, h3, h4⟩ := h
  cases h4
  simp only [okArg, show isAggT Try.prog 3 = false from by kernel_rfl, show isAggT Try.prog 22 = false from by kernel_rfl, okKs, okK] at h1 h2 h3
  obtain ⟨v, us, e, ⟨n, rfl, _⟩, rfl⟩ := h1
  cases e
  obtain ⟨v, us, e, ⟨b, rows, rfl, _, _, _, hr⟩, rfl⟩ := h2
  cases e
  obtain ⟨gs, rfl⟩ := rows_of (f := prow) rows (fun row hrow => by
    obtain ⟨v, us, rfl, ⟨x, rfl, _⟩, v2, us2, rfl, ⟨y, rfl, _⟩, rfl⟩ := hr row hrow
    exact ⟨(x, y), rfl⟩)
  obtain ⟨v, us, e, ⟨c, rows, rfl, _, _, _, hr⟩, rfl⟩ := h3
  cases e
  obtain ⟨rs, rfl⟩ := rows_of (f := prow) rows (fun row hrow => by
    obtain ⟨v, us, rfl, ⟨x, rfl, _⟩, v2, us2, rfl, ⟨y, rfl, _⟩, rfl⟩ := hr row hrow
    exact ⟨(x, y), rfl⟩)
  exact ⟨_, back_law n b c gs rs⟩
end Go.L10

import Derived.Test.YtpfnoilcmoaplaaL11J
set_option linter.unusedVariables false
set_option linter.unusedSimpArgs false
set_option maxRecDepth 100000
namespace Go.L11
open Go Go.Abs Go.Proofs

theorem Posts.em {rs : List (List AVal)} {b : Bool} (h : Posts b rs) : Posts rs.isEmpty rs := ⟨fun e => List.isEmpty_iff.1 e, h.len, h.kind⟩
/-- a copy of posts of one's own, frozen -/
theorem clone2_ok (rs : List (List AVal)) (b : Bool) (h : Posts b rs) : FOk Try.prog 29 [.slc rs.isEmpty 0 2 0 rs.length none] [.rows true 2 rs] (.fsl rs.isEmpty 2 rs none) [.rows true 2 rs] := by
  cases rs with
  | nil => exact cl2_1 true [] rfl
  | cons x t =>
    have k := cl2_2 false (x :: t)
    simp only [List.take_length, List.nil_append, Nat.zero_add] at k
    have h1 := k (by have := h.len; exact decide_eq_true (by omega)) (decide_eq_true (Nat.le_refl _)) h.one trivial
    exact h1.fsl rfl rfl rfl
/-- a copy of frozen posts, one's own -/
theorem clone3_ok (rs : List (List AVal)) (b : Bool) (h : Posts b rs) : FOk Try.prog 29 [.fsl rs.isEmpty 2 rs none] [] (.slc rs.isEmpty 0 2 0 rs.length none) [.rows true 2 rs] := by
  cases rs with
  | nil => exact ((cl3_1 true [] rfl).imp (Imp.nilSlc 2 0 2 0 none)).ext rfl
  | cons x t =>
    have k := cl3_2 false (x :: t)
    simp only [Nat.zero_add] at k
    exact k (by have := h.len; exact decide_eq_true (by omega)) h.one trivial
theorem putM_ok (rs : List (List AVal)) (h : Posts rs.isEmpty rs) (hn : rs.length ≤ 64) : FOk Try.prog 11 [.ptr 0 1 0 0, idv 1 1, repS 0 0 rs.isEmpty 1 rs.length] (TabM [] rs) (.int .i64 0) (TabM [(.int .i64 1, last 1 0 0 rs.isEmpty rs)] rs) :=
  putM_4 1 1 rs.isEmpty rs (own2_1 0 0 rs.isEmpty rs (clone2_ok rs _ h)) rfl (decide_eq_false (by omega)) rfl
theorem findM_ok (rs : List (List AVal)) (h : Posts rs.isEmpty rs) : FOk Try.prog 10 [.ptr 0 1 0 0, idv 1 1] (Tab [(.int .i64 1, last 1 0 0 rs.isEmpty rs)]) (.tuple [repS 0 0 rs.isEmpty 2 rs.length, .int .i64 0]) (Tab [(.int .i64 1, last 1 0 0 rs.isEmpty rs)] ++ [.rows true 2 rs]) :=
  findM_4 1 1 1 0 0 rs.isEmpty rs (own3_1 0 0 rs.isEmpty rs (clone3_ok rs _ h)) rfl rfl rfl (cells_ok 1 0 0 rs.isEmpty rs) rfl
theorem sm_rounds (b c : Bool) (rs : List (List AVal)) (hk : (rs.all fun r => areKinds [.str, .str] r) = true) (hn : rs.length ≤ 64) : ∀ (d i : Nat), i + d = rs.length →
    LoopRun Try.prog 1 (loopNo Try.f14 0) (rgS b c rs i) [.rows true 2 rs] (.exit 0) (rgS b c rs rs.length) [.rows true 2 rs]
  | 0, i, hi => by
    obtain rfl : i = rs.length := by omega
    refine .done (TripN.wp (sml_wp _ _ _ _ ?_)) (by simp)
    unfold sml_T
    exact ⟨fun h => absurd (of_decide_eq_true h) (by omega), fun _ => ⟨rfl, rfl, rfl⟩⟩
  | d + 1, i, hi => by
    refine .more (TripN.wp (sml_wp _ _ _ _ ?_)) (sm_rounds b c rs hk hn d (i + 1) (by omega))
    unfold sml_T
    have hl : i < rs.length := by omega
    have hr : rs.getD i [] ∈ rs := by rw [List.getD_eq_getElem?_getD, List.getElem?_eq_getElem hl]; exact List.getElem_mem hl
    have hk := List.all_eq_true.1 hk _ hr
    rw [show IntKind.wrap .i64 ((i : Int) + 1) = ((i + 1 : Nat) : Int) by rw [wrapS (by omega) (by omega)]; omega, Int.toNat_natCast]
    refine ⟨fun _ => ⟨decide_eq_true (by omega), ?_, decide_eq_true (by omega), fun c => absurd c (by simp), fun _ => ⟨rfl, rfl, rfl⟩⟩, fun h => absurd (of_decide_eq_false h) (by omega)⟩
    revert hk
    generalize rs.getD i [] = r
    intro hk
    match r, hk with
    | [x, y], hk => exact hk
    | [], hk => simp [areKinds] at hk
    | [x], hk => simp [areKinds] at hk
    | x :: y :: z :: r, hk => simp [areKinds] at hk
theorem same1_ok (b c : Bool) (rs : List (List AVal)) (hk : (rs.all fun r => areKinds [.str, .str] r) = true) (hn : rs.length ≤ 64) : FOk Try.prog 14 [.slc b 0 2 0 rs.length none, .fsl c 2 rs none] [.rows true 2 rs] (.bool true) [.rows true 2 rs] := by
  refine FOk.wp (same1_wp b c rs rs.length ?_)
  unfold same1_T
  exact ⟨fun c => absurd c (by simp), fun _ => ⟨(sm_rounds b c rs hk hn rs.length 0 (by omega)).trip, rfl, rfl⟩⟩
end Go.L11

import Derived.Test.YtpfnoilcmoaplaaL11K
import Derived.Test.YtpfnoilcmoaplaaAbsLaw
set_option linter.unusedVariables false
set_option linter.unusedSimpArgs false
set_option maxRecDepth 100000
namespace Go.L11
open Go Go.Abs Go.Proofs

/-! ## SessionKeeps -/
theorem kl_rounds (b c : Bool) (rs : List (List AVal)) (ents : List (AVal × AVal)) : ∀ (d i : Nat) (w : List (List AVal)), i + d = w.length → w.length ≤ 64 → ∃ w', w'.length = w.length ∧
    LoopRun Try.prog 0 (loopNo Try.f5 0) (rgK b c rs w i) [.rows false 1 [[.map 3]], .rows true 2 w, .rows true 2 [[.int .i64 1, .int .i64 1]], .mp true ents] (.exit 0) (rgK b c rs w' w'.length) [.rows false 1 [[.map 3]], .rows true 2 w', .rows true 2 [[.int .i64 1, .int .i64 1]], .mp true ents]
  | 0, i, w, hi, hn => by
    obtain rfl : i = w.length := by omega
    refine ⟨w, rfl, .done (TripN.wp (kpl_wp _ _ _ _ _ _ ?_)) (by simp)⟩
    unfold kpl_T
    exact ⟨fun h => absurd (of_decide_eq_true h) (by omega), fun _ => ⟨rfl, rfl, rfl⟩⟩
  | d + 1, i, w, hi, hn => by
    obtain ⟨w', e, r⟩ := kl_rounds b c rs ents d (i + 1) (w.set i (setCells (w.getD i []) 0 [.str ⟨#[111, 116, 104, 101, 114]⟩, .str ⟨#[101, 108, 115, 101]⟩])) (by rw [List.length_set]; omega) (by rw [List.length_set]; omega)
    rw [List.length_set] at e
    refine ⟨w', e, .more (TripN.wp (kpl_wp _ _ _ _ _ _ ?_)) r⟩
    unfold kpl_T
    rw [show IntKind.wrap .i64 ((i : Int) + 1) = ((i + 1 : Nat) : Int) by rw [wrapS (by omega) (by omega)]; omega, Int.toNat_natCast]
    refine ⟨fun _ => ⟨decide_eq_true (by omega), decide_eq_true (by omega), rfl, ?_, rfl⟩, fun h => absurd (of_decide_eq_false h) (by omega)⟩
    simp only [rgK, List.length_set]
theorem km_rounds (b c : Bool) (rs : List (List AVal)) (ents : List (AVal × AVal)) : ∀ (d i : Nat) (w : List (List AVal)), i + d = w.length → w.length ≤ 64 → ∃ w', w'.length = w.length ∧
    LoopRun Try.prog 0 (loopNo Try.f5 1) (rgM b rs i) (kpH c w ents) (.exit 2) (rgM b rs w'.length) (kpH c w' ents)
  | 0, i, w, hi, hn => by
    obtain rfl : i = w.length := by omega
    refine ⟨w, rfl, .done (TripN.wp (kpm_wp _ _ _ _ _ _ ?_)) (by simp)⟩
    unfold kpm_T
    exact ⟨fun h => absurd (of_decide_eq_true h) (by omega), fun _ => ⟨rfl, rfl, rfl⟩⟩
  | d + 1, i, w, hi, hn => by
    obtain ⟨w', e, r⟩ := km_rounds b c rs ents d (i + 1) (w.set i (setCells (w.getD i []) 0 [.str ⟨#[]⟩, .str ⟨#[]⟩])) (by rw [List.length_set]; omega) (by rw [List.length_set]; omega)
    rw [List.length_set] at e
    refine ⟨w', e, .more (TripN.wp (kpm_wp _ _ _ _ _ _ ?_)) r⟩
    unfold kpm_T
    rw [show IntKind.wrap .i64 ((i : Int) + 1) = ((i + 1 : Nat) : Int) by rw [wrapS (by omega) (by omega)]; omega, Int.toNat_natCast]
    refine ⟨fun _ => ⟨decide_eq_true (by omega), decide_eq_true (by omega), rfl, rfl, ?_⟩, fun h => absurd (of_decide_eq_false h) (by omega)⟩
    simp only [kpH, List.length_set]
theorem keeps_law (b : Bool) (rs : List (List AVal)) (hk : (rs.all fun r => areKinds [.str, .str] r) = true) : FOk Try.prog 5 [.fsl b 2 rs none] [] (.bool true) [] := by
  by_cases hn : rs.length ≤ 64
  · have hp : Posts rs.isEmpty rs := ⟨fun e => List.isEmpty_iff.1 e, by omega, hk⟩
    obtain ⟨w, e, r⟩ := kl_rounds b rs.isEmpty rs [(.int .i64 1, last 1 0 0 rs.isEmpty rs)] rs.length 0 rs (by omega) hn
    obtain ⟨w2, e2, r2⟩ := km_rounds b rs.isEmpty rs [(.int .i64 1, last 1 0 0 rs.isEmpty rs)] rs.length 0 rs (by omega) hn
    refine FOk.wp (keepsB_wp b rs w w2 ?_)
    unfold keepsB_T
    exact ⟨fun c => absurd (of_decide_eq_true c) (by omega), fun _ => ⟨hp.one, decide_eq_true (by omega), hp, hn, r.trip, hk, r2.trip, rfl, rfl⟩⟩
  · refine FOk.wp (keepsB_wp b rs [] [] ?_)
    unfold keepsB_T
    exact ⟨fun _ => ⟨rfl, rfl⟩, fun c => absurd (of_decide_eq_false c) (by omega)⟩
theorem keeps_row (xs : List AVal) (h : okArgs Try.prog Try.f5.params.toList [[.sl 32 [.str, .str]]] xs) : ∃ σ', FOk Try.prog 5 xs [] (.bool true) σ' := by
  obtain ⟨a, bs, rfl, h1, h3⟩ := h
  cases h3
  simp only [okArg, show isAggT Try.prog 27 = false from by kernel_rfl, okKs, okK] at h1
  obtain ⟨v, us, e, ⟨b, rows, rfl, _, _, _, hr⟩, rfl⟩ := h1
  cases e
  refine ⟨_, keeps_law b rows ?_⟩
  rw [List.all_eq_true]
  intro row hrow
  obtain ⟨v, us, rfl, ⟨x, rfl, _⟩, v2, us2, rfl, ⟨y, rfl, _⟩, rfl⟩ := hr row hrow
  rfl
end Go.L11

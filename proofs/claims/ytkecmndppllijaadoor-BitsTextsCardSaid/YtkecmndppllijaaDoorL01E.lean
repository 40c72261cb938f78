import Derived.Test.YtkecmndppllijaaDoorL01D
import Derived.Test.YtkecmndppllijaaDoorAbsF
set_option linter.unusedVariables false
set_option linter.unusedSimpArgs false
set_option maxRecDepth 100000
namespace Go.L01
open Go Go.Abs Go.Proofs Go.Lib

abbrev V (s : ByteArray) : Bool := validD (lB s)
abbrev ext (s : ByteArray) (k : Nat) : ByteArray := s.extract k s.size
theorem lB_from (s : ByteArray) (a : Nat) : lB (s.extract a s.size) = (lB s).drop a := by
  rw [lB_extract, List.take_of_length_le (by rw [List.length_drop, lB_length]; exact Nat.le_refl _)]
theorem ext_ext (s : ByteArray) (a b : Nat) : ext (ext s a) b = ext s (a + b) := lB_inj (by rw [lB_from, lB_from, lB_from, List.drop_drop])
theorem ext_sz (s : ByteArray) (a : Nat) : (ext s a).size = s.size - a := ext_size s a
def wn (s : ByteArray) : Nat := leNat [s.get! 0, s.get! 1, s.get! 2, s.get! 3, s.get! 4, s.get! 5, s.get! 6, s.get! 7]
theorem wd_wn (s : ByteArray) : wd s = (wn s : Int) := rfl
theorem wn_lt (s : ByteArray) : wn s < 2 ^ 64 := word_lt s
theorem mask0 {n : Nat} (h : n < 2 ^ 64) (c : (bits .and .u64 (n : Int) 9259542123273814144 == 0) = true) : n &&& 9259542123273814144 = 0 := by
  have := bits_andu h (b := 9259542123273814144) (by decide)
  rw [show bits .and .u64 (n : Int) 9259542123273814144 = _ from this] at c
  have := eq_of_beq c
  omega
theorem skip8 {s : ByteArray} (h : 8 ≤ s.size) (hw : wn s &&& 9259542123273814144 = 0) : V (ext s 8) = V s := valid_skip s 8 ((word_asc s h).1 hw)
theorem or_lt {a b : Nat} (ha : a < 2 ^ 64) (hb : b < 2 ^ 64) : a ||| b < 2 ^ 64 := Nat.or_lt_two_pow ha hb

theorem vin_rounds : ∀ (n : Nat) (s : ByteArray), s.size ≤ n → ∃ t, V t = V s ∧ t.size ≤ s.size ∧ LoopRun Tryd.prog 0 (loopNo Tryd.f21 1) (rgV s) [] (.exit 2) (rgV t) []
  | 0, s, hs => by
    refine ⟨s, rfl, Nat.le_refl _, .done (TripN.wp (vin_wp s ?_)) (by simp)⟩
    unfold vin_T
    exact ⟨fun h => absurd (of_decide_eq_true h) (by omega), fun _ => ⟨rfl, rfl, rfl⟩⟩
  | n + 1, s, hs => by
    by_cases hb : 32 < s.size
    · have o1 := bits_oru (wn_lt s) (wn_lt (ext s 8))
      have o2 := bits_oru (wn_lt (ext s 16)) (wn_lt (ext s 24))
      have o3 := bits_oru (or_lt (wn_lt s) (wn_lt (ext s 8))) (or_lt (wn_lt (ext s 16)) (wn_lt (ext s 24)))
      have hT : ∀ {Q : AExit → Regs → AState → Prop}, ((wn s ||| wn (ext s 8) ||| (wn (ext s 16) ||| wn (ext s 24))) &&& 9259542123273814144 = 0 → Q .normal (rgV (ext s 32)) []) → (((bits .and .u64 ((wn s ||| wn (ext s 8) ||| (wn (ext s 16) ||| wn (ext s 24)) : Nat) : Int) 9259542123273814144 == 0) = false) → Q (.exit 2) (rgV s) []) → vin_T s Q := by
        intro Q h1 h2
        unfold vin_T
        simp only [Int.toNat_natCast, wd_wn]
        rw [o1, o2, o3]
        refine ⟨fun _ => ⟨by omega, decide_eq_true (by omega), by rw [ext_sz]; omega, decide_eq_true (by omega), by rw [ext_sz]; omega, decide_eq_true (by omega), by rw [ext_sz]; omega, fun c => ⟨decide_eq_true (by omega), h1 (mask0 (or_lt (or_lt (wn_lt _) (wn_lt _)) (or_lt (wn_lt _) (wn_lt _))) c)⟩, fun c => h2 c⟩, fun c => absurd (of_decide_eq_false c) (by omega)⟩
      cases hc : (bits .and .u64 ((wn s ||| wn (ext s 8) ||| (wn (ext s 16) ||| wn (ext s 24)) : Nat) : Int) 9259542123273814144 == 0) with
      | true =>
        have hm := mask0 (or_lt (or_lt (wn_lt _) (wn_lt _)) (or_lt (wn_lt _) (wn_lt _))) hc
        rw [or_mask, or_mask, or_mask] at hm
        obtain ⟨⟨m0, m1⟩, m2, m3⟩ := hm
        have e1 : V (ext s 32) = V s := by
          have k1 := skip8 (s := s) (by omega) m0
          have k2 := skip8 (s := ext s 8) (by rw [ext_sz]; omega) m1
          have k3 := skip8 (s := ext s 16) (by rw [ext_sz]; omega) m2
          have k4 := skip8 (s := ext s 24) (by rw [ext_sz]; omega) m3
          rw [ext_ext] at k2 k3 k4
          rw [k4, k3, k2, k1]
        obtain ⟨t, h1, h2, r⟩ := vin_rounds n (ext s 32) (by rw [ext_sz]; omega)
        rw [ext_sz] at h2
        refine ⟨t, h1.trans e1, by omega, .more (TripN.wp (vin_wp s (hT (fun _ => ⟨rfl, rfl, rfl⟩) (fun c => by rw [hc] at c; cases c)))) r⟩
      | false =>
        refine ⟨s, rfl, Nat.le_refl _, .done (TripN.wp (vin_wp s (hT (fun h => ?_) (fun _ => ⟨rfl, rfl, rfl⟩)))) (by simp)⟩
        exfalso
        have := bits_andu (or_lt (or_lt (wn_lt s) (wn_lt (ext s 8))) (or_lt (wn_lt (ext s 16)) (wn_lt (ext s 24)))) (b := 9259542123273814144) (by decide)
        rw [show bits .and .u64 _ 9259542123273814144 = _ from this, h] at hc
        simp at hc
    · refine ⟨s, rfl, Nat.le_refl _, .done (TripN.wp (vin_wp s ?_)) (by simp)⟩
      unfold vin_T
      exact ⟨fun h => absurd (of_decide_eq_true h) (by omega), fun _ => ⟨rfl, rfl, rfl⟩⟩

/-! ## The tables -/
theorem first_at : ∀ b : Fin 256, (Tabs.first.getD b.val .any).toInt = (firstT b.val : Int) ∧ areKinds [.int .u8] [Tabs.first.getD b.val .any] = true ∧ firstT b.val < 256 ∧ firstT b.val / 16 < 16 := by decide +kernel
theorem acc_at : ∀ i : Fin 16, (Tabs.acc.getD (i.val * 2) .any).toInt = (accLo i.val : Int) ∧ (Tabs.acc.getD (i.val * 2 + 1) .any).toInt = (accHi i.val : Int) ∧ areKinds [.int .u8, .int .u8] [Tabs.acc.getD (i.val * 2) .any, Tabs.acc.getD (i.val * 2 + 1) .any] = true := by decide +kernel
theorem and7u : ∀ x : Fin 256, IntKind.wrap .i64 (bits .and .u8 (x.val : Int) 7) = ((x.val % 8 : Nat) : Int) := by decide +kernel
theorem fdiv16 (n : Nat) : Int.fdiv (n : Int) 16 = ((n / 16 : Nat) : Int) := by
  rw [Int.fdiv_eq_ediv_of_nonneg _ (by omega)]; omega
end Go.L01

import Derived.Test.YtkecmndppllijaaDoorL01OA
import Derived.Test.YtkecmndppllijaaDoorL01G
import Derived.Test.YtkecmndppllijaaDoorAbsF
set_option linter.unusedVariables false
set_option linter.unusedSimpArgs false
set_option maxRecDepth 100000
namespace Go.L01
open Go Go.Abs Go.Proofs

theorem cmp_step {P la lb x y : Nat} (h1 : la < P) (h2 : lb < P) : decide (la + P * x < lb + P * y) = if x ≠ y then decide (x < y) else decide (la < lb) := by
  by_cases c : x = y
  · subst c; rw [if_neg (by simp)]; congr 1; simp
  · rw [if_pos c]
    congr 1
    by_cases d : x < y
    · have := Nat.mul_le_mul_left P (show x + 1 ≤ y from d)
      rw [Nat.mul_succ] at this
      simp [d]; omega
    · have := Nat.mul_le_mul_left P (show y + 1 ≤ x by omega)
      rw [Nat.mul_succ] at this
      simp [d]; omega
theorem byte_fxb (a k i : Nat) (h : i < k) : byteAt (bS (fxb a k)) (i : Int) = ((a / 2 ^ (8 * i) % 256 : Nat) : Int) := by
  rw [byteAt_lB, Int.toNat_natCast, lB_bS]
  have : (fxb a k).getD i 0 = UInt8.ofNat (a / 2 ^ (8 * i)) := by
    rw [List.getD_eq_getElem?_getD]
    simp [fxb, h]
  rw [this, UInt8.toNat_ofNat']
def lessAt (a b i : Nat) : Bool := decide (a % 2 ^ (8 * i) < b % 2 ^ (8 * i))
theorem less_step (a b i : Nat) : lessAt a b (i + 1) = if a / 2 ^ (8 * i) % 256 ≠ b / 2 ^ (8 * i) % 256 then decide (a / 2 ^ (8 * i) % 256 < b / 2 ^ (8 * i) % 256) else lessAt a b i := by
  unfold lessAt
  rw [show 8 * (i + 1) = 8 * i + 8 by omega, Nat.pow_add, Nat.mod_mul, Nat.mod_mul]
  exact cmp_step (Nat.mod_lt _ (Nat.two_pow_pos _)) (Nat.mod_lt _ (Nat.two_pow_pos _))
theorem or_rounds (x y : Int) (a b : Nat) : ∀ (d i : Nat), i + d = 4 →
    LoopRun Tryd.prog 0 (loopNo Tryd.f4 0) (rgO x y (bS (fxb a 4)) (bS (fxb b 4)) (.bool (lessAt a b i)) i) [] (.exit 0) (rgO x y (bS (fxb a 4)) (bS (fxb b 4)) (.bool (lessAt a b 4)) 4) []
  | 0, i, hi => by
    obtain rfl : i = 4 := by omega
    refine .done (TripN.wp (orl_wp _ _ _ _ _ _ ?_)) (by simp)
    unfold orl_T
    exact ⟨fun h => absurd (of_decide_eq_true h) (by omega), fun _ => ⟨rfl, rfl, rfl⟩⟩
  | d + 1, i, hi => by
    refine .more (TripN.wp (orl_wp _ _ _ _ _ _ ?_)) (or_rounds x y a b d (i + 1) (by omega))
    unfold orl_T
    rw [byte_fxb a 4 i (by omega), byte_fxb b 4 i (by omega), wi (by omega), less_step, bS_size, bS_size, fxb_len, fxb_len]
    refine ⟨fun _ => ⟨decide_eq_true (by omega), decide_eq_true (by omega), fun c => ?_, fun c => ?_⟩, fun h => absurd (of_decide_eq_false h) (by omega)⟩
    · have c := bne_iff_ne.1 c
      rw [if_pos (by omega)]
      refine ⟨rfl, ?_, rfl⟩
      simp only [rgO, Int.ofNat_lt]
    · have c := bne_eq_false_iff_eq.1 c
      rw [if_neg (by omega)]
      exact ⟨rfl, rfl, rfl⟩
theorem shr7 (n : Nat) {j : Nat} (hj : j ≤ 9) : Int.fdiv (n : Int) (2 ^ min (Int.toNat (IntKind.wrap .i64 (7 * (j : Int)))) 64) = ((n / 2 ^ (7 * j) : Nat) : Int) := by
  rw [wrapS (n := 7 * (j : Int)) (by omega) (by omega)]
  have e : min (7 * (j : Int)).toNat 64 = 7 * j := by omega
  rw [e, show (2 : Int) ^ (7 * j) = ((2 ^ (7 * j) : Nat) : Int) by simp]
  exact fdN _
theorem vbl_bound : ∀ n : Nat, n < 2 ^ (7 * (vbl n).length) ∧ (1 < (vbl n).length → 2 ^ (7 * ((vbl n).length - 1)) ≤ n) := by
  intro n
  induction n using Nat.strongRecOn with
  | _ n ih =>
    by_cases h : n < 128
    · rw [vbl_lt h]
      exact ⟨by simpa using h, fun c => by simp at c⟩
    · obtain ⟨i1, i2⟩ := ih (n / 128) (by omega)
      rw [vbl_ge (by omega)]
      have hp : 0 < (vbl (n / 128)).length := List.length_pos_iff.2 (vbl_ne _)
      simp only [List.length_cons, Nat.add_sub_cancel]
      generalize (vbl (n / 128)).length = l at *
      have e : 2 ^ (7 * (l + 1)) = 128 * 2 ^ (7 * l) := by rw [show 7 * (l + 1) = 7 + 7 * l by omega, Nat.pow_add]
      refine ⟨by rw [e]; omega, fun _ => ?_⟩
      by_cases c : 1 < l
      · have := i2 c
        have e2 : 2 ^ (7 * l) = 128 * 2 ^ (7 * (l - 1)) := by rw [show 7 * l = 7 + 7 * (l - 1) by omega, Nat.pow_add]
        omega
      · obtain rfl : l = 1 := by omega
        simp; omega
theorem Imp.ttb (b : Bool) : Imp (.tt b) (.bool b) := fun F w ρ c hc => by cases hc; exact .bool _ _
theorem and32 (n : Int) : ∃ k : Nat, k < 4294967296 ∧ bits .and .i64 n 4294967295 = (k : Int) := by
  have h : bits .and .i64 n 4294967295 = IntKind.wrap .i64 (((BitVec.ofInt 64 n) &&& (BitVec.ofInt 64 4294967295)).toNat : Int) := rfl
  have e : ((BitVec.ofInt 64 n) &&& (BitVec.ofInt 64 4294967295)).toNat ≤ 4294967295 := by
    rw [BitVec.toNat_and]
    exact Nat.le_trans Nat.and_le_right (by decide)
  exact ⟨_, by omega, h.trans (wrapS (by omega) (by omega))⟩
theorem ordr_law (m n : Int) : FOk Tryd.prog 4 [.int .i64 m, .int .i64 n] [] (.bool true) [] := by
  obtain ⟨a, ha, ea⟩ := and32 m
  obtain ⟨b, hb, eb⟩ := and32 n
  have pa := pfix_ok a 4 (by omega) (by omega) (.inr (by simpa using ha))
  have pb := pfix_ok b 4 (by omega) (by omega) (.inr (by simpa using hb))
  have va := putv_ok a (by omega) (by omega)
  rw [Int.toNat_natCast] at va
  have hl9 := vbl_len9 (n := a) (by omega)
  have hl0 : 0 < (vbl a).length := List.length_pos_iff.2 (vbl_ne _)
  obtain ⟨v1, v2⟩ := vbl_bound a
  have lp := (or_rounds (a : Int) (b : Int) a b 4 0 rfl).trip
  rw [show lessAt a b 0 = false by simp [lessAt, Nat.mod_one]] at lp
  have l4 : lessAt a b 4 = decide ((a : Int) < (b : Int)) := by
    unfold lessAt
    rw [Nat.mod_eq_of_lt (by simpa using ha), Nat.mod_eq_of_lt (by simpa using hb)]
    congr 1
    simp
  have lp2 := lp.imp (RImp.unset (x := 11) (v := .tt false) (Imp.ttb false))
  refine FOk.wp (ordr_wp m n a b (lessAt a b 4) 4 ?_)
  unfold ordr_T
  rw [ea, eb, bS_size, shr7 a (by omega), l4]
  rw [l4] at lp2
  have w1 : IntKind.wrap .i64 (((vbl a).length : Int) - 1) = (((vbl a).length - 1 : Nat) : Int) := by rw [wrapS (by omega) (by omega)]; omega
  rw [w1, shr7 a (j := (vbl a).length - 1) (by omega), Nat.div_eq_of_lt v1]
  refine ⟨pa, pb, lp2, va, fun _ => ⟨fun _ => ⟨fun c => ⟨decide_eq_true (by rw [wrapS (by omega) (by omega)]; omega), fun _ => ⟨awake_ok, rfl, rfl⟩, fun c => absurd c (by simp)⟩, fun c => ⟨decide_eq_true (by rw [wrapS (by omega) (by omega)]; omega), fun _ => ⟨decide_eq_true (by rw [wrapS (by omega) (by omega)]; omega), fun _ => ⟨awake_ok, rfl, rfl⟩, fun c => absurd c (by simp)⟩, fun d => ?_⟩⟩, fun c => absurd (of_decide_eq_false c) (by omega)⟩, fun c => absurd c (by simp)⟩
  exfalso
  have c := beq_eq_false_iff_ne.1 c
  have d := of_decide_eq_false d
  have := v2 (by omega)
  have : 0 < a / 2 ^ (7 * ((vbl a).length - 1)) := Nat.div_pos this (Nat.two_pow_pos _)
  omega
theorem ordr_row (xs : List AVal) (h : okArgs Tryd.prog Tryd.f4.params.toList [[.int .i64], [.int .i64]] xs) : ∃ σ', FOk Tryd.prog 4 xs [] (.bool true) σ' := by
  obtain ⟨a, bs, rfl, h1, a2, bs2, rfl, h2, h4⟩ := h
  cases h4
  simp only [okArg, show isAggT Tryd.prog 3 = false from by kernel_rfl, okKs, okK] at h1 h2
  obtain ⟨v, us, e, ⟨n, rfl, hw⟩, rfl⟩ := h1
  cases e
  obtain ⟨v, us, e, ⟨k, rfl, _⟩, rfl⟩ := h2
  cases e
  exact ⟨_, ordr_law n k⟩
end Go.L01

import Derived.Test.YtkecmndppllijaaDoorL01V
import Derived.Test.YtkecmndppllijaaDoorL01E
set_option linter.unusedVariables false
set_option linter.unusedSimpArgs false
set_option maxRecDepth 100000
namespace Go.L01
open Go Go.Abs Go.Proofs Go.Lib

/-! ## Signs as bytes -/
abbrev u (n : Nat) : UInt8 := UInt8.ofNat n
theorem u_nat {n : Nat} (h : n < 256) : (u n).toNat = n := by rw [UInt8.toNat_ofNat']; omega
theorem lead (l : List UInt8) (b0 b1 b2 b3 x : Nat) (hne : l ≠ []) (h0 : (l.getD 0 0).toNat = b0) (h1 : (l.getD 1 0).toNat = b1) (h2 : (l.getD 2 0).toNat = b2) (h3 : (l.getD 3 0).toNat = b3) (hb : 128 ≤ b0) (hx : firstT b0 = x) :
    validD l = match checkN l.length b1 b2 b3 (x % 8) (accLo (x / 16)) (accHi (x / 16)) with | none => false | some k => validD (l.drop k) := by
  subst h0 h1 h2 h3 hx
  exact validD_lead l hne hb
theorem lead_ok {l : List UInt8} {b0 b1 b2 b3 x k : Nat} (hne : l ≠ []) (h0 : (l.getD 0 0).toNat = b0) (h1 : (l.getD 1 0).toNat = b1) (h2 : (l.getD 2 0).toNat = b2) (h3 : (l.getD 3 0).toNat = b3) (hb : 128 ≤ b0) (hx : firstT b0 = x)
    (hc : checkN l.length b1 b2 b3 (x % 8) (accLo (x / 16)) (accHi (x / 16)) = some k) : validD l = validD (l.drop k) := by
  rw [lead l b0 b1 b2 b3 x hne h0 h1 h2 h3 hb hx, hc]
theorem lead_no {l : List UInt8} {b0 b1 b2 b3 x : Nat} (hne : l ≠ []) (h0 : (l.getD 0 0).toNat = b0) (h1 : (l.getD 1 0).toNat = b1) (h2 : (l.getD 2 0).toNat = b2) (h3 : (l.getD 3 0).toNat = b3) (hb : 128 ≤ b0) (hx : firstT b0 = x)
    (hc : checkN l.length b1 b2 b3 (x % 8) (accLo (x / 16)) (accHi (x / 16)) = none) : validD l = false := by
  rw [lead l b0 b1 b2 b3 x hne h0 h1 h2 h3 hb hx, hc]
theorem f2 {b : Nat} (h : 194 ≤ b) (h2 : b < 224) : firstT b = 2 := by unfold firstT; rw [if_neg (by omega), if_neg (by omega), if_pos (by omega)]
theorem f3 {b : Nat} (h : 225 ≤ b) (h2 : b < 240) (h3 : b ≠ 237) : firstT b = 3 := by
  unfold firstT
  by_cases c : b < 237
  · rw [if_neg (by omega), if_neg (by omega), if_neg (by omega), if_neg (by omega), if_pos c]
  · rw [if_neg (by omega), if_neg (by omega), if_neg (by omega), if_neg (by omega), if_neg c, if_neg h3, if_pos (by omega)]
theorem f4 {b : Nat} (h : 241 ≤ b) (h2 : b < 244) : firstT b = 4 := by
  unfold firstT
  rw [if_neg (by omega), if_neg (by omega), if_neg (by omega), if_neg (by omega), if_neg (by omega), if_neg (by omega), if_neg (by omega), if_neg (by omega), if_pos (by omega)]
theorem f5 {b : Nat} (h : 245 ≤ b) : firstT b = 241 := by
  unfold firstT
  rw [if_neg (by omega), if_neg (by omega), if_neg (by omega), if_neg (by omega), if_neg (by omega), if_neg (by omega), if_neg (by omega), if_neg (by omega), if_neg (by omega), if_neg (by omega)]

theorem L1 {k : Nat} (h : k < 128) (t : List UInt8) : validD (u k :: t) = validD t := validD_cons _ _ (by rw [u_nat (by omega)]; exact h)
theorem L2 {k : Nat} (h : 128 ≤ k) (h2 : k < 2048) (t : List UInt8) : validD (u (192 + k / 64) :: u (128 + k % 64) :: t) = validD t := by
  refine lead_ok (k := 2) (by simp) (u_nat (by omega)) (u_nat (by omega)) rfl rfl (by omega) (f2 (by omega) (by omega)) ?_
  show checkN _ _ _ _ 2 128 191 = some 2
  unfold checkN
  rw [if_pos rfl, if_neg (by simp only [List.length_cons]; omega)]
theorem L2s {k : Nat} (h : 128 ≤ k) (h2 : k < 2048) : validD [u (192 + k / 64)] = false := by
  refine lead_no (by simp) (u_nat (by omega)) rfl rfl rfl (by omega) (f2 (by omega) (by omega)) ?_
  rfl
theorem L3 {k : Nat} (h : 2048 ≤ k) (h2 : k < 65536) (t : List UInt8) : validD (u (224 + k / 4096) :: u (128 + k / 64 % 64) :: u (128 + k % 64) :: t) = (decide (k < 55296 ∨ 57343 < k) && validD t) := by
  by_cases c : k / 4096 = 0
  · rw [decide_eq_true (by omega), Bool.true_and]
    refine lead_ok (k := 3) (x := 19) (b0 := 224) (by simp) (by rw [show u (224 + k / 4096) = 224 by rw [c]; rfl]; rfl) (u_nat (by omega)) (u_nat (by omega)) rfl (by omega) rfl ?_
    show checkN _ _ _ _ 3 160 191 = some 3
    unfold checkN
    rw [if_neg (by omega), if_pos rfl, if_neg (by simp only [List.length_cons]; omega)]
  · by_cases d : k / 4096 = 13
    · have e0 : ((u (224 + k / 4096) :: u (128 + k / 64 % 64) :: u (128 + k % 64) :: t).getD 0 0).toNat = 237 := by rw [show u (224 + k / 4096) = 237 by rw [d]; rfl]; rfl
      by_cases e : k < 55296
      · rw [decide_eq_true (by omega), Bool.true_and]
        refine lead_ok (k := 3) (x := 35) (b0 := 237) (by simp) e0 (u_nat (by omega)) (u_nat (by omega)) rfl (by omega) rfl ?_
        show checkN _ _ _ _ 3 128 159 = some 3
        unfold checkN
        rw [if_neg (by omega), if_pos rfl, if_neg (by simp only [List.length_cons]; omega)]
      · rw [decide_eq_false (by omega), Bool.false_and]
        refine lead_no (x := 35) (b0 := 237) (by simp) e0 (u_nat (by omega)) (u_nat (by omega)) rfl (by omega) rfl ?_
        show checkN _ _ _ _ 3 128 159 = none
        unfold checkN
        rw [if_neg (by omega), if_pos rfl, if_pos (by omega)]
    · rw [decide_eq_true (by omega), Bool.true_and]
      refine lead_ok (k := 3) (x := 3) (by simp) (u_nat (by omega)) (u_nat (by omega)) (u_nat (by omega)) rfl (by omega) (f3 (by omega) (by omega) (by omega)) ?_
      show checkN _ _ _ _ 3 128 191 = some 3
      unfold checkN
      rw [if_neg (by omega), if_pos rfl, if_neg (by simp only [List.length_cons]; omega)]
theorem L3s {k : Nat} (h : 2048 ≤ k) (h2 : k < 65536) : validD [u (224 + k / 4096), u (128 + k / 64 % 64)] = false := by
  by_cases c : k / 4096 = 0
  · exact lead_no (x := 19) (b0 := 224) (by simp) (by rw [show u (224 + k / 4096) = 224 by rw [c]; rfl]; rfl) (u_nat (by omega)) rfl rfl (by omega) rfl rfl
  · by_cases d : k / 4096 = 13
    · exact lead_no (x := 35) (b0 := 237) (by simp) (by rw [show u (224 + k / 4096) = 237 by rw [d]; rfl]; rfl) (u_nat (by omega)) rfl rfl (by omega) rfl rfl
    · exact lead_no (x := 3) (by simp) (u_nat (by omega)) (u_nat (by omega)) rfl rfl (by omega) (f3 (by omega) (by omega) (by omega)) rfl
theorem L4 {k : Nat} (h : 65536 ≤ k) (h2 : k < 2097152) (t : List UInt8) : validD (u (240 + k / 262144) :: u (128 + k / 4096 % 64) :: u (128 + k / 64 % 64) :: u (128 + k % 64) :: t) = (decide (k ≤ 1114111) && validD t) := by
  by_cases c : k / 262144 = 0
  · rw [decide_eq_true (by omega), Bool.true_and]
    refine lead_ok (k := 4) (x := 52) (b0 := 240) (by simp) (by rw [show u (240 + k / 262144) = 240 by rw [c]; rfl]; rfl) (u_nat (by omega)) (u_nat (by omega)) (u_nat (by omega)) (by omega) rfl ?_
    show checkN _ _ _ _ 4 144 191 = some 4
    unfold checkN
    rw [if_neg (by omega), if_neg (by omega), if_pos rfl, if_neg (by simp only [List.length_cons]; omega)]
  · by_cases d : k / 262144 = 4
    · have e0 : ((u (240 + k / 262144) :: u (128 + k / 4096 % 64) :: u (128 + k / 64 % 64) :: u (128 + k % 64) :: t).getD 0 0).toNat = 244 := by rw [show u (240 + k / 262144) = 244 by rw [d]; rfl]; rfl
      by_cases e : k ≤ 1114111
      · rw [decide_eq_true e, Bool.true_and]
        refine lead_ok (k := 4) (x := 68) (b0 := 244) (by simp) e0 (u_nat (by omega)) (u_nat (by omega)) (u_nat (by omega)) (by omega) rfl ?_
        show checkN _ _ _ _ 4 128 143 = some 4
        unfold checkN
        rw [if_neg (by omega), if_neg (by omega), if_pos rfl, if_neg (by simp only [List.length_cons]; omega)]
      · rw [decide_eq_false e, Bool.false_and]
        refine lead_no (x := 68) (b0 := 244) (by simp) e0 (u_nat (by omega)) (u_nat (by omega)) (u_nat (by omega)) (by omega) rfl ?_
        show checkN _ _ _ _ 4 128 143 = none
        unfold checkN
        rw [if_neg (by omega), if_neg (by omega), if_pos rfl, if_pos (by omega)]
    · by_cases e : k / 262144 < 4
      · rw [decide_eq_true (by omega), Bool.true_and]
        refine lead_ok (k := 4) (x := 4) (by simp) (u_nat (by omega)) (u_nat (by omega)) (u_nat (by omega)) (u_nat (by omega)) (by omega) (f4 (by omega) (by omega)) ?_
        show checkN _ _ _ _ 4 128 191 = some 4
        unfold checkN
        rw [if_neg (by omega), if_neg (by omega), if_pos rfl, if_neg (by simp only [List.length_cons]; omega)]
      · rw [decide_eq_false (by omega), Bool.false_and]
        exact lead_no (x := 241) (by simp) (u_nat (by omega)) (u_nat (by omega)) (u_nat (by omega)) (u_nat (by omega)) (by omega) (f5 (by omega)) rfl
theorem L4s {k : Nat} (h : 65536 ≤ k) (h2 : k < 2097152) : validD [u (240 + k / 262144), u (128 + k / 4096 % 64), u (128 + k / 64 % 64)] = false := by
  by_cases c : k / 262144 = 0
  · exact lead_no (x := 52) (b0 := 240) (by simp) (by rw [show u (240 + k / 262144) = 240 by rw [c]; rfl]; rfl) (u_nat (by omega)) (u_nat (by omega)) rfl (by omega) rfl rfl
  · by_cases d : k / 262144 = 4
    · exact lead_no (x := 68) (b0 := 244) (by simp) (by rw [show u (240 + k / 262144) = 244 by rw [d]; rfl]; rfl) (u_nat (by omega)) (u_nat (by omega)) rfl (by omega) rfl rfl
    · by_cases e : k / 262144 < 4
      · exact lead_no (x := 4) (by simp) (u_nat (by omega)) (u_nat (by omega)) (u_nat (by omega)) rfl (by omega) (f4 (by omega) (by omega)) rfl
      · exact lead_no (x := 241) (by simp) (u_nat (by omega)) (u_nat (by omega)) (u_nat (by omega)) rfl (by omega) (f5 (by omega)) rfl
end Go.L01

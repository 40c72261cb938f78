import Derived.Test.YtkecmndppllijaaDoorL01W
import Derived.Test.YtkecmndppllijaaDoorL01G
set_option linter.unusedVariables false
set_option linter.unusedSimpArgs false
set_option maxRecDepth 100000
namespace Go.L01
open Go Go.Abs Go.Proofs Go.Lib

theorem and_bits (n : Int) (j : Nat) (hj : j ≤ 62) : ∃ k : Nat, k < 2 ^ j ∧ bits .and .i64 n ((2 ^ j - 1 : Nat) : Int) = (k : Int) := by
  have hp : (2 : Nat) ^ j ≤ 2 ^ 62 := Nat.pow_le_pow_right (by decide) hj
  have hpos := Nat.two_pow_pos j
  have h : bits .and .i64 n ((2 ^ j - 1 : Nat) : Int) = IntKind.wrap .i64 (((BitVec.ofInt 64 n) &&& (BitVec.ofInt 64 ((2 ^ j - 1 : Nat) : Int))).toNat : Int) := rfl
  have e : ((BitVec.ofInt 64 n) &&& (BitVec.ofInt 64 ((2 ^ j - 1 : Nat) : Int))).toNat ≤ 2 ^ j - 1 := by
    rw [BitVec.toNat_and]
    refine Nat.le_trans Nat.and_le_right ?_
    simp only [BitVec.ofInt_natCast, BitVec.toNat_ofNat]
    rw [Nat.mod_eq_of_lt (by omega)]
    exact Nat.le_refl _
  refine ⟨_, by omega, h.trans (wrapS (by omega) (by omega))⟩
theorem and63 {m : Nat} (h : m < 2 ^ 62) : bits .and .i64 (m : Int) 63 = ((m % 64 : Nat) : Int) := by
  have h2 : bits .and .i64 (m : Int) 63 = IntKind.wrap .i64 (((BitVec.ofInt 64 (m : Int)) &&& (BitVec.ofInt 64 63)).toNat : Int) := rfl
  have e : ((BitVec.ofInt 64 (m : Int)) &&& (BitVec.ofInt 64 63)).toNat = m % 64 := by
    rw [BitVec.toNat_and]
    simp only [BitVec.ofInt_natCast, BitVec.toNat_ofNat]
    rw [Nat.mod_eq_of_lt (by omega)]
    show m &&& (2 ^ 6 - 1) = m % 2 ^ 6
    exact Nat.and_two_pow_sub_one_eq_mod m 6
  rw [h2, e]
  exact wrapS (by omega) (by omega)
theorem fd {m : Nat} (d : Nat) : Int.fdiv (m : Int) (d : Int) = ((m / d : Nat) : Int) := by
  rw [Int.fdiv_eq_ediv_of_nonneg _ (by omega)]; rfl
theorem w8 {m : Nat} (h : m < 256) : IntKind.wrap .u8 (IntKind.wrap .i64 (m : Int)) = (m : Int) := by
  rw [wrapS (by omega) (by omega), wrapU8]; omega
theorem V1 (a : Nat) : V (rowBytes [[.int .u8 (a : Int)]]) = validD [u a] := rfl
theorem V2 (a b : Nat) : V (rowBytes [[.int .u8 (a : Int)], [.int .u8 (b : Int)]]) = validD [u a, u b] := rfl
theorem V3 (a b c : Nat) : V (rowBytes [[.int .u8 (a : Int)], [.int .u8 (b : Int)], [.int .u8 (c : Int)]]) = validD [u a, u b, u c] := rfl
theorem V4 (a b c d : Nat) : V (rowBytes [[.int .u8 (a : Int)], [.int .u8 (b : Int)], [.int .u8 (c : Int)], [.int .u8 (d : Int)]]) = validD [u a, u b, u c, u d] := rfl
theorem VA (s : ByteArray) : V (ByteArray.mk #[97] ++ s ++ ByteArray.mk #[122]) = validD (lB s ++ [122]) := by
  show validD (lB _) = _
  rw [lB_append, lB_append]
  exact validD_cons 97 _ (by decide)
theorem z_ok : validD [122] = true := by kernel_rfl
theorem e_ok : validD [] = true := rfl
theorem runes_law (n : Int) : FOk Tryd.prog 3 [.int .i64 n] [] (.bool true) [] := by
  obtain ⟨k, hk, e⟩ := and_bits n 21 (by omega)
  rw [show (((2 ^ 21 - 1 : Nat) : Int)) = 2097151 from rfl] at e
  have hk : k < 2097152 := hk
  by_cases c1 : k < 128
  · have r := runes_2 n
    rw [e, show IntKind.wrap .u8 (k : Int) = (k : Int) by rw [wrapU8]; omega, VA, V1, L1 c1] at r
    refine r awake_ok ?_ (by rfl) (decide_eq_true (by omega)) (decide_eq_true (by omega)) (decide_eq_true (by omega))
    show (validD (u k :: [122]) == true) = true
    rw [L1 c1, z_ok]; rfl
  by_cases c2 : k < 2048
  · have r := runes_12 n
    rw [e, show Int.fdiv (k : Int) 64 = ((k / 64 : Nat) : Int) from fd 64, and63 (by omega), show (192 : Int) + ((k / 64 : Nat) : Int) = ((192 + k / 64 : Nat) : Int) by omega, show (128 : Int) + ((k % 64 : Nat) : Int) = ((128 + k % 64 : Nat) : Int) by omega, w8 (by omega), w8 (by omega), VA, V1, V2, L2 (by omega) c2, L2s (by omega) c2] at r
    refine r awake_ok ?_ rfl rfl (decide_eq_true (by omega)) (decide_eq_true (by omega)) (decide_eq_true (by omega)) (decide_eq_false (by omega))
    show (validD (u (192 + k / 64) :: u (128 + k % 64) :: [122]) == true) = true
    rw [L2 (by omega) c2, z_ok]; rfl
  by_cases c3 : k < 65536
  · by_cases c4 : k < 55296
    · have r := runes_24 n
      rw [e, show Int.fdiv (k : Int) 4096 = ((k / 4096 : Nat) : Int) from fd 4096, show Int.fdiv (k : Int) 64 = ((k / 64 : Nat) : Int) from fd 64, and63 (m := k / 64) (by omega), and63 (m := k) (by omega), show (224 : Int) + ((k / 4096 : Nat) : Int) = ((224 + k / 4096 : Nat) : Int) by omega, show (128 : Int) + ((k / 64 % 64 : Nat) : Int) = ((128 + k / 64 % 64 : Nat) : Int) by omega, show (128 : Int) + ((k % 64 : Nat) : Int) = ((128 + k % 64 : Nat) : Int) by omega, w8 (by omega), w8 (by omega), w8 (by omega), VA, V2, V3, L3 (by omega) c3, L3s (by omega) c3] at r
      refine r awake_ok ?_ rfl (by rw [decide_eq_true (by omega), e_ok]; rfl) (decide_eq_true (by omega)) (decide_eq_true (by omega)) (decide_eq_true (by omega)) (decide_eq_false (by omega)) (decide_eq_false (by omega))
      show (validD (u (224 + k / 4096) :: u (128 + k / 64 % 64) :: u (128 + k % 64) :: [122]) == true) = true
      rw [L3 (by omega) c3, z_ok, decide_eq_true (by omega)]; rfl
    · have r := runes_28 n
      have hd : decide (k < 55296 ∨ 57343 < k) = decide ((k : Int) > 57343) := by congr 1; simp; omega
      rw [e, show Int.fdiv (k : Int) 4096 = ((k / 4096 : Nat) : Int) from fd 4096, show Int.fdiv (k : Int) 64 = ((k / 64 : Nat) : Int) from fd 64, and63 (m := k / 64) (by omega), and63 (m := k) (by omega), show (224 : Int) + ((k / 4096 : Nat) : Int) = ((224 + k / 4096 : Nat) : Int) by omega, show (128 : Int) + ((k / 64 % 64 : Nat) : Int) = ((128 + k / 64 % 64 : Nat) : Int) by omega, show (128 : Int) + ((k % 64 : Nat) : Int) = ((128 + k % 64 : Nat) : Int) by omega, w8 (by omega), w8 (by omega), w8 (by omega), VA, V2, V3, L3 (by omega) c3, L3s (by omega) c3] at r
      refine r awake_ok ?_ rfl (by rw [hd, e_ok]; simp) (decide_eq_false (by omega)) (decide_eq_true (by omega)) (decide_eq_true (by omega)) (decide_eq_false (by omega)) (decide_eq_false (by omega))
      show (validD (u (224 + k / 4096) :: u (128 + k / 64 % 64) :: u (128 + k % 64) :: [122]) == decide ((k : Int) > 57343)) = true
      rw [L3 (by omega) c3, z_ok, hd]; simp
  have b4 : ∀ {x : List UInt8}, lB (rowBytes [[.int .u8 ((240 + k / 262144 : Nat) : Int)], [.int .u8 ((128 + k / 4096 % 64 : Nat) : Int)], [.int .u8 ((128 + k / 64 % 64 : Nat) : Int)], [.int .u8 ((128 + k % 64 : Nat) : Int)]]) ++ [122] = u (240 + k / 262144) :: u (128 + k / 4096 % 64) :: u (128 + k / 64 % 64) :: u (128 + k % 64) :: [122] := rfl
  by_cases c4 : k ≤ 1114111
  · have r := runes_40 n
    rw [e, show Int.fdiv (k : Int) 262144 = ((k / 262144 : Nat) : Int) from fd 262144, show Int.fdiv (k : Int) 4096 = ((k / 4096 : Nat) : Int) from fd 4096, show Int.fdiv (k : Int) 64 = ((k / 64 : Nat) : Int) from fd 64, and63 (m := k / 4096) (by omega), and63 (m := k / 64) (by omega), and63 (m := k) (by omega), show (240 : Int) + ((k / 262144 : Nat) : Int) = ((240 + k / 262144 : Nat) : Int) by omega, show (128 : Int) + ((k / 4096 % 64 : Nat) : Int) = ((128 + k / 4096 % 64 : Nat) : Int) by omega, show (128 : Int) + ((k / 64 % 64 : Nat) : Int) = ((128 + k / 64 % 64 : Nat) : Int) by omega, show (128 : Int) + ((k % 64 : Nat) : Int) = ((128 + k % 64 : Nat) : Int) by omega, w8 (by omega), w8 (by omega), w8 (by omega), w8 (by omega), VA, V3, V4, L4 (by omega) hk, L4s (by omega) hk, b4 (x := []), L4 (by omega) hk, z_ok, e_ok, decide_eq_true c4, show decide ((k : Int) > 57343) = true from decide_eq_true (by omega)] at r
    exact r awake_ok rfl rfl rfl (decide_eq_false (by omega)) (decide_eq_true (by omega)) (decide_eq_false (by omega)) (decide_eq_false (by omega)) (decide_eq_false (by omega))
  · have r := runes_44 n
    rw [e, show Int.fdiv (k : Int) 262144 = ((k / 262144 : Nat) : Int) from fd 262144, show Int.fdiv (k : Int) 4096 = ((k / 4096 : Nat) : Int) from fd 4096, show Int.fdiv (k : Int) 64 = ((k / 64 : Nat) : Int) from fd 64, and63 (m := k / 4096) (by omega), and63 (m := k / 64) (by omega), and63 (m := k) (by omega), show (240 : Int) + ((k / 262144 : Nat) : Int) = ((240 + k / 262144 : Nat) : Int) by omega, show (128 : Int) + ((k / 4096 % 64 : Nat) : Int) = ((128 + k / 4096 % 64 : Nat) : Int) by omega, show (128 : Int) + ((k / 64 % 64 : Nat) : Int) = ((128 + k / 64 % 64 : Nat) : Int) by omega, show (128 : Int) + ((k % 64 : Nat) : Int) = ((128 + k % 64 : Nat) : Int) by omega, w8 (by omega), w8 (by omega), w8 (by omega), w8 (by omega), VA, V3, V4, L4 (by omega) hk, L4s (by omega) hk, b4 (x := []), L4 (by omega) hk, z_ok, e_ok, decide_eq_false c4] at r
    exact r awake_ok rfl rfl rfl (decide_eq_false (by omega)) (decide_eq_false (by omega)) (decide_eq_false (by omega)) (decide_eq_false (by omega))
theorem runes_row (xs : List AVal) (h : okArgs Tryd.prog Tryd.f3.params.toList [[.int .i64]] xs) : ∃ σ', FOk Tryd.prog 3 xs [] (.bool true) σ' := by
  obtain ⟨a, bs, rfl, h1, h3⟩ := h
  cases h3
  simp only [okArg, show isAggT Tryd.prog 3 = false from by kernel_rfl, okKs, okK] at h1
  obtain ⟨v, us, e, ⟨n, rfl, hw⟩, rfl⟩ := h1
  cases e
  exact ⟨_, runes_law n⟩
end Go.L01

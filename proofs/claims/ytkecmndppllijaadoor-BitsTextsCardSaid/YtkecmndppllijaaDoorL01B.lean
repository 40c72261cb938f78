import Derived.Test.YtkecmndppllijaaDoorL01A
import Derived.Test.YtkecmndppllijaaDoorAbsVar
import Derived.Lib.ValidAsc
set_option linter.unusedVariables false
set_option linter.unusedSimpArgs false
set_option maxRecDepth 100000
namespace Go.L01
open Go Go.Abs Go.Proofs
def wd (s : ByteArray) : Int := (Go.Lib.leNat [s.get! 0, s.get! 1, s.get! 2, s.get! 3, s.get! 4, s.get! 5, s.get! 6, s.get! 7] : Nat)
theorem wrapU64 (n : Int) : IntKind.wrap .u64 n = n % 18446744073709551616 := by
  simp [IntKind.wrap, IntKind.bits, IntKind.signed]
theorem bits_oru {a b : Nat} (ha : a < 2 ^ 64) (hb : b < 2 ^ 64) : bits .or .u64 (a : Int) (b : Int) = ((a ||| b : Nat) : Int) := by
  have hlt : a ||| b < 2 ^ 64 := Nat.or_lt_two_pow ha hb
  show IntKind.wrap .u64 (((BitVec.ofInt 64 (a : Int)) ||| (BitVec.ofInt 64 (b : Int))).toNat : Int) = _
  have e : ((BitVec.ofInt 64 (a : Int)) ||| (BitVec.ofInt 64 (b : Int))).toNat = a ||| b := by
    rw [BitVec.toNat_or]
    simp only [BitVec.ofInt_natCast, BitVec.toNat_ofNat]
    rw [Nat.mod_eq_of_lt (by omega), Nat.mod_eq_of_lt (by omega)]
  rw [e, wrapU64]
  omega
theorem bits_andu {a b : Nat} (ha : a < 2 ^ 64) (hb : b < 2 ^ 64) : bits .and .u64 (a : Int) (b : Int) = ((a &&& b : Nat) : Int) := by
  have hlt : a &&& b < 2 ^ 64 := Nat.and_lt_two_pow _ hb
  show IntKind.wrap .u64 (((BitVec.ofInt 64 (a : Int)) &&& (BitVec.ofInt 64 (b : Int))).toNat : Int) = _
  have e : ((BitVec.ofInt 64 (a : Int)) &&& (BitVec.ofInt 64 (b : Int))).toNat = a &&& b := by
    rw [BitVec.toNat_and]
    simp only [BitVec.ofInt_natCast, BitVec.toNat_ofNat]
    rw [Nat.mod_eq_of_lt (by omega), Nat.mod_eq_of_lt (by omega)]
  rw [e, wrapU64]
  omega
theorem byteAt_get (s : ByteArray) (k : Nat) : byteAt s (k : Int) = ((s.get! k).toNat : Int) := by
  rw [byteAt_lB, Int.toNat_natCast, Go.Lib.getD_get!']
theorem stage {a b k : Nat} (ha : a < 2 ^ k) (hb : b < 256) (hk : k + 8 ≤ 64) (M : Int) (hM : M = ((2 ^ k : Nat) : Int)) : bits .or .u64 (a : Int) (IntKind.wrap .u64 (IntKind.wrap .u64 (b : Int) * M)) = ((a + b * 2 ^ k : Nat) : Int) := by
  subst hM
  have h1 : b * 2 ^ k < 2 ^ 64 := by
    calc b * 2 ^ k < 256 * 2 ^ k := Nat.mul_lt_mul_of_pos_right hb (Nat.two_pow_pos k)
      _ = 2 ^ (8 + k) := by rw [Nat.pow_add]
      _ ≤ 2 ^ 64 := Nat.pow_le_pow_right (by decide) (by omega)
  have h2 : a < 2 ^ 64 := Nat.lt_of_lt_of_le ha (Nat.pow_le_pow_right (by decide) (by omega))
  rw [wrapU64 (b : Int), show (b : Int) % 18446744073709551616 = (b : Int) by omega, ← Int.natCast_mul, wrapU64]
  rw [show ((b * 2 ^ k : Nat) : Int) % 18446744073709551616 = ((b * 2 ^ k : Nat) : Int) by omega, bits_oru h2 h1, or_add ha]
theorem word_ok (s : ByteArray) (h : 8 ≤ s.size) : FOk Tryd.prog 23 [.str s] [] (.int .u64 (wd s)) [] := by
  refine FOk.wp (word_wp s ?_)
  unfold word_T
  refine ⟨decide_eq_true (by omega), decide_eq_true (by omega), decide_eq_true (by omega), decide_eq_true (by omega), decide_eq_true (by omega), decide_eq_true (by omega), decide_eq_true (by omega), decide_eq_true (by omega), ?_, rfl⟩
  have b0 := byteAt_get s 0
  have b1 := byteAt_get s 1
  have b2 := byteAt_get s 2
  have b3 := byteAt_get s 3
  have b4 := byteAt_get s 4
  have b5 := byteAt_get s 5
  have b6 := byteAt_get s 6
  have b7 := byteAt_get s 7
  unfold wd
  rw [show byteAt s 0 = _ from b0, show byteAt s 1 = _ from b1, show byteAt s 2 = _ from b2, show byteAt s 3 = _ from b3, show byteAt s 4 = _ from b4, show byteAt s 5 = _ from b5, show byteAt s 6 = _ from b6, show byteAt s 7 = _ from b7]
  have t0 := (s.get! 0).toNat_lt
  have t1 := (s.get! 1).toNat_lt
  have t2 := (s.get! 2).toNat_lt
  have t3 := (s.get! 3).toNat_lt
  have t4 := (s.get! 4).toNat_lt
  have t5 := (s.get! 5).toNat_lt
  have t6 := (s.get! 6).toNat_lt
  have t7 := (s.get! 7).toNat_lt
  simp only [Go.Lib.leNat]
  generalize (s.get! 0).toNat = x0 at *
  generalize (s.get! 1).toNat = x1 at *
  generalize (s.get! 2).toNat = x2 at *
  generalize (s.get! 3).toNat = x3 at *
  generalize (s.get! 4).toNat = x4 at *
  generalize (s.get! 5).toNat = x5 at *
  generalize (s.get! 6).toNat = x6 at *
  generalize (s.get! 7).toNat = x7 at *
  rw [show IntKind.wrap .u64 (x0 : Int) = (x0 : Int) by rw [wrapU64]; omega]
  rw [stage (k := 8) (by omega) t1 (by omega) 256 rfl, stage (k := 16) (by omega) t2 (by omega) 65536 rfl, stage (k := 24) (by omega) t3 (by omega) 16777216 rfl, stage (k := 32) (by omega) t4 (by omega) 4294967296 rfl, stage (k := 40) (by omega) t5 (by omega) 1099511627776 rfl, stage (k := 48) (by omega) t6 (by omega) 281474976710656 rfl, stage (k := 56) (by omega) t7 (by omega) 72057594037927936 rfl]
  congr 2
  omega
end Go.L01

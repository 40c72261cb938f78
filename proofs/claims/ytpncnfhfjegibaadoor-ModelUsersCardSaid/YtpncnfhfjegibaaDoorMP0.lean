import Derived.Test.YtpncnfhfjegibaaDoorProg
import GoSem.PinnedTables
import Derived.Lib.ValidAsc
import Derived.Test.YtpncnfhfjegibaaDoorAbsH
section
set_option linter.unusedVariables false
set_option maxRecDepth 100000
namespace Go.MN
open Go Go.Abs Go.Proofs
def Tabs.first : List AVal := Go.Pinned.utf8FirstZ.map fun n : Nat => .int .u8 (n : Int)
def Tabs.acc : List AVal := [128, 191, 160, 191, 128, 159, 144, 191, 128, 143, 0, 0, 0, 0, 0, 0, 0, 0, 0, 0, 0, 0, 0, 0, 0, 0, 0, 0, 0, 0, 0, 0].map fun n : Int => .int .u8 n
@[reducible] def tabs : Glob := ⟨fun g => if g = 0 then some (.fptr 256 [Tabs.first] 0 0) else if g = 1 then some (.fptr 32 [Tabs.acc] 0 0) else none, []⟩
instance : Glob := tabs

theorem followed : Tryd.prog.follows .mixedOrders = true := by kernel_rfl

theorem word_1 (s : ByteArray)
    (h1 : decide ((↑0 : Int) ≤ 7 ∧ 7 < (↑(ByteArray.size s) : Int)) = true)
    (h2 : decide ((↑0 : Int) ≤ 6 ∧ 6 < (↑(ByteArray.size s) : Int)) = true)
    (h3 : decide ((↑0 : Int) ≤ 5 ∧ 5 < (↑(ByteArray.size s) : Int)) = true)
    (h4 : decide ((↑0 : Int) ≤ 4 ∧ 4 < (↑(ByteArray.size s) : Int)) = true)
    (h5 : decide ((↑0 : Int) ≤ 3 ∧ 3 < (↑(ByteArray.size s) : Int)) = true)
    (h6 : decide ((↑0 : Int) ≤ 2 ∧ 2 < (↑(ByteArray.size s) : Int)) = true)
    (h7 : decide ((↑0 : Int) ≤ 1 ∧ 1 < (↑(ByteArray.size s) : Int)) = true)
    (h8 : decide ((↑0 : Int) ≤ 0 ∧ 0 < (↑(ByteArray.size s) : Int)) = true) :
    FOk Tryd.prog 70 ([AVal.str s]) ([]) (AVal.int IntKind.u64 (bits BinOp.or IntKind.u64 (bits BinOp.or IntKind.u64 (bits BinOp.or IntKind.u64 (bits BinOp.or IntKind.u64 (bits BinOp.or IntKind.u64 (bits BinOp.or IntKind.u64 (bits BinOp.or IntKind.u64 (IntKind.wrap IntKind.u64 (byteAt s 0)) (IntKind.wrap IntKind.u64 (IntKind.wrap IntKind.u64 (byteAt s 1) * 256))) (IntKind.wrap IntKind.u64 (IntKind.wrap IntKind.u64 (byteAt s 2) * 65536))) (IntKind.wrap IntKind.u64 (IntKind.wrap IntKind.u64 (byteAt s 3) * 16777216))) (IntKind.wrap IntKind.u64 (IntKind.wrap IntKind.u64 (byteAt s 4) * 4294967296))) (IntKind.wrap IntKind.u64 (IntKind.wrap IntKind.u64 (byteAt s 5) * 1099511627776))) (IntKind.wrap IntKind.u64 (IntKind.wrap IntKind.u64 (byteAt s 6) * 281474976710656))) (IntKind.wrap IntKind.u64 (IntKind.wrap IntKind.u64 (byteAt s 7) * 72057594037927936)))) ([]) :=
  (evalF_ok followed Tryd.func70 (by kernel_rfl) (show evalF Tryd.prog Tryd.f70 ([AVal.str s]) ([]) ([]) = .ok (FRes.mk (AVal.int IntKind.u64 (bits BinOp.or IntKind.u64 (bits BinOp.or IntKind.u64 (bits BinOp.or IntKind.u64 (bits BinOp.or IntKind.u64 (bits BinOp.or IntKind.u64 (bits BinOp.or IntKind.u64 (bits BinOp.or IntKind.u64 (IntKind.wrap IntKind.u64 (byteAt s 0)) (IntKind.wrap IntKind.u64 (IntKind.wrap IntKind.u64 (byteAt s 1) * 256))) (IntKind.wrap IntKind.u64 (IntKind.wrap IntKind.u64 (byteAt s 2) * 65536))) (IntKind.wrap IntKind.u64 (IntKind.wrap IntKind.u64 (byteAt s 3) * 16777216))) (IntKind.wrap IntKind.u64 (IntKind.wrap IntKind.u64 (byteAt s 4) * 4294967296))) (IntKind.wrap IntKind.u64 (IntKind.wrap IntKind.u64 (byteAt s 5) * 1099511627776))) (IntKind.wrap IntKind.u64 (IntKind.wrap IntKind.u64 (byteAt s 6) * 281474976710656))) (IntKind.wrap IntKind.u64 (IntKind.wrap IntKind.u64 (byteAt s 7) * 72057594037927936)))) ([]) (tr 11 ++ ((decide ((↑0 : Int) ≤ 7 ∧ 7 < (↑(ByteArray.size s) : Int)) = true) :: (tr 11 ++ ((decide ((↑0 : Int) ≤ 6 ∧ 6 < (↑(ByteArray.size s) : Int)) = true) :: (tr 11 ++ ((decide ((↑0 : Int) ≤ 5 ∧ 5 < (↑(ByteArray.size s) : Int)) = true) :: (tr 11 ++ ((decide ((↑0 : Int) ≤ 4 ∧ 4 < (↑(ByteArray.size s) : Int)) = true) :: (tr 11 ++ ((decide ((↑0 : Int) ≤ 3 ∧ 3 < (↑(ByteArray.size s) : Int)) = true) :: (tr 11 ++ ((decide ((↑0 : Int) ≤ 2 ∧ 2 < (↑(ByteArray.size s) : Int)) = true) :: (tr 11 ++ ((decide ((↑0 : Int) ≤ 1 ∧ 1 < (↑(ByteArray.size s) : Int)) = true) :: (tr 6 ++ ((decide ((↑0 : Int) ≤ 0 ∧ 0 < (↑(ByteArray.size s) : Int)) = true) :: (tr 3 ++ [])))))))))))))))))) by kernel_rfl) (allP_of (trC 11 ⟨h1, (trC 11 ⟨h2, (trC 11 ⟨h3, (trC 11 ⟨h4, (trC 11 ⟨h5, (trC 11 ⟨h6, (trC 11 ⟨h7, (trC 6 ⟨h8, (trC 3 trivial)⟩)⟩)⟩)⟩)⟩)⟩)⟩)⟩))).move ([]) (by kernel_rfl) (by kernel_rfl) (by kernel_rfl)

def word_T (s : ByteArray) (Q : AVal → AState → Prop) : Prop := (decide ((↑0 : Int) ≤ 0 ∧ 0 < (↑(ByteArray.size s) : Int)) = true) ∧ (decide ((↑0 : Int) ≤ 1 ∧ 1 < (↑(ByteArray.size s) : Int)) = true) ∧ (decide ((↑0 : Int) ≤ 2 ∧ 2 < (↑(ByteArray.size s) : Int)) = true) ∧ (decide ((↑0 : Int) ≤ 3 ∧ 3 < (↑(ByteArray.size s) : Int)) = true) ∧ (decide ((↑0 : Int) ≤ 4 ∧ 4 < (↑(ByteArray.size s) : Int)) = true) ∧ (decide ((↑0 : Int) ≤ 5 ∧ 5 < (↑(ByteArray.size s) : Int)) = true) ∧ (decide ((↑0 : Int) ≤ 6 ∧ 6 < (↑(ByteArray.size s) : Int)) = true) ∧ (decide ((↑0 : Int) ≤ 7 ∧ 7 < (↑(ByteArray.size s) : Int)) = true) ∧ Q (AVal.int IntKind.u64 (bits BinOp.or IntKind.u64 (bits BinOp.or IntKind.u64 (bits BinOp.or IntKind.u64 (bits BinOp.or IntKind.u64 (bits BinOp.or IntKind.u64 (bits BinOp.or IntKind.u64 (bits BinOp.or IntKind.u64 (IntKind.wrap IntKind.u64 (byteAt s 0)) (IntKind.wrap IntKind.u64 (IntKind.wrap IntKind.u64 (byteAt s 1) * 256))) (IntKind.wrap IntKind.u64 (IntKind.wrap IntKind.u64 (byteAt s 2) * 65536))) (IntKind.wrap IntKind.u64 (IntKind.wrap IntKind.u64 (byteAt s 3) * 16777216))) (IntKind.wrap IntKind.u64 (IntKind.wrap IntKind.u64 (byteAt s 4) * 4294967296))) (IntKind.wrap IntKind.u64 (IntKind.wrap IntKind.u64 (byteAt s 5) * 1099511627776))) (IntKind.wrap IntKind.u64 (IntKind.wrap IntKind.u64 (byteAt s 6) * 281474976710656))) (IntKind.wrap IntKind.u64 (IntKind.wrap IntKind.u64 (byteAt s 7) * 72057594037927936)))) ([])
theorem word_wp (s : ByteArray) {Q : AVal → AState → Prop} (h : word_T s Q) : ∃ r σ', FOk Tryd.prog 70 ([AVal.str s]) ([]) r σ' ∧ Q r σ' :=
  ⟨_, _, word_1 s (h.2.2.2.2.2.2.2.1) (h.2.2.2.2.2.2.1) (h.2.2.2.2.2.1) (h.2.2.2.2.1) (h.2.2.2.1) (h.2.2.1) (h.2.1) (h.1), h.2.2.2.2.2.2.2.2⟩


end Go.MN
end

section
set_option linter.unusedVariables false
set_option linter.unusedSimpArgs false
set_option maxRecDepth 100000
namespace Go.MN
open Go Go.Abs Go.Proofs
def wd (s : ByteArray) : Int := (Go.Lib.leNat [s.get! 0, s.get! 1, s.get! 2, s.get! 3, s.get! 4, s.get! 5, s.get! 6, s.get! 7] : Nat)
theorem wrapU64 (n : Int) : IntKind.wrap .u64 n = n % 18446744073709551616 := by
  simp [IntKind.wrap, IntKind.bits, IntKind.signed]
theorem bits_oru {a b : Nat} (ha : a < 2 ^ 64) (hb : b < 2 ^ 64) : bits .or .u64 (a : Int) (b : Int) = ((a ||| b : Nat) : Int) := by
  have hlt : a ||| b < 2 ^ 64 := Nat.or_lt_two_pow ha hb
  show IntKind.wrap .u64 (((BitVec.ofInt 64 (a : Int)) ||| (BitVec.ofInt 64 (b : Int))).toNat : Int) = _
  have e : ((BitVec.ofInt 64 (a : Int)) ||| (BitVec.ofInt 64 (b : Int))).toNat = a ||| b := by
    rw [BitVec.toNat_or]
    simp only [BitVec.ofInt_natCast, BitVec.toNat_ofNat]
    rw [Nat.mod_eq_of_lt (by omega), Nat.mod_eq_of_lt (by omega)]
  rw [e, wrapU64]
  omega
theorem bits_andu {a b : Nat} (ha : a < 2 ^ 64) (hb : b < 2 ^ 64) : bits .and .u64 (a : Int) (b : Int) = ((a &&& b : Nat) : Int) := by
  have hlt : a &&& b < 2 ^ 64 := Nat.and_lt_two_pow _ hb
  show IntKind.wrap .u64 (((BitVec.ofInt 64 (a : Int)) &&& (BitVec.ofInt 64 (b : Int))).toNat : Int) = _
  have e : ((BitVec.ofInt 64 (a : Int)) &&& (BitVec.ofInt 64 (b : Int))).toNat = a &&& b := by
    rw [BitVec.toNat_and]
    simp only [BitVec.ofInt_natCast, BitVec.toNat_ofNat]
    rw [Nat.mod_eq_of_lt (by omega), Nat.mod_eq_of_lt (by omega)]
  rw [e, wrapU64]
  omega
theorem byteAt_get (s : ByteArray) (k : Nat) : byteAt s (k : Int) = ((s.get! k).toNat : Int) := by
  rw [byteAt_lB, Int.toNat_natCast, Go.Lib.getD_get!']
theorem stage {a b k : Nat} (ha : a < 2 ^ k) (hb : b < 256) (hk : k + 8 ≤ 64) (M : Int) (hM : M = ((2 ^ k : Nat) : Int)) : bits .or .u64 (a : Int) (IntKind.wrap .u64 (IntKind.wrap .u64 (b : Int) * M)) = ((a + b * 2 ^ k : Nat) : Int) := by
  subst hM
  have h1 : b * 2 ^ k < 2 ^ 64 := by
    calc b * 2 ^ k < 256 * 2 ^ k := Nat.mul_lt_mul_of_pos_right hb (Nat.two_pow_pos k)
      _ = 2 ^ (8 + k) := by rw [Nat.pow_add]
      _ ≤ 2 ^ 64 := Nat.pow_le_pow_right (by decide) (by omega)
  have h2 : a < 2 ^ 64 := Nat.lt_of_lt_of_le ha (Nat.pow_le_pow_right (by decide) (by omega))
  rw [wrapU64 (b : Int), show (b : Int) % 18446744073709551616 = (b : Int) by omega, ← Int.natCast_mul, wrapU64]
  rw [show ((b * 2 ^ k : Nat) : Int) % 18446744073709551616 = ((b * 2 ^ k : Nat) : Int) by omega, bits_oru h2 h1, or_add ha]
theorem word_ok (s : ByteArray) (h : 8 ≤ s.size) : FOk Tryd.prog 70 [.str s] [] (.int .u64 (wd s)) [] := by
  refine FOk.wp (word_wp s ?_)
  unfold word_T
  refine ⟨decide_eq_true (by omega), decide_eq_true (by omega), decide_eq_true (by omega), decide_eq_true (by omega), decide_eq_true (by omega), decide_eq_true (by omega), decide_eq_true (by omega), decide_eq_true (by omega), ?_, rfl⟩
  have b0 := byteAt_get s 0
  have b1 := byteAt_get s 1
  have b2 := byteAt_get s 2
  have b3 := byteAt_get s 3
  have b4 := byteAt_get s 4
  have b5 := byteAt_get s 5
  have b6 := byteAt_get s 6
  have b7 := byteAt_get s 7
  unfold wd
  rw [show byteAt s 0 = _ from b0, show byteAt s 1 = _ from b1, show byteAt s 2 = _ from b2, show byteAt s 3 = _ from b3, show byteAt s 4 = _ from b4, show byteAt s 5 = _ from b5, show byteAt s 6 = _ from b6, show byteAt s 7 = _ from b7]
  have t0 := (s.get! 0).toNat_lt
  have t1 := (s.get! 1).toNat_lt
  have t2 := (s.get! 2).toNat_lt
  have t3 := (s.get! 3).toNat_lt
  have t4 := (s.get! 4).toNat_lt
  have t5 := (s.get! 5).toNat_lt
  have t6 := (s.get! 6).toNat_lt
  have t7 := (s.get! 7).toNat_lt
  simp only [Go.Lib.leNat]
  generalize (s.get! 0).toNat = x0 at *
  generalize (s.get! 1).toNat = x1 at *
  generalize (s.get! 2).toNat = x2 at *
  generalize (s.get! 3).toNat = x3 at *
  generalize (s.get! 4).toNat = x4 at *
  generalize (s.get! 5).toNat = x5 at *
  generalize (s.get! 6).toNat = x6 at *
  generalize (s.get! 7).toNat = x7 at *
  rw [show IntKind.wrap .u64 (x0 : Int) = (x0 : Int) by rw [wrapU64]; omega]
  rw [stage (k := 8) (by omega) t1 (by omega) 256 rfl, stage (k := 16) (by omega) t2 (by omega) 65536 rfl, stage (k := 24) (by omega) t3 (by omega) 16777216 rfl, stage (k := 32) (by omega) t4 (by omega) 4294967296 rfl, stage (k := 40) (by omega) t5 (by omega) 1099511627776 rfl, stage (k := 48) (by omega) t6 (by omega) 281474976710656 rfl, stage (k := 56) (by omega) t7 (by omega) 72057594037927936 rfl]
  congr 2
  omega
end Go.MN
end

section
set_option linter.unusedVariables false
set_option maxRecDepth 100000
namespace Go.MN
open Go Go.Abs Go.Proofs
def rgV (s : ByteArray) : Regs := mkR 169 [(0, .str s)]
theorem vin_1 (s : ByteArray)
    (h1 : decide ((↑0 : Int) ≤ 32 ∧ 32 ≤ (↑(ByteArray.size s) : Int) ∧ (↑(ByteArray.size s) : Int) ≤ (↑(ByteArray.size s) : Int)) = true)
    (h2 : (bits BinOp.and IntKind.u64 (bits BinOp.or IntKind.u64 (bits BinOp.or IntKind.u64 (wd s) (wd (ByteArray.extract s 8 (Int.toNat (↑(ByteArray.size s) : Int))))) (bits BinOp.or IntKind.u64 (wd (ByteArray.extract s 16 (Int.toNat (↑(ByteArray.size s) : Int)))) (wd (ByteArray.extract s 24 (Int.toNat (↑(ByteArray.size s) : Int)))))) 9259542123273814144 == 0) = true)
    (h3 : 8 ≤ ByteArray.size (ByteArray.extract s 24 (Int.toNat (↑(ByteArray.size s) : Int))))
    (h4 : decide ((↑0 : Int) ≤ 24 ∧ 24 ≤ (↑(ByteArray.size s) : Int) ∧ (↑(ByteArray.size s) : Int) ≤ (↑(ByteArray.size s) : Int)) = true)
    (h5 : 8 ≤ ByteArray.size (ByteArray.extract s 16 (Int.toNat (↑(ByteArray.size s) : Int))))
    (h6 : decide ((↑0 : Int) ≤ 16 ∧ 16 ≤ (↑(ByteArray.size s) : Int) ∧ (↑(ByteArray.size s) : Int) ≤ (↑(ByteArray.size s) : Int)) = true)
    (h7 : 8 ≤ ByteArray.size (ByteArray.extract s 8 (Int.toNat (↑(ByteArray.size s) : Int))))
    (h8 : decide ((↑0 : Int) ≤ 8 ∧ 8 ≤ (↑(ByteArray.size s) : Int) ∧ (↑(ByteArray.size s) : Int) ≤ (↑(ByteArray.size s) : Int)) = true)
    (h9 : 8 ≤ ByteArray.size s)
    (h10 : decide ((↑(ByteArray.size s) : Int) > 32) = true) :
    TripN Tryd.prog 0 (loopNo Tryd.f50 1) (rgV s) ([]) (AExit.normal) (mkR 169 [(0, AVal.str (ByteArray.extract s 32 (Int.toNat (↑(ByteArray.size s) : Int))))]) ([]) :=
  evalT (st := St.mk (rgV s) ([]) ([Dec.br true, Dec.use [] [AVal.str s] [] (AVal.int IntKind.u64 (wd s)) [], Dec.use [] [AVal.str (ByteArray.extract s 8 (Int.toNat (↑(ByteArray.size s) : Int)))] [] (AVal.int IntKind.u64 (wd (ByteArray.extract s 8 (Int.toNat (↑(ByteArray.size s) : Int))))) [], Dec.use [] [AVal.str (ByteArray.extract s 16 (Int.toNat (↑(ByteArray.size s) : Int)))] [] (AVal.int IntKind.u64 (wd (ByteArray.extract s 16 (Int.toNat (↑(ByteArray.size s) : Int))))) [], Dec.use [] [AVal.str (ByteArray.extract s 24 (Int.toNat (↑(ByteArray.size s) : Int)))] [] (AVal.int IntKind.u64 (wd (ByteArray.extract s 24 (Int.toNat (↑(ByteArray.size s) : Int))))) [], Dec.br true]) []) (st' := St.mk (mkR 169 [(0, AVal.str (ByteArray.extract s 32 (Int.toNat (↑(ByteArray.size s) : Int)))), (42, AVal.str s), (43, AVal.int IntKind.i64 (↑(ByteArray.size s) : Int)), (44, AVal.bool (decide ((↑(ByteArray.size s) : Int) > 32))), (45, AVal.tt true), (46, AVal.str s), (47, AVal.int IntKind.u64 (wd s)), (48, AVal.str s), (49, AVal.str (ByteArray.extract s 8 (Int.toNat (↑(ByteArray.size s) : Int)))), (50, AVal.int IntKind.u64 (wd (ByteArray.extract s 8 (Int.toNat (↑(ByteArray.size s) : Int))))), (51, AVal.int IntKind.u64 (bits BinOp.or IntKind.u64 (wd s) (wd (ByteArray.extract s 8 (Int.toNat (↑(ByteArray.size s) : Int)))))), (52, AVal.str s), (53, AVal.str (ByteArray.extract s 16 (Int.toNat (↑(ByteArray.size s) : Int)))), (54, AVal.int IntKind.u64 (wd (ByteArray.extract s 16 (Int.toNat (↑(ByteArray.size s) : Int))))), (55, AVal.str s), (56, AVal.str (ByteArray.extract s 24 (Int.toNat (↑(ByteArray.size s) : Int)))), (57, AVal.int IntKind.u64 (wd (ByteArray.extract s 24 (Int.toNat (↑(ByteArray.size s) : Int))))), (58, AVal.int IntKind.u64 (bits BinOp.or IntKind.u64 (wd (ByteArray.extract s 16 (Int.toNat (↑(ByteArray.size s) : Int)))) (wd (ByteArray.extract s 24 (Int.toNat (↑(ByteArray.size s) : Int)))))), (59, AVal.int IntKind.u64 (bits BinOp.or IntKind.u64 (bits BinOp.or IntKind.u64 (wd s) (wd (ByteArray.extract s 8 (Int.toNat (↑(ByteArray.size s) : Int))))) (bits BinOp.or IntKind.u64 (wd (ByteArray.extract s 16 (Int.toNat (↑(ByteArray.size s) : Int)))) (wd (ByteArray.extract s 24 (Int.toNat (↑(ByteArray.size s) : Int))))))), (60, AVal.int IntKind.u64 (bits BinOp.and IntKind.u64 (bits BinOp.or IntKind.u64 (bits BinOp.or IntKind.u64 (wd s) (wd (ByteArray.extract s 8 (Int.toNat (↑(ByteArray.size s) : Int))))) (bits BinOp.or IntKind.u64 (wd (ByteArray.extract s 16 (Int.toNat (↑(ByteArray.size s) : Int)))) (wd (ByteArray.extract s 24 (Int.toNat (↑(ByteArray.size s) : Int)))))) 9259542123273814144)), (61, AVal.bool (bits BinOp.and IntKind.u64 (bits BinOp.or IntKind.u64 (bits BinOp.or IntKind.u64 (wd s) (wd (ByteArray.extract s 8 (Int.toNat (↑(ByteArray.size s) : Int))))) (bits BinOp.or IntKind.u64 (wd (ByteArray.extract s 16 (Int.toNat (↑(ByteArray.size s) : Int)))) (wd (ByteArray.extract s 24 (Int.toNat (↑(ByteArray.size s) : Int)))))) 9259542123273814144 == 0)), (62, AVal.tt true), (63, AVal.str s), (64, AVal.str (ByteArray.extract s 32 (Int.toNat (↑(ByteArray.size s) : Int))))]) ([]) ([]) ((decide ((↑0 : Int) ≤ 32 ∧ 32 ≤ (↑(ByteArray.size s) : Int) ∧ (↑(ByteArray.size s) : Int) ≤ (↑(ByteArray.size s) : Int)) = true) :: (((bits BinOp.and IntKind.u64 (bits BinOp.or IntKind.u64 (bits BinOp.or IntKind.u64 (wd s) (wd (ByteArray.extract s 8 (Int.toNat (↑(ByteArray.size s) : Int))))) (bits BinOp.or IntKind.u64 (wd (ByteArray.extract s 16 (Int.toNat (↑(ByteArray.size s) : Int)))) (wd (ByteArray.extract s 24 (Int.toNat (↑(ByteArray.size s) : Int)))))) 9259542123273814144 == 0) = true) :: (tr 12 ++ ((Owed.use (owed Tryd.prog 0) 70 [] [AVal.str (ByteArray.extract s 24 (Int.toNat (↑(ByteArray.size s) : Int)))] [] [AVal.str (ByteArray.extract s 24 (Int.toNat (↑(ByteArray.size s) : Int)))] [] (AVal.int IntKind.u64 (wd (ByteArray.extract s 24 (Int.toNat (↑(ByteArray.size s) : Int))))) []) :: (tr 2 ++ ((decide ((↑0 : Int) ≤ 24 ∧ 24 ≤ (↑(ByteArray.size s) : Int) ∧ (↑(ByteArray.size s) : Int) ≤ (↑(ByteArray.size s) : Int)) = true) :: (tr 4 ++ ((Owed.use (owed Tryd.prog 0) 70 [] [AVal.str (ByteArray.extract s 16 (Int.toNat (↑(ByteArray.size s) : Int)))] [] [AVal.str (ByteArray.extract s 16 (Int.toNat (↑(ByteArray.size s) : Int)))] [] (AVal.int IntKind.u64 (wd (ByteArray.extract s 16 (Int.toNat (↑(ByteArray.size s) : Int))))) []) :: (tr 2 ++ ((decide ((↑0 : Int) ≤ 16 ∧ 16 ≤ (↑(ByteArray.size s) : Int) ∧ (↑(ByteArray.size s) : Int) ≤ (↑(ByteArray.size s) : Int)) = true) :: (tr 6 ++ ((Owed.use (owed Tryd.prog 0) 70 [] [AVal.str (ByteArray.extract s 8 (Int.toNat (↑(ByteArray.size s) : Int)))] [] [AVal.str (ByteArray.extract s 8 (Int.toNat (↑(ByteArray.size s) : Int)))] [] (AVal.int IntKind.u64 (wd (ByteArray.extract s 8 (Int.toNat (↑(ByteArray.size s) : Int))))) []) :: (tr 2 ++ ((decide ((↑0 : Int) ≤ 8 ∧ 8 ≤ (↑(ByteArray.size s) : Int) ∧ (↑(ByteArray.size s) : Int) ≤ (↑(ByteArray.size s) : Int)) = true) :: (tr 4 ++ ((Owed.use (owed Tryd.prog 0) 70 [] [AVal.str s] [] [AVal.str s] [] (AVal.int IntKind.u64 (wd s)) []) :: (tr 2 ++ ((decide ((↑(ByteArray.size s) : Int) > 32) = true) :: (tr 9 ++ [])))))))))))))))))))) followed (by kernel_rfl) (allP_of ⟨h1, ⟨h2, (trC 12 ⟨⟨(@Go.MN.word_ok (ByteArray.extract s 24 (Int.toNat (↑(ByteArray.size s) : Int))) h3), rfl, rfl, rfl⟩, (trC 2 ⟨h4, (trC 4 ⟨⟨(@Go.MN.word_ok (ByteArray.extract s 16 (Int.toNat (↑(ByteArray.size s) : Int))) h5), rfl, rfl, rfl⟩, (trC 2 ⟨h6, (trC 6 ⟨⟨(@Go.MN.word_ok (ByteArray.extract s 8 (Int.toNat (↑(ByteArray.size s) : Int))) h7), rfl, rfl, rfl⟩, (trC 2 ⟨h8, (trC 4 ⟨⟨(@Go.MN.word_ok (s) h9), rfl, rfl, rfl⟩, (trC 2 ⟨h10, (trC 9 trivial)⟩)⟩)⟩)⟩)⟩)⟩)⟩)⟩)⟩⟩) (keepM 169 [0]) ([]) (by kernel_rfl) (by kernel_rfl) (by kernel_rfl)

theorem vin_2 (s : ByteArray)
    (h1 : (bits BinOp.and IntKind.u64 (bits BinOp.or IntKind.u64 (bits BinOp.or IntKind.u64 (wd s) (wd (ByteArray.extract s 8 (Int.toNat (↑(ByteArray.size s) : Int))))) (bits BinOp.or IntKind.u64 (wd (ByteArray.extract s 16 (Int.toNat (↑(ByteArray.size s) : Int)))) (wd (ByteArray.extract s 24 (Int.toNat (↑(ByteArray.size s) : Int)))))) 9259542123273814144 == 0) = false)
    (h2 : 8 ≤ ByteArray.size (ByteArray.extract s 24 (Int.toNat (↑(ByteArray.size s) : Int))))
    (h3 : decide ((↑0 : Int) ≤ 24 ∧ 24 ≤ (↑(ByteArray.size s) : Int) ∧ (↑(ByteArray.size s) : Int) ≤ (↑(ByteArray.size s) : Int)) = true)
    (h4 : 8 ≤ ByteArray.size (ByteArray.extract s 16 (Int.toNat (↑(ByteArray.size s) : Int))))
    (h5 : decide ((↑0 : Int) ≤ 16 ∧ 16 ≤ (↑(ByteArray.size s) : Int) ∧ (↑(ByteArray.size s) : Int) ≤ (↑(ByteArray.size s) : Int)) = true)
    (h6 : 8 ≤ ByteArray.size (ByteArray.extract s 8 (Int.toNat (↑(ByteArray.size s) : Int))))
    (h7 : decide ((↑0 : Int) ≤ 8 ∧ 8 ≤ (↑(ByteArray.size s) : Int) ∧ (↑(ByteArray.size s) : Int) ≤ (↑(ByteArray.size s) : Int)) = true)
    (h8 : 8 ≤ ByteArray.size s)
    (h9 : decide ((↑(ByteArray.size s) : Int) > 32) = true) :
    TripN Tryd.prog 0 (loopNo Tryd.f50 1) (rgV s) ([]) (AExit.exit 2) (mkR 169 [(0, AVal.str s)]) ([]) :=
  evalT (st := St.mk (rgV s) ([]) ([Dec.br true, Dec.use [] [AVal.str s] [] (AVal.int IntKind.u64 (wd s)) [], Dec.use [] [AVal.str (ByteArray.extract s 8 (Int.toNat (↑(ByteArray.size s) : Int)))] [] (AVal.int IntKind.u64 (wd (ByteArray.extract s 8 (Int.toNat (↑(ByteArray.size s) : Int))))) [], Dec.use [] [AVal.str (ByteArray.extract s 16 (Int.toNat (↑(ByteArray.size s) : Int)))] [] (AVal.int IntKind.u64 (wd (ByteArray.extract s 16 (Int.toNat (↑(ByteArray.size s) : Int))))) [], Dec.use [] [AVal.str (ByteArray.extract s 24 (Int.toNat (↑(ByteArray.size s) : Int)))] [] (AVal.int IntKind.u64 (wd (ByteArray.extract s 24 (Int.toNat (↑(ByteArray.size s) : Int))))) [], Dec.br false]) []) (st' := St.mk (mkR 169 [(0, AVal.str s), (42, AVal.str s), (43, AVal.int IntKind.i64 (↑(ByteArray.size s) : Int)), (44, AVal.bool (decide ((↑(ByteArray.size s) : Int) > 32))), (45, AVal.tt true), (46, AVal.str s), (47, AVal.int IntKind.u64 (wd s)), (48, AVal.str s), (49, AVal.str (ByteArray.extract s 8 (Int.toNat (↑(ByteArray.size s) : Int)))), (50, AVal.int IntKind.u64 (wd (ByteArray.extract s 8 (Int.toNat (↑(ByteArray.size s) : Int))))), (51, AVal.int IntKind.u64 (bits BinOp.or IntKind.u64 (wd s) (wd (ByteArray.extract s 8 (Int.toNat (↑(ByteArray.size s) : Int)))))), (52, AVal.str s), (53, AVal.str (ByteArray.extract s 16 (Int.toNat (↑(ByteArray.size s) : Int)))), (54, AVal.int IntKind.u64 (wd (ByteArray.extract s 16 (Int.toNat (↑(ByteArray.size s) : Int))))), (55, AVal.str s), (56, AVal.str (ByteArray.extract s 24 (Int.toNat (↑(ByteArray.size s) : Int)))), (57, AVal.int IntKind.u64 (wd (ByteArray.extract s 24 (Int.toNat (↑(ByteArray.size s) : Int))))), (58, AVal.int IntKind.u64 (bits BinOp.or IntKind.u64 (wd (ByteArray.extract s 16 (Int.toNat (↑(ByteArray.size s) : Int)))) (wd (ByteArray.extract s 24 (Int.toNat (↑(ByteArray.size s) : Int)))))), (59, AVal.int IntKind.u64 (bits BinOp.or IntKind.u64 (bits BinOp.or IntKind.u64 (wd s) (wd (ByteArray.extract s 8 (Int.toNat (↑(ByteArray.size s) : Int))))) (bits BinOp.or IntKind.u64 (wd (ByteArray.extract s 16 (Int.toNat (↑(ByteArray.size s) : Int)))) (wd (ByteArray.extract s 24 (Int.toNat (↑(ByteArray.size s) : Int))))))), (60, AVal.int IntKind.u64 (bits BinOp.and IntKind.u64 (bits BinOp.or IntKind.u64 (bits BinOp.or IntKind.u64 (wd s) (wd (ByteArray.extract s 8 (Int.toNat (↑(ByteArray.size s) : Int))))) (bits BinOp.or IntKind.u64 (wd (ByteArray.extract s 16 (Int.toNat (↑(ByteArray.size s) : Int)))) (wd (ByteArray.extract s 24 (Int.toNat (↑(ByteArray.size s) : Int)))))) 9259542123273814144)), (61, AVal.bool (bits BinOp.and IntKind.u64 (bits BinOp.or IntKind.u64 (bits BinOp.or IntKind.u64 (wd s) (wd (ByteArray.extract s 8 (Int.toNat (↑(ByteArray.size s) : Int))))) (bits BinOp.or IntKind.u64 (wd (ByteArray.extract s 16 (Int.toNat (↑(ByteArray.size s) : Int)))) (wd (ByteArray.extract s 24 (Int.toNat (↑(ByteArray.size s) : Int)))))) 9259542123273814144 == 0)), (62, AVal.tt false)]) ([]) ([]) (((bits BinOp.and IntKind.u64 (bits BinOp.or IntKind.u64 (bits BinOp.or IntKind.u64 (wd s) (wd (ByteArray.extract s 8 (Int.toNat (↑(ByteArray.size s) : Int))))) (bits BinOp.or IntKind.u64 (wd (ByteArray.extract s 16 (Int.toNat (↑(ByteArray.size s) : Int)))) (wd (ByteArray.extract s 24 (Int.toNat (↑(ByteArray.size s) : Int)))))) 9259542123273814144 == 0) = false) :: (tr 12 ++ ((Owed.use (owed Tryd.prog 0) 70 [] [AVal.str (ByteArray.extract s 24 (Int.toNat (↑(ByteArray.size s) : Int)))] [] [AVal.str (ByteArray.extract s 24 (Int.toNat (↑(ByteArray.size s) : Int)))] [] (AVal.int IntKind.u64 (wd (ByteArray.extract s 24 (Int.toNat (↑(ByteArray.size s) : Int))))) []) :: (tr 2 ++ ((decide ((↑0 : Int) ≤ 24 ∧ 24 ≤ (↑(ByteArray.size s) : Int) ∧ (↑(ByteArray.size s) : Int) ≤ (↑(ByteArray.size s) : Int)) = true) :: (tr 4 ++ ((Owed.use (owed Tryd.prog 0) 70 [] [AVal.str (ByteArray.extract s 16 (Int.toNat (↑(ByteArray.size s) : Int)))] [] [AVal.str (ByteArray.extract s 16 (Int.toNat (↑(ByteArray.size s) : Int)))] [] (AVal.int IntKind.u64 (wd (ByteArray.extract s 16 (Int.toNat (↑(ByteArray.size s) : Int))))) []) :: (tr 2 ++ ((decide ((↑0 : Int) ≤ 16 ∧ 16 ≤ (↑(ByteArray.size s) : Int) ∧ (↑(ByteArray.size s) : Int) ≤ (↑(ByteArray.size s) : Int)) = true) :: (tr 6 ++ ((Owed.use (owed Tryd.prog 0) 70 [] [AVal.str (ByteArray.extract s 8 (Int.toNat (↑(ByteArray.size s) : Int)))] [] [AVal.str (ByteArray.extract s 8 (Int.toNat (↑(ByteArray.size s) : Int)))] [] (AVal.int IntKind.u64 (wd (ByteArray.extract s 8 (Int.toNat (↑(ByteArray.size s) : Int))))) []) :: (tr 2 ++ ((decide ((↑0 : Int) ≤ 8 ∧ 8 ≤ (↑(ByteArray.size s) : Int) ∧ (↑(ByteArray.size s) : Int) ≤ (↑(ByteArray.size s) : Int)) = true) :: (tr 4 ++ ((Owed.use (owed Tryd.prog 0) 70 [] [AVal.str s] [] [AVal.str s] [] (AVal.int IntKind.u64 (wd s)) []) :: (tr 2 ++ ((decide ((↑(ByteArray.size s) : Int) > 32) = true) :: (tr 9 ++ []))))))))))))))))))) followed (by kernel_rfl) (allP_of ⟨h1, (trC 12 ⟨⟨(@Go.MN.word_ok (ByteArray.extract s 24 (Int.toNat (↑(ByteArray.size s) : Int))) h2), rfl, rfl, rfl⟩, (trC 2 ⟨h3, (trC 4 ⟨⟨(@Go.MN.word_ok (ByteArray.extract s 16 (Int.toNat (↑(ByteArray.size s) : Int))) h4), rfl, rfl, rfl⟩, (trC 2 ⟨h5, (trC 6 ⟨⟨(@Go.MN.word_ok (ByteArray.extract s 8 (Int.toNat (↑(ByteArray.size s) : Int))) h6), rfl, rfl, rfl⟩, (trC 2 ⟨h7, (trC 4 ⟨⟨(@Go.MN.word_ok (s) h8), rfl, rfl, rfl⟩, (trC 2 ⟨h9, (trC 9 trivial)⟩)⟩)⟩)⟩)⟩)⟩)⟩)⟩)⟩) (keepM 169 [0]) ([]) (by kernel_rfl) (by kernel_rfl) (by kernel_rfl)

theorem vin_3 (s : ByteArray)
    (h1 : decide ((↑(ByteArray.size s) : Int) > 32) = false) :
    TripN Tryd.prog 0 (loopNo Tryd.f50 1) (rgV s) ([]) (AExit.exit 2) (mkR 169 [(0, AVal.str s)]) ([]) :=
  evalT (st := St.mk (rgV s) ([]) ([Dec.br false]) []) (st' := St.mk (mkR 169 [(0, AVal.str s), (42, AVal.str s), (43, AVal.int IntKind.i64 (↑(ByteArray.size s) : Int)), (44, AVal.bool (decide ((↑(ByteArray.size s) : Int) > 32))), (45, AVal.tt false), (46, AVal.tuple []), (47, AVal.tuple []), (48, AVal.tuple []), (49, AVal.tuple []), (50, AVal.tuple []), (51, AVal.tuple []), (52, AVal.tuple []), (53, AVal.tuple []), (54, AVal.tuple []), (55, AVal.tuple []), (56, AVal.tuple []), (57, AVal.tuple []), (58, AVal.tuple []), (59, AVal.tuple []), (60, AVal.tuple []), (61, AVal.tuple []), (62, AVal.tt false)]) ([]) ([]) (tr 34 ++ ((decide ((↑(ByteArray.size s) : Int) > 32) = false) :: (tr 9 ++ [])))) followed (by kernel_rfl) (allP_of (trC 34 ⟨h1, (trC 9 trivial)⟩)) (keepM 169 [0]) ([]) (by kernel_rfl) (by kernel_rfl) (by kernel_rfl)

def vin_T (s : ByteArray) (Q : AExit → Regs → AState → Prop) : Prop := ((decide ((↑(ByteArray.size s) : Int) > 32) = true) → (8 ≤ ByteArray.size s) ∧ (decide ((↑0 : Int) ≤ 8 ∧ 8 ≤ (↑(ByteArray.size s) : Int) ∧ (↑(ByteArray.size s) : Int) ≤ (↑(ByteArray.size s) : Int)) = true) ∧ (8 ≤ ByteArray.size (ByteArray.extract s 8 (Int.toNat (↑(ByteArray.size s) : Int)))) ∧ (decide ((↑0 : Int) ≤ 16 ∧ 16 ≤ (↑(ByteArray.size s) : Int) ∧ (↑(ByteArray.size s) : Int) ≤ (↑(ByteArray.size s) : Int)) = true) ∧ (8 ≤ ByteArray.size (ByteArray.extract s 16 (Int.toNat (↑(ByteArray.size s) : Int)))) ∧ (decide ((↑0 : Int) ≤ 24 ∧ 24 ≤ (↑(ByteArray.size s) : Int) ∧ (↑(ByteArray.size s) : Int) ≤ (↑(ByteArray.size s) : Int)) = true) ∧ (8 ≤ ByteArray.size (ByteArray.extract s 24 (Int.toNat (↑(ByteArray.size s) : Int)))) ∧ (((bits BinOp.and IntKind.u64 (bits BinOp.or IntKind.u64 (bits BinOp.or IntKind.u64 (wd s) (wd (ByteArray.extract s 8 (Int.toNat (↑(ByteArray.size s) : Int))))) (bits BinOp.or IntKind.u64 (wd (ByteArray.extract s 16 (Int.toNat (↑(ByteArray.size s) : Int)))) (wd (ByteArray.extract s 24 (Int.toNat (↑(ByteArray.size s) : Int)))))) 9259542123273814144 == 0) = true) → (decide ((↑0 : Int) ≤ 32 ∧ 32 ≤ (↑(ByteArray.size s) : Int) ∧ (↑(ByteArray.size s) : Int) ≤ (↑(ByteArray.size s) : Int)) = true) ∧ Q (AExit.normal) (mkR 169 [(0, AVal.str (ByteArray.extract s 32 (Int.toNat (↑(ByteArray.size s) : Int))))]) ([])) ∧ (((bits BinOp.and IntKind.u64 (bits BinOp.or IntKind.u64 (bits BinOp.or IntKind.u64 (wd s) (wd (ByteArray.extract s 8 (Int.toNat (↑(ByteArray.size s) : Int))))) (bits BinOp.or IntKind.u64 (wd (ByteArray.extract s 16 (Int.toNat (↑(ByteArray.size s) : Int)))) (wd (ByteArray.extract s 24 (Int.toNat (↑(ByteArray.size s) : Int)))))) 9259542123273814144 == 0) = false) → Q (AExit.exit 2) (mkR 169 [(0, AVal.str s)]) ([]))) ∧ ((decide ((↑(ByteArray.size s) : Int) > 32) = false) → Q (AExit.exit 2) (mkR 169 [(0, AVal.str s)]) ([]))
theorem vin_wp (s : ByteArray) {Q : AExit → Regs → AState → Prop} (h : vin_T s Q) : ∃ e rg' σ', TripN Tryd.prog 0 (loopNo Tryd.f50 1) (rgV s) ([]) e rg' σ' ∧ Q e rg' σ' :=
  brE (fun (c0 : decide ((↑(ByteArray.size s) : Int) > 32) = true) => brE (fun (c1 : (bits BinOp.and IntKind.u64 (bits BinOp.or IntKind.u64 (bits BinOp.or IntKind.u64 (wd s) (wd (ByteArray.extract s 8 (Int.toNat (↑(ByteArray.size s) : Int))))) (bits BinOp.or IntKind.u64 (wd (ByteArray.extract s 16 (Int.toNat (↑(ByteArray.size s) : Int)))) (wd (ByteArray.extract s 24 (Int.toNat (↑(ByteArray.size s) : Int)))))) 9259542123273814144 == 0) = true) => ⟨_, _, _, vin_1 s (((h.1 c0).2.2.2.2.2.2.2.1 c1).1) (c1) ((h.1 c0).2.2.2.2.2.2.1) ((h.1 c0).2.2.2.2.2.1) ((h.1 c0).2.2.2.2.1) ((h.1 c0).2.2.2.1) ((h.1 c0).2.2.1) ((h.1 c0).2.1) ((h.1 c0).1) (c0), ((h.1 c0).2.2.2.2.2.2.2.1 c1).2⟩) (fun (c1 : (bits BinOp.and IntKind.u64 (bits BinOp.or IntKind.u64 (bits BinOp.or IntKind.u64 (wd s) (wd (ByteArray.extract s 8 (Int.toNat (↑(ByteArray.size s) : Int))))) (bits BinOp.or IntKind.u64 (wd (ByteArray.extract s 16 (Int.toNat (↑(ByteArray.size s) : Int)))) (wd (ByteArray.extract s 24 (Int.toNat (↑(ByteArray.size s) : Int)))))) 9259542123273814144 == 0) = false) => ⟨_, _, _, vin_2 s (c1) ((h.1 c0).2.2.2.2.2.2.1) ((h.1 c0).2.2.2.2.2.1) ((h.1 c0).2.2.2.2.1) ((h.1 c0).2.2.2.1) ((h.1 c0).2.2.1) ((h.1 c0).2.1) ((h.1 c0).1) (c0), ((h.1 c0).2.2.2.2.2.2.2.2 c1)⟩)) (fun (c0 : decide ((↑(ByteArray.size s) : Int) > 32) = false) => ⟨_, _, _, vin_3 s (c0), (h.2 c0)⟩)


end Go.MN
end

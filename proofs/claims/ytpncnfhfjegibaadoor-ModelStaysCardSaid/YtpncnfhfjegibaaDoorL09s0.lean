import Derived.Test.YtpncnfhfjegibaaDoorProg
import GoSem.PinnedTables
import Derived.Lib.ValidAsc
import Derived.Test.YtpncnfhfjegibaaDoorRows
import Derived.Lib.LaidU8
import Derived.Lay
import Derived.MakeChecks
import Derived.Test.YtpncnfhfjegibaaDoorAbsI
section
set_option linter.unusedVariables false
set_option maxRecDepth 100000
namespace Go.MN
open Go Go.Abs Go.Proofs
def Tabs.first : List AVal := Go.Pinned.utf8FirstZ.map fun n : Nat => .int .u8 (n : Int)
def Tabs.acc : List AVal := [128, 191, 160, 191, 128, 159, 144, 191, 128, 143, 0, 0, 0, 0, 0, 0, 0, 0, 0, 0, 0, 0, 0, 0, 0, 0, 0, 0, 0, 0, 0, 0].map fun n : Int => .int .u8 n
@[reducible] def tabs : Glob := ⟨fun g => if g = 0 then some (.fptr 256 [Tabs.first] 0 0) else if g = 1 then some (.fptr 32 [Tabs.acc] 0 0) else none, []⟩
instance : Glob := tabs

theorem followed : Tryd.prog.follows .mixedOrders = true := by kernel_rfl

theorem word_1 (s : ByteArray)
    (h1 : decide ((↑0 : Int) ≤ 7 ∧ 7 < (↑(ByteArray.size s) : Int)) = true)
    (h2 : decide ((↑0 : Int) ≤ 6 ∧ 6 < (↑(ByteArray.size s) : Int)) = true)
    (h3 : decide ((↑0 : Int) ≤ 5 ∧ 5 < (↑(ByteArray.size s) : Int)) = true)
    (h4 : decide ((↑0 : Int) ≤ 4 ∧ 4 < (↑(ByteArray.size s) : Int)) = true)
    (h5 : decide ((↑0 : Int) ≤ 3 ∧ 3 < (↑(ByteArray.size s) : Int)) = true)
    (h6 : decide ((↑0 : Int) ≤ 2 ∧ 2 < (↑(ByteArray.size s) : Int)) = true)
    (h7 : decide ((↑0 : Int) ≤ 1 ∧ 1 < (↑(ByteArray.size s) : Int)) = true)
    (h8 : decide ((↑0 : Int) ≤ 0 ∧ 0 < (↑(ByteArray.size s) : Int)) = true) :
    FOk Tryd.prog 70 ([AVal.str s]) ([]) (AVal.int IntKind.u64 (bits BinOp.or IntKind.u64 (bits BinOp.or IntKind.u64 (bits BinOp.or IntKind.u64 (bits BinOp.or IntKind.u64 (bits BinOp.or IntKind.u64 (bits BinOp.or IntKind.u64 (bits BinOp.or IntKind.u64 (IntKind.wrap IntKind.u64 (byteAt s 0)) (IntKind.wrap IntKind.u64 (IntKind.wrap IntKind.u64 (byteAt s 1) * 256))) (IntKind.wrap IntKind.u64 (IntKind.wrap IntKind.u64 (byteAt s 2) * 65536))) (IntKind.wrap IntKind.u64 (IntKind.wrap IntKind.u64 (byteAt s 3) * 16777216))) (IntKind.wrap IntKind.u64 (IntKind.wrap IntKind.u64 (byteAt s 4) * 4294967296))) (IntKind.wrap IntKind.u64 (IntKind.wrap IntKind.u64 (byteAt s 5) * 1099511627776))) (IntKind.wrap IntKind.u64 (IntKind.wrap IntKind.u64 (byteAt s 6) * 281474976710656))) (IntKind.wrap IntKind.u64 (IntKind.wrap IntKind.u64 (byteAt s 7) * 72057594037927936)))) ([]) :=
  (evalF_ok followed Tryd.func70 (by kernel_rfl) (show evalF Tryd.prog Tryd.f70 ([AVal.str s]) ([]) ([]) = .ok (FRes.mk (AVal.int IntKind.u64 (bits BinOp.or IntKind.u64 (bits BinOp.or IntKind.u64 (bits BinOp.or IntKind.u64 (bits BinOp.or IntKind.u64 (bits BinOp.or IntKind.u64 (bits BinOp.or IntKind.u64 (bits BinOp.or IntKind.u64 (IntKind.wrap IntKind.u64 (byteAt s 0)) (IntKind.wrap IntKind.u64 (IntKind.wrap IntKind.u64 (byteAt s 1) * 256))) (IntKind.wrap IntKind.u64 (IntKind.wrap IntKind.u64 (byteAt s 2) * 65536))) (IntKind.wrap IntKind.u64 (IntKind.wrap IntKind.u64 (byteAt s 3) * 16777216))) (IntKind.wrap IntKind.u64 (IntKind.wrap IntKind.u64 (byteAt s 4) * 4294967296))) (IntKind.wrap IntKind.u64 (IntKind.wrap IntKind.u64 (byteAt s 5) * 1099511627776))) (IntKind.wrap IntKind.u64 (IntKind.wrap IntKind.u64 (byteAt s 6) * 281474976710656))) (IntKind.wrap IntKind.u64 (IntKind.wrap IntKind.u64 (byteAt s 7) * 72057594037927936)))) ([]) (tr 11 ++ ((decide ((↑0 : Int) ≤ 7 ∧ 7 < (↑(ByteArray.size s) : Int)) = true) :: (tr 11 ++ ((decide ((↑0 : Int) ≤ 6 ∧ 6 < (↑(ByteArray.size s) : Int)) = true) :: (tr 11 ++ ((decide ((↑0 : Int) ≤ 5 ∧ 5 < (↑(ByteArray.size s) : Int)) = true) :: (tr 11 ++ ((decide ((↑0 : Int) ≤ 4 ∧ 4 < (↑(ByteArray.size s) : Int)) = true) :: (tr 11 ++ ((decide ((↑0 : Int) ≤ 3 ∧ 3 < (↑(ByteArray.size s) : Int)) = true) :: (tr 11 ++ ((decide ((↑0 : Int) ≤ 2 ∧ 2 < (↑(ByteArray.size s) : Int)) = true) :: (tr 11 ++ ((decide ((↑0 : Int) ≤ 1 ∧ 1 < (↑(ByteArray.size s) : Int)) = true) :: (tr 6 ++ ((decide ((↑0 : Int) ≤ 0 ∧ 0 < (↑(ByteArray.size s) : Int)) = true) :: (tr 3 ++ [])))))))))))))))))) by kernel_rfl) (allP_of (trC 11 ⟨h1, (trC 11 ⟨h2, (trC 11 ⟨h3, (trC 11 ⟨h4, (trC 11 ⟨h5, (trC 11 ⟨h6, (trC 11 ⟨h7, (trC 6 ⟨h8, (trC 3 trivial)⟩)⟩)⟩)⟩)⟩)⟩)⟩)⟩))).move ([]) (by kernel_rfl) (by kernel_rfl) (by kernel_rfl)

def word_T (s : ByteArray) (Q : AVal → AState → Prop) : Prop := (decide ((↑0 : Int) ≤ 0 ∧ 0 < (↑(ByteArray.size s) : Int)) = true) ∧ (decide ((↑0 : Int) ≤ 1 ∧ 1 < (↑(ByteArray.size s) : Int)) = true) ∧ (decide ((↑0 : Int) ≤ 2 ∧ 2 < (↑(ByteArray.size s) : Int)) = true) ∧ (decide ((↑0 : Int) ≤ 3 ∧ 3 < (↑(ByteArray.size s) : Int)) = true) ∧ (decide ((↑0 : Int) ≤ 4 ∧ 4 < (↑(ByteArray.size s) : Int)) = true) ∧ (decide ((↑0 : Int) ≤ 5 ∧ 5 < (↑(ByteArray.size s) : Int)) = true) ∧ (decide ((↑0 : Int) ≤ 6 ∧ 6 < (↑(ByteArray.size s) : Int)) = true) ∧ (decide ((↑0 : Int) ≤ 7 ∧ 7 < (↑(ByteArray.size s) : Int)) = true) ∧ Q (AVal.int IntKind.u64 (bits BinOp.or IntKind.u64 (bits BinOp.or IntKind.u64 (bits BinOp.or IntKind.u64 (bits BinOp.or IntKind.u64 (bits BinOp.or IntKind.u64 (bits BinOp.or IntKind.u64 (bits BinOp.or IntKind.u64 (IntKind.wrap IntKind.u64 (byteAt s 0)) (IntKind.wrap IntKind.u64 (IntKind.wrap IntKind.u64 (byteAt s 1) * 256))) (IntKind.wrap IntKind.u64 (IntKind.wrap IntKind.u64 (byteAt s 2) * 65536))) (IntKind.wrap IntKind.u64 (IntKind.wrap IntKind.u64 (byteAt s 3) * 16777216))) (IntKind.wrap IntKind.u64 (IntKind.wrap IntKind.u64 (byteAt s 4) * 4294967296))) (IntKind.wrap IntKind.u64 (IntKind.wrap IntKind.u64 (byteAt s 5) * 1099511627776))) (IntKind.wrap IntKind.u64 (IntKind.wrap IntKind.u64 (byteAt s 6) * 281474976710656))) (IntKind.wrap IntKind.u64 (IntKind.wrap IntKind.u64 (byteAt s 7) * 72057594037927936)))) ([])
theorem word_wp (s : ByteArray) {Q : AVal → AState → Prop} (h : word_T s Q) : ∃ r σ', FOk Tryd.prog 70 ([AVal.str s]) ([]) r σ' ∧ Q r σ' :=
  ⟨_, _, word_1 s (h.2.2.2.2.2.2.2.1) (h.2.2.2.2.2.2.1) (h.2.2.2.2.2.1) (h.2.2.2.2.1) (h.2.2.2.1) (h.2.2.1) (h.2.1) (h.1), h.2.2.2.2.2.2.2.2⟩


end Go.MN
end

section
set_option linter.unusedVariables false
set_option linter.unusedSimpArgs false
set_option maxRecDepth 100000
namespace Go.MN
open Go Go.Abs Go.Proofs
def wd (s : ByteArray) : Int := (Go.Lib.leNat [s.get! 0, s.get! 1, s.get! 2, s.get! 3, s.get! 4, s.get! 5, s.get! 6, s.get! 7] : Nat)
theorem wrapU64 (n : Int) : IntKind.wrap .u64 n = n % 18446744073709551616 := by
  simp [IntKind.wrap, IntKind.bits, IntKind.signed]
theorem bits_oru {a b : Nat} (ha : a < 2 ^ 64) (hb : b < 2 ^ 64) : bits .or .u64 (a : Int) (b : Int) = ((a ||| b : Nat) : Int) := by
  have hlt : a ||| b < 2 ^ 64 := Nat.or_lt_two_pow ha hb
  show IntKind.wrap .u64 (((BitVec.ofInt 64 (a : Int)) ||| (BitVec.ofInt 64 (b : Int))).toNat : Int) = _
  have e : ((BitVec.ofInt 64 (a : Int)) ||| (BitVec.ofInt 64 (b : Int))).toNat = a ||| b := by
    rw [BitVec.toNat_or]
    simp only [BitVec.ofInt_natCast, BitVec.toNat_ofNat]
    rw [Nat.mod_eq_of_lt (by omega), Nat.mod_eq_of_lt (by omega)]
  rw [e, wrapU64]
  omega
theorem bits_andu {a b : Nat} (ha : a < 2 ^ 64) (hb : b < 2 ^ 64) : bits .and .u64 (a : Int) (b : Int) = ((a &&& b : Nat) : Int) := by
  have hlt : a &&& b < 2 ^ 64 := Nat.and_lt_two_pow _ hb
  show IntKind.wrap .u64 (((BitVec.ofInt 64 (a : Int)) &&& (BitVec.ofInt 64 (b : Int))).toNat : Int) = _
  have e : ((BitVec.ofInt 64 (a : Int)) &&& (BitVec.ofInt 64 (b : Int))).toNat = a &&& b := by
    rw [BitVec.toNat_and]
    simp only [BitVec.ofInt_natCast, BitVec.toNat_ofNat]
    rw [Nat.mod_eq_of_lt (by omega), Nat.mod_eq_of_lt (by omega)]
  rw [e, wrapU64]
  omega
theorem byteAt_get (s : ByteArray) (k : Nat) : byteAt s (k : Int) = ((s.get! k).toNat : Int) := by
  rw [byteAt_lB, Int.toNat_natCast, Go.Lib.getD_get!']
theorem stage {a b k : Nat} (ha : a < 2 ^ k) (hb : b < 256) (hk : k + 8 ≤ 64) (M : Int) (hM : M = ((2 ^ k : Nat) : Int)) : bits .or .u64 (a : Int) (IntKind.wrap .u64 (IntKind.wrap .u64 (b : Int) * M)) = ((a + b * 2 ^ k : Nat) : Int) := by
  subst hM
  have h1 : b * 2 ^ k < 2 ^ 64 := by
    calc b * 2 ^ k < 256 * 2 ^ k := Nat.mul_lt_mul_of_pos_right hb (Nat.two_pow_pos k)
      _ = 2 ^ (8 + k) := by rw [Nat.pow_add]
      _ ≤ 2 ^ 64 := Nat.pow_le_pow_right (by decide) (by omega)
  have h2 : a < 2 ^ 64 := Nat.lt_of_lt_of_le ha (Nat.pow_le_pow_right (by decide) (by omega))
  rw [wrapU64 (b : Int), show (b : Int) % 18446744073709551616 = (b : Int) by omega, ← Int.natCast_mul, wrapU64]
  rw [show ((b * 2 ^ k : Nat) : Int) % 18446744073709551616 = ((b * 2 ^ k : Nat) : Int) by omega, bits_oru h2 h1, or_add ha]
theorem word_ok (s : ByteArray) (h : 8 ≤ s.size) : FOk Tryd.prog 70 [.str s] [] (.int .u64 (wd s)) [] := by
  refine FOk.wp (word_wp s ?_)
  unfold word_T
  refine ⟨decide_eq_true (by omega), decide_eq_true (by omega), decide_eq_true (by omega), decide_eq_true (by omega), decide_eq_true (by omega), decide_eq_true (by omega), decide_eq_true (by omega), decide_eq_true (by omega), ?_, rfl⟩
  have b0 := byteAt_get s 0
  have b1 := byteAt_get s 1
  have b2 := byteAt_get s 2
  have b3 := byteAt_get s 3
  have b4 := byteAt_get s 4
  have b5 := byteAt_get s 5
  have b6 := byteAt_get s 6
  have b7 := byteAt_get s 7
  unfold wd
  rw [show byteAt s 0 = _ from b0, show byteAt s 1 = _ from b1, show byteAt s 2 = _ from b2, show byteAt s 3 = _ from b3, show byteAt s 4 = _ from b4, show byteAt s 5 = _ from b5, show byteAt s 6 = _ from b6, show byteAt s 7 = _ from b7]
  have t0 := (s.get! 0).toNat_lt
  have t1 := (s.get! 1).toNat_lt
  have t2 := (s.get! 2).toNat_lt
  have t3 := (s.get! 3).toNat_lt
  have t4 := (s.get! 4).toNat_lt
  have t5 := (s.get! 5).toNat_lt
  have t6 := (s.get! 6).toNat_lt
  have t7 := (s.get! 7).toNat_lt
  simp only [Go.Lib.leNat]
  generalize (s.get! 0).toNat = x0 at *
  generalize (s.get! 1).toNat = x1 at *
  generalize (s.get! 2).toNat = x2 at *
  generalize (s.get! 3).toNat = x3 at *
  generalize (s.get! 4).toNat = x4 at *
  generalize (s.get! 5).toNat = x5 at *
  generalize (s.get! 6).toNat = x6 at *
  generalize (s.get! 7).toNat = x7 at *
  rw [show IntKind.wrap .u64 (x0 : Int) = (x0 : Int) by rw [wrapU64]; omega]
  rw [stage (k := 8) (by omega) t1 (by omega) 256 rfl, stage (k := 16) (by omega) t2 (by omega) 65536 rfl, stage (k := 24) (by omega) t3 (by omega) 16777216 rfl, stage (k := 32) (by omega) t4 (by omega) 4294967296 rfl, stage (k := 40) (by omega) t5 (by omega) 1099511627776 rfl, stage (k := 48) (by omega) t6 (by omega) 281474976710656 rfl, stage (k := 56) (by omega) t7 (by omega) 72057594037927936 rfl]
  congr 2
  omega
end Go.MN
end

section
set_option linter.unusedVariables false
set_option maxRecDepth 100000
namespace Go.MN
open Go Go.Abs Go.Proofs
abbrev zI (s : ByteArray) : Int := ((ByteArray.size s : Nat) : Int)
abbrev xt (s : ByteArray) (k : Nat) : ByteArray := ByteArray.extract s k (Int.toNat ((ByteArray.size s : Nat) : Int))
abbrev iqNC : Int → AVal := AVal.int IntKind.i64
def rgV (s : ByteArray) : Regs := mkR 169 [(0, .str s)]
theorem vin_1 (s : ByteArray)
    (h1 : decide ((↑0 : Int) ≤ 32 ∧ 32 ≤ (zI s) ∧ (zI s) ≤ (zI s)) = true)
    (h2 : (bits BinOp.and IntKind.u64 (bits BinOp.or IntKind.u64 (bits BinOp.or IntKind.u64 (wd s) (wd (xt s 8))) (bits BinOp.or IntKind.u64 (wd (xt s 16)) (wd (xt s 24)))) 9259542123273814144 == 0) = true)
    (h3 : 8 ≤ ByteArray.size (xt s 24))
    (h4 : decide ((↑0 : Int) ≤ 24 ∧ 24 ≤ (zI s) ∧ (zI s) ≤ (zI s)) = true)
    (h5 : 8 ≤ ByteArray.size (xt s 16))
    (h6 : decide ((↑0 : Int) ≤ 16 ∧ 16 ≤ (zI s) ∧ (zI s) ≤ (zI s)) = true)
    (h7 : 8 ≤ ByteArray.size (xt s 8))
    (h8 : decide ((↑0 : Int) ≤ 8 ∧ 8 ≤ (zI s) ∧ (zI s) ≤ (zI s)) = true)
    (h9 : 8 ≤ ByteArray.size s)
    (h10 : decide ((zI s) > 32) = true) :
    TripN Tryd.prog 0 (loopNo Tryd.f50 1) (rgV s) ([]) (AExit.normal) (mkR 169 [(0, AVal.str (xt s 32))]) ([]) :=
  evalT (st := St.mk (rgV s) ([]) ([Dec.br true, Dec.use [] [AVal.str s] [] (AVal.int IntKind.u64 (wd s)) [], Dec.use [] [AVal.str (xt s 8)] [] (AVal.int IntKind.u64 (wd (xt s 8))) [], Dec.use [] [AVal.str (xt s 16)] [] (AVal.int IntKind.u64 (wd (xt s 16))) [], Dec.use [] [AVal.str (xt s 24)] [] (AVal.int IntKind.u64 (wd (xt s 24))) [], Dec.br true]) []) (st' := St.mk (mkR 169 [(0, AVal.str (xt s 32)), (42, AVal.str s), (43, iqNC (zI s)), (44, AVal.bool (decide ((zI s) > 32))), (45, AVal.tt true), (46, AVal.str s), (47, AVal.int IntKind.u64 (wd s)), (48, AVal.str s), (49, AVal.str (xt s 8)), (50, AVal.int IntKind.u64 (wd (xt s 8))), (51, AVal.int IntKind.u64 (bits BinOp.or IntKind.u64 (wd s) (wd (xt s 8)))), (52, AVal.str s), (53, AVal.str (xt s 16)), (54, AVal.int IntKind.u64 (wd (xt s 16))), (55, AVal.str s), (56, AVal.str (xt s 24)), (57, AVal.int IntKind.u64 (wd (xt s 24))), (58, AVal.int IntKind.u64 (bits BinOp.or IntKind.u64 (wd (xt s 16)) (wd (xt s 24)))), (59, AVal.int IntKind.u64 (bits BinOp.or IntKind.u64 (bits BinOp.or IntKind.u64 (wd s) (wd (xt s 8))) (bits BinOp.or IntKind.u64 (wd (xt s 16)) (wd (xt s 24))))), (60, AVal.int IntKind.u64 (bits BinOp.and IntKind.u64 (bits BinOp.or IntKind.u64 (bits BinOp.or IntKind.u64 (wd s) (wd (xt s 8))) (bits BinOp.or IntKind.u64 (wd (xt s 16)) (wd (xt s 24)))) 9259542123273814144)), (61, AVal.bool (bits BinOp.and IntKind.u64 (bits BinOp.or IntKind.u64 (bits BinOp.or IntKind.u64 (wd s) (wd (xt s 8))) (bits BinOp.or IntKind.u64 (wd (xt s 16)) (wd (xt s 24)))) 9259542123273814144 == 0)), (62, AVal.tt true), (63, AVal.str s), (64, AVal.str (xt s 32))]) ([]) ([]) ((decide ((↑0 : Int) ≤ 32 ∧ 32 ≤ (zI s) ∧ (zI s) ≤ (zI s)) = true) :: (((bits BinOp.and IntKind.u64 (bits BinOp.or IntKind.u64 (bits BinOp.or IntKind.u64 (wd s) (wd (xt s 8))) (bits BinOp.or IntKind.u64 (wd (xt s 16)) (wd (xt s 24)))) 9259542123273814144 == 0) = true) :: (tr 12 ++ ((Owed.use (owed Tryd.prog 0) 70 [] [AVal.str (xt s 24)] [] [AVal.str (xt s 24)] [] (AVal.int IntKind.u64 (wd (xt s 24))) []) :: (tr 2 ++ ((decide ((↑0 : Int) ≤ 24 ∧ 24 ≤ (zI s) ∧ (zI s) ≤ (zI s)) = true) :: (tr 4 ++ ((Owed.use (owed Tryd.prog 0) 70 [] [AVal.str (xt s 16)] [] [AVal.str (xt s 16)] [] (AVal.int IntKind.u64 (wd (xt s 16))) []) :: (tr 2 ++ ((decide ((↑0 : Int) ≤ 16 ∧ 16 ≤ (zI s) ∧ (zI s) ≤ (zI s)) = true) :: (tr 6 ++ ((Owed.use (owed Tryd.prog 0) 70 [] [AVal.str (xt s 8)] [] [AVal.str (xt s 8)] [] (AVal.int IntKind.u64 (wd (xt s 8))) []) :: (tr 2 ++ ((decide ((↑0 : Int) ≤ 8 ∧ 8 ≤ (zI s) ∧ (zI s) ≤ (zI s)) = true) :: (tr 4 ++ ((Owed.use (owed Tryd.prog 0) 70 [] [AVal.str s] [] [AVal.str s] [] (AVal.int IntKind.u64 (wd s)) []) :: (tr 2 ++ ((decide ((zI s) > 32) = true) :: (tr 9 ++ [])))))))))))))))))))) followed (by kernel_rfl) (allP_of ⟨h1, ⟨h2, (trC 12 ⟨⟨(@Go.MN.word_ok (xt s 24) h3), rfl, rfl, rfl⟩, (trC 2 ⟨h4, (trC 4 ⟨⟨(@Go.MN.word_ok (xt s 16) h5), rfl, rfl, rfl⟩, (trC 2 ⟨h6, (trC 6 ⟨⟨(@Go.MN.word_ok (xt s 8) h7), rfl, rfl, rfl⟩, (trC 2 ⟨h8, (trC 4 ⟨⟨(@Go.MN.word_ok (s) h9), rfl, rfl, rfl⟩, (trC 2 ⟨h10, (trC 9 trivial)⟩)⟩)⟩)⟩)⟩)⟩)⟩)⟩)⟩⟩) (keepM 169 [0]) ([]) (by kernel_rfl) (by kernel_rfl) (by kernel_rfl)

theorem vin_2 (s : ByteArray)
    (h1 : (bits BinOp.and IntKind.u64 (bits BinOp.or IntKind.u64 (bits BinOp.or IntKind.u64 (wd s) (wd (xt s 8))) (bits BinOp.or IntKind.u64 (wd (xt s 16)) (wd (xt s 24)))) 9259542123273814144 == 0) = false)
    (h2 : 8 ≤ ByteArray.size (xt s 24))
    (h3 : decide ((↑0 : Int) ≤ 24 ∧ 24 ≤ (zI s) ∧ (zI s) ≤ (zI s)) = true)
    (h4 : 8 ≤ ByteArray.size (xt s 16))
    (h5 : decide ((↑0 : Int) ≤ 16 ∧ 16 ≤ (zI s) ∧ (zI s) ≤ (zI s)) = true)
    (h6 : 8 ≤ ByteArray.size (xt s 8))
    (h7 : decide ((↑0 : Int) ≤ 8 ∧ 8 ≤ (zI s) ∧ (zI s) ≤ (zI s)) = true)
    (h8 : 8 ≤ ByteArray.size s)
    (h9 : decide ((zI s) > 32) = true) :
    TripN Tryd.prog 0 (loopNo Tryd.f50 1) (rgV s) ([]) (AExit.exit 2) (mkR 169 [(0, AVal.str s)]) ([]) :=
  evalT (st := St.mk (rgV s) ([]) ([Dec.br true, Dec.use [] [AVal.str s] [] (AVal.int IntKind.u64 (wd s)) [], Dec.use [] [AVal.str (xt s 8)] [] (AVal.int IntKind.u64 (wd (xt s 8))) [], Dec.use [] [AVal.str (xt s 16)] [] (AVal.int IntKind.u64 (wd (xt s 16))) [], Dec.use [] [AVal.str (xt s 24)] [] (AVal.int IntKind.u64 (wd (xt s 24))) [], Dec.br false]) []) (st' := St.mk (mkR 169 [(0, AVal.str s), (42, AVal.str s), (43, iqNC (zI s)), (44, AVal.bool (decide ((zI s) > 32))), (45, AVal.tt true), (46, AVal.str s), (47, AVal.int IntKind.u64 (wd s)), (48, AVal.str s), (49, AVal.str (xt s 8)), (50, AVal.int IntKind.u64 (wd (xt s 8))), (51, AVal.int IntKind.u64 (bits BinOp.or IntKind.u64 (wd s) (wd (xt s 8)))), (52, AVal.str s), (53, AVal.str (xt s 16)), (54, AVal.int IntKind.u64 (wd (xt s 16))), (55, AVal.str s), (56, AVal.str (xt s 24)), (57, AVal.int IntKind.u64 (wd (xt s 24))), (58, AVal.int IntKind.u64 (bits BinOp.or IntKind.u64 (wd (xt s 16)) (wd (xt s 24)))), (59, AVal.int IntKind.u64 (bits BinOp.or IntKind.u64 (bits BinOp.or IntKind.u64 (wd s) (wd (xt s 8))) (bits BinOp.or IntKind.u64 (wd (xt s 16)) (wd (xt s 24))))), (60, AVal.int IntKind.u64 (bits BinOp.and IntKind.u64 (bits BinOp.or IntKind.u64 (bits BinOp.or IntKind.u64 (wd s) (wd (xt s 8))) (bits BinOp.or IntKind.u64 (wd (xt s 16)) (wd (xt s 24)))) 9259542123273814144)), (61, AVal.bool (bits BinOp.and IntKind.u64 (bits BinOp.or IntKind.u64 (bits BinOp.or IntKind.u64 (wd s) (wd (xt s 8))) (bits BinOp.or IntKind.u64 (wd (xt s 16)) (wd (xt s 24)))) 9259542123273814144 == 0)), (62, AVal.tt false)]) ([]) ([]) (((bits BinOp.and IntKind.u64 (bits BinOp.or IntKind.u64 (bits BinOp.or IntKind.u64 (wd s) (wd (xt s 8))) (bits BinOp.or IntKind.u64 (wd (xt s 16)) (wd (xt s 24)))) 9259542123273814144 == 0) = false) :: (tr 12 ++ ((Owed.use (owed Tryd.prog 0) 70 [] [AVal.str (xt s 24)] [] [AVal.str (xt s 24)] [] (AVal.int IntKind.u64 (wd (xt s 24))) []) :: (tr 2 ++ ((decide ((↑0 : Int) ≤ 24 ∧ 24 ≤ (zI s) ∧ (zI s) ≤ (zI s)) = true) :: (tr 4 ++ ((Owed.use (owed Tryd.prog 0) 70 [] [AVal.str (xt s 16)] [] [AVal.str (xt s 16)] [] (AVal.int IntKind.u64 (wd (xt s 16))) []) :: (tr 2 ++ ((decide ((↑0 : Int) ≤ 16 ∧ 16 ≤ (zI s) ∧ (zI s) ≤ (zI s)) = true) :: (tr 6 ++ ((Owed.use (owed Tryd.prog 0) 70 [] [AVal.str (xt s 8)] [] [AVal.str (xt s 8)] [] (AVal.int IntKind.u64 (wd (xt s 8))) []) :: (tr 2 ++ ((decide ((↑0 : Int) ≤ 8 ∧ 8 ≤ (zI s) ∧ (zI s) ≤ (zI s)) = true) :: (tr 4 ++ ((Owed.use (owed Tryd.prog 0) 70 [] [AVal.str s] [] [AVal.str s] [] (AVal.int IntKind.u64 (wd s)) []) :: (tr 2 ++ ((decide ((zI s) > 32) = true) :: (tr 9 ++ []))))))))))))))))))) followed (by kernel_rfl) (allP_of ⟨h1, (trC 12 ⟨⟨(@Go.MN.word_ok (xt s 24) h2), rfl, rfl, rfl⟩, (trC 2 ⟨h3, (trC 4 ⟨⟨(@Go.MN.word_ok (xt s 16) h4), rfl, rfl, rfl⟩, (trC 2 ⟨h5, (trC 6 ⟨⟨(@Go.MN.word_ok (xt s 8) h6), rfl, rfl, rfl⟩, (trC 2 ⟨h7, (trC 4 ⟨⟨(@Go.MN.word_ok (s) h8), rfl, rfl, rfl⟩, (trC 2 ⟨h9, (trC 9 trivial)⟩)⟩)⟩)⟩)⟩)⟩)⟩)⟩)⟩) (keepM 169 [0]) ([]) (by kernel_rfl) (by kernel_rfl) (by kernel_rfl)

theorem vin_3 (s : ByteArray)
    (h1 : decide ((zI s) > 32) = false) :
    TripN Tryd.prog 0 (loopNo Tryd.f50 1) (rgV s) ([]) (AExit.exit 2) (mkR 169 [(0, AVal.str s)]) ([]) :=
  evalT (st := St.mk (rgV s) ([]) ([Dec.br false]) []) (st' := St.mk (mkR 169 [(0, AVal.str s), (42, AVal.str s), (43, iqNC (zI s)), (44, AVal.bool (decide ((zI s) > 32))), (45, AVal.tt false), (46, AVal.tuple []), (47, AVal.tuple []), (48, AVal.tuple []), (49, AVal.tuple []), (50, AVal.tuple []), (51, AVal.tuple []), (52, AVal.tuple []), (53, AVal.tuple []), (54, AVal.tuple []), (55, AVal.tuple []), (56, AVal.tuple []), (57, AVal.tuple []), (58, AVal.tuple []), (59, AVal.tuple []), (60, AVal.tuple []), (61, AVal.tuple []), (62, AVal.tt false)]) ([]) ([]) (tr 34 ++ ((decide ((zI s) > 32) = false) :: (tr 9 ++ [])))) followed (by kernel_rfl) (allP_of (trC 34 ⟨h1, (trC 9 trivial)⟩)) (keepM 169 [0]) ([]) (by kernel_rfl) (by kernel_rfl) (by kernel_rfl)

def vin_T (s : ByteArray) (Q : AExit → Regs → AState → Prop) : Prop := ((decide ((↑(ByteArray.size s) : Int) > 32) = true) → (8 ≤ ByteArray.size s) ∧ (decide ((↑0 : Int) ≤ 8 ∧ 8 ≤ (↑(ByteArray.size s) : Int) ∧ (↑(ByteArray.size s) : Int) ≤ (↑(ByteArray.size s) : Int)) = true) ∧ (8 ≤ ByteArray.size (ByteArray.extract s 8 (Int.toNat (↑(ByteArray.size s) : Int)))) ∧ (decide ((↑0 : Int) ≤ 16 ∧ 16 ≤ (↑(ByteArray.size s) : Int) ∧ (↑(ByteArray.size s) : Int) ≤ (↑(ByteArray.size s) : Int)) = true) ∧ (8 ≤ ByteArray.size (ByteArray.extract s 16 (Int.toNat (↑(ByteArray.size s) : Int)))) ∧ (decide ((↑0 : Int) ≤ 24 ∧ 24 ≤ (↑(ByteArray.size s) : Int) ∧ (↑(ByteArray.size s) : Int) ≤ (↑(ByteArray.size s) : Int)) = true) ∧ (8 ≤ ByteArray.size (ByteArray.extract s 24 (Int.toNat (↑(ByteArray.size s) : Int)))) ∧ (((bits BinOp.and IntKind.u64 (bits BinOp.or IntKind.u64 (bits BinOp.or IntKind.u64 (wd s) (wd (ByteArray.extract s 8 (Int.toNat (↑(ByteArray.size s) : Int))))) (bits BinOp.or IntKind.u64 (wd (ByteArray.extract s 16 (Int.toNat (↑(ByteArray.size s) : Int)))) (wd (ByteArray.extract s 24 (Int.toNat (↑(ByteArray.size s) : Int)))))) 9259542123273814144 == 0) = true) → (decide ((↑0 : Int) ≤ 32 ∧ 32 ≤ (↑(ByteArray.size s) : Int) ∧ (↑(ByteArray.size s) : Int) ≤ (↑(ByteArray.size s) : Int)) = true) ∧ Q (AExit.normal) (mkR 169 [(0, AVal.str (ByteArray.extract s 32 (Int.toNat (↑(ByteArray.size s) : Int))))]) ([])) ∧ (((bits BinOp.and IntKind.u64 (bits BinOp.or IntKind.u64 (bits BinOp.or IntKind.u64 (wd s) (wd (ByteArray.extract s 8 (Int.toNat (↑(ByteArray.size s) : Int))))) (bits BinOp.or IntKind.u64 (wd (ByteArray.extract s 16 (Int.toNat (↑(ByteArray.size s) : Int)))) (wd (ByteArray.extract s 24 (Int.toNat (↑(ByteArray.size s) : Int)))))) 9259542123273814144 == 0) = false) → Q (AExit.exit 2) (mkR 169 [(0, AVal.str s)]) ([]))) ∧ ((decide ((↑(ByteArray.size s) : Int) > 32) = false) → Q (AExit.exit 2) (mkR 169 [(0, AVal.str s)]) ([]))
theorem vin_wp (s : ByteArray) {Q : AExit → Regs → AState → Prop} (h : vin_T s Q) : ∃ e rg' σ', TripN Tryd.prog 0 (loopNo Tryd.f50 1) (rgV s) ([]) e rg' σ' ∧ Q e rg' σ' :=
  brE (fun (c0 : decide ((zI s) > 32) = true) => brE (fun (c1 : (bits BinOp.and IntKind.u64 (bits BinOp.or IntKind.u64 (bits BinOp.or IntKind.u64 (wd s) (wd (xt s 8))) (bits BinOp.or IntKind.u64 (wd (xt s 16)) (wd (xt s 24)))) 9259542123273814144 == 0) = true) => ⟨_, _, _, vin_1 s (((h.1 c0).2.2.2.2.2.2.2.1 c1).1) (c1) ((h.1 c0).2.2.2.2.2.2.1) ((h.1 c0).2.2.2.2.2.1) ((h.1 c0).2.2.2.2.1) ((h.1 c0).2.2.2.1) ((h.1 c0).2.2.1) ((h.1 c0).2.1) ((h.1 c0).1) (c0), ((h.1 c0).2.2.2.2.2.2.2.1 c1).2⟩) (fun (c1 : (bits BinOp.and IntKind.u64 (bits BinOp.or IntKind.u64 (bits BinOp.or IntKind.u64 (wd s) (wd (xt s 8))) (bits BinOp.or IntKind.u64 (wd (xt s 16)) (wd (xt s 24)))) 9259542123273814144 == 0) = false) => ⟨_, _, _, vin_2 s (c1) ((h.1 c0).2.2.2.2.2.2.1) ((h.1 c0).2.2.2.2.2.1) ((h.1 c0).2.2.2.2.1) ((h.1 c0).2.2.2.1) ((h.1 c0).2.2.1) ((h.1 c0).2.1) ((h.1 c0).1) (c0), ((h.1 c0).2.2.2.2.2.2.2.2 c1)⟩)) (fun (c0 : decide ((zI s) > 32) = false) => ⟨_, _, _, vin_3 s (c0), (h.2 c0)⟩)


end Go.MN
end

section
set_option linter.unusedVariables false
set_option maxRecDepth 100000
namespace Go.MN
open Go Go.Abs Go.Proofs
abbrev fb (s : ByteArray) : Int := AVal.toInt (List.getD Tabs.first (Int.toNat (byteAt s 0) * 1) AVal.any)
abbrev ac (s : ByteArray) : AVal := List.getD Tabs.acc (Int.toNat (Int.fdiv (fb s) 16) * 2) AVal.any
abbrev ad (s : ByteArray) : AVal := List.getD Tabs.acc (Int.toNat (Int.fdiv (fb s) 16) * 2 + 1) AVal.any
abbrev b7 (s : ByteArray) : Int := bits BinOp.and IntKind.u8 (fb s) 7
abbrev iqND : Int → AVal := AVal.int IntKind.i64
theorem vout_1 (s : ByteArray) (t : ByteArray)
    (h1 : TripN Tryd.prog 0 (Code.loop (loopNo Tryd.f50 1)) (mkR 169 [(0, AVal.str (xt (xt (xt s 1) 8) 16))]) [] (AExit.exit 2) (mkR 169 [(0, AVal.str t)]) [])
    (h2 : decide ((↑0 : Int) ≤ 16 ∧ 16 ≤ (zI (xt (xt s 1) 8)) ∧ (zI (xt (xt s 1) 8)) ≤ (zI (xt (xt s 1) 8))) = true)
    (h3 : (bits BinOp.and IntKind.u64 (bits BinOp.or IntKind.u64 (wd (xt (xt s 1) 8)) (wd (xt (xt (xt s 1) 8) 8))) 9259542123273814144 == 0) = true)
    (h4 : 8 ≤ ByteArray.size (xt (xt (xt s 1) 8) 8))
    (h5 : decide ((↑0 : Int) ≤ 8 ∧ 8 ≤ (zI (xt (xt s 1) 8)) ∧ (zI (xt (xt s 1) 8)) ≤ (zI (xt (xt s 1) 8))) = true)
    (h6 : 8 ≤ ByteArray.size (xt (xt s 1) 8))
    (h7 : decide ((zI (xt (xt s 1) 8)) > 16) = true)
    (h8 : decide ((↑0 : Int) ≤ 8 ∧ 8 ≤ (zI (xt s 1)) ∧ (zI (xt s 1)) ≤ (zI (xt s 1))) = true)
    (h9 : (bits BinOp.and IntKind.u64 (wd (xt s 1)) 9259542123273814144 == 0) = true)
    (h10 : 8 ≤ ByteArray.size (xt s 1))
    (h11 : decide ((zI (xt s 1)) > 8) = true)
    (h12 : decide ((↑0 : Int) ≤ 1 ∧ 1 ≤ (zI s) ∧ (zI s) ≤ (zI s)) = true)
    (h13 : decide (byteAt s 0 < 128) = true)
    (h14 : decide ((↑0 : Int) ≤ 0 ∧ 0 < (zI s)) = true)
    (h15 : decide ((zI s) > 0) = true) :
    TripN Tryd.prog 0 (loopNo Tryd.f50 0) (rgV s) ([]) (AExit.normal) (mkR 169 [(0, AVal.str t)]) ([]) :=
  evalT (st := St.mk (rgV s) ([]) ([Dec.br true, Dec.br true, Dec.br true, Dec.use [] [AVal.str (xt s 1)] [] (AVal.int IntKind.u64 (wd (xt s 1))) [], Dec.br true, Dec.br true, Dec.use [] [AVal.str (xt (xt s 1) 8)] [] (AVal.int IntKind.u64 (wd (xt (xt s 1) 8))) [], Dec.use [] [AVal.str (xt (xt (xt s 1) 8) 8)] [] (AVal.int IntKind.u64 (wd (xt (xt (xt s 1) 8) 8))) [], Dec.br true, Dec.compact (keepM 169 [0]) [], Dec.loop (AExit.exit 2) (rgV t) []]) []) (st' := St.mk (mkR 169 [(0, AVal.str t)]) ([]) ([]) ((Owed.loop (owed Tryd.prog 0) (loopNo Tryd.f50 1) (mkR 169 [(0, AVal.str (xt (xt (xt s 1) 8) 16))]) [] (AExit.exit 2) (mkR 169 [(0, AVal.str t)]) []) :: ((decide ((↑0 : Int) ≤ 16 ∧ 16 ≤ (zI (xt (xt s 1) 8)) ∧ (zI (xt (xt s 1) 8)) ≤ (zI (xt (xt s 1) 8))) = true) :: (((bits BinOp.and IntKind.u64 (bits BinOp.or IntKind.u64 (wd (xt (xt s 1) 8)) (wd (xt (xt (xt s 1) 8) 8))) 9259542123273814144 == 0) = true) :: (tr 10 ++ ((Owed.use (owed Tryd.prog 0) 70 [] [AVal.str (xt (xt (xt s 1) 8) 8)] [] [AVal.str (xt (xt (xt s 1) 8) 8)] [] (AVal.int IntKind.u64 (wd (xt (xt (xt s 1) 8) 8))) []) :: (tr 2 ++ ((decide ((↑0 : Int) ≤ 8 ∧ 8 ≤ (zI (xt (xt s 1) 8)) ∧ (zI (xt (xt s 1) 8)) ≤ (zI (xt (xt s 1) 8))) = true) :: (tr 4 ++ ((Owed.use (owed Tryd.prog 0) 70 [] [AVal.str (xt (xt s 1) 8)] [] [AVal.str (xt (xt s 1) 8)] [] (AVal.int IntKind.u64 (wd (xt (xt s 1) 8))) []) :: (tr 2 ++ ((decide ((zI (xt (xt s 1) 8)) > 16) = true) :: (tr 9 ++ ((decide ((↑0 : Int) ≤ 8 ∧ 8 ≤ (zI (xt s 1)) ∧ (zI (xt s 1)) ≤ (zI (xt s 1))) = true) :: (((bits BinOp.and IntKind.u64 (wd (xt s 1)) 9259542123273814144 == 0) = true) :: ((Owed.use (owed Tryd.prog 0) 70 [] [AVal.str (xt s 1)] [] [AVal.str (xt s 1)] [] (AVal.int IntKind.u64 (wd (xt s 1))) []) :: ((decide ((zI (xt s 1)) > 8) = true) :: ((decide ((↑0 : Int) ≤ 1 ∧ 1 ≤ (zI s) ∧ (zI s) ≤ (zI s)) = true) :: ((decide (byteAt s 0 < 128) = true) :: ((decide ((↑0 : Int) ≤ 0 ∧ 0 < (zI s)) = true) :: ((decide ((zI s) > 0) = true) :: []))))))))))))))))))))) followed (by kernel_rfl) (allP_of ⟨h1, ⟨h2, ⟨h3, (trC 10 ⟨⟨(@Go.MN.word_ok (xt (xt (xt s 1) 8) 8) h4), rfl, rfl, rfl⟩, (trC 2 ⟨h5, (trC 4 ⟨⟨(@Go.MN.word_ok (xt (xt s 1) 8) h6), rfl, rfl, rfl⟩, (trC 2 ⟨h7, (trC 9 ⟨h8, ⟨h9, ⟨⟨(@Go.MN.word_ok (xt s 1) h10), rfl, rfl, rfl⟩, ⟨h11, ⟨h12, ⟨h13, ⟨h14, ⟨h15, trivial⟩⟩⟩⟩⟩⟩⟩⟩)⟩)⟩)⟩)⟩)⟩⟩⟩) (keepM 169 [0]) ([]) (by kernel_rfl) (by kernel_rfl) (by kernel_rfl)

theorem vout_2 (s : ByteArray) (t : ByteArray)
    (h1 : (bits BinOp.and IntKind.u64 (bits BinOp.or IntKind.u64 (wd (xt (xt s 1) 8)) (wd (xt (xt (xt s 1) 8) 8))) 9259542123273814144 == 0) = false)
    (h2 : 8 ≤ ByteArray.size (xt (xt (xt s 1) 8) 8))
    (h3 : decide ((↑0 : Int) ≤ 8 ∧ 8 ≤ (zI (xt (xt s 1) 8)) ∧ (zI (xt (xt s 1) 8)) ≤ (zI (xt (xt s 1) 8))) = true)
    (h4 : 8 ≤ ByteArray.size (xt (xt s 1) 8))
    (h5 : decide ((zI (xt (xt s 1) 8)) > 16) = true)
    (h6 : decide ((↑0 : Int) ≤ 8 ∧ 8 ≤ (zI (xt s 1)) ∧ (zI (xt s 1)) ≤ (zI (xt s 1))) = true)
    (h7 : (bits BinOp.and IntKind.u64 (wd (xt s 1)) 9259542123273814144 == 0) = true)
    (h8 : 8 ≤ ByteArray.size (xt s 1))
    (h9 : decide ((zI (xt s 1)) > 8) = true)
    (h10 : decide ((↑0 : Int) ≤ 1 ∧ 1 ≤ (zI s) ∧ (zI s) ≤ (zI s)) = true)
    (h11 : decide (byteAt s 0 < 128) = true)
    (h12 : decide ((↑0 : Int) ≤ 0 ∧ 0 < (zI s)) = true)
    (h13 : decide ((zI s) > 0) = true) :
    TripN Tryd.prog 0 (loopNo Tryd.f50 0) (rgV s) ([]) (AExit.normal) (mkR 169 [(0, AVal.str (xt (xt s 1) 8))]) ([]) :=
  evalT (st := St.mk (rgV s) ([]) ([Dec.br true, Dec.br true, Dec.br true, Dec.use [] [AVal.str (xt s 1)] [] (AVal.int IntKind.u64 (wd (xt s 1))) [], Dec.br true, Dec.br true, Dec.use [] [AVal.str (xt (xt s 1) 8)] [] (AVal.int IntKind.u64 (wd (xt (xt s 1) 8))) [], Dec.use [] [AVal.str (xt (xt (xt s 1) 8) 8)] [] (AVal.int IntKind.u64 (wd (xt (xt (xt s 1) 8) 8))) [], Dec.br false]) []) (st' := St.mk (mkR 169 [(0, AVal.str (xt (xt s 1) 8)), (3, AVal.int IntKind.u8 (byteAt s 0)), (7, AVal.str s), (8, iqND (zI s)), (9, AVal.tt true), (10, AVal.str s), (11, AVal.int IntKind.u8 (byteAt s 0)), (12, AVal.int IntKind.u8 (byteAt s 0)), (13, AVal.tt true), (14, AVal.str s), (15, AVal.str (xt s 1)), (16, AVal.str (xt s 1)), (17, iqND (zI (xt s 1))), (18, AVal.bool (decide ((zI (xt s 1)) > 8))), (19, AVal.tt true), (20, AVal.str (xt s 1)), (21, AVal.int IntKind.u64 (wd (xt s 1))), (22, AVal.int IntKind.u64 (bits BinOp.and IntKind.u64 (wd (xt s 1)) 9259542123273814144)), (23, AVal.bool (bits BinOp.and IntKind.u64 (wd (xt s 1)) 9259542123273814144 == 0)), (24, AVal.tt true), (25, AVal.str (xt s 1)), (26, AVal.str (xt (xt s 1) 8)), (27, AVal.str (xt (xt s 1) 8)), (28, iqND (zI (xt (xt s 1) 8))), (29, AVal.bool (decide ((zI (xt (xt s 1) 8)) > 16))), (30, AVal.tt true), (31, AVal.str (xt (xt s 1) 8)), (32, AVal.int IntKind.u64 (wd (xt (xt s 1) 8))), (33, AVal.str (xt (xt s 1) 8)), (34, AVal.str (xt (xt (xt s 1) 8) 8)), (35, AVal.int IntKind.u64 (wd (xt (xt (xt s 1) 8) 8))), (36, AVal.int IntKind.u64 (bits BinOp.or IntKind.u64 (wd (xt (xt s 1) 8)) (wd (xt (xt (xt s 1) 8) 8)))), (37, AVal.int IntKind.u64 (bits BinOp.and IntKind.u64 (bits BinOp.or IntKind.u64 (wd (xt (xt s 1) 8)) (wd (xt (xt (xt s 1) 8) 8))) 9259542123273814144)), (38, AVal.bool (bits BinOp.and IntKind.u64 (bits BinOp.or IntKind.u64 (wd (xt (xt s 1) 8)) (wd (xt (xt (xt s 1) 8) 8))) 9259542123273814144 == 0)), (39, AVal.tt false)]) ([]) ([]) (((bits BinOp.and IntKind.u64 (bits BinOp.or IntKind.u64 (wd (xt (xt s 1) 8)) (wd (xt (xt (xt s 1) 8) 8))) 9259542123273814144 == 0) = false) :: (tr 10 ++ ((Owed.use (owed Tryd.prog 0) 70 [] [AVal.str (xt (xt (xt s 1) 8) 8)] [] [AVal.str (xt (xt (xt s 1) 8) 8)] [] (AVal.int IntKind.u64 (wd (xt (xt (xt s 1) 8) 8))) []) :: (tr 2 ++ ((decide ((↑0 : Int) ≤ 8 ∧ 8 ≤ (zI (xt (xt s 1) 8)) ∧ (zI (xt (xt s 1) 8)) ≤ (zI (xt (xt s 1) 8))) = true) :: (tr 4 ++ ((Owed.use (owed Tryd.prog 0) 70 [] [AVal.str (xt (xt s 1) 8)] [] [AVal.str (xt (xt s 1) 8)] [] (AVal.int IntKind.u64 (wd (xt (xt s 1) 8))) []) :: (tr 2 ++ ((decide ((zI (xt (xt s 1) 8)) > 16) = true) :: (tr 9 ++ ((decide ((↑0 : Int) ≤ 8 ∧ 8 ≤ (zI (xt s 1)) ∧ (zI (xt s 1)) ≤ (zI (xt s 1))) = true) :: (((bits BinOp.and IntKind.u64 (wd (xt s 1)) 9259542123273814144 == 0) = true) :: ((Owed.use (owed Tryd.prog 0) 70 [] [AVal.str (xt s 1)] [] [AVal.str (xt s 1)] [] (AVal.int IntKind.u64 (wd (xt s 1))) []) :: ((decide ((zI (xt s 1)) > 8) = true) :: ((decide ((↑0 : Int) ≤ 1 ∧ 1 ≤ (zI s) ∧ (zI s) ≤ (zI s)) = true) :: ((decide (byteAt s 0 < 128) = true) :: ((decide ((↑0 : Int) ≤ 0 ∧ 0 < (zI s)) = true) :: ((decide ((zI s) > 0) = true) :: []))))))))))))))))))) followed (by kernel_rfl) (allP_of ⟨h1, (trC 10 ⟨⟨(@Go.MN.word_ok (xt (xt (xt s 1) 8) 8) h2), rfl, rfl, rfl⟩, (trC 2 ⟨h3, (trC 4 ⟨⟨(@Go.MN.word_ok (xt (xt s 1) 8) h4), rfl, rfl, rfl⟩, (trC 2 ⟨h5, (trC 9 ⟨h6, ⟨h7, ⟨⟨(@Go.MN.word_ok (xt s 1) h8), rfl, rfl, rfl⟩, ⟨h9, ⟨h10, ⟨h11, ⟨h12, ⟨h13, trivial⟩⟩⟩⟩⟩⟩⟩⟩)⟩)⟩)⟩)⟩)⟩) (keepM 169 [0]) ([]) (by kernel_rfl) (by kernel_rfl) (by kernel_rfl)

theorem vout_3 (s : ByteArray) (t : ByteArray)
    (h1 : decide ((zI (xt (xt s 1) 8)) > 16) = false)
    (h2 : decide ((↑0 : Int) ≤ 8 ∧ 8 ≤ (zI (xt s 1)) ∧ (zI (xt s 1)) ≤ (zI (xt s 1))) = true)
    (h3 : (bits BinOp.and IntKind.u64 (wd (xt s 1)) 9259542123273814144 == 0) = true)
    (h4 : 8 ≤ ByteArray.size (xt s 1))
    (h5 : decide ((zI (xt s 1)) > 8) = true)
    (h6 : decide ((↑0 : Int) ≤ 1 ∧ 1 ≤ (zI s) ∧ (zI s) ≤ (zI s)) = true)
    (h7 : decide (byteAt s 0 < 128) = true)
    (h8 : decide ((↑0 : Int) ≤ 0 ∧ 0 < (zI s)) = true)
    (h9 : decide ((zI s) > 0) = true) :
    TripN Tryd.prog 0 (loopNo Tryd.f50 0) (rgV s) ([]) (AExit.normal) (mkR 169 [(0, AVal.str (xt (xt s 1) 8))]) ([]) :=
  evalT (st := St.mk (rgV s) ([]) ([Dec.br true, Dec.br true, Dec.br true, Dec.use [] [AVal.str (xt s 1)] [] (AVal.int IntKind.u64 (wd (xt s 1))) [], Dec.br true, Dec.br false]) []) (st' := St.mk (mkR 169 [(0, AVal.str (xt (xt s 1) 8)), (3, AVal.int IntKind.u8 (byteAt s 0)), (7, AVal.str s), (8, iqND (zI s)), (9, AVal.tt true), (10, AVal.str s), (11, AVal.int IntKind.u8 (byteAt s 0)), (12, AVal.int IntKind.u8 (byteAt s 0)), (13, AVal.tt true), (14, AVal.str s), (15, AVal.str (xt s 1)), (16, AVal.str (xt s 1)), (17, iqND (zI (xt s 1))), (18, AVal.bool (decide ((zI (xt s 1)) > 8))), (19, AVal.tt true), (20, AVal.str (xt s 1)), (21, AVal.int IntKind.u64 (wd (xt s 1))), (22, AVal.int IntKind.u64 (bits BinOp.and IntKind.u64 (wd (xt s 1)) 9259542123273814144)), (23, AVal.bool (bits BinOp.and IntKind.u64 (wd (xt s 1)) 9259542123273814144 == 0)), (24, AVal.tt true), (25, AVal.str (xt s 1)), (26, AVal.str (xt (xt s 1) 8)), (27, AVal.str (xt (xt s 1) 8)), (28, iqND (zI (xt (xt s 1) 8))), (29, AVal.bool (decide ((zI (xt (xt s 1) 8)) > 16))), (30, AVal.tt false), (31, AVal.tuple []), (32, AVal.tuple []), (33, AVal.tuple []), (34, AVal.tuple []), (35, AVal.tuple []), (36, AVal.tuple []), (37, AVal.tuple []), (38, AVal.tuple []), (39, AVal.tt false)]) ([]) ([]) (tr 18 ++ ((decide ((zI (xt (xt s 1) 8)) > 16) = false) :: (tr 9 ++ ((decide ((↑0 : Int) ≤ 8 ∧ 8 ≤ (zI (xt s 1)) ∧ (zI (xt s 1)) ≤ (zI (xt s 1))) = true) :: (((bits BinOp.and IntKind.u64 (wd (xt s 1)) 9259542123273814144 == 0) = true) :: ((Owed.use (owed Tryd.prog 0) 70 [] [AVal.str (xt s 1)] [] [AVal.str (xt s 1)] [] (AVal.int IntKind.u64 (wd (xt s 1))) []) :: ((decide ((zI (xt s 1)) > 8) = true) :: ((decide ((↑0 : Int) ≤ 1 ∧ 1 ≤ (zI s) ∧ (zI s) ≤ (zI s)) = true) :: ((decide (byteAt s 0 < 128) = true) :: ((decide ((↑0 : Int) ≤ 0 ∧ 0 < (zI s)) = true) :: ((decide ((zI s) > 0) = true) :: [])))))))))))) followed (by kernel_rfl) (allP_of (trC 18 ⟨h1, (trC 9 ⟨h2, ⟨h3, ⟨⟨(@Go.MN.word_ok (xt s 1) h4), rfl, rfl, rfl⟩, ⟨h5, ⟨h6, ⟨h7, ⟨h8, ⟨h9, trivial⟩⟩⟩⟩⟩⟩⟩⟩)⟩)) (keepM 169 [0]) ([]) (by kernel_rfl) (by kernel_rfl) (by kernel_rfl)

theorem vout_4 (s : ByteArray) (t : ByteArray)
    (h1 : (bits BinOp.and IntKind.u64 (wd (xt s 1)) 9259542123273814144 == 0) = false)
    (h2 : 8 ≤ ByteArray.size (xt s 1))
    (h3 : decide ((zI (xt s 1)) > 8) = true)
    (h4 : decide ((↑0 : Int) ≤ 1 ∧ 1 ≤ (zI s) ∧ (zI s) ≤ (zI s)) = true)
    (h5 : decide (byteAt s 0 < 128) = true)
    (h6 : decide ((↑0 : Int) ≤ 0 ∧ 0 < (zI s)) = true)
    (h7 : decide ((zI s) > 0) = true) :
    TripN Tryd.prog 0 (loopNo Tryd.f50 0) (rgV s) ([]) (AExit.normal) (mkR 169 [(0, AVal.str (xt s 1))]) ([]) :=
  evalT (st := St.mk (rgV s) ([]) ([Dec.br true, Dec.br true, Dec.br true, Dec.use [] [AVal.str (xt s 1)] [] (AVal.int IntKind.u64 (wd (xt s 1))) [], Dec.br false]) []) (st' := St.mk (mkR 169 [(0, AVal.str (xt s 1)), (3, AVal.int IntKind.u8 (byteAt s 0)), (7, AVal.str s), (8, iqND (zI s)), (9, AVal.tt true), (10, AVal.str s), (11, AVal.int IntKind.u8 (byteAt s 0)), (12, AVal.int IntKind.u8 (byteAt s 0)), (13, AVal.tt true), (14, AVal.str s), (15, AVal.str (xt s 1)), (16, AVal.str (xt s 1)), (17, iqND (zI (xt s 1))), (18, AVal.bool (decide ((zI (xt s 1)) > 8))), (19, AVal.tt true), (20, AVal.str (xt s 1)), (21, AVal.int IntKind.u64 (wd (xt s 1))), (22, AVal.int IntKind.u64 (bits BinOp.and IntKind.u64 (wd (xt s 1)) 9259542123273814144)), (23, AVal.bool (bits BinOp.and IntKind.u64 (wd (xt s 1)) 9259542123273814144 == 0)), (24, AVal.tt false)]) ([]) ([]) (((bits BinOp.and IntKind.u64 (wd (xt s 1)) 9259542123273814144 == 0) = false) :: ((Owed.use (owed Tryd.prog 0) 70 [] [AVal.str (xt s 1)] [] [AVal.str (xt s 1)] [] (AVal.int IntKind.u64 (wd (xt s 1))) []) :: ((decide ((zI (xt s 1)) > 8) = true) :: ((decide ((↑0 : Int) ≤ 1 ∧ 1 ≤ (zI s) ∧ (zI s) ≤ (zI s)) = true) :: ((decide (byteAt s 0 < 128) = true) :: ((decide ((↑0 : Int) ≤ 0 ∧ 0 < (zI s)) = true) :: ((decide ((zI s) > 0) = true) :: [])))))))) followed (by kernel_rfl) (allP_of ⟨h1, ⟨⟨(@Go.MN.word_ok (xt s 1) h2), rfl, rfl, rfl⟩, ⟨h3, ⟨h4, ⟨h5, ⟨h6, ⟨h7, trivial⟩⟩⟩⟩⟩⟩⟩) (keepM 169 [0]) ([]) (by kernel_rfl) (by kernel_rfl) (by kernel_rfl)

theorem vout_5 (s : ByteArray) (t : ByteArray)
    (h1 : decide ((zI (xt s 1)) > 8) = false)
    (h2 : decide ((↑0 : Int) ≤ 1 ∧ 1 ≤ (zI s) ∧ (zI s) ≤ (zI s)) = true)
    (h3 : decide (byteAt s 0 < 128) = true)
    (h4 : decide ((↑0 : Int) ≤ 0 ∧ 0 < (zI s)) = true)
    (h5 : decide ((zI s) > 0) = true) :
    TripN Tryd.prog 0 (loopNo Tryd.f50 0) (rgV s) ([]) (AExit.normal) (mkR 169 [(0, AVal.str (xt s 1))]) ([]) :=
  evalT (st := St.mk (rgV s) ([]) ([Dec.br true, Dec.br true, Dec.br false]) []) (st' := St.mk (mkR 169 [(0, AVal.str (xt s 1)), (3, AVal.int IntKind.u8 (byteAt s 0)), (7, AVal.str s), (8, iqND (zI s)), (9, AVal.tt true), (10, AVal.str s), (11, AVal.int IntKind.u8 (byteAt s 0)), (12, AVal.int IntKind.u8 (byteAt s 0)), (13, AVal.tt true), (14, AVal.str s), (15, AVal.str (xt s 1)), (16, AVal.str (xt s 1)), (17, iqND (zI (xt s 1))), (18, AVal.bool (decide ((zI (xt s 1)) > 8))), (19, AVal.tt false), (20, AVal.tuple []), (21, AVal.tuple []), (22, AVal.tuple []), (23, AVal.tuple []), (24, AVal.tt false)]) ([]) ([]) ((decide ((zI (xt s 1)) > 8) = false) :: ((decide ((↑0 : Int) ≤ 1 ∧ 1 ≤ (zI s) ∧ (zI s) ≤ (zI s)) = true) :: ((decide (byteAt s 0 < 128) = true) :: ((decide ((↑0 : Int) ≤ 0 ∧ 0 < (zI s)) = true) :: ((decide ((zI s) > 0) = true) :: [])))))) followed (by kernel_rfl) (allP_of ⟨h1, ⟨h2, ⟨h3, ⟨h4, ⟨h5, trivial⟩⟩⟩⟩⟩) (keepM 169 [0]) ([]) (by kernel_rfl) (by kernel_rfl) (by kernel_rfl)

theorem vout_6 (s : ByteArray) (t : ByteArray)
    (h1 : decide ((zI s) < 2) = true)
    (h2 : (IntKind.wrap IntKind.i64 (b7 s) == 2) = true)
    (h3 : decide (Int.toNat (Int.fdiv (fb s) 16) * 2 + 2 ≤ 32) = true)
    (h4 : areKinds [Kind.int IntKind.u8, Kind.int IntKind.u8] [List.getD Tabs.acc (Int.toNat (Int.fdiv (fb s) 16) * 2) AVal.any, List.getD Tabs.acc (Int.toNat (Int.fdiv (fb s) 16) * 2 + 1) AVal.any] = true)
    (h5 : decide (0 ≤ Int.fdiv (fb s) 16 ∧ Int.fdiv (fb s) 16 < (↑16 : Int)) = true)
    (h6 : decide (Int.toNat (byteAt s 0) * 1 + 1 ≤ 256) = true)
    (h7 : areKinds [Kind.int IntKind.u8] [List.getD Tabs.first (Int.toNat (byteAt s 0) * 1) AVal.any] = true)
    (h8 : decide (0 ≤ byteAt s 0 ∧ byteAt s 0 < (↑256 : Int)) = true)
    (h9 : decide (byteAt s 0 < 128) = false)
    (h10 : decide ((↑0 : Int) ≤ 0 ∧ 0 < (zI s)) = true)
    (h11 : decide ((zI s) > 0) = true) :
    TripN Tryd.prog 0 (loopNo Tryd.f50 0) (rgV s) ([]) (AExit.ret) (mkR 169 [(2, AVal.tt false)]) ([]) :=
  evalT (st := St.mk (rgV s) ([]) ([Dec.br true, Dec.br false, Dec.br true, Dec.br true]) []) (st' := St.mk (mkR 169 [(0, AVal.str s), (2, AVal.tt false), (3, AVal.int IntKind.u8 (byteAt s 0)), (4, AVal.int IntKind.u8 (fb s)), (5, iqND (IntKind.wrap IntKind.i64 (b7 s))), (6, AVal.ptr 0 2 0 0), (7, AVal.str s), (8, iqND (zI s)), (9, AVal.tt true), (10, AVal.str s), (11, AVal.int IntKind.u8 (byteAt s 0)), (12, AVal.int IntKind.u8 (byteAt s 0)), (13, AVal.tt false), (65, AVal.int IntKind.u8 (byteAt s 0)), (66, AVal.fptr 256 [Tabs.first] 0 (Int.toNat (byteAt s 0) * 1)), (67, AVal.int IntKind.u8 (fb s)), (68, AVal.int IntKind.u8 (fb s)), (69, AVal.int IntKind.u8 (b7 s)), (70, iqND (IntKind.wrap IntKind.i64 (b7 s))), (71, AVal.int IntKind.u8 (fb s)), (72, AVal.int IntKind.u8 (Int.fdiv (fb s) 16)), (73, AVal.fptr 32 [Tabs.acc] 0 (Int.toNat (Int.fdiv (fb s) 16) * 2)), (74, AVal.agg [AVal.int IntKind.u8 (AVal.toInt (ac s)), AVal.int IntKind.u8 (AVal.toInt (ad s))]), (75, iqND (IntKind.wrap IntKind.i64 (b7 s))), (76, AVal.tt true), (77, AVal.bool (IntKind.wrap IntKind.i64 (b7 s) == 2)), (78, AVal.str s), (79, iqND (zI s)), (80, AVal.bool (decide ((zI s) < 2))), (81, AVal.tt true), (82, AVal.tuple []), (83, AVal.tuple []), (84, AVal.tuple []), (85, AVal.tuple []), (86, AVal.tuple []), (87, AVal.tt true), (88, AVal.tt true), (89, AVal.tuple []), (90, AVal.tuple []), (91, AVal.tuple []), (92, AVal.tuple []), (93, AVal.tuple []), (94, AVal.tt true)]) ([AObj.rows true 2 [[AVal.int IntKind.u8 (AVal.toInt (ac s)), AVal.int IntKind.u8 (AVal.toInt (ad s))]]]) ([]) (tr 26 ++ ((decide ((zI s) < 2) = true) :: (tr 9 ++ (((IntKind.wrap IntKind.i64 (b7 s) == 2) = true) :: (tr 3 ++ ((decide (Int.toNat (Int.fdiv (fb s) 16) * 2 + 2 ≤ 32) = true) :: ((areKinds [Kind.int IntKind.u8, Kind.int IntKind.u8] [List.getD Tabs.acc (Int.toNat (Int.fdiv (fb s) 16) * 2) AVal.any, List.getD Tabs.acc (Int.toNat (Int.fdiv (fb s) 16) * 2 + 1) AVal.any] = true) :: ((decide (0 ≤ Int.fdiv (fb s) 16 ∧ Int.fdiv (fb s) 16 < (↑16 : Int)) = true) :: (tr 2 ++ ((decide (Int.toNat (byteAt s 0) * 1 + 1 ≤ 256) = true) :: ((areKinds [Kind.int IntKind.u8] [List.getD Tabs.first (Int.toNat (byteAt s 0) * 1) AVal.any] = true) :: ((decide (0 ≤ byteAt s 0 ∧ byteAt s 0 < (↑256 : Int)) = true) :: ((decide (byteAt s 0 < 128) = false) :: ((decide ((↑0 : Int) ≤ 0 ∧ 0 < (zI s)) = true) :: ((decide ((zI s) > 0) = true) :: [])))))))))))))))) followed (by kernel_rfl) (allP_of (trC 26 ⟨h1, (trC 9 ⟨h2, (trC 3 ⟨h3, ⟨h4, ⟨h5, (trC 2 ⟨h6, ⟨h7, ⟨h8, ⟨h9, ⟨h10, ⟨h11, trivial⟩⟩⟩⟩⟩⟩)⟩⟩⟩)⟩)⟩)) (keepM 169 [2]) ([]) (by kernel_rfl) (by kernel_rfl) (by kernel_rfl)

theorem vout_7 (s : ByteArray) (t : ByteArray)
    (h1 : decide (byteAt s 1 < AVal.toInt (ac s)) = true)
    (h2 : decide ((↑0 : Int) ≤ 1 ∧ 1 < (zI s)) = true)
    (h3 : decide ((zI s) < 2) = false)
    (h4 : (IntKind.wrap IntKind.i64 (b7 s) == 2) = true)
    (h5 : decide (Int.toNat (Int.fdiv (fb s) 16) * 2 + 2 ≤ 32) = true)
    (h6 : areKinds [Kind.int IntKind.u8, Kind.int IntKind.u8] [List.getD Tabs.acc (Int.toNat (Int.fdiv (fb s) 16) * 2) AVal.any, List.getD Tabs.acc (Int.toNat (Int.fdiv (fb s) 16) * 2 + 1) AVal.any] = true)
    (h7 : decide (0 ≤ Int.fdiv (fb s) 16 ∧ Int.fdiv (fb s) 16 < (↑16 : Int)) = true)
    (h8 : decide (Int.toNat (byteAt s 0) * 1 + 1 ≤ 256) = true)
    (h9 : areKinds [Kind.int IntKind.u8] [List.getD Tabs.first (Int.toNat (byteAt s 0) * 1) AVal.any] = true)
    (h10 : decide (0 ≤ byteAt s 0 ∧ byteAt s 0 < (↑256 : Int)) = true)
    (h11 : decide (byteAt s 0 < 128) = false)
    (h12 : decide ((↑0 : Int) ≤ 0 ∧ 0 < (zI s)) = true)
    (h13 : decide ((zI s) > 0) = true) :
    TripN Tryd.prog 0 (loopNo Tryd.f50 0) (rgV s) ([]) (AExit.ret) (mkR 169 [(2, AVal.tt false)]) ([]) :=
  evalT (st := St.mk (rgV s) ([]) ([Dec.br true, Dec.br false, Dec.br true, Dec.br false, Dec.br true]) []) (st' := St.mk (mkR 169 [(0, AVal.str s), (2, AVal.tt false), (3, AVal.int IntKind.u8 (byteAt s 0)), (4, AVal.int IntKind.u8 (fb s)), (5, iqND (IntKind.wrap IntKind.i64 (b7 s))), (6, AVal.ptr 0 2 0 0), (7, AVal.str s), (8, iqND (zI s)), (9, AVal.tt true), (10, AVal.str s), (11, AVal.int IntKind.u8 (byteAt s 0)), (12, AVal.int IntKind.u8 (byteAt s 0)), (13, AVal.tt false), (65, AVal.int IntKind.u8 (byteAt s 0)), (66, AVal.fptr 256 [Tabs.first] 0 (Int.toNat (byteAt s 0) * 1)), (67, AVal.int IntKind.u8 (fb s)), (68, AVal.int IntKind.u8 (fb s)), (69, AVal.int IntKind.u8 (b7 s)), (70, iqND (IntKind.wrap IntKind.i64 (b7 s))), (71, AVal.int IntKind.u8 (fb s)), (72, AVal.int IntKind.u8 (Int.fdiv (fb s) 16)), (73, AVal.fptr 32 [Tabs.acc] 0 (Int.toNat (Int.fdiv (fb s) 16) * 2)), (74, AVal.agg [AVal.int IntKind.u8 (AVal.toInt (ac s)), AVal.int IntKind.u8 (AVal.toInt (ad s))]), (75, iqND (IntKind.wrap IntKind.i64 (b7 s))), (76, AVal.tt true), (77, AVal.bool (IntKind.wrap IntKind.i64 (b7 s) == 2)), (78, AVal.str s), (79, iqND (zI s)), (80, AVal.bool (decide ((zI s) < 2))), (81, AVal.tt false), (82, AVal.str s), (83, AVal.int IntKind.u8 (byteAt s 1)), (84, AVal.ptr 0 2 0 0), (85, AVal.int IntKind.u8 (AVal.toInt (ac s))), (86, AVal.bool (decide (byteAt s 1 < AVal.toInt (ac s)))), (87, AVal.bool (decide (byteAt s 1 < AVal.toInt (ac s)))), (88, AVal.tt true), (89, AVal.tuple []), (90, AVal.tuple []), (91, AVal.tuple []), (92, AVal.tuple []), (93, AVal.tuple []), (94, AVal.tt true)]) ([AObj.rows true 2 [[AVal.int IntKind.u8 (AVal.toInt (ac s)), AVal.int IntKind.u8 (AVal.toInt (ad s))]]]) ([]) (tr 12 ++ ((decide (byteAt s 1 < AVal.toInt (ac s)) = true) :: (tr 17 ++ ((decide ((↑0 : Int) ≤ 1 ∧ 1 < (zI s)) = true) :: (tr 2 ++ ((decide ((zI s) < 2) = false) :: (tr 9 ++ (((IntKind.wrap IntKind.i64 (b7 s) == 2) = true) :: (tr 3 ++ ((decide (Int.toNat (Int.fdiv (fb s) 16) * 2 + 2 ≤ 32) = true) :: ((areKinds [Kind.int IntKind.u8, Kind.int IntKind.u8] [List.getD Tabs.acc (Int.toNat (Int.fdiv (fb s) 16) * 2) AVal.any, List.getD Tabs.acc (Int.toNat (Int.fdiv (fb s) 16) * 2 + 1) AVal.any] = true) :: ((decide (0 ≤ Int.fdiv (fb s) 16 ∧ Int.fdiv (fb s) 16 < (↑16 : Int)) = true) :: (tr 2 ++ ((decide (Int.toNat (byteAt s 0) * 1 + 1 ≤ 256) = true) :: ((areKinds [Kind.int IntKind.u8] [List.getD Tabs.first (Int.toNat (byteAt s 0) * 1) AVal.any] = true) :: ((decide (0 ≤ byteAt s 0 ∧ byteAt s 0 < (↑256 : Int)) = true) :: ((decide (byteAt s 0 < 128) = false) :: ((decide ((↑0 : Int) ≤ 0 ∧ 0 < (zI s)) = true) :: ((decide ((zI s) > 0) = true) :: [])))))))))))))))))))) followed (by kernel_rfl) (allP_of (trC 12 ⟨h1, (trC 17 ⟨h2, (trC 2 ⟨h3, (trC 9 ⟨h4, (trC 3 ⟨h5, ⟨h6, ⟨h7, (trC 2 ⟨h8, ⟨h9, ⟨h10, ⟨h11, ⟨h12, ⟨h13, trivial⟩⟩⟩⟩⟩⟩)⟩⟩⟩)⟩)⟩)⟩)⟩)) (keepM 169 [2]) ([]) (by kernel_rfl) (by kernel_rfl) (by kernel_rfl)

theorem vout_8 (s : ByteArray) (t : ByteArray)
    (h1 : decide (AVal.toInt (ad s) < byteAt s 1) = true)
    (h2 : decide ((↑0 : Int) ≤ 1 ∧ 1 < (zI s)) = true)
    (h3 : decide (byteAt s 1 < AVal.toInt (ac s)) = false)
    (h4 : decide ((zI s) < 2) = false)
    (h5 : (IntKind.wrap IntKind.i64 (b7 s) == 2) = true)
    (h6 : decide (Int.toNat (Int.fdiv (fb s) 16) * 2 + 2 ≤ 32) = true)
    (h7 : areKinds [Kind.int IntKind.u8, Kind.int IntKind.u8] [List.getD Tabs.acc (Int.toNat (Int.fdiv (fb s) 16) * 2) AVal.any, List.getD Tabs.acc (Int.toNat (Int.fdiv (fb s) 16) * 2 + 1) AVal.any] = true)
    (h8 : decide (0 ≤ Int.fdiv (fb s) 16 ∧ Int.fdiv (fb s) 16 < (↑16 : Int)) = true)
    (h9 : decide (Int.toNat (byteAt s 0) * 1 + 1 ≤ 256) = true)
    (h10 : areKinds [Kind.int IntKind.u8] [List.getD Tabs.first (Int.toNat (byteAt s 0) * 1) AVal.any] = true)
    (h11 : decide (0 ≤ byteAt s 0 ∧ byteAt s 0 < (↑256 : Int)) = true)
    (h12 : decide (byteAt s 0 < 128) = false)
    (h13 : decide ((↑0 : Int) ≤ 0 ∧ 0 < (zI s)) = true)
    (h14 : decide ((zI s) > 0) = true) :
    TripN Tryd.prog 0 (loopNo Tryd.f50 0) (rgV s) ([]) (AExit.ret) (mkR 169 [(2, AVal.tt false)]) ([]) :=
  evalT (st := St.mk (rgV s) ([]) ([Dec.br true, Dec.br false, Dec.br true, Dec.br false, Dec.br false, Dec.br true]) []) (st' := St.mk (mkR 169 [(0, AVal.str s), (2, AVal.tt false), (3, AVal.int IntKind.u8 (byteAt s 0)), (4, AVal.int IntKind.u8 (fb s)), (5, iqND (IntKind.wrap IntKind.i64 (b7 s))), (6, AVal.ptr 0 2 0 0), (7, AVal.str s), (8, iqND (zI s)), (9, AVal.tt true), (10, AVal.str s), (11, AVal.int IntKind.u8 (byteAt s 0)), (12, AVal.int IntKind.u8 (byteAt s 0)), (13, AVal.tt false), (65, AVal.int IntKind.u8 (byteAt s 0)), (66, AVal.fptr 256 [Tabs.first] 0 (Int.toNat (byteAt s 0) * 1)), (67, AVal.int IntKind.u8 (fb s)), (68, AVal.int IntKind.u8 (fb s)), (69, AVal.int IntKind.u8 (b7 s)), (70, iqND (IntKind.wrap IntKind.i64 (b7 s))), (71, AVal.int IntKind.u8 (fb s)), (72, AVal.int IntKind.u8 (Int.fdiv (fb s) 16)), (73, AVal.fptr 32 [Tabs.acc] 0 (Int.toNat (Int.fdiv (fb s) 16) * 2)), (74, AVal.agg [AVal.int IntKind.u8 (AVal.toInt (ac s)), AVal.int IntKind.u8 (AVal.toInt (ad s))]), (75, iqND (IntKind.wrap IntKind.i64 (b7 s))), (76, AVal.tt true), (77, AVal.bool (IntKind.wrap IntKind.i64 (b7 s) == 2)), (78, AVal.str s), (79, iqND (zI s)), (80, AVal.bool (decide ((zI s) < 2))), (81, AVal.tt false), (82, AVal.str s), (83, AVal.int IntKind.u8 (byteAt s 1)), (84, AVal.ptr 0 2 0 0), (85, AVal.int IntKind.u8 (AVal.toInt (ac s))), (86, AVal.bool (decide (byteAt s 1 < AVal.toInt (ac s)))), (87, AVal.bool (decide (byteAt s 1 < AVal.toInt (ac s)))), (88, AVal.tt false), (89, AVal.ptr 0 2 0 1), (90, AVal.int IntKind.u8 (AVal.toInt (ad s))), (91, AVal.str s), (92, AVal.int IntKind.u8 (byteAt s 1)), (93, AVal.bool (decide (AVal.toInt (ad s) < byteAt s 1))), (94, AVal.tt true)]) ([AObj.rows true 2 [[AVal.int IntKind.u8 (AVal.toInt (ac s)), AVal.int IntKind.u8 (AVal.toInt (ad s))]]]) ([]) ((decide (AVal.toInt (ad s) < byteAt s 1) = true) :: (tr 6 ++ ((decide ((↑0 : Int) ≤ 1 ∧ 1 < (zI s)) = true) :: (tr 9 ++ ((decide (byteAt s 1 < AVal.toInt (ac s)) = false) :: (tr 17 ++ ((decide ((↑0 : Int) ≤ 1 ∧ 1 < (zI s)) = true) :: (tr 2 ++ ((decide ((zI s) < 2) = false) :: (tr 9 ++ (((IntKind.wrap IntKind.i64 (b7 s) == 2) = true) :: (tr 3 ++ ((decide (Int.toNat (Int.fdiv (fb s) 16) * 2 + 2 ≤ 32) = true) :: ((areKinds [Kind.int IntKind.u8, Kind.int IntKind.u8] [List.getD Tabs.acc (Int.toNat (Int.fdiv (fb s) 16) * 2) AVal.any, List.getD Tabs.acc (Int.toNat (Int.fdiv (fb s) 16) * 2 + 1) AVal.any] = true) :: ((decide (0 ≤ Int.fdiv (fb s) 16 ∧ Int.fdiv (fb s) 16 < (↑16 : Int)) = true) :: (tr 2 ++ ((decide (Int.toNat (byteAt s 0) * 1 + 1 ≤ 256) = true) :: ((areKinds [Kind.int IntKind.u8] [List.getD Tabs.first (Int.toNat (byteAt s 0) * 1) AVal.any] = true) :: ((decide (0 ≤ byteAt s 0 ∧ byteAt s 0 < (↑256 : Int)) = true) :: ((decide (byteAt s 0 < 128) = false) :: ((decide ((↑0 : Int) ≤ 0 ∧ 0 < (zI s)) = true) :: ((decide ((zI s) > 0) = true) :: []))))))))))))))))))))))) followed (by kernel_rfl) (allP_of ⟨h1, (trC 6 ⟨h2, (trC 9 ⟨h3, (trC 17 ⟨h2, (trC 2 ⟨h4, (trC 9 ⟨h5, (trC 3 ⟨h6, ⟨h7, ⟨h8, (trC 2 ⟨h9, ⟨h10, ⟨h11, ⟨h12, ⟨h13, ⟨h14, trivial⟩⟩⟩⟩⟩⟩)⟩⟩⟩)⟩)⟩)⟩)⟩)⟩)⟩) (keepM 169 [2]) ([]) (by kernel_rfl) (by kernel_rfl) (by kernel_rfl)

theorem vout_9 (s : ByteArray) (t : ByteArray)
    (h1 : decide ((↑0 : Int) ≤ 2 ∧ 2 ≤ (zI s) ∧ (zI s) ≤ (zI s)) = true)
    (h2 : decide (AVal.toInt (ad s) < byteAt s 1) = false)
    (h3 : decide ((↑0 : Int) ≤ 1 ∧ 1 < (zI s)) = true)
    (h4 : decide (byteAt s 1 < AVal.toInt (ac s)) = false)
    (h5 : decide ((zI s) < 2) = false)
    (h6 : (IntKind.wrap IntKind.i64 (b7 s) == 2) = true)
    (h7 : decide (Int.toNat (Int.fdiv (fb s) 16) * 2 + 2 ≤ 32) = true)
    (h8 : areKinds [Kind.int IntKind.u8, Kind.int IntKind.u8] [List.getD Tabs.acc (Int.toNat (Int.fdiv (fb s) 16) * 2) AVal.any, List.getD Tabs.acc (Int.toNat (Int.fdiv (fb s) 16) * 2 + 1) AVal.any] = true)
    (h9 : decide (0 ≤ Int.fdiv (fb s) 16 ∧ Int.fdiv (fb s) 16 < (↑16 : Int)) = true)
    (h10 : decide (Int.toNat (byteAt s 0) * 1 + 1 ≤ 256) = true)
    (h11 : areKinds [Kind.int IntKind.u8] [List.getD Tabs.first (Int.toNat (byteAt s 0) * 1) AVal.any] = true)
    (h12 : decide (0 ≤ byteAt s 0 ∧ byteAt s 0 < (↑256 : Int)) = true)
    (h13 : decide (byteAt s 0 < 128) = false)
    (h14 : decide ((↑0 : Int) ≤ 0 ∧ 0 < (zI s)) = true)
    (h15 : decide ((zI s) > 0) = true) :
    TripN Tryd.prog 0 (loopNo Tryd.f50 0) (rgV s) ([]) (AExit.normal) (mkR 169 [(0, AVal.str (xt s 2))]) ([]) :=
  evalT (st := St.mk (rgV s) ([]) ([Dec.br true, Dec.br false, Dec.br true, Dec.br false, Dec.br false, Dec.br false]) []) (st' := St.mk (mkR 169 [(0, AVal.str (xt s 2)), (3, AVal.int IntKind.u8 (byteAt s 0)), (4, AVal.int IntKind.u8 (fb s)), (5, iqND (IntKind.wrap IntKind.i64 (b7 s))), (6, AVal.ptr 0 2 0 0), (7, AVal.str s), (8, iqND (zI s)), (9, AVal.tt true), (10, AVal.str s), (11, AVal.int IntKind.u8 (byteAt s 0)), (12, AVal.int IntKind.u8 (byteAt s 0)), (13, AVal.tt false), (65, AVal.int IntKind.u8 (byteAt s 0)), (66, AVal.fptr 256 [Tabs.first] 0 (Int.toNat (byteAt s 0) * 1)), (67, AVal.int IntKind.u8 (fb s)), (68, AVal.int IntKind.u8 (fb s)), (69, AVal.int IntKind.u8 (b7 s)), (70, iqND (IntKind.wrap IntKind.i64 (b7 s))), (71, AVal.int IntKind.u8 (fb s)), (72, AVal.int IntKind.u8 (Int.fdiv (fb s) 16)), (73, AVal.fptr 32 [Tabs.acc] 0 (Int.toNat (Int.fdiv (fb s) 16) * 2)), (74, AVal.agg [AVal.int IntKind.u8 (AVal.toInt (ac s)), AVal.int IntKind.u8 (AVal.toInt (ad s))]), (75, iqND (IntKind.wrap IntKind.i64 (b7 s))), (76, AVal.tt true), (77, AVal.bool (IntKind.wrap IntKind.i64 (b7 s) == 2)), (78, AVal.str s), (79, iqND (zI s)), (80, AVal.bool (decide ((zI s) < 2))), (81, AVal.tt false), (82, AVal.str s), (83, AVal.int IntKind.u8 (byteAt s 1)), (84, AVal.ptr 0 2 0 0), (85, AVal.int IntKind.u8 (AVal.toInt (ac s))), (86, AVal.bool (decide (byteAt s 1 < AVal.toInt (ac s)))), (87, AVal.bool (decide (byteAt s 1 < AVal.toInt (ac s)))), (88, AVal.tt false), (89, AVal.ptr 0 2 0 1), (90, AVal.int IntKind.u8 (AVal.toInt (ad s))), (91, AVal.str s), (92, AVal.int IntKind.u8 (byteAt s 1)), (93, AVal.bool (decide (AVal.toInt (ad s) < byteAt s 1))), (94, AVal.tt false), (95, AVal.str s), (96, AVal.str (xt s 2))]) ([AObj.rows true 2 [[AVal.int IntKind.u8 (AVal.toInt (ac s)), AVal.int IntKind.u8 (AVal.toInt (ad s))]]]) ([]) ((decide ((↑0 : Int) ≤ 2 ∧ 2 ≤ (zI s) ∧ (zI s) ≤ (zI s)) = true) :: ((decide (AVal.toInt (ad s) < byteAt s 1) = false) :: (tr 6 ++ ((decide ((↑0 : Int) ≤ 1 ∧ 1 < (zI s)) = true) :: (tr 9 ++ ((decide (byteAt s 1 < AVal.toInt (ac s)) = false) :: (tr 17 ++ ((decide ((↑0 : Int) ≤ 1 ∧ 1 < (zI s)) = true) :: (tr 2 ++ ((decide ((zI s) < 2) = false) :: (tr 9 ++ (((IntKind.wrap IntKind.i64 (b7 s) == 2) = true) :: (tr 3 ++ ((decide (Int.toNat (Int.fdiv (fb s) 16) * 2 + 2 ≤ 32) = true) :: ((areKinds [Kind.int IntKind.u8, Kind.int IntKind.u8] [List.getD Tabs.acc (Int.toNat (Int.fdiv (fb s) 16) * 2) AVal.any, List.getD Tabs.acc (Int.toNat (Int.fdiv (fb s) 16) * 2 + 1) AVal.any] = true) :: ((decide (0 ≤ Int.fdiv (fb s) 16 ∧ Int.fdiv (fb s) 16 < (↑16 : Int)) = true) :: (tr 2 ++ ((decide (Int.toNat (byteAt s 0) * 1 + 1 ≤ 256) = true) :: ((areKinds [Kind.int IntKind.u8] [List.getD Tabs.first (Int.toNat (byteAt s 0) * 1) AVal.any] = true) :: ((decide (0 ≤ byteAt s 0 ∧ byteAt s 0 < (↑256 : Int)) = true) :: ((decide (byteAt s 0 < 128) = false) :: ((decide ((↑0 : Int) ≤ 0 ∧ 0 < (zI s)) = true) :: ((decide ((zI s) > 0) = true) :: [])))))))))))))))))))))))) followed (by kernel_rfl) (allP_of ⟨h1, ⟨h2, (trC 6 ⟨h3, (trC 9 ⟨h4, (trC 17 ⟨h3, (trC 2 ⟨h5, (trC 9 ⟨h6, (trC 3 ⟨h7, ⟨h8, ⟨h9, (trC 2 ⟨h10, ⟨h11, ⟨h12, ⟨h13, ⟨h14, ⟨h15, trivial⟩⟩⟩⟩⟩⟩)⟩⟩⟩)⟩)⟩)⟩)⟩)⟩)⟩⟩) (keepM 169 [0]) ([]) (by kernel_rfl) (by kernel_rfl) (by kernel_rfl)

theorem vout_10 (s : ByteArray) (t : ByteArray)
    (h1 : decide ((zI s) < 3) = true)
    (h2 : (IntKind.wrap IntKind.i64 (b7 s) == 3) = true)
    (h3 : (IntKind.wrap IntKind.i64 (b7 s) == 2) = false)
    (h4 : decide (Int.toNat (Int.fdiv (fb s) 16) * 2 + 2 ≤ 32) = true)
    (h5 : areKinds [Kind.int IntKind.u8, Kind.int IntKind.u8] [List.getD Tabs.acc (Int.toNat (Int.fdiv (fb s) 16) * 2) AVal.any, List.getD Tabs.acc (Int.toNat (Int.fdiv (fb s) 16) * 2 + 1) AVal.any] = true)
    (h6 : decide (0 ≤ Int.fdiv (fb s) 16 ∧ Int.fdiv (fb s) 16 < (↑16 : Int)) = true)
    (h7 : decide (Int.toNat (byteAt s 0) * 1 + 1 ≤ 256) = true)
    (h8 : areKinds [Kind.int IntKind.u8] [List.getD Tabs.first (Int.toNat (byteAt s 0) * 1) AVal.any] = true)
    (h9 : decide (0 ≤ byteAt s 0 ∧ byteAt s 0 < (↑256 : Int)) = true)
    (h10 : decide (byteAt s 0 < 128) = false)
    (h11 : decide ((↑0 : Int) ≤ 0 ∧ 0 < (zI s)) = true)
    (h12 : decide ((zI s) > 0) = true) :
    TripN Tryd.prog 0 (loopNo Tryd.f50 0) (rgV s) ([]) (AExit.ret) (mkR 169 [(2, AVal.tt false)]) ([]) :=
  evalT (st := St.mk (rgV s) ([]) ([Dec.br true, Dec.br false, Dec.br false, Dec.br true, Dec.br true]) []) (st' := St.mk (mkR 169 [(0, AVal.str s), (2, AVal.tt false), (3, AVal.int IntKind.u8 (byteAt s 0)), (4, AVal.int IntKind.u8 (fb s)), (5, iqND (IntKind.wrap IntKind.i64 (b7 s))), (6, AVal.ptr 0 2 0 0), (7, AVal.str s), (8, iqND (zI s)), (9, AVal.tt true), (10, AVal.str s), (11, AVal.int IntKind.u8 (byteAt s 0)), (12, AVal.int IntKind.u8 (byteAt s 0)), (13, AVal.tt false), (65, AVal.int IntKind.u8 (byteAt s 0)), (66, AVal.fptr 256 [Tabs.first] 0 (Int.toNat (byteAt s 0) * 1)), (67, AVal.int IntKind.u8 (fb s)), (68, AVal.int IntKind.u8 (fb s)), (69, AVal.int IntKind.u8 (b7 s)), (70, iqND (IntKind.wrap IntKind.i64 (b7 s))), (71, AVal.int IntKind.u8 (fb s)), (72, AVal.int IntKind.u8 (Int.fdiv (fb s) 16)), (73, AVal.fptr 32 [Tabs.acc] 0 (Int.toNat (Int.fdiv (fb s) 16) * 2)), (74, AVal.agg [AVal.int IntKind.u8 (AVal.toInt (ac s)), AVal.int IntKind.u8 (AVal.toInt (ad s))]), (75, iqND (IntKind.wrap IntKind.i64 (b7 s))), (76, AVal.tt false), (77, AVal.bool (IntKind.wrap IntKind.i64 (b7 s) == 2)), (97, AVal.tt true), (98, AVal.bool (IntKind.wrap IntKind.i64 (b7 s) == 3)), (99, AVal.str s), (100, iqND (zI s)), (101, AVal.bool (decide ((zI s) < 3))), (102, AVal.tt true), (103, AVal.tuple []), (104, AVal.tuple []), (105, AVal.tuple []), (106, AVal.tuple []), (107, AVal.tuple []), (108, AVal.tt true), (109, AVal.tt true), (110, AVal.tuple []), (111, AVal.tuple []), (112, AVal.tuple []), (113, AVal.tuple []), (114, AVal.tuple []), (115, AVal.tt true), (116, AVal.tt true), (117, AVal.tuple []), (118, AVal.tuple []), (119, AVal.tuple []), (120, AVal.tt true), (121, AVal.tt true), (122, AVal.tuple []), (123, AVal.tuple []), (124, AVal.tuple []), (125, AVal.tt true)]) ([AObj.rows true 2 [[AVal.int IntKind.u8 (AVal.toInt (ac s)), AVal.int IntKind.u8 (AVal.toInt (ad s))]]]) ([]) (tr 46 ++ ((decide ((zI s) < 3) = true) :: (tr 9 ++ (((IntKind.wrap IntKind.i64 (b7 s) == 3) = true) :: (((IntKind.wrap IntKind.i64 (b7 s) == 2) = false) :: (tr 3 ++ ((decide (Int.toNat (Int.fdiv (fb s) 16) * 2 + 2 ≤ 32) = true) :: ((areKinds [Kind.int IntKind.u8, Kind.int IntKind.u8] [List.getD Tabs.acc (Int.toNat (Int.fdiv (fb s) 16) * 2) AVal.any, List.getD Tabs.acc (Int.toNat (Int.fdiv (fb s) 16) * 2 + 1) AVal.any] = true) :: ((decide (0 ≤ Int.fdiv (fb s) 16 ∧ Int.fdiv (fb s) 16 < (↑16 : Int)) = true) :: (tr 2 ++ ((decide (Int.toNat (byteAt s 0) * 1 + 1 ≤ 256) = true) :: ((areKinds [Kind.int IntKind.u8] [List.getD Tabs.first (Int.toNat (byteAt s 0) * 1) AVal.any] = true) :: ((decide (0 ≤ byteAt s 0 ∧ byteAt s 0 < (↑256 : Int)) = true) :: ((decide (byteAt s 0 < 128) = false) :: ((decide ((↑0 : Int) ≤ 0 ∧ 0 < (zI s)) = true) :: ((decide ((zI s) > 0) = true) :: []))))))))))))))))) followed (by kernel_rfl) (allP_of (trC 46 ⟨h1, (trC 9 ⟨h2, ⟨h3, (trC 3 ⟨h4, ⟨h5, ⟨h6, (trC 2 ⟨h7, ⟨h8, ⟨h9, ⟨h10, ⟨h11, ⟨h12, trivial⟩⟩⟩⟩⟩⟩)⟩⟩⟩)⟩⟩)⟩)) (keepM 169 [2]) ([]) (by kernel_rfl) (by kernel_rfl) (by kernel_rfl)

theorem vout_11 (s : ByteArray) (t : ByteArray)
    (h1 : decide (byteAt s 1 < AVal.toInt (ac s)) = true)
    (h2 : decide ((↑0 : Int) ≤ 1 ∧ 1 < (zI s)) = true)
    (h3 : decide ((zI s) < 3) = false)
    (h4 : (IntKind.wrap IntKind.i64 (b7 s) == 3) = true)
    (h5 : (IntKind.wrap IntKind.i64 (b7 s) == 2) = false)
    (h6 : decide (Int.toNat (Int.fdiv (fb s) 16) * 2 + 2 ≤ 32) = true)
    (h7 : areKinds [Kind.int IntKind.u8, Kind.int IntKind.u8] [List.getD Tabs.acc (Int.toNat (Int.fdiv (fb s) 16) * 2) AVal.any, List.getD Tabs.acc (Int.toNat (Int.fdiv (fb s) 16) * 2 + 1) AVal.any] = true)
    (h8 : decide (0 ≤ Int.fdiv (fb s) 16 ∧ Int.fdiv (fb s) 16 < (↑16 : Int)) = true)
    (h9 : decide (Int.toNat (byteAt s 0) * 1 + 1 ≤ 256) = true)
    (h10 : areKinds [Kind.int IntKind.u8] [List.getD Tabs.first (Int.toNat (byteAt s 0) * 1) AVal.any] = true)
    (h11 : decide (0 ≤ byteAt s 0 ∧ byteAt s 0 < (↑256 : Int)) = true)
    (h12 : decide (byteAt s 0 < 128) = false)
    (h13 : decide ((↑0 : Int) ≤ 0 ∧ 0 < (zI s)) = true)
    (h14 : decide ((zI s) > 0) = true) :
    TripN Tryd.prog 0 (loopNo Tryd.f50 0) (rgV s) ([]) (AExit.ret) (mkR 169 [(2, AVal.tt false)]) ([]) :=
  evalT (st := St.mk (rgV s) ([]) ([Dec.br true, Dec.br false, Dec.br false, Dec.br true, Dec.br false, Dec.br true]) []) (st' := St.mk (mkR 169 [(0, AVal.str s), (2, AVal.tt false), (3, AVal.int IntKind.u8 (byteAt s 0)), (4, AVal.int IntKind.u8 (fb s)), (5, iqND (IntKind.wrap IntKind.i64 (b7 s))), (6, AVal.ptr 0 2 0 0), (7, AVal.str s), (8, iqND (zI s)), (9, AVal.tt true), (10, AVal.str s), (11, AVal.int IntKind.u8 (byteAt s 0)), (12, AVal.int IntKind.u8 (byteAt s 0)), (13, AVal.tt false), (65, AVal.int IntKind.u8 (byteAt s 0)), (66, AVal.fptr 256 [Tabs.first] 0 (Int.toNat (byteAt s 0) * 1)), (67, AVal.int IntKind.u8 (fb s)), (68, AVal.int IntKind.u8 (fb s)), (69, AVal.int IntKind.u8 (b7 s)), (70, iqND (IntKind.wrap IntKind.i64 (b7 s))), (71, AVal.int IntKind.u8 (fb s)), (72, AVal.int IntKind.u8 (Int.fdiv (fb s) 16)), (73, AVal.fptr 32 [Tabs.acc] 0 (Int.toNat (Int.fdiv (fb s) 16) * 2)), (74, AVal.agg [AVal.int IntKind.u8 (AVal.toInt (ac s)), AVal.int IntKind.u8 (AVal.toInt (ad s))]), (75, iqND (IntKind.wrap IntKind.i64 (b7 s))), (76, AVal.tt false), (77, AVal.bool (IntKind.wrap IntKind.i64 (b7 s) == 2)), (97, AVal.tt true), (98, AVal.bool (IntKind.wrap IntKind.i64 (b7 s) == 3)), (99, AVal.str s), (100, iqND (zI s)), (101, AVal.bool (decide ((zI s) < 3))), (102, AVal.tt false), (103, AVal.str s), (104, AVal.int IntKind.u8 (byteAt s 1)), (105, AVal.ptr 0 2 0 0), (106, AVal.int IntKind.u8 (AVal.toInt (ac s))), (107, AVal.bool (decide (byteAt s 1 < AVal.toInt (ac s)))), (108, AVal.bool (decide (byteAt s 1 < AVal.toInt (ac s)))), (109, AVal.tt true), (110, AVal.tuple []), (111, AVal.tuple []), (112, AVal.tuple []), (113, AVal.tuple []), (114, AVal.tuple []), (115, AVal.tt true), (116, AVal.tt true), (117, AVal.tuple []), (118, AVal.tuple []), (119, AVal.tuple []), (120, AVal.tt true), (121, AVal.tt true), (122, AVal.tuple []), (123, AVal.tuple []), (124, AVal.tuple []), (125, AVal.tt true)]) ([AObj.rows true 2 [[AVal.int IntKind.u8 (AVal.toInt (ac s)), AVal.int IntKind.u8 (AVal.toInt (ad s))]]]) ([]) (tr 32 ++ ((decide (byteAt s 1 < AVal.toInt (ac s)) = true) :: (tr 17 ++ ((decide ((↑0 : Int) ≤ 1 ∧ 1 < (zI s)) = true) :: (tr 2 ++ ((decide ((zI s) < 3) = false) :: (tr 9 ++ (((IntKind.wrap IntKind.i64 (b7 s) == 3) = true) :: (((IntKind.wrap IntKind.i64 (b7 s) == 2) = false) :: (tr 3 ++ ((decide (Int.toNat (Int.fdiv (fb s) 16) * 2 + 2 ≤ 32) = true) :: ((areKinds [Kind.int IntKind.u8, Kind.int IntKind.u8] [List.getD Tabs.acc (Int.toNat (Int.fdiv (fb s) 16) * 2) AVal.any, List.getD Tabs.acc (Int.toNat (Int.fdiv (fb s) 16) * 2 + 1) AVal.any] = true) :: ((decide (0 ≤ Int.fdiv (fb s) 16 ∧ Int.fdiv (fb s) 16 < (↑16 : Int)) = true) :: (tr 2 ++ ((decide (Int.toNat (byteAt s 0) * 1 + 1 ≤ 256) = true) :: ((areKinds [Kind.int IntKind.u8] [List.getD Tabs.first (Int.toNat (byteAt s 0) * 1) AVal.any] = true) :: ((decide (0 ≤ byteAt s 0 ∧ byteAt s 0 < (↑256 : Int)) = true) :: ((decide (byteAt s 0 < 128) = false) :: ((decide ((↑0 : Int) ≤ 0 ∧ 0 < (zI s)) = true) :: ((decide ((zI s) > 0) = true) :: []))))))))))))))))))))) followed (by kernel_rfl) (allP_of (trC 32 ⟨h1, (trC 17 ⟨h2, (trC 2 ⟨h3, (trC 9 ⟨h4, ⟨h5, (trC 3 ⟨h6, ⟨h7, ⟨h8, (trC 2 ⟨h9, ⟨h10, ⟨h11, ⟨h12, ⟨h13, ⟨h14, trivial⟩⟩⟩⟩⟩⟩)⟩⟩⟩)⟩⟩)⟩)⟩)⟩)) (keepM 169 [2]) ([]) (by kernel_rfl) (by kernel_rfl) (by kernel_rfl)

theorem vout_12 (s : ByteArray) (t : ByteArray)
    (h1 : decide (AVal.toInt (ad s) < byteAt s 1) = true)
    (h2 : decide ((↑0 : Int) ≤ 1 ∧ 1 < (zI s)) = true)
    (h3 : decide (byteAt s 1 < AVal.toInt (ac s)) = false)
    (h4 : decide ((zI s) < 3) = false)
    (h5 : (IntKind.wrap IntKind.i64 (b7 s) == 3) = true)
    (h6 : (IntKind.wrap IntKind.i64 (b7 s) == 2) = false)
    (h7 : decide (Int.toNat (Int.fdiv (fb s) 16) * 2 + 2 ≤ 32) = true)
    (h8 : areKinds [Kind.int IntKind.u8, Kind.int IntKind.u8] [List.getD Tabs.acc (Int.toNat (Int.fdiv (fb s) 16) * 2) AVal.any, List.getD Tabs.acc (Int.toNat (Int.fdiv (fb s) 16) * 2 + 1) AVal.any] = true)
    (h9 : decide (0 ≤ Int.fdiv (fb s) 16 ∧ Int.fdiv (fb s) 16 < (↑16 : Int)) = true)
    (h10 : decide (Int.toNat (byteAt s 0) * 1 + 1 ≤ 256) = true)
    (h11 : areKinds [Kind.int IntKind.u8] [List.getD Tabs.first (Int.toNat (byteAt s 0) * 1) AVal.any] = true)
    (h12 : decide (0 ≤ byteAt s 0 ∧ byteAt s 0 < (↑256 : Int)) = true)
    (h13 : decide (byteAt s 0 < 128) = false)
    (h14 : decide ((↑0 : Int) ≤ 0 ∧ 0 < (zI s)) = true)
    (h15 : decide ((zI s) > 0) = true) :
    TripN Tryd.prog 0 (loopNo Tryd.f50 0) (rgV s) ([]) (AExit.ret) (mkR 169 [(2, AVal.tt false)]) ([]) :=
  evalT (st := St.mk (rgV s) ([]) ([Dec.br true, Dec.br false, Dec.br false, Dec.br true, Dec.br false, Dec.br false, Dec.br true]) []) (st' := St.mk (mkR 169 [(0, AVal.str s), (2, AVal.tt false), (3, AVal.int IntKind.u8 (byteAt s 0)), (4, AVal.int IntKind.u8 (fb s)), (5, iqND (IntKind.wrap IntKind.i64 (b7 s))), (6, AVal.ptr 0 2 0 0), (7, AVal.str s), (8, iqND (zI s)), (9, AVal.tt true), (10, AVal.str s), (11, AVal.int IntKind.u8 (byteAt s 0)), (12, AVal.int IntKind.u8 (byteAt s 0)), (13, AVal.tt false), (65, AVal.int IntKind.u8 (byteAt s 0)), (66, AVal.fptr 256 [Tabs.first] 0 (Int.toNat (byteAt s 0) * 1)), (67, AVal.int IntKind.u8 (fb s)), (68, AVal.int IntKind.u8 (fb s)), (69, AVal.int IntKind.u8 (b7 s)), (70, iqND (IntKind.wrap IntKind.i64 (b7 s))), (71, AVal.int IntKind.u8 (fb s)), (72, AVal.int IntKind.u8 (Int.fdiv (fb s) 16)), (73, AVal.fptr 32 [Tabs.acc] 0 (Int.toNat (Int.fdiv (fb s) 16) * 2)), (74, AVal.agg [AVal.int IntKind.u8 (AVal.toInt (ac s)), AVal.int IntKind.u8 (AVal.toInt (ad s))]), (75, iqND (IntKind.wrap IntKind.i64 (b7 s))), (76, AVal.tt false), (77, AVal.bool (IntKind.wrap IntKind.i64 (b7 s) == 2)), (97, AVal.tt true), (98, AVal.bool (IntKind.wrap IntKind.i64 (b7 s) == 3)), (99, AVal.str s), (100, iqND (zI s)), (101, AVal.bool (decide ((zI s) < 3))), (102, AVal.tt false), (103, AVal.str s), (104, AVal.int IntKind.u8 (byteAt s 1)), (105, AVal.ptr 0 2 0 0), (106, AVal.int IntKind.u8 (AVal.toInt (ac s))), (107, AVal.bool (decide (byteAt s 1 < AVal.toInt (ac s)))), (108, AVal.bool (decide (byteAt s 1 < AVal.toInt (ac s)))), (109, AVal.tt false), (110, AVal.ptr 0 2 0 1), (111, AVal.int IntKind.u8 (AVal.toInt (ad s))), (112, AVal.str s), (113, AVal.int IntKind.u8 (byteAt s 1)), (114, AVal.bool (decide (AVal.toInt (ad s) < byteAt s 1))), (115, AVal.bool (decide (AVal.toInt (ad s) < byteAt s 1))), (116, AVal.tt true), (117, AVal.tuple []), (118, AVal.tuple []), (119, AVal.tuple []), (120, AVal.tt true), (121, AVal.tt true), (122, AVal.tuple []), (123, AVal.tuple []), (124, AVal.tuple []), (125, AVal.tt true)]) ([AObj.rows true 2 [[AVal.int IntKind.u8 (AVal.toInt (ac s)), AVal.int IntKind.u8 (AVal.toInt (ad s))]]]) ([]) (tr 18 ++ ((decide (AVal.toInt (ad s) < byteAt s 1) = true) :: (tr 8 ++ ((decide ((↑0 : Int) ≤ 1 ∧ 1 < (zI s)) = true) :: (tr 9 ++ ((decide (byteAt s 1 < AVal.toInt (ac s)) = false) :: (tr 17 ++ ((decide ((↑0 : Int) ≤ 1 ∧ 1 < (zI s)) = true) :: (tr 2 ++ ((decide ((zI s) < 3) = false) :: (tr 9 ++ (((IntKind.wrap IntKind.i64 (b7 s) == 3) = true) :: (((IntKind.wrap IntKind.i64 (b7 s) == 2) = false) :: (tr 3 ++ ((decide (Int.toNat (Int.fdiv (fb s) 16) * 2 + 2 ≤ 32) = true) :: ((areKinds [Kind.int IntKind.u8, Kind.int IntKind.u8] [List.getD Tabs.acc (Int.toNat (Int.fdiv (fb s) 16) * 2) AVal.any, List.getD Tabs.acc (Int.toNat (Int.fdiv (fb s) 16) * 2 + 1) AVal.any] = true) :: ((decide (0 ≤ Int.fdiv (fb s) 16 ∧ Int.fdiv (fb s) 16 < (↑16 : Int)) = true) :: (tr 2 ++ ((decide (Int.toNat (byteAt s 0) * 1 + 1 ≤ 256) = true) :: ((areKinds [Kind.int IntKind.u8] [List.getD Tabs.first (Int.toNat (byteAt s 0) * 1) AVal.any] = true) :: ((decide (0 ≤ byteAt s 0 ∧ byteAt s 0 < (↑256 : Int)) = true) :: ((decide (byteAt s 0 < 128) = false) :: ((decide ((↑0 : Int) ≤ 0 ∧ 0 < (zI s)) = true) :: ((decide ((zI s) > 0) = true) :: []))))))))))))))))))))))))) followed (by kernel_rfl) (allP_of (trC 18 ⟨h1, (trC 8 ⟨h2, (trC 9 ⟨h3, (trC 17 ⟨h2, (trC 2 ⟨h4, (trC 9 ⟨h5, ⟨h6, (trC 3 ⟨h7, ⟨h8, ⟨h9, (trC 2 ⟨h10, ⟨h11, ⟨h12, ⟨h13, ⟨h14, ⟨h15, trivial⟩⟩⟩⟩⟩⟩)⟩⟩⟩)⟩⟩)⟩)⟩)⟩)⟩)⟩)) (keepM 169 [2]) ([]) (by kernel_rfl) (by kernel_rfl) (by kernel_rfl)

theorem vout_13 (s : ByteArray) (t : ByteArray)
    (h1 : decide (byteAt s 2 < 128) = true)
    (h2 : decide ((↑0 : Int) ≤ 2 ∧ 2 < (zI s)) = true)
    (h3 : decide (AVal.toInt (ad s) < byteAt s 1) = false)
    (h4 : decide ((↑0 : Int) ≤ 1 ∧ 1 < (zI s)) = true)
    (h5 : decide (byteAt s 1 < AVal.toInt (ac s)) = false)
    (h6 : decide ((zI s) < 3) = false)
    (h7 : (IntKind.wrap IntKind.i64 (b7 s) == 3) = true)
    (h8 : (IntKind.wrap IntKind.i64 (b7 s) == 2) = false)
    (h9 : decide (Int.toNat (Int.fdiv (fb s) 16) * 2 + 2 ≤ 32) = true)
    (h10 : areKinds [Kind.int IntKind.u8, Kind.int IntKind.u8] [List.getD Tabs.acc (Int.toNat (Int.fdiv (fb s) 16) * 2) AVal.any, List.getD Tabs.acc (Int.toNat (Int.fdiv (fb s) 16) * 2 + 1) AVal.any] = true)
    (h11 : decide (0 ≤ Int.fdiv (fb s) 16 ∧ Int.fdiv (fb s) 16 < (↑16 : Int)) = true)
    (h12 : decide (Int.toNat (byteAt s 0) * 1 + 1 ≤ 256) = true)
    (h13 : areKinds [Kind.int IntKind.u8] [List.getD Tabs.first (Int.toNat (byteAt s 0) * 1) AVal.any] = true)
    (h14 : decide (0 ≤ byteAt s 0 ∧ byteAt s 0 < (↑256 : Int)) = true)
    (h15 : decide (byteAt s 0 < 128) = false)
    (h16 : decide ((↑0 : Int) ≤ 0 ∧ 0 < (zI s)) = true)
    (h17 : decide ((zI s) > 0) = true) :
    TripN Tryd.prog 0 (loopNo Tryd.f50 0) (rgV s) ([]) (AExit.ret) (mkR 169 [(2, AVal.tt false)]) ([]) :=
  evalT (st := St.mk (rgV s) ([]) ([Dec.br true, Dec.br false, Dec.br false, Dec.br true, Dec.br false, Dec.br false, Dec.br false, Dec.br true]) []) (st' := St.mk (mkR 169 [(0, AVal.str s), (2, AVal.tt false), (3, AVal.int IntKind.u8 (byteAt s 0)), (4, AVal.int IntKind.u8 (fb s)), (5, iqND (IntKind.wrap IntKind.i64 (b7 s))), (6, AVal.ptr 0 2 0 0), (7, AVal.str s), (8, iqND (zI s)), (9, AVal.tt true), (10, AVal.str s), (11, AVal.int IntKind.u8 (byteAt s 0)), (12, AVal.int IntKind.u8 (byteAt s 0)), (13, AVal.tt false), (65, AVal.int IntKind.u8 (byteAt s 0)), (66, AVal.fptr 256 [Tabs.first] 0 (Int.toNat (byteAt s 0) * 1)), (67, AVal.int IntKind.u8 (fb s)), (68, AVal.int IntKind.u8 (fb s)), (69, AVal.int IntKind.u8 (b7 s)), (70, iqND (IntKind.wrap IntKind.i64 (b7 s))), (71, AVal.int IntKind.u8 (fb s)), (72, AVal.int IntKind.u8 (Int.fdiv (fb s) 16)), (73, AVal.fptr 32 [Tabs.acc] 0 (Int.toNat (Int.fdiv (fb s) 16) * 2)), (74, AVal.agg [AVal.int IntKind.u8 (AVal.toInt (ac s)), AVal.int IntKind.u8 (AVal.toInt (ad s))]), (75, iqND (IntKind.wrap IntKind.i64 (b7 s))), (76, AVal.tt false), (77, AVal.bool (IntKind.wrap IntKind.i64 (b7 s) == 2)), (97, AVal.tt true), (98, AVal.bool (IntKind.wrap IntKind.i64 (b7 s) == 3)), (99, AVal.str s), (100, iqND (zI s)), (101, AVal.bool (decide ((zI s) < 3))), (102, AVal.tt false), (103, AVal.str s), (104, AVal.int IntKind.u8 (byteAt s 1)), (105, AVal.ptr 0 2 0 0), (106, AVal.int IntKind.u8 (AVal.toInt (ac s))), (107, AVal.bool (decide (byteAt s 1 < AVal.toInt (ac s)))), (108, AVal.bool (decide (byteAt s 1 < AVal.toInt (ac s)))), (109, AVal.tt false), (110, AVal.ptr 0 2 0 1), (111, AVal.int IntKind.u8 (AVal.toInt (ad s))), (112, AVal.str s), (113, AVal.int IntKind.u8 (byteAt s 1)), (114, AVal.bool (decide (AVal.toInt (ad s) < byteAt s 1))), (115, AVal.bool (decide (AVal.toInt (ad s) < byteAt s 1))), (116, AVal.tt false), (117, AVal.str s), (118, AVal.int IntKind.u8 (byteAt s 2)), (119, AVal.bool (decide (byteAt s 2 < 128))), (120, AVal.bool (decide (byteAt s 2 < 128))), (121, AVal.tt true), (122, AVal.tuple []), (123, AVal.tuple []), (124, AVal.tuple []), (125, AVal.tt true)]) ([AObj.rows true 2 [[AVal.int IntKind.u8 (AVal.toInt (ac s)), AVal.int IntKind.u8 (AVal.toInt (ad s))]]]) ([]) (tr 8 ++ ((decide (byteAt s 2 < 128) = true) :: (tr 8 ++ ((decide ((↑0 : Int) ≤ 2 ∧ 2 < (zI s)) = true) :: (tr 2 ++ ((decide (AVal.toInt (ad s) < byteAt s 1) = false) :: (tr 8 ++ ((decide ((↑0 : Int) ≤ 1 ∧ 1 < (zI s)) = true) :: (tr 9 ++ ((decide (byteAt s 1 < AVal.toInt (ac s)) = false) :: (tr 17 ++ ((decide ((↑0 : Int) ≤ 1 ∧ 1 < (zI s)) = true) :: (tr 2 ++ ((decide ((zI s) < 3) = false) :: (tr 9 ++ (((IntKind.wrap IntKind.i64 (b7 s) == 3) = true) :: (((IntKind.wrap IntKind.i64 (b7 s) == 2) = false) :: (tr 3 ++ ((decide (Int.toNat (Int.fdiv (fb s) 16) * 2 + 2 ≤ 32) = true) :: ((areKinds [Kind.int IntKind.u8, Kind.int IntKind.u8] [List.getD Tabs.acc (Int.toNat (Int.fdiv (fb s) 16) * 2) AVal.any, List.getD Tabs.acc (Int.toNat (Int.fdiv (fb s) 16) * 2 + 1) AVal.any] = true) :: ((decide (0 ≤ Int.fdiv (fb s) 16 ∧ Int.fdiv (fb s) 16 < (↑16 : Int)) = true) :: (tr 2 ++ ((decide (Int.toNat (byteAt s 0) * 1 + 1 ≤ 256) = true) :: ((areKinds [Kind.int IntKind.u8] [List.getD Tabs.first (Int.toNat (byteAt s 0) * 1) AVal.any] = true) :: ((decide (0 ≤ byteAt s 0 ∧ byteAt s 0 < (↑256 : Int)) = true) :: ((decide (byteAt s 0 < 128) = false) :: ((decide ((↑0 : Int) ≤ 0 ∧ 0 < (zI s)) = true) :: ((decide ((zI s) > 0) = true) :: []))))))))))))))))))))))))))))) followed (by kernel_rfl) (allP_of (trC 8 ⟨h1, (trC 8 ⟨h2, (trC 2 ⟨h3, (trC 8 ⟨h4, (trC 9 ⟨h5, (trC 17 ⟨h4, (trC 2 ⟨h6, (trC 9 ⟨h7, ⟨h8, (trC 3 ⟨h9, ⟨h10, ⟨h11, (trC 2 ⟨h12, ⟨h13, ⟨h14, ⟨h15, ⟨h16, ⟨h17, trivial⟩⟩⟩⟩⟩⟩)⟩⟩⟩)⟩⟩)⟩)⟩)⟩)⟩)⟩)⟩)⟩)) (keepM 169 [2]) ([]) (by kernel_rfl) (by kernel_rfl) (by kernel_rfl)

theorem vout_14 (s : ByteArray) (t : ByteArray)
    (h1 : decide (191 < byteAt s 2) = true)
    (h2 : decide ((↑0 : Int) ≤ 2 ∧ 2 < (zI s)) = true)
    (h3 : decide (byteAt s 2 < 128) = false)
    (h4 : decide (AVal.toInt (ad s) < byteAt s 1) = false)
    (h5 : decide ((↑0 : Int) ≤ 1 ∧ 1 < (zI s)) = true)
    (h6 : decide (byteAt s 1 < AVal.toInt (ac s)) = false)
    (h7 : decide ((zI s) < 3) = false)
    (h8 : (IntKind.wrap IntKind.i64 (b7 s) == 3) = true)
    (h9 : (IntKind.wrap IntKind.i64 (b7 s) == 2) = false)
    (h10 : decide (Int.toNat (Int.fdiv (fb s) 16) * 2 + 2 ≤ 32) = true)
    (h11 : areKinds [Kind.int IntKind.u8, Kind.int IntKind.u8] [List.getD Tabs.acc (Int.toNat (Int.fdiv (fb s) 16) * 2) AVal.any, List.getD Tabs.acc (Int.toNat (Int.fdiv (fb s) 16) * 2 + 1) AVal.any] = true)
    (h12 : decide (0 ≤ Int.fdiv (fb s) 16 ∧ Int.fdiv (fb s) 16 < (↑16 : Int)) = true)
    (h13 : decide (Int.toNat (byteAt s 0) * 1 + 1 ≤ 256) = true)
    (h14 : areKinds [Kind.int IntKind.u8] [List.getD Tabs.first (Int.toNat (byteAt s 0) * 1) AVal.any] = true)
    (h15 : decide (0 ≤ byteAt s 0 ∧ byteAt s 0 < (↑256 : Int)) = true)
    (h16 : decide (byteAt s 0 < 128) = false)
    (h17 : decide ((↑0 : Int) ≤ 0 ∧ 0 < (zI s)) = true)
    (h18 : decide ((zI s) > 0) = true) :
    TripN Tryd.prog 0 (loopNo Tryd.f50 0) (rgV s) ([]) (AExit.ret) (mkR 169 [(2, AVal.tt false)]) ([]) :=
  evalT (st := St.mk (rgV s) ([]) ([Dec.br true, Dec.br false, Dec.br false, Dec.br true, Dec.br false, Dec.br false, Dec.br false, Dec.br false, Dec.br true]) []) (st' := St.mk (mkR 169 [(0, AVal.str s), (2, AVal.tt false), (3, AVal.int IntKind.u8 (byteAt s 0)), (4, AVal.int IntKind.u8 (fb s)), (5, iqND (IntKind.wrap IntKind.i64 (b7 s))), (6, AVal.ptr 0 2 0 0), (7, AVal.str s), (8, iqND (zI s)), (9, AVal.tt true), (10, AVal.str s), (11, AVal.int IntKind.u8 (byteAt s 0)), (12, AVal.int IntKind.u8 (byteAt s 0)), (13, AVal.tt false), (65, AVal.int IntKind.u8 (byteAt s 0)), (66, AVal.fptr 256 [Tabs.first] 0 (Int.toNat (byteAt s 0) * 1)), (67, AVal.int IntKind.u8 (fb s)), (68, AVal.int IntKind.u8 (fb s)), (69, AVal.int IntKind.u8 (b7 s)), (70, iqND (IntKind.wrap IntKind.i64 (b7 s))), (71, AVal.int IntKind.u8 (fb s)), (72, AVal.int IntKind.u8 (Int.fdiv (fb s) 16)), (73, AVal.fptr 32 [Tabs.acc] 0 (Int.toNat (Int.fdiv (fb s) 16) * 2)), (74, AVal.agg [AVal.int IntKind.u8 (AVal.toInt (ac s)), AVal.int IntKind.u8 (AVal.toInt (ad s))]), (75, iqND (IntKind.wrap IntKind.i64 (b7 s))), (76, AVal.tt false), (77, AVal.bool (IntKind.wrap IntKind.i64 (b7 s) == 2)), (97, AVal.tt true), (98, AVal.bool (IntKind.wrap IntKind.i64 (b7 s) == 3)), (99, AVal.str s), (100, iqND (zI s)), (101, AVal.bool (decide ((zI s) < 3))), (102, AVal.tt false), (103, AVal.str s), (104, AVal.int IntKind.u8 (byteAt s 1)), (105, AVal.ptr 0 2 0 0), (106, AVal.int IntKind.u8 (AVal.toInt (ac s))), (107, AVal.bool (decide (byteAt s 1 < AVal.toInt (ac s)))), (108, AVal.bool (decide (byteAt s 1 < AVal.toInt (ac s)))), (109, AVal.tt false), (110, AVal.ptr 0 2 0 1), (111, AVal.int IntKind.u8 (AVal.toInt (ad s))), (112, AVal.str s), (113, AVal.int IntKind.u8 (byteAt s 1)), (114, AVal.bool (decide (AVal.toInt (ad s) < byteAt s 1))), (115, AVal.bool (decide (AVal.toInt (ad s) < byteAt s 1))), (116, AVal.tt false), (117, AVal.str s), (118, AVal.int IntKind.u8 (byteAt s 2)), (119, AVal.bool (decide (byteAt s 2 < 128))), (120, AVal.bool (decide (byteAt s 2 < 128))), (121, AVal.tt false), (122, AVal.str s), (123, AVal.int IntKind.u8 (byteAt s 2)), (124, AVal.bool (decide (191 < byteAt s 2))), (125, AVal.tt true)]) ([AObj.rows true 2 [[AVal.int IntKind.u8 (AVal.toInt (ac s)), AVal.int IntKind.u8 (AVal.toInt (ad s))]]]) ([]) ((decide (191 < byteAt s 2) = true) :: (tr 6 ++ ((decide ((↑0 : Int) ≤ 2 ∧ 2 < (zI s)) = true) :: (tr 2 ++ ((decide (byteAt s 2 < 128) = false) :: (tr 8 ++ ((decide ((↑0 : Int) ≤ 2 ∧ 2 < (zI s)) = true) :: (tr 2 ++ ((decide (AVal.toInt (ad s) < byteAt s 1) = false) :: (tr 8 ++ ((decide ((↑0 : Int) ≤ 1 ∧ 1 < (zI s)) = true) :: (tr 9 ++ ((decide (byteAt s 1 < AVal.toInt (ac s)) = false) :: (tr 17 ++ ((decide ((↑0 : Int) ≤ 1 ∧ 1 < (zI s)) = true) :: (tr 2 ++ ((decide ((zI s) < 3) = false) :: (tr 9 ++ (((IntKind.wrap IntKind.i64 (b7 s) == 3) = true) :: (((IntKind.wrap IntKind.i64 (b7 s) == 2) = false) :: (tr 3 ++ ((decide (Int.toNat (Int.fdiv (fb s) 16) * 2 + 2 ≤ 32) = true) :: ((areKinds [Kind.int IntKind.u8, Kind.int IntKind.u8] [List.getD Tabs.acc (Int.toNat (Int.fdiv (fb s) 16) * 2) AVal.any, List.getD Tabs.acc (Int.toNat (Int.fdiv (fb s) 16) * 2 + 1) AVal.any] = true) :: ((decide (0 ≤ Int.fdiv (fb s) 16 ∧ Int.fdiv (fb s) 16 < (↑16 : Int)) = true) :: (tr 2 ++ ((decide (Int.toNat (byteAt s 0) * 1 + 1 ≤ 256) = true) :: ((areKinds [Kind.int IntKind.u8] [List.getD Tabs.first (Int.toNat (byteAt s 0) * 1) AVal.any] = true) :: ((decide (0 ≤ byteAt s 0 ∧ byteAt s 0 < (↑256 : Int)) = true) :: ((decide (byteAt s 0 < 128) = false) :: ((decide ((↑0 : Int) ≤ 0 ∧ 0 < (zI s)) = true) :: ((decide ((zI s) > 0) = true) :: [])))))))))))))))))))))))))))))))) followed (by kernel_rfl) (allP_of ⟨h1, (trC 6 ⟨h2, (trC 2 ⟨h3, (trC 8 ⟨h2, (trC 2 ⟨h4, (trC 8 ⟨h5, (trC 9 ⟨h6, (trC 17 ⟨h5, (trC 2 ⟨h7, (trC 9 ⟨h8, ⟨h9, (trC 3 ⟨h10, ⟨h11, ⟨h12, (trC 2 ⟨h13, ⟨h14, ⟨h15, ⟨h16, ⟨h17, ⟨h18, trivial⟩⟩⟩⟩⟩⟩)⟩⟩⟩)⟩⟩)⟩)⟩)⟩)⟩)⟩)⟩)⟩)⟩)⟩) (keepM 169 [2]) ([]) (by kernel_rfl) (by kernel_rfl) (by kernel_rfl)

theorem vout_15 (s : ByteArray) (t : ByteArray)
    (h1 : decide ((↑0 : Int) ≤ 3 ∧ 3 ≤ (zI s) ∧ (zI s) ≤ (zI s)) = true)
    (h2 : decide (191 < byteAt s 2) = false)
    (h3 : decide ((↑0 : Int) ≤ 2 ∧ 2 < (zI s)) = true)
    (h4 : decide (byteAt s 2 < 128) = false)
    (h5 : decide (AVal.toInt (ad s) < byteAt s 1) = false)
    (h6 : decide ((↑0 : Int) ≤ 1 ∧ 1 < (zI s)) = true)
    (h7 : decide (byteAt s 1 < AVal.toInt (ac s)) = false)
    (h8 : decide ((zI s) < 3) = false)
    (h9 : (IntKind.wrap IntKind.i64 (b7 s) == 3) = true)
    (h10 : (IntKind.wrap IntKind.i64 (b7 s) == 2) = false)
    (h11 : decide (Int.toNat (Int.fdiv (fb s) 16) * 2 + 2 ≤ 32) = true)
    (h12 : areKinds [Kind.int IntKind.u8, Kind.int IntKind.u8] [List.getD Tabs.acc (Int.toNat (Int.fdiv (fb s) 16) * 2) AVal.any, List.getD Tabs.acc (Int.toNat (Int.fdiv (fb s) 16) * 2 + 1) AVal.any] = true)
    (h13 : decide (0 ≤ Int.fdiv (fb s) 16 ∧ Int.fdiv (fb s) 16 < (↑16 : Int)) = true)
    (h14 : decide (Int.toNat (byteAt s 0) * 1 + 1 ≤ 256) = true)
    (h15 : areKinds [Kind.int IntKind.u8] [List.getD Tabs.first (Int.toNat (byteAt s 0) * 1) AVal.any] = true)
    (h16 : decide (0 ≤ byteAt s 0 ∧ byteAt s 0 < (↑256 : Int)) = true)
    (h17 : decide (byteAt s 0 < 128) = false)
    (h18 : decide ((↑0 : Int) ≤ 0 ∧ 0 < (zI s)) = true)
    (h19 : decide ((zI s) > 0) = true) :
    TripN Tryd.prog 0 (loopNo Tryd.f50 0) (rgV s) ([]) (AExit.normal) (mkR 169 [(0, AVal.str (xt s 3))]) ([]) :=
  evalT (st := St.mk (rgV s) ([]) ([Dec.br true, Dec.br false, Dec.br false, Dec.br true, Dec.br false, Dec.br false, Dec.br false, Dec.br false, Dec.br false]) []) (st' := St.mk (mkR 169 [(0, AVal.str (xt s 3)), (3, AVal.int IntKind.u8 (byteAt s 0)), (4, AVal.int IntKind.u8 (fb s)), (5, iqND (IntKind.wrap IntKind.i64 (b7 s))), (6, AVal.ptr 0 2 0 0), (7, AVal.str s), (8, iqND (zI s)), (9, AVal.tt true), (10, AVal.str s), (11, AVal.int IntKind.u8 (byteAt s 0)), (12, AVal.int IntKind.u8 (byteAt s 0)), (13, AVal.tt false), (65, AVal.int IntKind.u8 (byteAt s 0)), (66, AVal.fptr 256 [Tabs.first] 0 (Int.toNat (byteAt s 0) * 1)), (67, AVal.int IntKind.u8 (fb s)), (68, AVal.int IntKind.u8 (fb s)), (69, AVal.int IntKind.u8 (b7 s)), (70, iqND (IntKind.wrap IntKind.i64 (b7 s))), (71, AVal.int IntKind.u8 (fb s)), (72, AVal.int IntKind.u8 (Int.fdiv (fb s) 16)), (73, AVal.fptr 32 [Tabs.acc] 0 (Int.toNat (Int.fdiv (fb s) 16) * 2)), (74, AVal.agg [AVal.int IntKind.u8 (AVal.toInt (ac s)), AVal.int IntKind.u8 (AVal.toInt (ad s))]), (75, iqND (IntKind.wrap IntKind.i64 (b7 s))), (76, AVal.tt false), (77, AVal.bool (IntKind.wrap IntKind.i64 (b7 s) == 2)), (97, AVal.tt true), (98, AVal.bool (IntKind.wrap IntKind.i64 (b7 s) == 3)), (99, AVal.str s), (100, iqND (zI s)), (101, AVal.bool (decide ((zI s) < 3))), (102, AVal.tt false), (103, AVal.str s), (104, AVal.int IntKind.u8 (byteAt s 1)), (105, AVal.ptr 0 2 0 0), (106, AVal.int IntKind.u8 (AVal.toInt (ac s))), (107, AVal.bool (decide (byteAt s 1 < AVal.toInt (ac s)))), (108, AVal.bool (decide (byteAt s 1 < AVal.toInt (ac s)))), (109, AVal.tt false), (110, AVal.ptr 0 2 0 1), (111, AVal.int IntKind.u8 (AVal.toInt (ad s))), (112, AVal.str s), (113, AVal.int IntKind.u8 (byteAt s 1)), (114, AVal.bool (decide (AVal.toInt (ad s) < byteAt s 1))), (115, AVal.bool (decide (AVal.toInt (ad s) < byteAt s 1))), (116, AVal.tt false), (117, AVal.str s), (118, AVal.int IntKind.u8 (byteAt s 2)), (119, AVal.bool (decide (byteAt s 2 < 128))), (120, AVal.bool (decide (byteAt s 2 < 128))), (121, AVal.tt false), (122, AVal.str s), (123, AVal.int IntKind.u8 (byteAt s 2)), (124, AVal.bool (decide (191 < byteAt s 2))), (125, AVal.tt false), (126, AVal.str s), (127, AVal.str (xt s 3))]) ([AObj.rows true 2 [[AVal.int IntKind.u8 (AVal.toInt (ac s)), AVal.int IntKind.u8 (AVal.toInt (ad s))]]]) ([]) ((decide ((↑0 : Int) ≤ 3 ∧ 3 ≤ (zI s) ∧ (zI s) ≤ (zI s)) = true) :: ((decide (191 < byteAt s 2) = false) :: (tr 6 ++ ((decide ((↑0 : Int) ≤ 2 ∧ 2 < (zI s)) = true) :: (tr 2 ++ ((decide (byteAt s 2 < 128) = false) :: (tr 8 ++ ((decide ((↑0 : Int) ≤ 2 ∧ 2 < (zI s)) = true) :: (tr 2 ++ ((decide (AVal.toInt (ad s) < byteAt s 1) = false) :: (tr 8 ++ ((decide ((↑0 : Int) ≤ 1 ∧ 1 < (zI s)) = true) :: (tr 9 ++ ((decide (byteAt s 1 < AVal.toInt (ac s)) = false) :: (tr 17 ++ ((decide ((↑0 : Int) ≤ 1 ∧ 1 < (zI s)) = true) :: (tr 2 ++ ((decide ((zI s) < 3) = false) :: (tr 9 ++ (((IntKind.wrap IntKind.i64 (b7 s) == 3) = true) :: (((IntKind.wrap IntKind.i64 (b7 s) == 2) = false) :: (tr 3 ++ ((decide (Int.toNat (Int.fdiv (fb s) 16) * 2 + 2 ≤ 32) = true) :: ((areKinds [Kind.int IntKind.u8, Kind.int IntKind.u8] [List.getD Tabs.acc (Int.toNat (Int.fdiv (fb s) 16) * 2) AVal.any, List.getD Tabs.acc (Int.toNat (Int.fdiv (fb s) 16) * 2 + 1) AVal.any] = true) :: ((decide (0 ≤ Int.fdiv (fb s) 16 ∧ Int.fdiv (fb s) 16 < (↑16 : Int)) = true) :: (tr 2 ++ ((decide (Int.toNat (byteAt s 0) * 1 + 1 ≤ 256) = true) :: ((areKinds [Kind.int IntKind.u8] [List.getD Tabs.first (Int.toNat (byteAt s 0) * 1) AVal.any] = true) :: ((decide (0 ≤ byteAt s 0 ∧ byteAt s 0 < (↑256 : Int)) = true) :: ((decide (byteAt s 0 < 128) = false) :: ((decide ((↑0 : Int) ≤ 0 ∧ 0 < (zI s)) = true) :: ((decide ((zI s) > 0) = true) :: []))))))))))))))))))))))))))))))))) followed (by kernel_rfl) (allP_of ⟨h1, ⟨h2, (trC 6 ⟨h3, (trC 2 ⟨h4, (trC 8 ⟨h3, (trC 2 ⟨h5, (trC 8 ⟨h6, (trC 9 ⟨h7, (trC 17 ⟨h6, (trC 2 ⟨h8, (trC 9 ⟨h9, ⟨h10, (trC 3 ⟨h11, ⟨h12, ⟨h13, (trC 2 ⟨h14, ⟨h15, ⟨h16, ⟨h17, ⟨h18, ⟨h19, trivial⟩⟩⟩⟩⟩⟩)⟩⟩⟩)⟩⟩)⟩)⟩)⟩)⟩)⟩)⟩)⟩)⟩)⟩⟩) (keepM 169 [0]) ([]) (by kernel_rfl) (by kernel_rfl) (by kernel_rfl)

theorem vout_16 (s : ByteArray) (t : ByteArray)
    (h1 : decide ((zI s) < 4) = true)
    (h2 : (IntKind.wrap IntKind.i64 (b7 s) == 4) = true)
    (h3 : (IntKind.wrap IntKind.i64 (b7 s) == 3) = false)
    (h4 : (IntKind.wrap IntKind.i64 (b7 s) == 2) = false)
    (h5 : decide (Int.toNat (Int.fdiv (fb s) 16) * 2 + 2 ≤ 32) = true)
    (h6 : areKinds [Kind.int IntKind.u8, Kind.int IntKind.u8] [List.getD Tabs.acc (Int.toNat (Int.fdiv (fb s) 16) * 2) AVal.any, List.getD Tabs.acc (Int.toNat (Int.fdiv (fb s) 16) * 2 + 1) AVal.any] = true)
    (h7 : decide (0 ≤ Int.fdiv (fb s) 16 ∧ Int.fdiv (fb s) 16 < (↑16 : Int)) = true)
    (h8 : decide (Int.toNat (byteAt s 0) * 1 + 1 ≤ 256) = true)
    (h9 : areKinds [Kind.int IntKind.u8] [List.getD Tabs.first (Int.toNat (byteAt s 0) * 1) AVal.any] = true)
    (h10 : decide (0 ≤ byteAt s 0 ∧ byteAt s 0 < (↑256 : Int)) = true)
    (h11 : decide (byteAt s 0 < 128) = false)
    (h12 : decide ((↑0 : Int) ≤ 0 ∧ 0 < (zI s)) = true)
    (h13 : decide ((zI s) > 0) = true) :
    TripN Tryd.prog 0 (loopNo Tryd.f50 0) (rgV s) ([]) (AExit.ret) (mkR 169 [(2, AVal.tt false)]) ([]) :=
  evalT (st := St.mk (rgV s) ([]) ([Dec.br true, Dec.br false, Dec.br false, Dec.br false, Dec.br true, Dec.br true]) []) (st' := St.mk (mkR 169 [(0, AVal.str s), (2, AVal.tt false), (3, AVal.int IntKind.u8 (byteAt s 0)), (4, AVal.int IntKind.u8 (fb s)), (5, iqND (IntKind.wrap IntKind.i64 (b7 s))), (6, AVal.ptr 0 2 0 0), (7, AVal.str s), (8, iqND (zI s)), (9, AVal.tt true), (10, AVal.str s), (11, AVal.int IntKind.u8 (byteAt s 0)), (12, AVal.int IntKind.u8 (byteAt s 0)), (13, AVal.tt false), (65, AVal.int IntKind.u8 (byteAt s 0)), (66, AVal.fptr 256 [Tabs.first] 0 (Int.toNat (byteAt s 0) * 1)), (67, AVal.int IntKind.u8 (fb s)), (68, AVal.int IntKind.u8 (fb s)), (69, AVal.int IntKind.u8 (b7 s)), (70, iqND (IntKind.wrap IntKind.i64 (b7 s))), (71, AVal.int IntKind.u8 (fb s)), (72, AVal.int IntKind.u8 (Int.fdiv (fb s) 16)), (73, AVal.fptr 32 [Tabs.acc] 0 (Int.toNat (Int.fdiv (fb s) 16) * 2)), (74, AVal.agg [AVal.int IntKind.u8 (AVal.toInt (ac s)), AVal.int IntKind.u8 (AVal.toInt (ad s))]), (75, iqND (IntKind.wrap IntKind.i64 (b7 s))), (76, AVal.tt false), (77, AVal.bool (IntKind.wrap IntKind.i64 (b7 s) == 2)), (97, AVal.tt false), (98, AVal.bool (IntKind.wrap IntKind.i64 (b7 s) == 3)), (128, AVal.tt true), (129, AVal.bool (IntKind.wrap IntKind.i64 (b7 s) == 4)), (130, AVal.str s), (131, iqND (zI s)), (132, AVal.bool (decide ((zI s) < 4))), (133, AVal.tt true), (134, AVal.tuple []), (135, AVal.tuple []), (136, AVal.tuple []), (137, AVal.tuple []), (138, AVal.tuple []), (139, AVal.tt true), (140, AVal.tt true), (141, AVal.tuple []), (142, AVal.tuple []), (143, AVal.tuple []), (144, AVal.tuple []), (145, AVal.tuple []), (146, AVal.tt true), (147, AVal.tt true), (148, AVal.tuple []), (149, AVal.tuple []), (150, AVal.tuple []), (151, AVal.tt true), (152, AVal.tt true), (153, AVal.tuple []), (154, AVal.tuple []), (155, AVal.tuple []), (156, AVal.tt true), (157, AVal.tt true), (158, AVal.tuple []), (159, AVal.tuple []), (160, AVal.tuple []), (161, AVal.tt true), (162, AVal.tt true), (163, AVal.tuple []), (164, AVal.tuple []), (165, AVal.tuple []), (166, AVal.tt true)]) ([AObj.rows true 2 [[AVal.int IntKind.u8 (AVal.toInt (ac s)), AVal.int IntKind.u8 (AVal.toInt (ad s))]]]) ([]) (tr 66 ++ ((decide ((zI s) < 4) = true) :: (tr 9 ++ (((IntKind.wrap IntKind.i64 (b7 s) == 4) = true) :: (((IntKind.wrap IntKind.i64 (b7 s) == 3) = false) :: (((IntKind.wrap IntKind.i64 (b7 s) == 2) = false) :: (tr 3 ++ ((decide (Int.toNat (Int.fdiv (fb s) 16) * 2 + 2 ≤ 32) = true) :: ((areKinds [Kind.int IntKind.u8, Kind.int IntKind.u8] [List.getD Tabs.acc (Int.toNat (Int.fdiv (fb s) 16) * 2) AVal.any, List.getD Tabs.acc (Int.toNat (Int.fdiv (fb s) 16) * 2 + 1) AVal.any] = true) :: ((decide (0 ≤ Int.fdiv (fb s) 16 ∧ Int.fdiv (fb s) 16 < (↑16 : Int)) = true) :: (tr 2 ++ ((decide (Int.toNat (byteAt s 0) * 1 + 1 ≤ 256) = true) :: ((areKinds [Kind.int IntKind.u8] [List.getD Tabs.first (Int.toNat (byteAt s 0) * 1) AVal.any] = true) :: ((decide (0 ≤ byteAt s 0 ∧ byteAt s 0 < (↑256 : Int)) = true) :: ((decide (byteAt s 0 < 128) = false) :: ((decide ((↑0 : Int) ≤ 0 ∧ 0 < (zI s)) = true) :: ((decide ((zI s) > 0) = true) :: [])))))))))))))))))) followed (by kernel_rfl) (allP_of (trC 66 ⟨h1, (trC 9 ⟨h2, ⟨h3, ⟨h4, (trC 3 ⟨h5, ⟨h6, ⟨h7, (trC 2 ⟨h8, ⟨h9, ⟨h10, ⟨h11, ⟨h12, ⟨h13, trivial⟩⟩⟩⟩⟩⟩)⟩⟩⟩)⟩⟩⟩)⟩)) (keepM 169 [2]) ([]) (by kernel_rfl) (by kernel_rfl) (by kernel_rfl)

theorem vout_17 (s : ByteArray) (t : ByteArray)
    (h1 : decide (byteAt s 1 < AVal.toInt (ac s)) = true)
    (h2 : decide ((↑0 : Int) ≤ 1 ∧ 1 < (zI s)) = true)
    (h3 : decide ((zI s) < 4) = false)
    (h4 : (IntKind.wrap IntKind.i64 (b7 s) == 4) = true)
    (h5 : (IntKind.wrap IntKind.i64 (b7 s) == 3) = false)
    (h6 : (IntKind.wrap IntKind.i64 (b7 s) == 2) = false)
    (h7 : decide (Int.toNat (Int.fdiv (fb s) 16) * 2 + 2 ≤ 32) = true)
    (h8 : areKinds [Kind.int IntKind.u8, Kind.int IntKind.u8] [List.getD Tabs.acc (Int.toNat (Int.fdiv (fb s) 16) * 2) AVal.any, List.getD Tabs.acc (Int.toNat (Int.fdiv (fb s) 16) * 2 + 1) AVal.any] = true)
    (h9 : decide (0 ≤ Int.fdiv (fb s) 16 ∧ Int.fdiv (fb s) 16 < (↑16 : Int)) = true)
    (h10 : decide (Int.toNat (byteAt s 0) * 1 + 1 ≤ 256) = true)
    (h11 : areKinds [Kind.int IntKind.u8] [List.getD Tabs.first (Int.toNat (byteAt s 0) * 1) AVal.any] = true)
    (h12 : decide (0 ≤ byteAt s 0 ∧ byteAt s 0 < (↑256 : Int)) = true)
    (h13 : decide (byteAt s 0 < 128) = false)
    (h14 : decide ((↑0 : Int) ≤ 0 ∧ 0 < (zI s)) = true)
    (h15 : decide ((zI s) > 0) = true) :
    TripN Tryd.prog 0 (loopNo Tryd.f50 0) (rgV s) ([]) (AExit.ret) (mkR 169 [(2, AVal.tt false)]) ([]) :=
  evalT (st := St.mk (rgV s) ([]) ([Dec.br true, Dec.br false, Dec.br false, Dec.br false, Dec.br true, Dec.br false, Dec.br true]) []) (st' := St.mk (mkR 169 [(0, AVal.str s), (2, AVal.tt false), (3, AVal.int IntKind.u8 (byteAt s 0)), (4, AVal.int IntKind.u8 (fb s)), (5, iqND (IntKind.wrap IntKind.i64 (b7 s))), (6, AVal.ptr 0 2 0 0), (7, AVal.str s), (8, iqND (zI s)), (9, AVal.tt true), (10, AVal.str s), (11, AVal.int IntKind.u8 (byteAt s 0)), (12, AVal.int IntKind.u8 (byteAt s 0)), (13, AVal.tt false), (65, AVal.int IntKind.u8 (byteAt s 0)), (66, AVal.fptr 256 [Tabs.first] 0 (Int.toNat (byteAt s 0) * 1)), (67, AVal.int IntKind.u8 (fb s)), (68, AVal.int IntKind.u8 (fb s)), (69, AVal.int IntKind.u8 (b7 s)), (70, iqND (IntKind.wrap IntKind.i64 (b7 s))), (71, AVal.int IntKind.u8 (fb s)), (72, AVal.int IntKind.u8 (Int.fdiv (fb s) 16)), (73, AVal.fptr 32 [Tabs.acc] 0 (Int.toNat (Int.fdiv (fb s) 16) * 2)), (74, AVal.agg [AVal.int IntKind.u8 (AVal.toInt (ac s)), AVal.int IntKind.u8 (AVal.toInt (ad s))]), (75, iqND (IntKind.wrap IntKind.i64 (b7 s))), (76, AVal.tt false), (77, AVal.bool (IntKind.wrap IntKind.i64 (b7 s) == 2)), (97, AVal.tt false), (98, AVal.bool (IntKind.wrap IntKind.i64 (b7 s) == 3)), (128, AVal.tt true), (129, AVal.bool (IntKind.wrap IntKind.i64 (b7 s) == 4)), (130, AVal.str s), (131, iqND (zI s)), (132, AVal.bool (decide ((zI s) < 4))), (133, AVal.tt false), (134, AVal.str s), (135, AVal.int IntKind.u8 (byteAt s 1)), (136, AVal.ptr 0 2 0 0), (137, AVal.int IntKind.u8 (AVal.toInt (ac s))), (138, AVal.bool (decide (byteAt s 1 < AVal.toInt (ac s)))), (139, AVal.bool (decide (byteAt s 1 < AVal.toInt (ac s)))), (140, AVal.tt true), (141, AVal.tuple []), (142, AVal.tuple []), (143, AVal.tuple []), (144, AVal.tuple []), (145, AVal.tuple []), (146, AVal.tt true), (147, AVal.tt true), (148, AVal.tuple []), (149, AVal.tuple []), (150, AVal.tuple []), (151, AVal.tt true), (152, AVal.tt true), (153, AVal.tuple []), (154, AVal.tuple []), (155, AVal.tuple []), (156, AVal.tt true), (157, AVal.tt true), (158, AVal.tuple []), (159, AVal.tuple []), (160, AVal.tuple []), (161, AVal.tt true), (162, AVal.tt true), (163, AVal.tuple []), (164, AVal.tuple []), (165, AVal.tuple []), (166, AVal.tt true)]) ([AObj.rows true 2 [[AVal.int IntKind.u8 (AVal.toInt (ac s)), AVal.int IntKind.u8 (AVal.toInt (ad s))]]]) ([]) (tr 52 ++ ((decide (byteAt s 1 < AVal.toInt (ac s)) = true) :: (tr 17 ++ ((decide ((↑0 : Int) ≤ 1 ∧ 1 < (zI s)) = true) :: (tr 2 ++ ((decide ((zI s) < 4) = false) :: (tr 9 ++ (((IntKind.wrap IntKind.i64 (b7 s) == 4) = true) :: (((IntKind.wrap IntKind.i64 (b7 s) == 3) = false) :: (((IntKind.wrap IntKind.i64 (b7 s) == 2) = false) :: (tr 3 ++ ((decide (Int.toNat (Int.fdiv (fb s) 16) * 2 + 2 ≤ 32) = true) :: ((areKinds [Kind.int IntKind.u8, Kind.int IntKind.u8] [List.getD Tabs.acc (Int.toNat (Int.fdiv (fb s) 16) * 2) AVal.any, List.getD Tabs.acc (Int.toNat (Int.fdiv (fb s) 16) * 2 + 1) AVal.any] = true) :: ((decide (0 ≤ Int.fdiv (fb s) 16 ∧ Int.fdiv (fb s) 16 < (↑16 : Int)) = true) :: (tr 2 ++ ((decide (Int.toNat (byteAt s 0) * 1 + 1 ≤ 256) = true) :: ((areKinds [Kind.int IntKind.u8] [List.getD Tabs.first (Int.toNat (byteAt s 0) * 1) AVal.any] = true) :: ((decide (0 ≤ byteAt s 0 ∧ byteAt s 0 < (↑256 : Int)) = true) :: ((decide (byteAt s 0 < 128) = false) :: ((decide ((↑0 : Int) ≤ 0 ∧ 0 < (zI s)) = true) :: ((decide ((zI s) > 0) = true) :: [])))))))))))))))))))))) followed (by kernel_rfl) (allP_of (trC 52 ⟨h1, (trC 17 ⟨h2, (trC 2 ⟨h3, (trC 9 ⟨h4, ⟨h5, ⟨h6, (trC 3 ⟨h7, ⟨h8, ⟨h9, (trC 2 ⟨h10, ⟨h11, ⟨h12, ⟨h13, ⟨h14, ⟨h15, trivial⟩⟩⟩⟩⟩⟩)⟩⟩⟩)⟩⟩⟩)⟩)⟩)⟩)) (keepM 169 [2]) ([]) (by kernel_rfl) (by kernel_rfl) (by kernel_rfl)

theorem vout_18 (s : ByteArray) (t : ByteArray)
    (h1 : decide (AVal.toInt (ad s) < byteAt s 1) = true)
    (h2 : decide ((↑0 : Int) ≤ 1 ∧ 1 < (zI s)) = true)
    (h3 : decide (byteAt s 1 < AVal.toInt (ac s)) = false)
    (h4 : decide ((zI s) < 4) = false)
    (h5 : (IntKind.wrap IntKind.i64 (b7 s) == 4) = true)
    (h6 : (IntKind.wrap IntKind.i64 (b7 s) == 3) = false)
    (h7 : (IntKind.wrap IntKind.i64 (b7 s) == 2) = false)
    (h8 : decide (Int.toNat (Int.fdiv (fb s) 16) * 2 + 2 ≤ 32) = true)
    (h9 : areKinds [Kind.int IntKind.u8, Kind.int IntKind.u8] [List.getD Tabs.acc (Int.toNat (Int.fdiv (fb s) 16) * 2) AVal.any, List.getD Tabs.acc (Int.toNat (Int.fdiv (fb s) 16) * 2 + 1) AVal.any] = true)
    (h10 : decide (0 ≤ Int.fdiv (fb s) 16 ∧ Int.fdiv (fb s) 16 < (↑16 : Int)) = true)
    (h11 : decide (Int.toNat (byteAt s 0) * 1 + 1 ≤ 256) = true)
    (h12 : areKinds [Kind.int IntKind.u8] [List.getD Tabs.first (Int.toNat (byteAt s 0) * 1) AVal.any] = true)
    (h13 : decide (0 ≤ byteAt s 0 ∧ byteAt s 0 < (↑256 : Int)) = true)
    (h14 : decide (byteAt s 0 < 128) = false)
    (h15 : decide ((↑0 : Int) ≤ 0 ∧ 0 < (zI s)) = true)
    (h16 : decide ((zI s) > 0) = true) :
    TripN Tryd.prog 0 (loopNo Tryd.f50 0) (rgV s) ([]) (AExit.ret) (mkR 169 [(2, AVal.tt false)]) ([]) :=
  evalT (st := St.mk (rgV s) ([]) ([Dec.br true, Dec.br false, Dec.br false, Dec.br false, Dec.br true, Dec.br false, Dec.br false, Dec.br true]) []) (st' := St.mk (mkR 169 [(0, AVal.str s), (2, AVal.tt false), (3, AVal.int IntKind.u8 (byteAt s 0)), (4, AVal.int IntKind.u8 (fb s)), (5, iqND (IntKind.wrap IntKind.i64 (b7 s))), (6, AVal.ptr 0 2 0 0), (7, AVal.str s), (8, iqND (zI s)), (9, AVal.tt true), (10, AVal.str s), (11, AVal.int IntKind.u8 (byteAt s 0)), (12, AVal.int IntKind.u8 (byteAt s 0)), (13, AVal.tt false), (65, AVal.int IntKind.u8 (byteAt s 0)), (66, AVal.fptr 256 [Tabs.first] 0 (Int.toNat (byteAt s 0) * 1)), (67, AVal.int IntKind.u8 (fb s)), (68, AVal.int IntKind.u8 (fb s)), (69, AVal.int IntKind.u8 (b7 s)), (70, iqND (IntKind.wrap IntKind.i64 (b7 s))), (71, AVal.int IntKind.u8 (fb s)), (72, AVal.int IntKind.u8 (Int.fdiv (fb s) 16)), (73, AVal.fptr 32 [Tabs.acc] 0 (Int.toNat (Int.fdiv (fb s) 16) * 2)), (74, AVal.agg [AVal.int IntKind.u8 (AVal.toInt (ac s)), AVal.int IntKind.u8 (AVal.toInt (ad s))]), (75, iqND (IntKind.wrap IntKind.i64 (b7 s))), (76, AVal.tt false), (77, AVal.bool (IntKind.wrap IntKind.i64 (b7 s) == 2)), (97, AVal.tt false), (98, AVal.bool (IntKind.wrap IntKind.i64 (b7 s) == 3)), (128, AVal.tt true), (129, AVal.bool (IntKind.wrap IntKind.i64 (b7 s) == 4)), (130, AVal.str s), (131, iqND (zI s)), (132, AVal.bool (decide ((zI s) < 4))), (133, AVal.tt false), (134, AVal.str s), (135, AVal.int IntKind.u8 (byteAt s 1)), (136, AVal.ptr 0 2 0 0), (137, AVal.int IntKind.u8 (AVal.toInt (ac s))), (138, AVal.bool (decide (byteAt s 1 < AVal.toInt (ac s)))), (139, AVal.bool (decide (byteAt s 1 < AVal.toInt (ac s)))), (140, AVal.tt false), (141, AVal.ptr 0 2 0 1), (142, AVal.int IntKind.u8 (AVal.toInt (ad s))), (143, AVal.str s), (144, AVal.int IntKind.u8 (byteAt s 1)), (145, AVal.bool (decide (AVal.toInt (ad s) < byteAt s 1))), (146, AVal.bool (decide (AVal.toInt (ad s) < byteAt s 1))), (147, AVal.tt true), (148, AVal.tuple []), (149, AVal.tuple []), (150, AVal.tuple []), (151, AVal.tt true), (152, AVal.tt true), (153, AVal.tuple []), (154, AVal.tuple []), (155, AVal.tuple []), (156, AVal.tt true), (157, AVal.tt true), (158, AVal.tuple []), (159, AVal.tuple []), (160, AVal.tuple []), (161, AVal.tt true), (162, AVal.tt true), (163, AVal.tuple []), (164, AVal.tuple []), (165, AVal.tuple []), (166, AVal.tt true)]) ([AObj.rows true 2 [[AVal.int IntKind.u8 (AVal.toInt (ac s)), AVal.int IntKind.u8 (AVal.toInt (ad s))]]]) ([]) (tr 38 ++ ((decide (AVal.toInt (ad s) < byteAt s 1) = true) :: (tr 8 ++ ((decide ((↑0 : Int) ≤ 1 ∧ 1 < (zI s)) = true) :: (tr 9 ++ ((decide (byteAt s 1 < AVal.toInt (ac s)) = false) :: (tr 17 ++ ((decide ((↑0 : Int) ≤ 1 ∧ 1 < (zI s)) = true) :: (tr 2 ++ ((decide ((zI s) < 4) = false) :: (tr 9 ++ (((IntKind.wrap IntKind.i64 (b7 s) == 4) = true) :: (((IntKind.wrap IntKind.i64 (b7 s) == 3) = false) :: (((IntKind.wrap IntKind.i64 (b7 s) == 2) = false) :: (tr 3 ++ ((decide (Int.toNat (Int.fdiv (fb s) 16) * 2 + 2 ≤ 32) = true) :: ((areKinds [Kind.int IntKind.u8, Kind.int IntKind.u8] [List.getD Tabs.acc (Int.toNat (Int.fdiv (fb s) 16) * 2) AVal.any, List.getD Tabs.acc (Int.toNat (Int.fdiv (fb s) 16) * 2 + 1) AVal.any] = true) :: ((decide (0 ≤ Int.fdiv (fb s) 16 ∧ Int.fdiv (fb s) 16 < (↑16 : Int)) = true) :: (tr 2 ++ ((decide (Int.toNat (byteAt s 0) * 1 + 1 ≤ 256) = true) :: ((areKinds [Kind.int IntKind.u8] [List.getD Tabs.first (Int.toNat (byteAt s 0) * 1) AVal.any] = true) :: ((decide (0 ≤ byteAt s 0 ∧ byteAt s 0 < (↑256 : Int)) = true) :: ((decide (byteAt s 0 < 128) = false) :: ((decide ((↑0 : Int) ≤ 0 ∧ 0 < (zI s)) = true) :: ((decide ((zI s) > 0) = true) :: [])))))))))))))))))))))))))) followed (by kernel_rfl) (allP_of (trC 38 ⟨h1, (trC 8 ⟨h2, (trC 9 ⟨h3, (trC 17 ⟨h2, (trC 2 ⟨h4, (trC 9 ⟨h5, ⟨h6, ⟨h7, (trC 3 ⟨h8, ⟨h9, ⟨h10, (trC 2 ⟨h11, ⟨h12, ⟨h13, ⟨h14, ⟨h15, ⟨h16, trivial⟩⟩⟩⟩⟩⟩)⟩⟩⟩)⟩⟩⟩)⟩)⟩)⟩)⟩)⟩)) (keepM 169 [2]) ([]) (by kernel_rfl) (by kernel_rfl) (by kernel_rfl)

theorem vout_19 (s : ByteArray) (t : ByteArray)
    (h1 : decide (byteAt s 2 < 128) = true)
    (h2 : decide ((↑0 : Int) ≤ 2 ∧ 2 < (zI s)) = true)
    (h3 : decide (AVal.toInt (ad s) < byteAt s 1) = false)
    (h4 : decide ((↑0 : Int) ≤ 1 ∧ 1 < (zI s)) = true)
    (h5 : decide (byteAt s 1 < AVal.toInt (ac s)) = false)
    (h6 : decide ((zI s) < 4) = false)
    (h7 : (IntKind.wrap IntKind.i64 (b7 s) == 4) = true)
    (h8 : (IntKind.wrap IntKind.i64 (b7 s) == 3) = false)
    (h9 : (IntKind.wrap IntKind.i64 (b7 s) == 2) = false)
    (h10 : decide (Int.toNat (Int.fdiv (fb s) 16) * 2 + 2 ≤ 32) = true)
    (h11 : areKinds [Kind.int IntKind.u8, Kind.int IntKind.u8] [List.getD Tabs.acc (Int.toNat (Int.fdiv (fb s) 16) * 2) AVal.any, List.getD Tabs.acc (Int.toNat (Int.fdiv (fb s) 16) * 2 + 1) AVal.any] = true)
    (h12 : decide (0 ≤ Int.fdiv (fb s) 16 ∧ Int.fdiv (fb s) 16 < (↑16 : Int)) = true)
    (h13 : decide (Int.toNat (byteAt s 0) * 1 + 1 ≤ 256) = true)
    (h14 : areKinds [Kind.int IntKind.u8] [List.getD Tabs.first (Int.toNat (byteAt s 0) * 1) AVal.any] = true)
    (h15 : decide (0 ≤ byteAt s 0 ∧ byteAt s 0 < (↑256 : Int)) = true)
    (h16 : decide (byteAt s 0 < 128) = false)
    (h17 : decide ((↑0 : Int) ≤ 0 ∧ 0 < (zI s)) = true)
    (h18 : decide ((zI s) > 0) = true) :
    TripN Tryd.prog 0 (loopNo Tryd.f50 0) (rgV s) ([]) (AExit.ret) (mkR 169 [(2, AVal.tt false)]) ([]) :=
  evalT (st := St.mk (rgV s) ([]) ([Dec.br true, Dec.br false, Dec.br false, Dec.br false, Dec.br true, Dec.br false, Dec.br false, Dec.br false, Dec.br true]) []) (st' := St.mk (mkR 169 [(0, AVal.str s), (2, AVal.tt false), (3, AVal.int IntKind.u8 (byteAt s 0)), (4, AVal.int IntKind.u8 (fb s)), (5, iqND (IntKind.wrap IntKind.i64 (b7 s))), (6, AVal.ptr 0 2 0 0), (7, AVal.str s), (8, iqND (zI s)), (9, AVal.tt true), (10, AVal.str s), (11, AVal.int IntKind.u8 (byteAt s 0)), (12, AVal.int IntKind.u8 (byteAt s 0)), (13, AVal.tt false), (65, AVal.int IntKind.u8 (byteAt s 0)), (66, AVal.fptr 256 [Tabs.first] 0 (Int.toNat (byteAt s 0) * 1)), (67, AVal.int IntKind.u8 (fb s)), (68, AVal.int IntKind.u8 (fb s)), (69, AVal.int IntKind.u8 (b7 s)), (70, iqND (IntKind.wrap IntKind.i64 (b7 s))), (71, AVal.int IntKind.u8 (fb s)), (72, AVal.int IntKind.u8 (Int.fdiv (fb s) 16)), (73, AVal.fptr 32 [Tabs.acc] 0 (Int.toNat (Int.fdiv (fb s) 16) * 2)), (74, AVal.agg [AVal.int IntKind.u8 (AVal.toInt (ac s)), AVal.int IntKind.u8 (AVal.toInt (ad s))]), (75, iqND (IntKind.wrap IntKind.i64 (b7 s))), (76, AVal.tt false), (77, AVal.bool (IntKind.wrap IntKind.i64 (b7 s) == 2)), (97, AVal.tt false), (98, AVal.bool (IntKind.wrap IntKind.i64 (b7 s) == 3)), (128, AVal.tt true), (129, AVal.bool (IntKind.wrap IntKind.i64 (b7 s) == 4)), (130, AVal.str s), (131, iqND (zI s)), (132, AVal.bool (decide ((zI s) < 4))), (133, AVal.tt false), (134, AVal.str s), (135, AVal.int IntKind.u8 (byteAt s 1)), (136, AVal.ptr 0 2 0 0), (137, AVal.int IntKind.u8 (AVal.toInt (ac s))), (138, AVal.bool (decide (byteAt s 1 < AVal.toInt (ac s)))), (139, AVal.bool (decide (byteAt s 1 < AVal.toInt (ac s)))), (140, AVal.tt false), (141, AVal.ptr 0 2 0 1), (142, AVal.int IntKind.u8 (AVal.toInt (ad s))), (143, AVal.str s), (144, AVal.int IntKind.u8 (byteAt s 1)), (145, AVal.bool (decide (AVal.toInt (ad s) < byteAt s 1))), (146, AVal.bool (decide (AVal.toInt (ad s) < byteAt s 1))), (147, AVal.tt false), (148, AVal.str s), (149, AVal.int IntKind.u8 (byteAt s 2)), (150, AVal.bool (decide (byteAt s 2 < 128))), (151, AVal.bool (decide (byteAt s 2 < 128))), (152, AVal.tt true), (153, AVal.tuple []), (154, AVal.tuple []), (155, AVal.tuple []), (156, AVal.tt true), (157, AVal.tt true), (158, AVal.tuple []), (159, AVal.tuple []), (160, AVal.tuple []), (161, AVal.tt true), (162, AVal.tt true), (163, AVal.tuple []), (164, AVal.tuple []), (165, AVal.tuple []), (166, AVal.tt true)]) ([AObj.rows true 2 [[AVal.int IntKind.u8 (AVal.toInt (ac s)), AVal.int IntKind.u8 (AVal.toInt (ad s))]]]) ([]) (tr 28 ++ ((decide (byteAt s 2 < 128) = true) :: (tr 8 ++ ((decide ((↑0 : Int) ≤ 2 ∧ 2 < (zI s)) = true) :: (tr 2 ++ ((decide (AVal.toInt (ad s) < byteAt s 1) = false) :: (tr 8 ++ ((decide ((↑0 : Int) ≤ 1 ∧ 1 < (zI s)) = true) :: (tr 9 ++ ((decide (byteAt s 1 < AVal.toInt (ac s)) = false) :: (tr 17 ++ ((decide ((↑0 : Int) ≤ 1 ∧ 1 < (zI s)) = true) :: (tr 2 ++ ((decide ((zI s) < 4) = false) :: (tr 9 ++ (((IntKind.wrap IntKind.i64 (b7 s) == 4) = true) :: (((IntKind.wrap IntKind.i64 (b7 s) == 3) = false) :: (((IntKind.wrap IntKind.i64 (b7 s) == 2) = false) :: (tr 3 ++ ((decide (Int.toNat (Int.fdiv (fb s) 16) * 2 + 2 ≤ 32) = true) :: ((areKinds [Kind.int IntKind.u8, Kind.int IntKind.u8] [List.getD Tabs.acc (Int.toNat (Int.fdiv (fb s) 16) * 2) AVal.any, List.getD Tabs.acc (Int.toNat (Int.fdiv (fb s) 16) * 2 + 1) AVal.any] = true) :: ((decide (0 ≤ Int.fdiv (fb s) 16 ∧ Int.fdiv (fb s) 16 < (↑16 : Int)) = true) :: (tr 2 ++ ((decide (Int.toNat (byteAt s 0) * 1 + 1 ≤ 256) = true) :: ((areKinds [Kind.int IntKind.u8] [List.getD Tabs.first (Int.toNat (byteAt s 0) * 1) AVal.any] = true) :: ((decide (0 ≤ byteAt s 0 ∧ byteAt s 0 < (↑256 : Int)) = true) :: ((decide (byteAt s 0 < 128) = false) :: ((decide ((↑0 : Int) ≤ 0 ∧ 0 < (zI s)) = true) :: ((decide ((zI s) > 0) = true) :: [])))))))))))))))))))))))))))))) followed (by kernel_rfl) (allP_of (trC 28 ⟨h1, (trC 8 ⟨h2, (trC 2 ⟨h3, (trC 8 ⟨h4, (trC 9 ⟨h5, (trC 17 ⟨h4, (trC 2 ⟨h6, (trC 9 ⟨h7, ⟨h8, ⟨h9, (trC 3 ⟨h10, ⟨h11, ⟨h12, (trC 2 ⟨h13, ⟨h14, ⟨h15, ⟨h16, ⟨h17, ⟨h18, trivial⟩⟩⟩⟩⟩⟩)⟩⟩⟩)⟩⟩⟩)⟩)⟩)⟩)⟩)⟩)⟩)⟩)) (keepM 169 [2]) ([]) (by kernel_rfl) (by kernel_rfl) (by kernel_rfl)

theorem vout_20 (s : ByteArray) (t : ByteArray)
    (h1 : decide (191 < byteAt s 2) = true)
    (h2 : decide ((↑0 : Int) ≤ 2 ∧ 2 < (zI s)) = true)
    (h3 : decide (byteAt s 2 < 128) = false)
    (h4 : decide (AVal.toInt (ad s) < byteAt s 1) = false)
    (h5 : decide ((↑0 : Int) ≤ 1 ∧ 1 < (zI s)) = true)
    (h6 : decide (byteAt s 1 < AVal.toInt (ac s)) = false)
    (h7 : decide ((zI s) < 4) = false)
    (h8 : (IntKind.wrap IntKind.i64 (b7 s) == 4) = true)
    (h9 : (IntKind.wrap IntKind.i64 (b7 s) == 3) = false)
    (h10 : (IntKind.wrap IntKind.i64 (b7 s) == 2) = false)
    (h11 : decide (Int.toNat (Int.fdiv (fb s) 16) * 2 + 2 ≤ 32) = true)
    (h12 : areKinds [Kind.int IntKind.u8, Kind.int IntKind.u8] [List.getD Tabs.acc (Int.toNat (Int.fdiv (fb s) 16) * 2) AVal.any, List.getD Tabs.acc (Int.toNat (Int.fdiv (fb s) 16) * 2 + 1) AVal.any] = true)
    (h13 : decide (0 ≤ Int.fdiv (fb s) 16 ∧ Int.fdiv (fb s) 16 < (↑16 : Int)) = true)
    (h14 : decide (Int.toNat (byteAt s 0) * 1 + 1 ≤ 256) = true)
    (h15 : areKinds [Kind.int IntKind.u8] [List.getD Tabs.first (Int.toNat (byteAt s 0) * 1) AVal.any] = true)
    (h16 : decide (0 ≤ byteAt s 0 ∧ byteAt s 0 < (↑256 : Int)) = true)
    (h17 : decide (byteAt s 0 < 128) = false)
    (h18 : decide ((↑0 : Int) ≤ 0 ∧ 0 < (zI s)) = true)
    (h19 : decide ((zI s) > 0) = true) :
    TripN Tryd.prog 0 (loopNo Tryd.f50 0) (rgV s) ([]) (AExit.ret) (mkR 169 [(2, AVal.tt false)]) ([]) :=
  evalT (st := St.mk (rgV s) ([]) ([Dec.br true, Dec.br false, Dec.br false, Dec.br false, Dec.br true, Dec.br false, Dec.br false, Dec.br false, Dec.br false, Dec.br true]) []) (st' := St.mk (mkR 169 [(0, AVal.str s), (2, AVal.tt false), (3, AVal.int IntKind.u8 (byteAt s 0)), (4, AVal.int IntKind.u8 (fb s)), (5, iqND (IntKind.wrap IntKind.i64 (b7 s))), (6, AVal.ptr 0 2 0 0), (7, AVal.str s), (8, iqND (zI s)), (9, AVal.tt true), (10, AVal.str s), (11, AVal.int IntKind.u8 (byteAt s 0)), (12, AVal.int IntKind.u8 (byteAt s 0)), (13, AVal.tt false), (65, AVal.int IntKind.u8 (byteAt s 0)), (66, AVal.fptr 256 [Tabs.first] 0 (Int.toNat (byteAt s 0) * 1)), (67, AVal.int IntKind.u8 (fb s)), (68, AVal.int IntKind.u8 (fb s)), (69, AVal.int IntKind.u8 (b7 s)), (70, iqND (IntKind.wrap IntKind.i64 (b7 s))), (71, AVal.int IntKind.u8 (fb s)), (72, AVal.int IntKind.u8 (Int.fdiv (fb s) 16)), (73, AVal.fptr 32 [Tabs.acc] 0 (Int.toNat (Int.fdiv (fb s) 16) * 2)), (74, AVal.agg [AVal.int IntKind.u8 (AVal.toInt (ac s)), AVal.int IntKind.u8 (AVal.toInt (ad s))]), (75, iqND (IntKind.wrap IntKind.i64 (b7 s))), (76, AVal.tt false), (77, AVal.bool (IntKind.wrap IntKind.i64 (b7 s) == 2)), (97, AVal.tt false), (98, AVal.bool (IntKind.wrap IntKind.i64 (b7 s) == 3)), (128, AVal.tt true), (129, AVal.bool (IntKind.wrap IntKind.i64 (b7 s) == 4)), (130, AVal.str s), (131, iqND (zI s)), (132, AVal.bool (decide ((zI s) < 4))), (133, AVal.tt false), (134, AVal.str s), (135, AVal.int IntKind.u8 (byteAt s 1)), (136, AVal.ptr 0 2 0 0), (137, AVal.int IntKind.u8 (AVal.toInt (ac s))), (138, AVal.bool (decide (byteAt s 1 < AVal.toInt (ac s)))), (139, AVal.bool (decide (byteAt s 1 < AVal.toInt (ac s)))), (140, AVal.tt false), (141, AVal.ptr 0 2 0 1), (142, AVal.int IntKind.u8 (AVal.toInt (ad s))), (143, AVal.str s), (144, AVal.int IntKind.u8 (byteAt s 1)), (145, AVal.bool (decide (AVal.toInt (ad s) < byteAt s 1))), (146, AVal.bool (decide (AVal.toInt (ad s) < byteAt s 1))), (147, AVal.tt false), (148, AVal.str s), (149, AVal.int IntKind.u8 (byteAt s 2)), (150, AVal.bool (decide (byteAt s 2 < 128))), (151, AVal.bool (decide (byteAt s 2 < 128))), (152, AVal.tt false), (153, AVal.str s), (154, AVal.int IntKind.u8 (byteAt s 2)), (155, AVal.bool (decide (191 < byteAt s 2))), (156, AVal.bool (decide (191 < byteAt s 2))), (157, AVal.tt true), (158, AVal.tuple []), (159, AVal.tuple []), (160, AVal.tuple []), (161, AVal.tt true), (162, AVal.tt true), (163, AVal.tuple []), (164, AVal.tuple []), (165, AVal.tuple []), (166, AVal.tt true)]) ([AObj.rows true 2 [[AVal.int IntKind.u8 (AVal.toInt (ac s)), AVal.int IntKind.u8 (AVal.toInt (ad s))]]]) ([]) (tr 18 ++ ((decide (191 < byteAt s 2) = true) :: (tr 8 ++ ((decide ((↑0 : Int) ≤ 2 ∧ 2 < (zI s)) = true) :: (tr 2 ++ ((decide (byteAt s 2 < 128) = false) :: (tr 8 ++ ((decide ((↑0 : Int) ≤ 2 ∧ 2 < (zI s)) = true) :: (tr 2 ++ ((decide (AVal.toInt (ad s) < byteAt s 1) = false) :: (tr 8 ++ ((decide ((↑0 : Int) ≤ 1 ∧ 1 < (zI s)) = true) :: (tr 9 ++ ((decide (byteAt s 1 < AVal.toInt (ac s)) = false) :: (tr 17 ++ ((decide ((↑0 : Int) ≤ 1 ∧ 1 < (zI s)) = true) :: (tr 2 ++ ((decide ((zI s) < 4) = false) :: (tr 9 ++ (((IntKind.wrap IntKind.i64 (b7 s) == 4) = true) :: (((IntKind.wrap IntKind.i64 (b7 s) == 3) = false) :: (((IntKind.wrap IntKind.i64 (b7 s) == 2) = false) :: (tr 3 ++ ((decide (Int.toNat (Int.fdiv (fb s) 16) * 2 + 2 ≤ 32) = true) :: ((areKinds [Kind.int IntKind.u8, Kind.int IntKind.u8] [List.getD Tabs.acc (Int.toNat (Int.fdiv (fb s) 16) * 2) AVal.any, List.getD Tabs.acc (Int.toNat (Int.fdiv (fb s) 16) * 2 + 1) AVal.any] = true) :: ((decide (0 ≤ Int.fdiv (fb s) 16 ∧ Int.fdiv (fb s) 16 < (↑16 : Int)) = true) :: (tr 2 ++ ((decide (Int.toNat (byteAt s 0) * 1 + 1 ≤ 256) = true) :: ((areKinds [Kind.int IntKind.u8] [List.getD Tabs.first (Int.toNat (byteAt s 0) * 1) AVal.any] = true) :: ((decide (0 ≤ byteAt s 0 ∧ byteAt s 0 < (↑256 : Int)) = true) :: ((decide (byteAt s 0 < 128) = false) :: ((decide ((↑0 : Int) ≤ 0 ∧ 0 < (zI s)) = true) :: ((decide ((zI s) > 0) = true) :: [])))))))))))))))))))))))))))))))))) followed (by kernel_rfl) (allP_of (trC 18 ⟨h1, (trC 8 ⟨h2, (trC 2 ⟨h3, (trC 8 ⟨h2, (trC 2 ⟨h4, (trC 8 ⟨h5, (trC 9 ⟨h6, (trC 17 ⟨h5, (trC 2 ⟨h7, (trC 9 ⟨h8, ⟨h9, ⟨h10, (trC 3 ⟨h11, ⟨h12, ⟨h13, (trC 2 ⟨h14, ⟨h15, ⟨h16, ⟨h17, ⟨h18, ⟨h19, trivial⟩⟩⟩⟩⟩⟩)⟩⟩⟩)⟩⟩⟩)⟩)⟩)⟩)⟩)⟩)⟩)⟩)⟩)⟩)) (keepM 169 [2]) ([]) (by kernel_rfl) (by kernel_rfl) (by kernel_rfl)

theorem vout_21 (s : ByteArray) (t : ByteArray)
    (h1 : decide (byteAt s 3 < 128) = true)
    (h2 : decide ((↑0 : Int) ≤ 3 ∧ 3 < (zI s)) = true)
    (h3 : decide (191 < byteAt s 2) = false)
    (h4 : decide ((↑0 : Int) ≤ 2 ∧ 2 < (zI s)) = true)
    (h5 : decide (byteAt s 2 < 128) = false)
    (h6 : decide (AVal.toInt (ad s) < byteAt s 1) = false)
    (h7 : decide ((↑0 : Int) ≤ 1 ∧ 1 < (zI s)) = true)
    (h8 : decide (byteAt s 1 < AVal.toInt (ac s)) = false)
    (h9 : decide ((zI s) < 4) = false)
    (h10 : (IntKind.wrap IntKind.i64 (b7 s) == 4) = true)
    (h11 : (IntKind.wrap IntKind.i64 (b7 s) == 3) = false)
    (h12 : (IntKind.wrap IntKind.i64 (b7 s) == 2) = false)
    (h13 : decide (Int.toNat (Int.fdiv (fb s) 16) * 2 + 2 ≤ 32) = true)
    (h14 : areKinds [Kind.int IntKind.u8, Kind.int IntKind.u8] [List.getD Tabs.acc (Int.toNat (Int.fdiv (fb s) 16) * 2) AVal.any, List.getD Tabs.acc (Int.toNat (Int.fdiv (fb s) 16) * 2 + 1) AVal.any] = true)
    (h15 : decide (0 ≤ Int.fdiv (fb s) 16 ∧ Int.fdiv (fb s) 16 < (↑16 : Int)) = true)
    (h16 : decide (Int.toNat (byteAt s 0) * 1 + 1 ≤ 256) = true)
    (h17 : areKinds [Kind.int IntKind.u8] [List.getD Tabs.first (Int.toNat (byteAt s 0) * 1) AVal.any] = true)
    (h18 : decide (0 ≤ byteAt s 0 ∧ byteAt s 0 < (↑256 : Int)) = true)
    (h19 : decide (byteAt s 0 < 128) = false)
    (h20 : decide ((↑0 : Int) ≤ 0 ∧ 0 < (zI s)) = true)
    (h21 : decide ((zI s) > 0) = true) :
    TripN Tryd.prog 0 (loopNo Tryd.f50 0) (rgV s) ([]) (AExit.ret) (mkR 169 [(2, AVal.tt false)]) ([]) :=
  evalT (st := St.mk (rgV s) ([]) ([Dec.br true, Dec.br false, Dec.br false, Dec.br false, Dec.br true, Dec.br false, Dec.br false, Dec.br false, Dec.br false, Dec.br false, Dec.br true]) []) (st' := St.mk (mkR 169 [(0, AVal.str s), (2, AVal.tt false), (3, AVal.int IntKind.u8 (byteAt s 0)), (4, AVal.int IntKind.u8 (fb s)), (5, iqND (IntKind.wrap IntKind.i64 (b7 s))), (6, AVal.ptr 0 2 0 0), (7, AVal.str s), (8, iqND (zI s)), (9, AVal.tt true), (10, AVal.str s), (11, AVal.int IntKind.u8 (byteAt s 0)), (12, AVal.int IntKind.u8 (byteAt s 0)), (13, AVal.tt false), (65, AVal.int IntKind.u8 (byteAt s 0)), (66, AVal.fptr 256 [Tabs.first] 0 (Int.toNat (byteAt s 0) * 1)), (67, AVal.int IntKind.u8 (fb s)), (68, AVal.int IntKind.u8 (fb s)), (69, AVal.int IntKind.u8 (b7 s)), (70, iqND (IntKind.wrap IntKind.i64 (b7 s))), (71, AVal.int IntKind.u8 (fb s)), (72, AVal.int IntKind.u8 (Int.fdiv (fb s) 16)), (73, AVal.fptr 32 [Tabs.acc] 0 (Int.toNat (Int.fdiv (fb s) 16) * 2)), (74, AVal.agg [AVal.int IntKind.u8 (AVal.toInt (ac s)), AVal.int IntKind.u8 (AVal.toInt (ad s))]), (75, iqND (IntKind.wrap IntKind.i64 (b7 s))), (76, AVal.tt false), (77, AVal.bool (IntKind.wrap IntKind.i64 (b7 s) == 2)), (97, AVal.tt false), (98, AVal.bool (IntKind.wrap IntKind.i64 (b7 s) == 3)), (128, AVal.tt true), (129, AVal.bool (IntKind.wrap IntKind.i64 (b7 s) == 4)), (130, AVal.str s), (131, iqND (zI s)), (132, AVal.bool (decide ((zI s) < 4))), (133, AVal.tt false), (134, AVal.str s), (135, AVal.int IntKind.u8 (byteAt s 1)), (136, AVal.ptr 0 2 0 0), (137, AVal.int IntKind.u8 (AVal.toInt (ac s))), (138, AVal.bool (decide (byteAt s 1 < AVal.toInt (ac s)))), (139, AVal.bool (decide (byteAt s 1 < AVal.toInt (ac s)))), (140, AVal.tt false), (141, AVal.ptr 0 2 0 1), (142, AVal.int IntKind.u8 (AVal.toInt (ad s))), (143, AVal.str s), (144, AVal.int IntKind.u8 (byteAt s 1)), (145, AVal.bool (decide (AVal.toInt (ad s) < byteAt s 1))), (146, AVal.bool (decide (AVal.toInt (ad s) < byteAt s 1))), (147, AVal.tt false), (148, AVal.str s), (149, AVal.int IntKind.u8 (byteAt s 2)), (150, AVal.bool (decide (byteAt s 2 < 128))), (151, AVal.bool (decide (byteAt s 2 < 128))), (152, AVal.tt false), (153, AVal.str s), (154, AVal.int IntKind.u8 (byteAt s 2)), (155, AVal.bool (decide (191 < byteAt s 2))), (156, AVal.bool (decide (191 < byteAt s 2))), (157, AVal.tt false), (158, AVal.str s), (159, AVal.int IntKind.u8 (byteAt s 3)), (160, AVal.bool (decide (byteAt s 3 < 128))), (161, AVal.bool (decide (byteAt s 3 < 128))), (162, AVal.tt true), (163, AVal.tuple []), (164, AVal.tuple []), (165, AVal.tuple []), (166, AVal.tt true)]) ([AObj.rows true 2 [[AVal.int IntKind.u8 (AVal.toInt (ac s)), AVal.int IntKind.u8 (AVal.toInt (ad s))]]]) ([]) (tr 8 ++ ((decide (byteAt s 3 < 128) = true) :: (tr 8 ++ ((decide ((↑0 : Int) ≤ 3 ∧ 3 < (zI s)) = true) :: (tr 2 ++ ((decide (191 < byteAt s 2) = false) :: (tr 8 ++ ((decide ((↑0 : Int) ≤ 2 ∧ 2 < (zI s)) = true) :: (tr 2 ++ ((decide (byteAt s 2 < 128) = false) :: (tr 8 ++ ((decide ((↑0 : Int) ≤ 2 ∧ 2 < (zI s)) = true) :: (tr 2 ++ ((decide (AVal.toInt (ad s) < byteAt s 1) = false) :: (tr 8 ++ ((decide ((↑0 : Int) ≤ 1 ∧ 1 < (zI s)) = true) :: (tr 9 ++ ((decide (byteAt s 1 < AVal.toInt (ac s)) = false) :: (tr 17 ++ ((decide ((↑0 : Int) ≤ 1 ∧ 1 < (zI s)) = true) :: (tr 2 ++ ((decide ((zI s) < 4) = false) :: (tr 9 ++ (((IntKind.wrap IntKind.i64 (b7 s) == 4) = true) :: (((IntKind.wrap IntKind.i64 (b7 s) == 3) = false) :: (((IntKind.wrap IntKind.i64 (b7 s) == 2) = false) :: (tr 3 ++ ((decide (Int.toNat (Int.fdiv (fb s) 16) * 2 + 2 ≤ 32) = true) :: ((areKinds [Kind.int IntKind.u8, Kind.int IntKind.u8] [List.getD Tabs.acc (Int.toNat (Int.fdiv (fb s) 16) * 2) AVal.any, List.getD Tabs.acc (Int.toNat (Int.fdiv (fb s) 16) * 2 + 1) AVal.any] = true) :: ((decide (0 ≤ Int.fdiv (fb s) 16 ∧ Int.fdiv (fb s) 16 < (↑16 : Int)) = true) :: (tr 2 ++ ((decide (Int.toNat (byteAt s 0) * 1 + 1 ≤ 256) = true) :: ((areKinds [Kind.int IntKind.u8] [List.getD Tabs.first (Int.toNat (byteAt s 0) * 1) AVal.any] = true) :: ((decide (0 ≤ byteAt s 0 ∧ byteAt s 0 < (↑256 : Int)) = true) :: ((decide (byteAt s 0 < 128) = false) :: ((decide ((↑0 : Int) ≤ 0 ∧ 0 < (zI s)) = true) :: ((decide ((zI s) > 0) = true) :: [])))))))))))))))))))))))))))))))))))))) followed (by kernel_rfl) (allP_of (trC 8 ⟨h1, (trC 8 ⟨h2, (trC 2 ⟨h3, (trC 8 ⟨h4, (trC 2 ⟨h5, (trC 8 ⟨h4, (trC 2 ⟨h6, (trC 8 ⟨h7, (trC 9 ⟨h8, (trC 17 ⟨h7, (trC 2 ⟨h9, (trC 9 ⟨h10, ⟨h11, ⟨h12, (trC 3 ⟨h13, ⟨h14, ⟨h15, (trC 2 ⟨h16, ⟨h17, ⟨h18, ⟨h19, ⟨h20, ⟨h21, trivial⟩⟩⟩⟩⟩⟩)⟩⟩⟩)⟩⟩⟩)⟩)⟩)⟩)⟩)⟩)⟩)⟩)⟩)⟩)⟩)⟩)) (keepM 169 [2]) ([]) (by kernel_rfl) (by kernel_rfl) (by kernel_rfl)

theorem vout_22 (s : ByteArray) (t : ByteArray)
    (h1 : decide (191 < byteAt s 3) = true)
    (h2 : decide ((↑0 : Int) ≤ 3 ∧ 3 < (zI s)) = true)
    (h3 : decide (byteAt s 3 < 128) = false)
    (h4 : decide (191 < byteAt s 2) = false)
    (h5 : decide ((↑0 : Int) ≤ 2 ∧ 2 < (zI s)) = true)
    (h6 : decide (byteAt s 2 < 128) = false)
    (h7 : decide (AVal.toInt (ad s) < byteAt s 1) = false)
    (h8 : decide ((↑0 : Int) ≤ 1 ∧ 1 < (zI s)) = true)
    (h9 : decide (byteAt s 1 < AVal.toInt (ac s)) = false)
    (h10 : decide ((zI s) < 4) = false)
    (h11 : (IntKind.wrap IntKind.i64 (b7 s) == 4) = true)
    (h12 : (IntKind.wrap IntKind.i64 (b7 s) == 3) = false)
    (h13 : (IntKind.wrap IntKind.i64 (b7 s) == 2) = false)
    (h14 : decide (Int.toNat (Int.fdiv (fb s) 16) * 2 + 2 ≤ 32) = true)
    (h15 : areKinds [Kind.int IntKind.u8, Kind.int IntKind.u8] [List.getD Tabs.acc (Int.toNat (Int.fdiv (fb s) 16) * 2) AVal.any, List.getD Tabs.acc (Int.toNat (Int.fdiv (fb s) 16) * 2 + 1) AVal.any] = true)
    (h16 : decide (0 ≤ Int.fdiv (fb s) 16 ∧ Int.fdiv (fb s) 16 < (↑16 : Int)) = true)
    (h17 : decide (Int.toNat (byteAt s 0) * 1 + 1 ≤ 256) = true)
    (h18 : areKinds [Kind.int IntKind.u8] [List.getD Tabs.first (Int.toNat (byteAt s 0) * 1) AVal.any] = true)
    (h19 : decide (0 ≤ byteAt s 0 ∧ byteAt s 0 < (↑256 : Int)) = true)
    (h20 : decide (byteAt s 0 < 128) = false)
    (h21 : decide ((↑0 : Int) ≤ 0 ∧ 0 < (zI s)) = true)
    (h22 : decide ((zI s) > 0) = true) :
    TripN Tryd.prog 0 (loopNo Tryd.f50 0) (rgV s) ([]) (AExit.ret) (mkR 169 [(2, AVal.tt false)]) ([]) :=
  evalT (st := St.mk (rgV s) ([]) ([Dec.br true, Dec.br false, Dec.br false, Dec.br false, Dec.br true, Dec.br false, Dec.br false, Dec.br false, Dec.br false, Dec.br false, Dec.br false, Dec.br true]) []) (st' := St.mk (mkR 169 [(0, AVal.str s), (2, AVal.tt false), (3, AVal.int IntKind.u8 (byteAt s 0)), (4, AVal.int IntKind.u8 (fb s)), (5, iqND (IntKind.wrap IntKind.i64 (b7 s))), (6, AVal.ptr 0 2 0 0), (7, AVal.str s), (8, iqND (zI s)), (9, AVal.tt true), (10, AVal.str s), (11, AVal.int IntKind.u8 (byteAt s 0)), (12, AVal.int IntKind.u8 (byteAt s 0)), (13, AVal.tt false), (65, AVal.int IntKind.u8 (byteAt s 0)), (66, AVal.fptr 256 [Tabs.first] 0 (Int.toNat (byteAt s 0) * 1)), (67, AVal.int IntKind.u8 (fb s)), (68, AVal.int IntKind.u8 (fb s)), (69, AVal.int IntKind.u8 (b7 s)), (70, iqND (IntKind.wrap IntKind.i64 (b7 s))), (71, AVal.int IntKind.u8 (fb s)), (72, AVal.int IntKind.u8 (Int.fdiv (fb s) 16)), (73, AVal.fptr 32 [Tabs.acc] 0 (Int.toNat (Int.fdiv (fb s) 16) * 2)), (74, AVal.agg [AVal.int IntKind.u8 (AVal.toInt (ac s)), AVal.int IntKind.u8 (AVal.toInt (ad s))]), (75, iqND (IntKind.wrap IntKind.i64 (b7 s))), (76, AVal.tt false), (77, AVal.bool (IntKind.wrap IntKind.i64 (b7 s) == 2)), (97, AVal.tt false), (98, AVal.bool (IntKind.wrap IntKind.i64 (b7 s) == 3)), (128, AVal.tt true), (129, AVal.bool (IntKind.wrap IntKind.i64 (b7 s) == 4)), (130, AVal.str s), (131, iqND (zI s)), (132, AVal.bool (decide ((zI s) < 4))), (133, AVal.tt false), (134, AVal.str s), (135, AVal.int IntKind.u8 (byteAt s 1)), (136, AVal.ptr 0 2 0 0), (137, AVal.int IntKind.u8 (AVal.toInt (ac s))), (138, AVal.bool (decide (byteAt s 1 < AVal.toInt (ac s)))), (139, AVal.bool (decide (byteAt s 1 < AVal.toInt (ac s)))), (140, AVal.tt false), (141, AVal.ptr 0 2 0 1), (142, AVal.int IntKind.u8 (AVal.toInt (ad s))), (143, AVal.str s), (144, AVal.int IntKind.u8 (byteAt s 1)), (145, AVal.bool (decide (AVal.toInt (ad s) < byteAt s 1))), (146, AVal.bool (decide (AVal.toInt (ad s) < byteAt s 1))), (147, AVal.tt false), (148, AVal.str s), (149, AVal.int IntKind.u8 (byteAt s 2)), (150, AVal.bool (decide (byteAt s 2 < 128))), (151, AVal.bool (decide (byteAt s 2 < 128))), (152, AVal.tt false), (153, AVal.str s), (154, AVal.int IntKind.u8 (byteAt s 2)), (155, AVal.bool (decide (191 < byteAt s 2))), (156, AVal.bool (decide (191 < byteAt s 2))), (157, AVal.tt false), (158, AVal.str s), (159, AVal.int IntKind.u8 (byteAt s 3)), (160, AVal.bool (decide (byteAt s 3 < 128))), (161, AVal.bool (decide (byteAt s 3 < 128))), (162, AVal.tt false), (163, AVal.str s), (164, AVal.int IntKind.u8 (byteAt s 3)), (165, AVal.bool (decide (191 < byteAt s 3))), (166, AVal.tt true)]) ([AObj.rows true 2 [[AVal.int IntKind.u8 (AVal.toInt (ac s)), AVal.int IntKind.u8 (AVal.toInt (ad s))]]]) ([]) ((decide (191 < byteAt s 3) = true) :: (tr 6 ++ ((decide ((↑0 : Int) ≤ 3 ∧ 3 < (zI s)) = true) :: (tr 2 ++ ((decide (byteAt s 3 < 128) = false) :: (tr 8 ++ ((decide ((↑0 : Int) ≤ 3 ∧ 3 < (zI s)) = true) :: (tr 2 ++ ((decide (191 < byteAt s 2) = false) :: (tr 8 ++ ((decide ((↑0 : Int) ≤ 2 ∧ 2 < (zI s)) = true) :: (tr 2 ++ ((decide (byteAt s 2 < 128) = false) :: (tr 8 ++ ((decide ((↑0 : Int) ≤ 2 ∧ 2 < (zI s)) = true) :: (tr 2 ++ ((decide (AVal.toInt (ad s) < byteAt s 1) = false) :: (tr 8 ++ ((decide ((↑0 : Int) ≤ 1 ∧ 1 < (zI s)) = true) :: (tr 9 ++ ((decide (byteAt s 1 < AVal.toInt (ac s)) = false) :: (tr 17 ++ ((decide ((↑0 : Int) ≤ 1 ∧ 1 < (zI s)) = true) :: (tr 2 ++ ((decide ((zI s) < 4) = false) :: (tr 9 ++ (((IntKind.wrap IntKind.i64 (b7 s) == 4) = true) :: (((IntKind.wrap IntKind.i64 (b7 s) == 3) = false) :: (((IntKind.wrap IntKind.i64 (b7 s) == 2) = false) :: (tr 3 ++ ((decide (Int.toNat (Int.fdiv (fb s) 16) * 2 + 2 ≤ 32) = true) :: ((areKinds [Kind.int IntKind.u8, Kind.int IntKind.u8] [List.getD Tabs.acc (Int.toNat (Int.fdiv (fb s) 16) * 2) AVal.any, List.getD Tabs.acc (Int.toNat (Int.fdiv (fb s) 16) * 2 + 1) AVal.any] = true) :: ((decide (0 ≤ Int.fdiv (fb s) 16 ∧ Int.fdiv (fb s) 16 < (↑16 : Int)) = true) :: (tr 2 ++ ((decide (Int.toNat (byteAt s 0) * 1 + 1 ≤ 256) = true) :: ((areKinds [Kind.int IntKind.u8] [List.getD Tabs.first (Int.toNat (byteAt s 0) * 1) AVal.any] = true) :: ((decide (0 ≤ byteAt s 0 ∧ byteAt s 0 < (↑256 : Int)) = true) :: ((decide (byteAt s 0 < 128) = false) :: ((decide ((↑0 : Int) ≤ 0 ∧ 0 < (zI s)) = true) :: ((decide ((zI s) > 0) = true) :: []))))))))))))))))))))))))))))))))))))))))) followed (by kernel_rfl) (allP_of ⟨h1, (trC 6 ⟨h2, (trC 2 ⟨h3, (trC 8 ⟨h2, (trC 2 ⟨h4, (trC 8 ⟨h5, (trC 2 ⟨h6, (trC 8 ⟨h5, (trC 2 ⟨h7, (trC 8 ⟨h8, (trC 9 ⟨h9, (trC 17 ⟨h8, (trC 2 ⟨h10, (trC 9 ⟨h11, ⟨h12, ⟨h13, (trC 3 ⟨h14, ⟨h15, ⟨h16, (trC 2 ⟨h17, ⟨h18, ⟨h19, ⟨h20, ⟨h21, ⟨h22, trivial⟩⟩⟩⟩⟩⟩)⟩⟩⟩)⟩⟩⟩)⟩)⟩)⟩)⟩)⟩)⟩)⟩)⟩)⟩)⟩)⟩)⟩)⟩) (keepM 169 [2]) ([]) (by kernel_rfl) (by kernel_rfl) (by kernel_rfl)

theorem vout_23 (s : ByteArray) (t : ByteArray)
    (h1 : decide ((↑0 : Int) ≤ 4 ∧ 4 ≤ (zI s) ∧ (zI s) ≤ (zI s)) = true)
    (h2 : decide (191 < byteAt s 3) = false)
    (h3 : decide ((↑0 : Int) ≤ 3 ∧ 3 < (zI s)) = true)
    (h4 : decide (byteAt s 3 < 128) = false)
    (h5 : decide (191 < byteAt s 2) = false)
    (h6 : decide ((↑0 : Int) ≤ 2 ∧ 2 < (zI s)) = true)
    (h7 : decide (byteAt s 2 < 128) = false)
    (h8 : decide (AVal.toInt (ad s) < byteAt s 1) = false)
    (h9 : decide ((↑0 : Int) ≤ 1 ∧ 1 < (zI s)) = true)
    (h10 : decide (byteAt s 1 < AVal.toInt (ac s)) = false)
    (h11 : decide ((zI s) < 4) = false)
    (h12 : (IntKind.wrap IntKind.i64 (b7 s) == 4) = true)
    (h13 : (IntKind.wrap IntKind.i64 (b7 s) == 3) = false)
    (h14 : (IntKind.wrap IntKind.i64 (b7 s) == 2) = false)
    (h15 : decide (Int.toNat (Int.fdiv (fb s) 16) * 2 + 2 ≤ 32) = true)
    (h16 : areKinds [Kind.int IntKind.u8, Kind.int IntKind.u8] [List.getD Tabs.acc (Int.toNat (Int.fdiv (fb s) 16) * 2) AVal.any, List.getD Tabs.acc (Int.toNat (Int.fdiv (fb s) 16) * 2 + 1) AVal.any] = true)
    (h17 : decide (0 ≤ Int.fdiv (fb s) 16 ∧ Int.fdiv (fb s) 16 < (↑16 : Int)) = true)
    (h18 : decide (Int.toNat (byteAt s 0) * 1 + 1 ≤ 256) = true)
    (h19 : areKinds [Kind.int IntKind.u8] [List.getD Tabs.first (Int.toNat (byteAt s 0) * 1) AVal.any] = true)
    (h20 : decide (0 ≤ byteAt s 0 ∧ byteAt s 0 < (↑256 : Int)) = true)
    (h21 : decide (byteAt s 0 < 128) = false)
    (h22 : decide ((↑0 : Int) ≤ 0 ∧ 0 < (zI s)) = true)
    (h23 : decide ((zI s) > 0) = true) :
    TripN Tryd.prog 0 (loopNo Tryd.f50 0) (rgV s) ([]) (AExit.normal) (mkR 169 [(0, AVal.str (xt s 4))]) ([]) :=
  evalT (st := St.mk (rgV s) ([]) ([Dec.br true, Dec.br false, Dec.br false, Dec.br false, Dec.br true, Dec.br false, Dec.br false, Dec.br false, Dec.br false, Dec.br false, Dec.br false, Dec.br false]) []) (st' := St.mk (mkR 169 [(0, AVal.str (xt s 4)), (3, AVal.int IntKind.u8 (byteAt s 0)), (4, AVal.int IntKind.u8 (fb s)), (5, iqND (IntKind.wrap IntKind.i64 (b7 s))), (6, AVal.ptr 0 2 0 0), (7, AVal.str s), (8, iqND (zI s)), (9, AVal.tt true), (10, AVal.str s), (11, AVal.int IntKind.u8 (byteAt s 0)), (12, AVal.int IntKind.u8 (byteAt s 0)), (13, AVal.tt false), (65, AVal.int IntKind.u8 (byteAt s 0)), (66, AVal.fptr 256 [Tabs.first] 0 (Int.toNat (byteAt s 0) * 1)), (67, AVal.int IntKind.u8 (fb s)), (68, AVal.int IntKind.u8 (fb s)), (69, AVal.int IntKind.u8 (b7 s)), (70, iqND (IntKind.wrap IntKind.i64 (b7 s))), (71, AVal.int IntKind.u8 (fb s)), (72, AVal.int IntKind.u8 (Int.fdiv (fb s) 16)), (73, AVal.fptr 32 [Tabs.acc] 0 (Int.toNat (Int.fdiv (fb s) 16) * 2)), (74, AVal.agg [AVal.int IntKind.u8 (AVal.toInt (ac s)), AVal.int IntKind.u8 (AVal.toInt (ad s))]), (75, iqND (IntKind.wrap IntKind.i64 (b7 s))), (76, AVal.tt false), (77, AVal.bool (IntKind.wrap IntKind.i64 (b7 s) == 2)), (97, AVal.tt false), (98, AVal.bool (IntKind.wrap IntKind.i64 (b7 s) == 3)), (128, AVal.tt true), (129, AVal.bool (IntKind.wrap IntKind.i64 (b7 s) == 4)), (130, AVal.str s), (131, iqND (zI s)), (132, AVal.bool (decide ((zI s) < 4))), (133, AVal.tt false), (134, AVal.str s), (135, AVal.int IntKind.u8 (byteAt s 1)), (136, AVal.ptr 0 2 0 0), (137, AVal.int IntKind.u8 (AVal.toInt (ac s))), (138, AVal.bool (decide (byteAt s 1 < AVal.toInt (ac s)))), (139, AVal.bool (decide (byteAt s 1 < AVal.toInt (ac s)))), (140, AVal.tt false), (141, AVal.ptr 0 2 0 1), (142, AVal.int IntKind.u8 (AVal.toInt (ad s))), (143, AVal.str s), (144, AVal.int IntKind.u8 (byteAt s 1)), (145, AVal.bool (decide (AVal.toInt (ad s) < byteAt s 1))), (146, AVal.bool (decide (AVal.toInt (ad s) < byteAt s 1))), (147, AVal.tt false), (148, AVal.str s), (149, AVal.int IntKind.u8 (byteAt s 2)), (150, AVal.bool (decide (byteAt s 2 < 128))), (151, AVal.bool (decide (byteAt s 2 < 128))), (152, AVal.tt false), (153, AVal.str s), (154, AVal.int IntKind.u8 (byteAt s 2)), (155, AVal.bool (decide (191 < byteAt s 2))), (156, AVal.bool (decide (191 < byteAt s 2))), (157, AVal.tt false), (158, AVal.str s), (159, AVal.int IntKind.u8 (byteAt s 3)), (160, AVal.bool (decide (byteAt s 3 < 128))), (161, AVal.bool (decide (byteAt s 3 < 128))), (162, AVal.tt false), (163, AVal.str s), (164, AVal.int IntKind.u8 (byteAt s 3)), (165, AVal.bool (decide (191 < byteAt s 3))), (166, AVal.tt false), (167, AVal.str s), (168, AVal.str (xt s 4))]) ([AObj.rows true 2 [[AVal.int IntKind.u8 (AVal.toInt (ac s)), AVal.int IntKind.u8 (AVal.toInt (ad s))]]]) ([]) ((decide ((↑0 : Int) ≤ 4 ∧ 4 ≤ (zI s) ∧ (zI s) ≤ (zI s)) = true) :: ((decide (191 < byteAt s 3) = false) :: (tr 6 ++ ((decide ((↑0 : Int) ≤ 3 ∧ 3 < (zI s)) = true) :: (tr 2 ++ ((decide (byteAt s 3 < 128) = false) :: (tr 8 ++ ((decide ((↑0 : Int) ≤ 3 ∧ 3 < (zI s)) = true) :: (tr 2 ++ ((decide (191 < byteAt s 2) = false) :: (tr 8 ++ ((decide ((↑0 : Int) ≤ 2 ∧ 2 < (zI s)) = true) :: (tr 2 ++ ((decide (byteAt s 2 < 128) = false) :: (tr 8 ++ ((decide ((↑0 : Int) ≤ 2 ∧ 2 < (zI s)) = true) :: (tr 2 ++ ((decide (AVal.toInt (ad s) < byteAt s 1) = false) :: (tr 8 ++ ((decide ((↑0 : Int) ≤ 1 ∧ 1 < (zI s)) = true) :: (tr 9 ++ ((decide (byteAt s 1 < AVal.toInt (ac s)) = false) :: (tr 17 ++ ((decide ((↑0 : Int) ≤ 1 ∧ 1 < (zI s)) = true) :: (tr 2 ++ ((decide ((zI s) < 4) = false) :: (tr 9 ++ (((IntKind.wrap IntKind.i64 (b7 s) == 4) = true) :: (((IntKind.wrap IntKind.i64 (b7 s) == 3) = false) :: (((IntKind.wrap IntKind.i64 (b7 s) == 2) = false) :: (tr 3 ++ ((decide (Int.toNat (Int.fdiv (fb s) 16) * 2 + 2 ≤ 32) = true) :: ((areKinds [Kind.int IntKind.u8, Kind.int IntKind.u8] [List.getD Tabs.acc (Int.toNat (Int.fdiv (fb s) 16) * 2) AVal.any, List.getD Tabs.acc (Int.toNat (Int.fdiv (fb s) 16) * 2 + 1) AVal.any] = true) :: ((decide (0 ≤ Int.fdiv (fb s) 16 ∧ Int.fdiv (fb s) 16 < (↑16 : Int)) = true) :: (tr 2 ++ ((decide (Int.toNat (byteAt s 0) * 1 + 1 ≤ 256) = true) :: ((areKinds [Kind.int IntKind.u8] [List.getD Tabs.first (Int.toNat (byteAt s 0) * 1) AVal.any] = true) :: ((decide (0 ≤ byteAt s 0 ∧ byteAt s 0 < (↑256 : Int)) = true) :: ((decide (byteAt s 0 < 128) = false) :: ((decide ((↑0 : Int) ≤ 0 ∧ 0 < (zI s)) = true) :: ((decide ((zI s) > 0) = true) :: [])))))))))))))))))))))))))))))))))))))))))) followed (by kernel_rfl) (allP_of ⟨h1, ⟨h2, (trC 6 ⟨h3, (trC 2 ⟨h4, (trC 8 ⟨h3, (trC 2 ⟨h5, (trC 8 ⟨h6, (trC 2 ⟨h7, (trC 8 ⟨h6, (trC 2 ⟨h8, (trC 8 ⟨h9, (trC 9 ⟨h10, (trC 17 ⟨h9, (trC 2 ⟨h11, (trC 9 ⟨h12, ⟨h13, ⟨h14, (trC 3 ⟨h15, ⟨h16, ⟨h17, (trC 2 ⟨h18, ⟨h19, ⟨h20, ⟨h21, ⟨h22, ⟨h23, trivial⟩⟩⟩⟩⟩⟩)⟩⟩⟩)⟩⟩⟩)⟩)⟩)⟩)⟩)⟩)⟩)⟩)⟩)⟩)⟩)⟩)⟩)⟩⟩) (keepM 169 [0]) ([]) (by kernel_rfl) (by kernel_rfl) (by kernel_rfl)

theorem vout_24 (s : ByteArray) (t : ByteArray)
    (h1 : (IntKind.wrap IntKind.i64 (b7 s) == 4) = false)
    (h2 : (IntKind.wrap IntKind.i64 (b7 s) == 3) = false)
    (h3 : (IntKind.wrap IntKind.i64 (b7 s) == 2) = false)
    (h4 : decide (Int.toNat (Int.fdiv (fb s) 16) * 2 + 2 ≤ 32) = true)
    (h5 : areKinds [Kind.int IntKind.u8, Kind.int IntKind.u8] [List.getD Tabs.acc (Int.toNat (Int.fdiv (fb s) 16) * 2) AVal.any, List.getD Tabs.acc (Int.toNat (Int.fdiv (fb s) 16) * 2 + 1) AVal.any] = true)
    (h6 : decide (0 ≤ Int.fdiv (fb s) 16 ∧ Int.fdiv (fb s) 16 < (↑16 : Int)) = true)
    (h7 : decide (Int.toNat (byteAt s 0) * 1 + 1 ≤ 256) = true)
    (h8 : areKinds [Kind.int IntKind.u8] [List.getD Tabs.first (Int.toNat (byteAt s 0) * 1) AVal.any] = true)
    (h9 : decide (0 ≤ byteAt s 0 ∧ byteAt s 0 < (↑256 : Int)) = true)
    (h10 : decide (byteAt s 0 < 128) = false)
    (h11 : decide ((↑0 : Int) ≤ 0 ∧ 0 < (zI s)) = true)
    (h12 : decide ((zI s) > 0) = true) :
    TripN Tryd.prog 0 (loopNo Tryd.f50 0) (rgV s) ([]) (AExit.ret) (mkR 169 [(2, AVal.tt false)]) ([]) :=
  evalT (st := St.mk (rgV s) ([]) ([Dec.br true, Dec.br false, Dec.br false, Dec.br false, Dec.br false]) []) (st' := St.mk (mkR 169 [(0, AVal.str s), (2, AVal.tt false), (3, AVal.int IntKind.u8 (byteAt s 0)), (4, AVal.int IntKind.u8 (fb s)), (5, iqND (IntKind.wrap IntKind.i64 (b7 s))), (6, AVal.ptr 0 2 0 0), (7, AVal.str s), (8, iqND (zI s)), (9, AVal.tt true), (10, AVal.str s), (11, AVal.int IntKind.u8 (byteAt s 0)), (12, AVal.int IntKind.u8 (byteAt s 0)), (13, AVal.tt false), (65, AVal.int IntKind.u8 (byteAt s 0)), (66, AVal.fptr 256 [Tabs.first] 0 (Int.toNat (byteAt s 0) * 1)), (67, AVal.int IntKind.u8 (fb s)), (68, AVal.int IntKind.u8 (fb s)), (69, AVal.int IntKind.u8 (b7 s)), (70, iqND (IntKind.wrap IntKind.i64 (b7 s))), (71, AVal.int IntKind.u8 (fb s)), (72, AVal.int IntKind.u8 (Int.fdiv (fb s) 16)), (73, AVal.fptr 32 [Tabs.acc] 0 (Int.toNat (Int.fdiv (fb s) 16) * 2)), (74, AVal.agg [AVal.int IntKind.u8 (AVal.toInt (ac s)), AVal.int IntKind.u8 (AVal.toInt (ad s))]), (75, iqND (IntKind.wrap IntKind.i64 (b7 s))), (76, AVal.tt false), (77, AVal.bool (IntKind.wrap IntKind.i64 (b7 s) == 2)), (97, AVal.tt false), (98, AVal.bool (IntKind.wrap IntKind.i64 (b7 s) == 3)), (128, AVal.tt false), (129, AVal.bool (IntKind.wrap IntKind.i64 (b7 s) == 4))]) ([AObj.rows true 2 [[AVal.int IntKind.u8 (AVal.toInt (ac s)), AVal.int IntKind.u8 (AVal.toInt (ad s))]]]) ([]) (((IntKind.wrap IntKind.i64 (b7 s) == 4) = false) :: (((IntKind.wrap IntKind.i64 (b7 s) == 3) = false) :: (((IntKind.wrap IntKind.i64 (b7 s) == 2) = false) :: (tr 3 ++ ((decide (Int.toNat (Int.fdiv (fb s) 16) * 2 + 2 ≤ 32) = true) :: ((areKinds [Kind.int IntKind.u8, Kind.int IntKind.u8] [List.getD Tabs.acc (Int.toNat (Int.fdiv (fb s) 16) * 2) AVal.any, List.getD Tabs.acc (Int.toNat (Int.fdiv (fb s) 16) * 2 + 1) AVal.any] = true) :: ((decide (0 ≤ Int.fdiv (fb s) 16 ∧ Int.fdiv (fb s) 16 < (↑16 : Int)) = true) :: (tr 2 ++ ((decide (Int.toNat (byteAt s 0) * 1 + 1 ≤ 256) = true) :: ((areKinds [Kind.int IntKind.u8] [List.getD Tabs.first (Int.toNat (byteAt s 0) * 1) AVal.any] = true) :: ((decide (0 ≤ byteAt s 0 ∧ byteAt s 0 < (↑256 : Int)) = true) :: ((decide (byteAt s 0 < 128) = false) :: ((decide ((↑0 : Int) ≤ 0 ∧ 0 < (zI s)) = true) :: ((decide ((zI s) > 0) = true) :: []))))))))))))))) followed (by kernel_rfl) (allP_of ⟨h1, ⟨h2, ⟨h3, (trC 3 ⟨h4, ⟨h5, ⟨h6, (trC 2 ⟨h7, ⟨h8, ⟨h9, ⟨h10, ⟨h11, ⟨h12, trivial⟩⟩⟩⟩⟩⟩)⟩⟩⟩)⟩⟩⟩) (keepM 169 [2]) ([]) (by kernel_rfl) (by kernel_rfl) (by kernel_rfl)

theorem vout_25 (s : ByteArray) (t : ByteArray)
    (h1 : decide ((zI s) > 0) = false) :
    TripN Tryd.prog 0 (loopNo Tryd.f50 0) (rgV s) ([]) (AExit.exit 0) (mkR 169 [(0, AVal.str s)]) ([]) :=
  evalT (st := St.mk (rgV s) ([]) ([Dec.br false]) []) (st' := St.mk (mkR 169 [(0, AVal.str s), (7, AVal.str s), (8, iqND (zI s)), (9, AVal.tt false)]) ([]) ([]) ((decide ((zI s) > 0) = false) :: [])) followed (by kernel_rfl) (allP_of ⟨h1, trivial⟩) (keepM 169 [0]) ([]) (by kernel_rfl) (by kernel_rfl) (by kernel_rfl)

def vout_T (s : ByteArray) (t : ByteArray) (Q : AExit → Regs → AState → Prop) : Prop := ((decide ((↑(ByteArray.size s) : Int) > 0) = true) → (decide ((↑0 : Int) ≤ 0 ∧ 0 < (↑(ByteArray.size s) : Int)) = true) ∧ ((decide (byteAt s 0 < 128) = true) → (decide ((↑0 : Int) ≤ 1 ∧ 1 ≤ (↑(ByteArray.size s) : Int) ∧ (↑(ByteArray.size s) : Int) ≤ (↑(ByteArray.size s) : Int)) = true) ∧ ((decide ((↑(ByteArray.size (ByteArray.extract s 1 (Int.toNat (↑(ByteArray.size s) : Int)))) : Int) > 8) = true) → (8 ≤ ByteArray.size (ByteArray.extract s 1 (Int.toNat (↑(ByteArray.size s) : Int)))) ∧ (((bits BinOp.and IntKind.u64 (wd (ByteArray.extract s 1 (Int.toNat (↑(ByteArray.size s) : Int)))) 9259542123273814144 == 0) = true) → (decide ((↑0 : Int) ≤ 8 ∧ 8 ≤ (↑(ByteArray.size (ByteArray.extract s 1 (Int.toNat (↑(ByteArray.size s) : Int)))) : Int) ∧ (↑(ByteArray.size (ByteArray.extract s 1 (Int.toNat (↑(ByteArray.size s) : Int)))) : Int) ≤ (↑(ByteArray.size (ByteArray.extract s 1 (Int.toNat (↑(ByteArray.size s) : Int)))) : Int)) = true) ∧ ((decide ((↑(ByteArray.size (ByteArray.extract (ByteArray.extract s 1 (Int.toNat (↑(ByteArray.size s) : Int))) 8 (Int.toNat (↑(ByteArray.size (ByteArray.extract s 1 (Int.toNat (↑(ByteArray.size s) : Int)))) : Int)))) : Int) > 16) = true) → (8 ≤ ByteArray.size (ByteArray.extract (ByteArray.extract s 1 (Int.toNat (↑(ByteArray.size s) : Int))) 8 (Int.toNat (↑(ByteArray.size (ByteArray.extract s 1 (Int.toNat (↑(ByteArray.size s) : Int)))) : Int)))) ∧ (decide ((↑0 : Int) ≤ 8 ∧ 8 ≤ (↑(ByteArray.size (ByteArray.extract (ByteArray.extract s 1 (Int.toNat (↑(ByteArray.size s) : Int))) 8 (Int.toNat (↑(ByteArray.size (ByteArray.extract s 1 (Int.toNat (↑(ByteArray.size s) : Int)))) : Int)))) : Int) ∧ (↑(ByteArray.size (ByteArray.extract (ByteArray.extract s 1 (Int.toNat (↑(ByteArray.size s) : Int))) 8 (Int.toNat (↑(ByteArray.size (ByteArray.extract s 1 (Int.toNat (↑(ByteArray.size s) : Int)))) : Int)))) : Int) ≤ (↑(ByteArray.size (ByteArray.extract (ByteArray.extract s 1 (Int.toNat (↑(ByteArray.size s) : Int))) 8 (Int.toNat (↑(ByteArray.size (ByteArray.extract s 1 (Int.toNat (↑(ByteArray.size s) : Int)))) : Int)))) : Int)) = true) ∧ (8 ≤ ByteArray.size (ByteArray.extract (ByteArray.extract (ByteArray.extract s 1 (Int.toNat (↑(ByteArray.size s) : Int))) 8 (Int.toNat (↑(ByteArray.size (ByteArray.extract s 1 (Int.toNat (↑(ByteArray.size s) : Int)))) : Int))) 8 (Int.toNat (↑(ByteArray.size (ByteArray.extract (ByteArray.extract s 1 (Int.toNat (↑(ByteArray.size s) : Int))) 8 (Int.toNat (↑(ByteArray.size (ByteArray.extract s 1 (Int.toNat (↑(ByteArray.size s) : Int)))) : Int)))) : Int)))) ∧ (((bits BinOp.and IntKind.u64 (bits BinOp.or IntKind.u64 (wd (ByteArray.extract (ByteArray.extract s 1 (Int.toNat (↑(ByteArray.size s) : Int))) 8 (Int.toNat (↑(ByteArray.size (ByteArray.extract s 1 (Int.toNat (↑(ByteArray.size s) : Int)))) : Int)))) (wd (ByteArray.extract (ByteArray.extract (ByteArray.extract s 1 (Int.toNat (↑(ByteArray.size s) : Int))) 8 (Int.toNat (↑(ByteArray.size (ByteArray.extract s 1 (Int.toNat (↑(ByteArray.size s) : Int)))) : Int))) 8 (Int.toNat (↑(ByteArray.size (ByteArray.extract (ByteArray.extract s 1 (Int.toNat (↑(ByteArray.size s) : Int))) 8 (Int.toNat (↑(ByteArray.size (ByteArray.extract s 1 (Int.toNat (↑(ByteArray.size s) : Int)))) : Int)))) : Int))))) 9259542123273814144 == 0) = true) → (decide ((↑0 : Int) ≤ 16 ∧ 16 ≤ (↑(ByteArray.size (ByteArray.extract (ByteArray.extract s 1 (Int.toNat (↑(ByteArray.size s) : Int))) 8 (Int.toNat (↑(ByteArray.size (ByteArray.extract s 1 (Int.toNat (↑(ByteArray.size s) : Int)))) : Int)))) : Int) ∧ (↑(ByteArray.size (ByteArray.extract (ByteArray.extract s 1 (Int.toNat (↑(ByteArray.size s) : Int))) 8 (Int.toNat (↑(ByteArray.size (ByteArray.extract s 1 (Int.toNat (↑(ByteArray.size s) : Int)))) : Int)))) : Int) ≤ (↑(ByteArray.size (ByteArray.extract (ByteArray.extract s 1 (Int.toNat (↑(ByteArray.size s) : Int))) 8 (Int.toNat (↑(ByteArray.size (ByteArray.extract s 1 (Int.toNat (↑(ByteArray.size s) : Int)))) : Int)))) : Int)) = true) ∧ (TripN Tryd.prog 0 (Code.loop (loopNo Tryd.f50 1)) (mkR 169 [(0, AVal.str (ByteArray.extract (ByteArray.extract (ByteArray.extract s 1 (Int.toNat (↑(ByteArray.size s) : Int))) 8 (Int.toNat (↑(ByteArray.size (ByteArray.extract s 1 (Int.toNat (↑(ByteArray.size s) : Int)))) : Int))) 16 (Int.toNat (↑(ByteArray.size (ByteArray.extract (ByteArray.extract s 1 (Int.toNat (↑(ByteArray.size s) : Int))) 8 (Int.toNat (↑(ByteArray.size (ByteArray.extract s 1 (Int.toNat (↑(ByteArray.size s) : Int)))) : Int)))) : Int))))]) [] (AExit.exit 2) (mkR 169 [(0, AVal.str t)]) []) ∧ Q (AExit.normal) (mkR 169 [(0, AVal.str t)]) ([])) ∧ (((bits BinOp.and IntKind.u64 (bits BinOp.or IntKind.u64 (wd (ByteArray.extract (ByteArray.extract s 1 (Int.toNat (↑(ByteArray.size s) : Int))) 8 (Int.toNat (↑(ByteArray.size (ByteArray.extract s 1 (Int.toNat (↑(ByteArray.size s) : Int)))) : Int)))) (wd (ByteArray.extract (ByteArray.extract (ByteArray.extract s 1 (Int.toNat (↑(ByteArray.size s) : Int))) 8 (Int.toNat (↑(ByteArray.size (ByteArray.extract s 1 (Int.toNat (↑(ByteArray.size s) : Int)))) : Int))) 8 (Int.toNat (↑(ByteArray.size (ByteArray.extract (ByteArray.extract s 1 (Int.toNat (↑(ByteArray.size s) : Int))) 8 (Int.toNat (↑(ByteArray.size (ByteArray.extract s 1 (Int.toNat (↑(ByteArray.size s) : Int)))) : Int)))) : Int))))) 9259542123273814144 == 0) = false) → Q (AExit.normal) (mkR 169 [(0, AVal.str (ByteArray.extract (ByteArray.extract s 1 (Int.toNat (↑(ByteArray.size s) : Int))) 8 (Int.toNat (↑(ByteArray.size (ByteArray.extract s 1 (Int.toNat (↑(ByteArray.size s) : Int)))) : Int))))]) ([]))) ∧ ((decide ((↑(ByteArray.size (ByteArray.extract (ByteArray.extract s 1 (Int.toNat (↑(ByteArray.size s) : Int))) 8 (Int.toNat (↑(ByteArray.size (ByteArray.extract s 1 (Int.toNat (↑(ByteArray.size s) : Int)))) : Int)))) : Int) > 16) = false) → Q (AExit.normal) (mkR 169 [(0, AVal.str (ByteArray.extract (ByteArray.extract s 1 (Int.toNat (↑(ByteArray.size s) : Int))) 8 (Int.toNat (↑(ByteArray.size (ByteArray.extract s 1 (Int.toNat (↑(ByteArray.size s) : Int)))) : Int))))]) ([]))) ∧ (((bits BinOp.and IntKind.u64 (wd (ByteArray.extract s 1 (Int.toNat (↑(ByteArray.size s) : Int)))) 9259542123273814144 == 0) = false) → Q (AExit.normal) (mkR 169 [(0, AVal.str (ByteArray.extract s 1 (Int.toNat (↑(ByteArray.size s) : Int))))]) ([]))) ∧ ((decide ((↑(ByteArray.size (ByteArray.extract s 1 (Int.toNat (↑(ByteArray.size s) : Int)))) : Int) > 8) = false) → Q (AExit.normal) (mkR 169 [(0, AVal.str (ByteArray.extract s 1 (Int.toNat (↑(ByteArray.size s) : Int))))]) ([]))) ∧ ((decide (byteAt s 0 < 128) = false) → (decide (0 ≤ byteAt s 0 ∧ byteAt s 0 < (↑256 : Int)) = true) ∧ (areKinds [Kind.int IntKind.u8] [List.getD Tabs.first (Int.toNat (byteAt s 0) * 1) AVal.any] = true) ∧ (decide (Int.toNat (byteAt s 0) * 1 + 1 ≤ 256) = true) ∧ (decide (0 ≤ Int.fdiv (AVal.toInt (List.getD Tabs.first (Int.toNat (byteAt s 0) * 1) AVal.any)) 16 ∧ Int.fdiv (AVal.toInt (List.getD Tabs.first (Int.toNat (byteAt s 0) * 1) AVal.any)) 16 < (↑16 : Int)) = true) ∧ (areKinds [Kind.int IntKind.u8, Kind.int IntKind.u8] [List.getD Tabs.acc (Int.toNat (Int.fdiv (AVal.toInt (List.getD Tabs.first (Int.toNat (byteAt s 0) * 1) AVal.any)) 16) * 2) AVal.any, List.getD Tabs.acc (Int.toNat (Int.fdiv (AVal.toInt (List.getD Tabs.first (Int.toNat (byteAt s 0) * 1) AVal.any)) 16) * 2 + 1) AVal.any] = true) ∧ (decide (Int.toNat (Int.fdiv (AVal.toInt (List.getD Tabs.first (Int.toNat (byteAt s 0) * 1) AVal.any)) 16) * 2 + 2 ≤ 32) = true) ∧ (((IntKind.wrap IntKind.i64 (bits BinOp.and IntKind.u8 (AVal.toInt (List.getD Tabs.first (Int.toNat (byteAt s 0) * 1) AVal.any)) 7) == 2) = true) → ((decide ((↑(ByteArray.size s) : Int) < 2) = true) → Q (AExit.ret) (mkR 169 [(2, AVal.tt false)]) ([])) ∧ ((decide ((↑(ByteArray.size s) : Int) < 2) = false) → (decide ((↑0 : Int) ≤ 1 ∧ 1 < (↑(ByteArray.size s) : Int)) = true) ∧ ((decide (byteAt s 1 < AVal.toInt (List.getD Tabs.acc (Int.toNat (Int.fdiv (AVal.toInt (List.getD Tabs.first (Int.toNat (byteAt s 0) * 1) AVal.any)) 16) * 2) AVal.any)) = true) → Q (AExit.ret) (mkR 169 [(2, AVal.tt false)]) ([])) ∧ ((decide (byteAt s 1 < AVal.toInt (List.getD Tabs.acc (Int.toNat (Int.fdiv (AVal.toInt (List.getD Tabs.first (Int.toNat (byteAt s 0) * 1) AVal.any)) 16) * 2) AVal.any)) = false) → ((decide (AVal.toInt (List.getD Tabs.acc (Int.toNat (Int.fdiv (AVal.toInt (List.getD Tabs.first (Int.toNat (byteAt s 0) * 1) AVal.any)) 16) * 2 + 1) AVal.any) < byteAt s 1) = true) → Q (AExit.ret) (mkR 169 [(2, AVal.tt false)]) ([])) ∧ ((decide (AVal.toInt (List.getD Tabs.acc (Int.toNat (Int.fdiv (AVal.toInt (List.getD Tabs.first (Int.toNat (byteAt s 0) * 1) AVal.any)) 16) * 2 + 1) AVal.any) < byteAt s 1) = false) → (decide ((↑0 : Int) ≤ 2 ∧ 2 ≤ (↑(ByteArray.size s) : Int) ∧ (↑(ByteArray.size s) : Int) ≤ (↑(ByteArray.size s) : Int)) = true) ∧ Q (AExit.normal) (mkR 169 [(0, AVal.str (ByteArray.extract s 2 (Int.toNat (↑(ByteArray.size s) : Int))))]) ([]))))) ∧ (((IntKind.wrap IntKind.i64 (bits BinOp.and IntKind.u8 (AVal.toInt (List.getD Tabs.first (Int.toNat (byteAt s 0) * 1) AVal.any)) 7) == 2) = false) → (((IntKind.wrap IntKind.i64 (bits BinOp.and IntKind.u8 (AVal.toInt (List.getD Tabs.first (Int.toNat (byteAt s 0) * 1) AVal.any)) 7) == 3) = true) → ((decide ((↑(ByteArray.size s) : Int) < 3) = true) → Q (AExit.ret) (mkR 169 [(2, AVal.tt false)]) ([])) ∧ ((decide ((↑(ByteArray.size s) : Int) < 3) = false) → (decide ((↑0 : Int) ≤ 1 ∧ 1 < (↑(ByteArray.size s) : Int)) = true) ∧ ((decide (byteAt s 1 < AVal.toInt (List.getD Tabs.acc (Int.toNat (Int.fdiv (AVal.toInt (List.getD Tabs.first (Int.toNat (byteAt s 0) * 1) AVal.any)) 16) * 2) AVal.any)) = true) → Q (AExit.ret) (mkR 169 [(2, AVal.tt false)]) ([])) ∧ ((decide (byteAt s 1 < AVal.toInt (List.getD Tabs.acc (Int.toNat (Int.fdiv (AVal.toInt (List.getD Tabs.first (Int.toNat (byteAt s 0) * 1) AVal.any)) 16) * 2) AVal.any)) = false) → ((decide (AVal.toInt (List.getD Tabs.acc (Int.toNat (Int.fdiv (AVal.toInt (List.getD Tabs.first (Int.toNat (byteAt s 0) * 1) AVal.any)) 16) * 2 + 1) AVal.any) < byteAt s 1) = true) → Q (AExit.ret) (mkR 169 [(2, AVal.tt false)]) ([])) ∧ ((decide (AVal.toInt (List.getD Tabs.acc (Int.toNat (Int.fdiv (AVal.toInt (List.getD Tabs.first (Int.toNat (byteAt s 0) * 1) AVal.any)) 16) * 2 + 1) AVal.any) < byteAt s 1) = false) → (decide ((↑0 : Int) ≤ 2 ∧ 2 < (↑(ByteArray.size s) : Int)) = true) ∧ ((decide (byteAt s 2 < 128) = true) → Q (AExit.ret) (mkR 169 [(2, AVal.tt false)]) ([])) ∧ ((decide (byteAt s 2 < 128) = false) → ((decide (191 < byteAt s 2) = true) → Q (AExit.ret) (mkR 169 [(2, AVal.tt false)]) ([])) ∧ ((decide (191 < byteAt s 2) = false) → (decide ((↑0 : Int) ≤ 3 ∧ 3 ≤ (↑(ByteArray.size s) : Int) ∧ (↑(ByteArray.size s) : Int) ≤ (↑(ByteArray.size s) : Int)) = true) ∧ Q (AExit.normal) (mkR 169 [(0, AVal.str (ByteArray.extract s 3 (Int.toNat (↑(ByteArray.size s) : Int))))]) ([]))))))) ∧ (((IntKind.wrap IntKind.i64 (bits BinOp.and IntKind.u8 (AVal.toInt (List.getD Tabs.first (Int.toNat (byteAt s 0) * 1) AVal.any)) 7) == 3) = false) → (((IntKind.wrap IntKind.i64 (bits BinOp.and IntKind.u8 (AVal.toInt (List.getD Tabs.first (Int.toNat (byteAt s 0) * 1) AVal.any)) 7) == 4) = true) → ((decide ((↑(ByteArray.size s) : Int) < 4) = true) → Q (AExit.ret) (mkR 169 [(2, AVal.tt false)]) ([])) ∧ ((decide ((↑(ByteArray.size s) : Int) < 4) = false) → (decide ((↑0 : Int) ≤ 1 ∧ 1 < (↑(ByteArray.size s) : Int)) = true) ∧ ((decide (byteAt s 1 < AVal.toInt (List.getD Tabs.acc (Int.toNat (Int.fdiv (AVal.toInt (List.getD Tabs.first (Int.toNat (byteAt s 0) * 1) AVal.any)) 16) * 2) AVal.any)) = true) → Q (AExit.ret) (mkR 169 [(2, AVal.tt false)]) ([])) ∧ ((decide (byteAt s 1 < AVal.toInt (List.getD Tabs.acc (Int.toNat (Int.fdiv (AVal.toInt (List.getD Tabs.first (Int.toNat (byteAt s 0) * 1) AVal.any)) 16) * 2) AVal.any)) = false) → ((decide (AVal.toInt (List.getD Tabs.acc (Int.toNat (Int.fdiv (AVal.toInt (List.getD Tabs.first (Int.toNat (byteAt s 0) * 1) AVal.any)) 16) * 2 + 1) AVal.any) < byteAt s 1) = true) → Q (AExit.ret) (mkR 169 [(2, AVal.tt false)]) ([])) ∧ ((decide (AVal.toInt (List.getD Tabs.acc (Int.toNat (Int.fdiv (AVal.toInt (List.getD Tabs.first (Int.toNat (byteAt s 0) * 1) AVal.any)) 16) * 2 + 1) AVal.any) < byteAt s 1) = false) → (decide ((↑0 : Int) ≤ 2 ∧ 2 < (↑(ByteArray.size s) : Int)) = true) ∧ ((decide (byteAt s 2 < 128) = true) → Q (AExit.ret) (mkR 169 [(2, AVal.tt false)]) ([])) ∧ ((decide (byteAt s 2 < 128) = false) → ((decide (191 < byteAt s 2) = true) → Q (AExit.ret) (mkR 169 [(2, AVal.tt false)]) ([])) ∧ ((decide (191 < byteAt s 2) = false) → (decide ((↑0 : Int) ≤ 3 ∧ 3 < (↑(ByteArray.size s) : Int)) = true) ∧ ((decide (byteAt s 3 < 128) = true) → Q (AExit.ret) (mkR 169 [(2, AVal.tt false)]) ([])) ∧ ((decide (byteAt s 3 < 128) = false) → ((decide (191 < byteAt s 3) = true) → Q (AExit.ret) (mkR 169 [(2, AVal.tt false)]) ([])) ∧ ((decide (191 < byteAt s 3) = false) → (decide ((↑0 : Int) ≤ 4 ∧ 4 ≤ (↑(ByteArray.size s) : Int) ∧ (↑(ByteArray.size s) : Int) ≤ (↑(ByteArray.size s) : Int)) = true) ∧ Q (AExit.normal) (mkR 169 [(0, AVal.str (ByteArray.extract s 4 (Int.toNat (↑(ByteArray.size s) : Int))))]) ([]))))))))) ∧ (((IntKind.wrap IntKind.i64 (bits BinOp.and IntKind.u8 (AVal.toInt (List.getD Tabs.first (Int.toNat (byteAt s 0) * 1) AVal.any)) 7) == 4) = false) → Q (AExit.ret) (mkR 169 [(2, AVal.tt false)]) ([])))))) ∧ ((decide ((↑(ByteArray.size s) : Int) > 0) = false) → Q (AExit.exit 0) (mkR 169 [(0, AVal.str s)]) ([]))
theorem vout_wp (s : ByteArray) (t : ByteArray) {Q : AExit → Regs → AState → Prop} (h : vout_T s t Q) : ∃ e rg' σ', TripN Tryd.prog 0 (loopNo Tryd.f50 0) (rgV s) ([]) e rg' σ' ∧ Q e rg' σ' :=
  brE (fun (c0 : decide ((zI s) > 0) = true) => brE (fun (c1 : decide (byteAt s 0 < 128) = true) => brE (fun (c2 : decide ((zI (xt s 1)) > 8) = true) => brE (fun (c3 : (bits BinOp.and IntKind.u64 (wd (xt s 1)) 9259542123273814144 == 0) = true) => brE (fun (c4 : decide ((zI (xt (xt s 1) 8)) > 16) = true) => brE (fun (c5 : (bits BinOp.and IntKind.u64 (bits BinOp.or IntKind.u64 (wd (xt (xt s 1) 8)) (wd (xt (xt (xt s 1) 8) 8))) 9259542123273814144 == 0) = true) => ⟨_, _, _, vout_1 s t (((((((h.1 c0).2.1 c1).2.1 c2).2.1 c3).2.1 c4).2.2.2.1 c5).2.1) (((((((h.1 c0).2.1 c1).2.1 c2).2.1 c3).2.1 c4).2.2.2.1 c5).1) (c5) ((((((h.1 c0).2.1 c1).2.1 c2).2.1 c3).2.1 c4).2.2.1) ((((((h.1 c0).2.1 c1).2.1 c2).2.1 c3).2.1 c4).2.1) ((((((h.1 c0).2.1 c1).2.1 c2).2.1 c3).2.1 c4).1) (c4) (((((h.1 c0).2.1 c1).2.1 c2).2.1 c3).1) (c3) ((((h.1 c0).2.1 c1).2.1 c2).1) (c2) (((h.1 c0).2.1 c1).1) (c1) ((h.1 c0).1) (c0), ((((((h.1 c0).2.1 c1).2.1 c2).2.1 c3).2.1 c4).2.2.2.1 c5).2.2⟩) (fun (c5 : (bits BinOp.and IntKind.u64 (bits BinOp.or IntKind.u64 (wd (xt (xt s 1) 8)) (wd (xt (xt (xt s 1) 8) 8))) 9259542123273814144 == 0) = false) => ⟨_, _, _, vout_2 s t (c5) ((((((h.1 c0).2.1 c1).2.1 c2).2.1 c3).2.1 c4).2.2.1) ((((((h.1 c0).2.1 c1).2.1 c2).2.1 c3).2.1 c4).2.1) ((((((h.1 c0).2.1 c1).2.1 c2).2.1 c3).2.1 c4).1) (c4) (((((h.1 c0).2.1 c1).2.1 c2).2.1 c3).1) (c3) ((((h.1 c0).2.1 c1).2.1 c2).1) (c2) (((h.1 c0).2.1 c1).1) (c1) ((h.1 c0).1) (c0), ((((((h.1 c0).2.1 c1).2.1 c2).2.1 c3).2.1 c4).2.2.2.2 c5)⟩)) (fun (c4 : decide ((zI (xt (xt s 1) 8)) > 16) = false) => ⟨_, _, _, vout_3 s t (c4) (((((h.1 c0).2.1 c1).2.1 c2).2.1 c3).1) (c3) ((((h.1 c0).2.1 c1).2.1 c2).1) (c2) (((h.1 c0).2.1 c1).1) (c1) ((h.1 c0).1) (c0), (((((h.1 c0).2.1 c1).2.1 c2).2.1 c3).2.2 c4)⟩)) (fun (c3 : (bits BinOp.and IntKind.u64 (wd (xt s 1)) 9259542123273814144 == 0) = false) => ⟨_, _, _, vout_4 s t (c3) ((((h.1 c0).2.1 c1).2.1 c2).1) (c2) (((h.1 c0).2.1 c1).1) (c1) ((h.1 c0).1) (c0), ((((h.1 c0).2.1 c1).2.1 c2).2.2 c3)⟩)) (fun (c2 : decide ((zI (xt s 1)) > 8) = false) => ⟨_, _, _, vout_5 s t (c2) (((h.1 c0).2.1 c1).1) (c1) ((h.1 c0).1) (c0), (((h.1 c0).2.1 c1).2.2 c2)⟩)) (fun (c1 : decide (byteAt s 0 < 128) = false) => brE (fun (c6 : (IntKind.wrap IntKind.i64 (b7 s) == 2) = true) => brE (fun (c7 : decide ((zI s) < 2) = true) => ⟨_, _, _, vout_6 s t (c7) (c6) (((h.1 c0).2.2 c1).2.2.2.2.2.1) (((h.1 c0).2.2 c1).2.2.2.2.1) (((h.1 c0).2.2 c1).2.2.2.1) (((h.1 c0).2.2 c1).2.2.1) (((h.1 c0).2.2 c1).2.1) (((h.1 c0).2.2 c1).1) (c1) ((h.1 c0).1) (c0), ((((h.1 c0).2.2 c1).2.2.2.2.2.2.1 c6).1 c7)⟩) (fun (c7 : decide ((zI s) < 2) = false) => brE (fun (c8 : decide (byteAt s 1 < AVal.toInt (ac s)) = true) => ⟨_, _, _, vout_7 s t (c8) (((((h.1 c0).2.2 c1).2.2.2.2.2.2.1 c6).2 c7).1) (c7) (c6) (((h.1 c0).2.2 c1).2.2.2.2.2.1) (((h.1 c0).2.2 c1).2.2.2.2.1) (((h.1 c0).2.2 c1).2.2.2.1) (((h.1 c0).2.2 c1).2.2.1) (((h.1 c0).2.2 c1).2.1) (((h.1 c0).2.2 c1).1) (c1) ((h.1 c0).1) (c0), (((((h.1 c0).2.2 c1).2.2.2.2.2.2.1 c6).2 c7).2.1 c8)⟩) (fun (c8 : decide (byteAt s 1 < AVal.toInt (ac s)) = false) => brE (fun (c9 : decide (AVal.toInt (ad s) < byteAt s 1) = true) => ⟨_, _, _, vout_8 s t (c9) (((((h.1 c0).2.2 c1).2.2.2.2.2.2.1 c6).2 c7).1) (c8) (c7) (c6) (((h.1 c0).2.2 c1).2.2.2.2.2.1) (((h.1 c0).2.2 c1).2.2.2.2.1) (((h.1 c0).2.2 c1).2.2.2.1) (((h.1 c0).2.2 c1).2.2.1) (((h.1 c0).2.2 c1).2.1) (((h.1 c0).2.2 c1).1) (c1) ((h.1 c0).1) (c0), ((((((h.1 c0).2.2 c1).2.2.2.2.2.2.1 c6).2 c7).2.2 c8).1 c9)⟩) (fun (c9 : decide (AVal.toInt (ad s) < byteAt s 1) = false) => ⟨_, _, _, vout_9 s t (((((((h.1 c0).2.2 c1).2.2.2.2.2.2.1 c6).2 c7).2.2 c8).2 c9).1) (c9) (((((h.1 c0).2.2 c1).2.2.2.2.2.2.1 c6).2 c7).1) (c8) (c7) (c6) (((h.1 c0).2.2 c1).2.2.2.2.2.1) (((h.1 c0).2.2 c1).2.2.2.2.1) (((h.1 c0).2.2 c1).2.2.2.1) (((h.1 c0).2.2 c1).2.2.1) (((h.1 c0).2.2 c1).2.1) (((h.1 c0).2.2 c1).1) (c1) ((h.1 c0).1) (c0), ((((((h.1 c0).2.2 c1).2.2.2.2.2.2.1 c6).2 c7).2.2 c8).2 c9).2⟩)))) (fun (c6 : (IntKind.wrap IntKind.i64 (b7 s) == 2) = false) => brE (fun (c10 : (IntKind.wrap IntKind.i64 (b7 s) == 3) = true) => brE (fun (c11 : decide ((zI s) < 3) = true) => ⟨_, _, _, vout_10 s t (c11) (c10) (c6) (((h.1 c0).2.2 c1).2.2.2.2.2.1) (((h.1 c0).2.2 c1).2.2.2.2.1) (((h.1 c0).2.2 c1).2.2.2.1) (((h.1 c0).2.2 c1).2.2.1) (((h.1 c0).2.2 c1).2.1) (((h.1 c0).2.2 c1).1) (c1) ((h.1 c0).1) (c0), (((((h.1 c0).2.2 c1).2.2.2.2.2.2.2 c6).1 c10).1 c11)⟩) (fun (c11 : decide ((zI s) < 3) = false) => brE (fun (c12 : decide (byteAt s 1 < AVal.toInt (ac s)) = true) => ⟨_, _, _, vout_11 s t (c12) ((((((h.1 c0).2.2 c1).2.2.2.2.2.2.2 c6).1 c10).2 c11).1) (c11) (c10) (c6) (((h.1 c0).2.2 c1).2.2.2.2.2.1) (((h.1 c0).2.2 c1).2.2.2.2.1) (((h.1 c0).2.2 c1).2.2.2.1) (((h.1 c0).2.2 c1).2.2.1) (((h.1 c0).2.2 c1).2.1) (((h.1 c0).2.2 c1).1) (c1) ((h.1 c0).1) (c0), ((((((h.1 c0).2.2 c1).2.2.2.2.2.2.2 c6).1 c10).2 c11).2.1 c12)⟩) (fun (c12 : decide (byteAt s 1 < AVal.toInt (ac s)) = false) => brE (fun (c13 : decide (AVal.toInt (ad s) < byteAt s 1) = true) => ⟨_, _, _, vout_12 s t (c13) ((((((h.1 c0).2.2 c1).2.2.2.2.2.2.2 c6).1 c10).2 c11).1) (c12) (c11) (c10) (c6) (((h.1 c0).2.2 c1).2.2.2.2.2.1) (((h.1 c0).2.2 c1).2.2.2.2.1) (((h.1 c0).2.2 c1).2.2.2.1) (((h.1 c0).2.2 c1).2.2.1) (((h.1 c0).2.2 c1).2.1) (((h.1 c0).2.2 c1).1) (c1) ((h.1 c0).1) (c0), (((((((h.1 c0).2.2 c1).2.2.2.2.2.2.2 c6).1 c10).2 c11).2.2 c12).1 c13)⟩) (fun (c13 : decide (AVal.toInt (ad s) < byteAt s 1) = false) => brE (fun (c14 : decide (byteAt s 2 < 128) = true) => ⟨_, _, _, vout_13 s t (c14) ((((((((h.1 c0).2.2 c1).2.2.2.2.2.2.2 c6).1 c10).2 c11).2.2 c12).2 c13).1) (c13) ((((((h.1 c0).2.2 c1).2.2.2.2.2.2.2 c6).1 c10).2 c11).1) (c12) (c11) (c10) (c6) (((h.1 c0).2.2 c1).2.2.2.2.2.1) (((h.1 c0).2.2 c1).2.2.2.2.1) (((h.1 c0).2.2 c1).2.2.2.1) (((h.1 c0).2.2 c1).2.2.1) (((h.1 c0).2.2 c1).2.1) (((h.1 c0).2.2 c1).1) (c1) ((h.1 c0).1) (c0), ((((((((h.1 c0).2.2 c1).2.2.2.2.2.2.2 c6).1 c10).2 c11).2.2 c12).2 c13).2.1 c14)⟩) (fun (c14 : decide (byteAt s 2 < 128) = false) => brE (fun (c15 : decide (191 < byteAt s 2) = true) => ⟨_, _, _, vout_14 s t (c15) ((((((((h.1 c0).2.2 c1).2.2.2.2.2.2.2 c6).1 c10).2 c11).2.2 c12).2 c13).1) (c14) (c13) ((((((h.1 c0).2.2 c1).2.2.2.2.2.2.2 c6).1 c10).2 c11).1) (c12) (c11) (c10) (c6) (((h.1 c0).2.2 c1).2.2.2.2.2.1) (((h.1 c0).2.2 c1).2.2.2.2.1) (((h.1 c0).2.2 c1).2.2.2.1) (((h.1 c0).2.2 c1).2.2.1) (((h.1 c0).2.2 c1).2.1) (((h.1 c0).2.2 c1).1) (c1) ((h.1 c0).1) (c0), (((((((((h.1 c0).2.2 c1).2.2.2.2.2.2.2 c6).1 c10).2 c11).2.2 c12).2 c13).2.2 c14).1 c15)⟩) (fun (c15 : decide (191 < byteAt s 2) = false) => ⟨_, _, _, vout_15 s t ((((((((((h.1 c0).2.2 c1).2.2.2.2.2.2.2 c6).1 c10).2 c11).2.2 c12).2 c13).2.2 c14).2 c15).1) (c15) ((((((((h.1 c0).2.2 c1).2.2.2.2.2.2.2 c6).1 c10).2 c11).2.2 c12).2 c13).1) (c14) (c13) ((((((h.1 c0).2.2 c1).2.2.2.2.2.2.2 c6).1 c10).2 c11).1) (c12) (c11) (c10) (c6) (((h.1 c0).2.2 c1).2.2.2.2.2.1) (((h.1 c0).2.2 c1).2.2.2.2.1) (((h.1 c0).2.2 c1).2.2.2.1) (((h.1 c0).2.2 c1).2.2.1) (((h.1 c0).2.2 c1).2.1) (((h.1 c0).2.2 c1).1) (c1) ((h.1 c0).1) (c0), (((((((((h.1 c0).2.2 c1).2.2.2.2.2.2.2 c6).1 c10).2 c11).2.2 c12).2 c13).2.2 c14).2 c15).2⟩)))))) (fun (c10 : (IntKind.wrap IntKind.i64 (b7 s) == 3) = false) => brE (fun (c16 : (IntKind.wrap IntKind.i64 (b7 s) == 4) = true) => brE (fun (c17 : decide ((zI s) < 4) = true) => ⟨_, _, _, vout_16 s t (c17) (c16) (c10) (c6) (((h.1 c0).2.2 c1).2.2.2.2.2.1) (((h.1 c0).2.2 c1).2.2.2.2.1) (((h.1 c0).2.2 c1).2.2.2.1) (((h.1 c0).2.2 c1).2.2.1) (((h.1 c0).2.2 c1).2.1) (((h.1 c0).2.2 c1).1) (c1) ((h.1 c0).1) (c0), ((((((h.1 c0).2.2 c1).2.2.2.2.2.2.2 c6).2 c10).1 c16).1 c17)⟩) (fun (c17 : decide ((zI s) < 4) = false) => brE (fun (c18 : decide (byteAt s 1 < AVal.toInt (ac s)) = true) => ⟨_, _, _, vout_17 s t (c18) (((((((h.1 c0).2.2 c1).2.2.2.2.2.2.2 c6).2 c10).1 c16).2 c17).1) (c17) (c16) (c10) (c6) (((h.1 c0).2.2 c1).2.2.2.2.2.1) (((h.1 c0).2.2 c1).2.2.2.2.1) (((h.1 c0).2.2 c1).2.2.2.1) (((h.1 c0).2.2 c1).2.2.1) (((h.1 c0).2.2 c1).2.1) (((h.1 c0).2.2 c1).1) (c1) ((h.1 c0).1) (c0), (((((((h.1 c0).2.2 c1).2.2.2.2.2.2.2 c6).2 c10).1 c16).2 c17).2.1 c18)⟩) (fun (c18 : decide (byteAt s 1 < AVal.toInt (ac s)) = false) => brE (fun (c19 : decide (AVal.toInt (ad s) < byteAt s 1) = true) => ⟨_, _, _, vout_18 s t (c19) (((((((h.1 c0).2.2 c1).2.2.2.2.2.2.2 c6).2 c10).1 c16).2 c17).1) (c18) (c17) (c16) (c10) (c6) (((h.1 c0).2.2 c1).2.2.2.2.2.1) (((h.1 c0).2.2 c1).2.2.2.2.1) (((h.1 c0).2.2 c1).2.2.2.1) (((h.1 c0).2.2 c1).2.2.1) (((h.1 c0).2.2 c1).2.1) (((h.1 c0).2.2 c1).1) (c1) ((h.1 c0).1) (c0), ((((((((h.1 c0).2.2 c1).2.2.2.2.2.2.2 c6).2 c10).1 c16).2 c17).2.2 c18).1 c19)⟩) (fun (c19 : decide (AVal.toInt (ad s) < byteAt s 1) = false) => brE (fun (c20 : decide (byteAt s 2 < 128) = true) => ⟨_, _, _, vout_19 s t (c20) (((((((((h.1 c0).2.2 c1).2.2.2.2.2.2.2 c6).2 c10).1 c16).2 c17).2.2 c18).2 c19).1) (c19) (((((((h.1 c0).2.2 c1).2.2.2.2.2.2.2 c6).2 c10).1 c16).2 c17).1) (c18) (c17) (c16) (c10) (c6) (((h.1 c0).2.2 c1).2.2.2.2.2.1) (((h.1 c0).2.2 c1).2.2.2.2.1) (((h.1 c0).2.2 c1).2.2.2.1) (((h.1 c0).2.2 c1).2.2.1) (((h.1 c0).2.2 c1).2.1) (((h.1 c0).2.2 c1).1) (c1) ((h.1 c0).1) (c0), (((((((((h.1 c0).2.2 c1).2.2.2.2.2.2.2 c6).2 c10).1 c16).2 c17).2.2 c18).2 c19).2.1 c20)⟩) (fun (c20 : decide (byteAt s 2 < 128) = false) => brE (fun (c21 : decide (191 < byteAt s 2) = true) => ⟨_, _, _, vout_20 s t (c21) (((((((((h.1 c0).2.2 c1).2.2.2.2.2.2.2 c6).2 c10).1 c16).2 c17).2.2 c18).2 c19).1) (c20) (c19) (((((((h.1 c0).2.2 c1).2.2.2.2.2.2.2 c6).2 c10).1 c16).2 c17).1) (c18) (c17) (c16) (c10) (c6) (((h.1 c0).2.2 c1).2.2.2.2.2.1) (((h.1 c0).2.2 c1).2.2.2.2.1) (((h.1 c0).2.2 c1).2.2.2.1) (((h.1 c0).2.2 c1).2.2.1) (((h.1 c0).2.2 c1).2.1) (((h.1 c0).2.2 c1).1) (c1) ((h.1 c0).1) (c0), ((((((((((h.1 c0).2.2 c1).2.2.2.2.2.2.2 c6).2 c10).1 c16).2 c17).2.2 c18).2 c19).2.2 c20).1 c21)⟩) (fun (c21 : decide (191 < byteAt s 2) = false) => brE (fun (c22 : decide (byteAt s 3 < 128) = true) => ⟨_, _, _, vout_21 s t (c22) (((((((((((h.1 c0).2.2 c1).2.2.2.2.2.2.2 c6).2 c10).1 c16).2 c17).2.2 c18).2 c19).2.2 c20).2 c21).1) (c21) (((((((((h.1 c0).2.2 c1).2.2.2.2.2.2.2 c6).2 c10).1 c16).2 c17).2.2 c18).2 c19).1) (c20) (c19) (((((((h.1 c0).2.2 c1).2.2.2.2.2.2.2 c6).2 c10).1 c16).2 c17).1) (c18) (c17) (c16) (c10) (c6) (((h.1 c0).2.2 c1).2.2.2.2.2.1) (((h.1 c0).2.2 c1).2.2.2.2.1) (((h.1 c0).2.2 c1).2.2.2.1) (((h.1 c0).2.2 c1).2.2.1) (((h.1 c0).2.2 c1).2.1) (((h.1 c0).2.2 c1).1) (c1) ((h.1 c0).1) (c0), (((((((((((h.1 c0).2.2 c1).2.2.2.2.2.2.2 c6).2 c10).1 c16).2 c17).2.2 c18).2 c19).2.2 c20).2 c21).2.1 c22)⟩) (fun (c22 : decide (byteAt s 3 < 128) = false) => brE (fun (c23 : decide (191 < byteAt s 3) = true) => ⟨_, _, _, vout_22 s t (c23) (((((((((((h.1 c0).2.2 c1).2.2.2.2.2.2.2 c6).2 c10).1 c16).2 c17).2.2 c18).2 c19).2.2 c20).2 c21).1) (c22) (c21) (((((((((h.1 c0).2.2 c1).2.2.2.2.2.2.2 c6).2 c10).1 c16).2 c17).2.2 c18).2 c19).1) (c20) (c19) (((((((h.1 c0).2.2 c1).2.2.2.2.2.2.2 c6).2 c10).1 c16).2 c17).1) (c18) (c17) (c16) (c10) (c6) (((h.1 c0).2.2 c1).2.2.2.2.2.1) (((h.1 c0).2.2 c1).2.2.2.2.1) (((h.1 c0).2.2 c1).2.2.2.1) (((h.1 c0).2.2 c1).2.2.1) (((h.1 c0).2.2 c1).2.1) (((h.1 c0).2.2 c1).1) (c1) ((h.1 c0).1) (c0), ((((((((((((h.1 c0).2.2 c1).2.2.2.2.2.2.2 c6).2 c10).1 c16).2 c17).2.2 c18).2 c19).2.2 c20).2 c21).2.2 c22).1 c23)⟩) (fun (c23 : decide (191 < byteAt s 3) = false) => ⟨_, _, _, vout_23 s t (((((((((((((h.1 c0).2.2 c1).2.2.2.2.2.2.2 c6).2 c10).1 c16).2 c17).2.2 c18).2 c19).2.2 c20).2 c21).2.2 c22).2 c23).1) (c23) (((((((((((h.1 c0).2.2 c1).2.2.2.2.2.2.2 c6).2 c10).1 c16).2 c17).2.2 c18).2 c19).2.2 c20).2 c21).1) (c22) (c21) (((((((((h.1 c0).2.2 c1).2.2.2.2.2.2.2 c6).2 c10).1 c16).2 c17).2.2 c18).2 c19).1) (c20) (c19) (((((((h.1 c0).2.2 c1).2.2.2.2.2.2.2 c6).2 c10).1 c16).2 c17).1) (c18) (c17) (c16) (c10) (c6) (((h.1 c0).2.2 c1).2.2.2.2.2.1) (((h.1 c0).2.2 c1).2.2.2.2.1) (((h.1 c0).2.2 c1).2.2.2.1) (((h.1 c0).2.2 c1).2.2.1) (((h.1 c0).2.2 c1).2.1) (((h.1 c0).2.2 c1).1) (c1) ((h.1 c0).1) (c0), ((((((((((((h.1 c0).2.2 c1).2.2.2.2.2.2.2 c6).2 c10).1 c16).2 c17).2.2 c18).2 c19).2.2 c20).2 c21).2.2 c22).2 c23).2⟩)))))))) (fun (c16 : (IntKind.wrap IntKind.i64 (b7 s) == 4) = false) => ⟨_, _, _, vout_24 s t (c16) (c10) (c6) (((h.1 c0).2.2 c1).2.2.2.2.2.1) (((h.1 c0).2.2 c1).2.2.2.2.1) (((h.1 c0).2.2 c1).2.2.2.1) (((h.1 c0).2.2 c1).2.2.1) (((h.1 c0).2.2 c1).2.1) (((h.1 c0).2.2 c1).1) (c1) ((h.1 c0).1) (c0), (((((h.1 c0).2.2 c1).2.2.2.2.2.2.2 c6).2 c10).2 c16)⟩))))) (fun (c0 : decide ((zI s) > 0) = false) => ⟨_, _, _, vout_25 s t (c0), (h.2 c0)⟩)


theorem valid_1 (s : ByteArray) (t : ByteArray)
    (h1 : TripN Tryd.prog 0 (Code.loop (loopNo Tryd.f50 0)) (mkR 169 [(0, AVal.str s)]) [] (AExit.exit 0) (mkR 169 [(0, AVal.str t)]) []) :
    FOk Tryd.prog 50 ([AVal.str s]) ([]) (AVal.bool true) ([]) :=
  (evalF_ok followed Tryd.func50 (by kernel_rfl) (show evalF Tryd.prog Tryd.f50 ([AVal.str s]) ([]) ([Dec.compact (keepM 169 [0]) [], Dec.loop (AExit.exit 0) (rgV t) []]) = .ok (FRes.mk (AVal.bool true) ([]) ((Owed.loop (owed Tryd.prog 0) (loopNo Tryd.f50 0) (mkR 169 [(0, AVal.str s)]) [] (AExit.exit 0) (mkR 169 [(0, AVal.str t)]) []) :: [])) by kernel_rfl) (allP_of ⟨h1, trivial⟩)).move ([]) (by kernel_rfl) (by kernel_rfl) (by kernel_rfl)

theorem validR_1 (s : ByteArray)
    (h1 : TripN Tryd.prog 0 (Code.loop (loopNo Tryd.f50 0)) (mkR 169 [(0, AVal.str s)]) [] AExit.ret (mkR 169 [(2, AVal.tt false)]) []) :
    FOk Tryd.prog 50 ([AVal.str s]) ([]) (AVal.bool false) ([]) :=
  (evalF_ok followed Tryd.func50 (by kernel_rfl) (show evalF Tryd.prog Tryd.f50 ([AVal.str s]) ([]) ([Dec.compact (keepM 169 [0]) [], Dec.loop AExit.ret (mkR 169 [(2, AVal.tt false)]) []]) = .ok (FRes.mk (AVal.bool false) ([]) ((Owed.loop (owed Tryd.prog 0) (loopNo Tryd.f50 0) (mkR 169 [(0, AVal.str s)]) [] AExit.ret (mkR 169 [(2, AVal.tt false)]) []) :: [])) by kernel_rfl) (allP_of ⟨h1, trivial⟩)).move ([]) (by kernel_rfl) (by kernel_rfl) (by kernel_rfl)

end Go.MN
end

section
set_option linter.unusedVariables false
set_option linter.unusedSimpArgs false
set_option maxRecDepth 100000
namespace Go.MN
open Go Go.Abs Go.Proofs Go.Lib

abbrev V (s : ByteArray) : Bool := validD (lB s)
abbrev ext (s : ByteArray) (k : Nat) : ByteArray := s.extract k s.size
theorem lB_from (s : ByteArray) (a : Nat) : lB (s.extract a s.size) = (lB s).drop a := by
  rw [lB_extract, List.take_of_length_le (by rw [List.length_drop, lB_length]; exact Nat.le_refl _)]
theorem ext_ext (s : ByteArray) (a b : Nat) : ext (ext s a) b = ext s (a + b) := lB_inj (by rw [lB_from, lB_from, lB_from, List.drop_drop])
theorem ext_sz (s : ByteArray) (a : Nat) : (ext s a).size = s.size - a := ext_size s a
def wn (s : ByteArray) : Nat := leNat [s.get! 0, s.get! 1, s.get! 2, s.get! 3, s.get! 4, s.get! 5, s.get! 6, s.get! 7]
theorem wd_wn (s : ByteArray) : wd s = (wn s : Int) := rfl
theorem wn_lt (s : ByteArray) : wn s < 2 ^ 64 := word_lt s
theorem mask0 {n : Nat} (h : n < 2 ^ 64) (c : (bits .and .u64 (n : Int) 9259542123273814144 == 0) = true) : n &&& 9259542123273814144 = 0 := by
  have := bits_andu h (b := 9259542123273814144) (by decide)
  rw [show bits .and .u64 (n : Int) 9259542123273814144 = _ from this] at c
  have := eq_of_beq c
  omega
theorem skip8 {s : ByteArray} (h : 8 ≤ s.size) (hw : wn s &&& 9259542123273814144 = 0) : V (ext s 8) = V s := valid_skip s 8 ((word_asc s h).1 hw)
theorem or_lt {a b : Nat} (ha : a < 2 ^ 64) (hb : b < 2 ^ 64) : a ||| b < 2 ^ 64 := Nat.or_lt_two_pow ha hb

theorem vin_rounds : ∀ (n : Nat) (s : ByteArray), s.size ≤ n → ∃ t, V t = V s ∧ t.size ≤ s.size ∧ LoopRun Tryd.prog 0 (loopNo Tryd.f50 1) (rgV s) [] (.exit 2) (rgV t) []
  | 0, s, hs => by
    refine ⟨s, rfl, Nat.le_refl _, .done (TripN.wp (vin_wp s ?_)) (by simp)⟩
    unfold vin_T
    exact ⟨fun h => absurd (of_decide_eq_true h) (by omega), fun _ => ⟨rfl, rfl, rfl⟩⟩
  | n + 1, s, hs => by
    by_cases hb : 32 < s.size
    · have o1 := bits_oru (wn_lt s) (wn_lt (ext s 8))
      have o2 := bits_oru (wn_lt (ext s 16)) (wn_lt (ext s 24))
      have o3 := bits_oru (or_lt (wn_lt s) (wn_lt (ext s 8))) (or_lt (wn_lt (ext s 16)) (wn_lt (ext s 24)))
      have hT : ∀ {Q : AExit → Regs → AState → Prop}, ((wn s ||| wn (ext s 8) ||| (wn (ext s 16) ||| wn (ext s 24))) &&& 9259542123273814144 = 0 → Q .normal (rgV (ext s 32)) []) → (((bits .and .u64 ((wn s ||| wn (ext s 8) ||| (wn (ext s 16) ||| wn (ext s 24)) : Nat) : Int) 9259542123273814144 == 0) = false) → Q (.exit 2) (rgV s) []) → vin_T s Q := by
        intro Q h1 h2
        unfold vin_T
        simp only [Int.toNat_natCast, wd_wn]
        rw [o1, o2, o3]
        refine ⟨fun _ => ⟨by omega, decide_eq_true (by omega), by rw [ext_sz]; omega, decide_eq_true (by omega), by rw [ext_sz]; omega, decide_eq_true (by omega), by rw [ext_sz]; omega, fun c => ⟨decide_eq_true (by omega), h1 (mask0 (or_lt (or_lt (wn_lt _) (wn_lt _)) (or_lt (wn_lt _) (wn_lt _))) c)⟩, fun c => h2 c⟩, fun c => absurd (of_decide_eq_false c) (by omega)⟩
      cases hc : (bits .and .u64 ((wn s ||| wn (ext s 8) ||| (wn (ext s 16) ||| wn (ext s 24)) : Nat) : Int) 9259542123273814144 == 0) with
      | true =>
        have hm := mask0 (or_lt (or_lt (wn_lt _) (wn_lt _)) (or_lt (wn_lt _) (wn_lt _))) hc
        rw [or_mask, or_mask, or_mask] at hm
        obtain ⟨⟨m0, m1⟩, m2, m3⟩ := hm
        have e1 : V (ext s 32) = V s := by
          have k1 := skip8 (s := s) (by omega) m0
          have k2 := skip8 (s := ext s 8) (by rw [ext_sz]; omega) m1
          have k3 := skip8 (s := ext s 16) (by rw [ext_sz]; omega) m2
          have k4 := skip8 (s := ext s 24) (by rw [ext_sz]; omega) m3
          rw [ext_ext] at k2 k3 k4
          rw [k4, k3, k2, k1]
        obtain ⟨t, h1, h2, r⟩ := vin_rounds n (ext s 32) (by rw [ext_sz]; omega)
        rw [ext_sz] at h2
        refine ⟨t, h1.trans e1, by omega, .more (TripN.wp (vin_wp s (hT (fun _ => ⟨rfl, rfl, rfl⟩) (fun c => by rw [hc] at c; cases c)))) r⟩
      | false =>
        refine ⟨s, rfl, Nat.le_refl _, .done (TripN.wp (vin_wp s (hT (fun h => ?_) (fun _ => ⟨rfl, rfl, rfl⟩)))) (by simp)⟩
        exfalso
        have := bits_andu (or_lt (or_lt (wn_lt s) (wn_lt (ext s 8))) (or_lt (wn_lt (ext s 16)) (wn_lt (ext s 24)))) (b := 9259542123273814144) (by decide)
        rw [show bits .and .u64 _ 9259542123273814144 = _ from this, h] at hc
        simp at hc
    · refine ⟨s, rfl, Nat.le_refl _, .done (TripN.wp (vin_wp s ?_)) (by simp)⟩
      unfold vin_T
      exact ⟨fun h => absurd (of_decide_eq_true h) (by omega), fun _ => ⟨rfl, rfl, rfl⟩⟩

theorem first_at : ∀ b : Fin 256, (Tabs.first.getD b.val .any).toInt = (firstT b.val : Int) ∧ areKinds [.int .u8] [Tabs.first.getD b.val .any] = true ∧ firstT b.val < 256 ∧ firstT b.val / 16 < 16 := by decide +kernel
theorem acc_at : ∀ i : Fin 16, (Tabs.acc.getD (i.val * 2) .any).toInt = (accLo i.val : Int) ∧ (Tabs.acc.getD (i.val * 2 + 1) .any).toInt = (accHi i.val : Int) ∧ areKinds [.int .u8, .int .u8] [Tabs.acc.getD (i.val * 2) .any, Tabs.acc.getD (i.val * 2 + 1) .any] = true := by decide +kernel
theorem and7u : ∀ x : Fin 256, IntKind.wrap .i64 (bits .and .u8 (x.val : Int) 7) = ((x.val % 8 : Nat) : Int) := by decide +kernel
theorem fdiv16 (n : Nat) : Int.fdiv (n : Int) 16 = ((n / 16 : Nat) : Int) := by
  rw [Int.fdiv_eq_ediv_of_nonneg _ (by omega)]; omega
end Go.MN
end

section
set_option linter.unusedVariables false
set_option linter.unusedSimpArgs false
set_option maxRecDepth 100000
namespace Go.MN
open Go Go.Abs Go.Proofs Go.Lib

abbrev regF : Regs := mkR 169 [(2, .tt false)]
theorem size_list (s : ByteArray) : s.size = (lB s).length := (lB_length s).symm
theorem byteN (s : ByteArray) (k : Nat) : byteAt s (k : Int) = (((lB s).getD k 0).toNat : Int) := by rw [byteAt_lB, Int.toNat_natCast]
theorem vout_key (s : ByteArray) : ∃ t, ∀ {Q : AExit → Regs → AState → Prop}, (∀ s', s'.size < s.size → V s' = V s → Q .normal (rgV s') []) → (V s = false → Q .ret regF []) → (V s = true → Q (.exit 0) (rgV s) []) → vout_T s t Q := by
  obtain ⟨t, t1, t2, tr⟩ := vin_rounds _ (ext s 25) (Nat.le_refl _)
  refine ⟨t, fun {Q} hn hf he => ?_⟩
  by_cases h0 : 0 < s.size
  · have b0 := byteN s 0
    have b1 := byteN s 1
    have b2 := byteN s 2
    have b3 := byteN s 3
    have hne : lB s ≠ [] := by intro c; rw [size_list, c] at h0; simp at h0
    by_cases hb : ((lB s).getD 0 0).toNat < 128
    · have v1 : V (ext s 1) = V s := by
        show validD (lB (ext s 1)) = validD (lB s)
        rw [lB_from]
        cases hl : lB s with
        | nil => exact absurd hl hne
        | cons c r =>
          rw [hl] at hb
          exact (validD_cons c r hb).symm
      unfold vout_T
      simp only [Int.toNat_natCast, wd_wn, ext_ext, show ∀ s a, ByteArray.extract s a s.size = ext s a from fun _ _ => rfl]
      rw [show byteAt s 0 = _ from b0]
      refine ⟨fun _ => ⟨decide_eq_true (by omega), fun _ => ⟨decide_eq_true (by omega), fun c1 => ?_, fun _ => hn _ (by rw [ext_sz]; omega) v1⟩, fun c => absurd (of_decide_eq_false c) (by omega)⟩, fun c => absurd (of_decide_eq_false c) (by omega)⟩
      have c1 := of_decide_eq_true c1
      rw [ext_sz] at c1
      refine ⟨by rw [ext_sz]; omega, fun c2 => ?_, fun _ => hn _ (by rw [ext_sz]; omega) v1⟩
      have v9 : V (ext s 9) = V s := by
        have := skip8 (s := ext s 1) (by rw [ext_sz]; omega) (mask0 (wn_lt _) c2)
        rw [ext_ext] at this
        exact this.trans v1
      refine ⟨decide_eq_true (by rw [ext_sz]; omega), fun c3 => ?_, fun _ => hn _ (by rw [ext_sz]; omega) v9⟩
      have c3 := of_decide_eq_true c3
      rw [ext_sz] at c3
      have o := bits_oru (wn_lt (ext s (1 + 8))) (wn_lt (ext s (1 + 8 + 8)))
      refine ⟨by rw [ext_sz]; omega, decide_eq_true (by rw [ext_sz]; omega), by rw [ext_sz]; omega, fun c4 => ?_, fun _ => hn _ (by rw [ext_sz]; omega) v9⟩
      rw [show bits .or .u64 _ _ = _ from o] at c4
      have m := mask0 (or_lt (wn_lt _) (wn_lt _)) c4
      rw [or_mask] at m
      have k1 := skip8 (s := ext s 9) (by rw [ext_sz]; omega) m.1
      have k2 := skip8 (s := ext s 17) (by rw [ext_sz]; omega) m.2
      rw [ext_ext] at k1 k2
      refine ⟨decide_eq_true (by rw [ext_sz]; omega), tr.trip, hn t ?_ (t1.trans (k2.trans (k1.trans v9)))⟩
      rw [ext_sz] at t2
      omega
    · have h8 := ((lB s).getD 0 0).toNat_lt
      have hv := validD_lead (lB s) hne (by omega)
      obtain ⟨f1, f2, f3, f4⟩ := first_at ⟨((lB s).getD 0 0).toNat, h8⟩
      dsimp only at f1 f2 f3 f4
      obtain ⟨a1, a2, a3⟩ := acc_at ⟨firstT ((lB s).getD 0 0).toNat / 16, f4⟩
      have a7 := and7u ⟨firstT ((lB s).getD 0 0).toNat, f3⟩
      dsimp only at a1 a2 a3 a7
      have hsz := lB_length s
      unfold vout_T
      rw [show byteAt s 0 = _ from b0, show byteAt s 1 = _ from b1, show byteAt s 2 = _ from b2, show byteAt s 3 = _ from b3]
      simp only [Int.toNat_natCast, Nat.mul_one, f1, fdiv16, a1, a2, a7]
      rw [← hsz] at hn h0 ⊢
      have hg : ∀ k, 0 < k → k ≤ (lB s).length → validD ((lB s).drop k) = V s → Q .normal (rgV (s.extract k (lB s).length)) [] := fun k hk hl hvk => hn _ (by rw [hsz]; show (ext s k).size < s.size; rw [ext_sz]; omega) (by rw [hsz]; show validD (lB (ext s k)) = V s; rw [lB_from]; exact hvk)
      clear hn b0 b1 b2 b3 tr t1 t2 f1 a1 a2 a7
      change V s = _ at hv
      generalize ((lB s).getD 0 0).toNat = x0 at *
      generalize ((lB s).getD 1 0).toNat = x1 at *
      generalize ((lB s).getD 2 0).toNat = x2 at *
      generalize ((lB s).getD 3 0).toNat = x3 at *
      generalize accLo (firstT x0 / 16) = lo at *
      generalize accHi (firstT x0 / 16) = hi at *
      generalize hz : firstT x0 % 8 = z at *
      have bad : checkN (lB s).length x1 x2 x3 z lo hi = none → Q .ret regF [] := fun c => hf (by rw [hv, c])
      have good : ∀ k, 0 < k → k ≤ (lB s).length → checkN (lB s).length x1 x2 x3 z lo hi = some k → Q .normal (rgV (s.extract k (lB s).length)) [] := fun k hk hl c => hg k hk hl (by rw [hv, c])
      generalize (lB s).length = N at *
      refine ⟨fun _ => ⟨decide_eq_true (by omega), fun c => absurd (of_decide_eq_true c) (by omega), fun _ => ⟨decide_eq_true (by omega), f2, decide_eq_true (by omega), decide_eq_true (by omega), a3, decide_eq_true (by omega), fun c2 => ?_, fun n2 => ⟨fun c3 => ?_, fun n3 => ⟨fun c4 => ?_, fun n4 => bad ?_⟩⟩⟩⟩, fun c => absurd (of_decide_eq_false c) (by omega)⟩
      · have c2 := eq_of_beq c2
        have e : z = 2 := by omega
        subst e
        refine ⟨fun k => bad ?_, fun k => ⟨decide_eq_true ?_, fun l => bad ?_, fun l => ⟨fun m => bad ?_, fun m => ⟨decide_eq_true ?_, good 2 (by omega) ?_ ?_⟩⟩⟩⟩
        all_goals (try have k1 := of_decide_eq_true k)
        all_goals (try have k2 := of_decide_eq_false k)
        all_goals (try have l1 := of_decide_eq_true l)
        all_goals (try have l2 := of_decide_eq_false l)
        all_goals (try have m1 := of_decide_eq_true m)
        all_goals (try have m2 := of_decide_eq_false m)
        all_goals first | omega | (unfold checkN; rw [if_pos rfl, if_pos (by omega)]) | (unfold checkN; rw [if_pos rfl, if_neg (by omega)])
      · have c3 := eq_of_beq c3
        have e : z = 3 := by omega
        subst e
        refine ⟨fun k => bad ?_, fun k => ⟨decide_eq_true ?_, fun l => bad ?_, fun l => ⟨fun m => bad ?_, fun m => ⟨decide_eq_true ?_, fun o => bad ?_, fun o => ⟨fun p => bad ?_, fun p => ⟨decide_eq_true ?_, good 3 (by omega) ?_ ?_⟩⟩⟩⟩⟩⟩
        all_goals (try have k1 := of_decide_eq_true k)
        all_goals (try have k2 := of_decide_eq_false k)
        all_goals (try have l1 := of_decide_eq_true l)
        all_goals (try have l2 := of_decide_eq_false l)
        all_goals (try have m1 := of_decide_eq_true m)
        all_goals (try have m2 := of_decide_eq_false m)
        all_goals (try have o1 := of_decide_eq_true o)
        all_goals (try have o2 := of_decide_eq_false o)
        all_goals (try have p1 := of_decide_eq_true p)
        all_goals (try have p2 := of_decide_eq_false p)
        all_goals first | omega | (unfold checkN; rw [if_neg (by omega), if_pos rfl, if_pos (by omega)]) | (unfold checkN; rw [if_neg (by omega), if_pos rfl, if_neg (by omega)])
      · have c4 := eq_of_beq c4
        have e : z = 4 := by omega
        subst e
        refine ⟨fun k => bad ?_, fun k => ⟨decide_eq_true ?_, fun l => bad ?_, fun l => ⟨fun m => bad ?_, fun m => ⟨decide_eq_true ?_, fun o => bad ?_, fun o => ⟨fun p => bad ?_, fun p => ⟨decide_eq_true ?_, fun q => bad ?_, fun q => ⟨fun r => bad ?_, fun r => ⟨decide_eq_true ?_, good 4 (by omega) ?_ ?_⟩⟩⟩⟩⟩⟩⟩⟩
        all_goals (try have k1 := of_decide_eq_true k)
        all_goals (try have k2 := of_decide_eq_false k)
        all_goals (try have l1 := of_decide_eq_true l)
        all_goals (try have l2 := of_decide_eq_false l)
        all_goals (try have m1 := of_decide_eq_true m)
        all_goals (try have m2 := of_decide_eq_false m)
        all_goals (try have o1 := of_decide_eq_true o)
        all_goals (try have o2 := of_decide_eq_false o)
        all_goals (try have p1 := of_decide_eq_true p)
        all_goals (try have p2 := of_decide_eq_false p)
        all_goals (try have q1 := of_decide_eq_true q)
        all_goals (try have q2 := of_decide_eq_false q)
        all_goals (try have r1 := of_decide_eq_true r)
        all_goals (try have r2 := of_decide_eq_false r)
        all_goals first | omega | (unfold checkN; rw [if_neg (by omega), if_neg (by omega), if_pos rfl, if_pos (by omega)]) | (unfold checkN; rw [if_neg (by omega), if_neg (by omega), if_pos rfl, if_neg (by omega)])
      · have n2 := beq_eq_false_iff_ne.1 n2
        have n3 := beq_eq_false_iff_ne.1 n3
        have n4 := beq_eq_false_iff_ne.1 n4
        unfold checkN
        rw [if_neg (by omega), if_neg (by omega), if_neg (by omega)]
  · unfold vout_T
    refine ⟨fun c => absurd (of_decide_eq_true c) (by omega), fun _ => he ?_⟩
    have : lB s = [] := List.eq_nil_of_length_eq_zero (by rw [lB_length]; omega)
    show validD (lB s) = true
    rw [this]; rfl
theorem vout_rounds : ∀ (n : Nat) (s : ByteArray), s.size ≤ n → (V s = true → ∃ t, LoopRun Tryd.prog 0 (loopNo Tryd.f50 0) (rgV s) [] (.exit 0) (rgV t) []) ∧ (V s = false → LoopRun Tryd.prog 0 (loopNo Tryd.f50 0) (rgV s) [] .ret regF []) := by
  intro n
  induction n with
  | zero =>
    intro s hs
    obtain ⟨t, hk⟩ := vout_key s
    obtain ⟨e, rg', σ', tr, h⟩ := vout_wp s t (hk (Q := fun e rg' σ' => (∃ s' : ByteArray, e = .normal ∧ s'.size < s.size ∧ V s' = V s ∧ rg' = rgV s' ∧ σ' = []) ∨ (V s = false ∧ e = .ret ∧ rg' = regF ∧ σ' = []) ∨ (V s = true ∧ e = .exit 0 ∧ rg' = rgV s ∧ σ' = [])) (fun s' h1 h2 => .inl ⟨s', rfl, h1, h2, rfl, rfl⟩) (fun h => .inr (.inl ⟨h, rfl, rfl, rfl⟩)) (fun h => .inr (.inr ⟨h, rfl, rfl, rfl⟩)))
    rcases h with ⟨s', rfl, h1, h2, rfl, rfl⟩ | ⟨h, rfl, rfl, rfl⟩ | ⟨h, rfl, rfl, rfl⟩
    · omega
    · exact ⟨fun c => (by rw [h] at c; cases c), fun _ => .done tr (by simp)⟩
    · exact ⟨fun _ => ⟨s, .done tr (by simp)⟩, fun c => (by rw [h] at c; cases c)⟩
  | succ n ih =>
    intro s hs
    obtain ⟨t, hk⟩ := vout_key s
    obtain ⟨e, rg', σ', tr, h⟩ := vout_wp s t (hk (Q := fun e rg' σ' => (∃ s' : ByteArray, e = .normal ∧ s'.size < s.size ∧ V s' = V s ∧ rg' = rgV s' ∧ σ' = []) ∨ (V s = false ∧ e = .ret ∧ rg' = regF ∧ σ' = []) ∨ (V s = true ∧ e = .exit 0 ∧ rg' = rgV s ∧ σ' = [])) (fun s' h1 h2 => .inl ⟨s', rfl, h1, h2, rfl, rfl⟩) (fun h => .inr (.inl ⟨h, rfl, rfl, rfl⟩)) (fun h => .inr (.inr ⟨h, rfl, rfl, rfl⟩)))
    rcases h with ⟨s', rfl, h1, h2, rfl, rfl⟩ | ⟨h, rfl, rfl, rfl⟩ | ⟨h, rfl, rfl, rfl⟩
    · obtain ⟨i1, i2⟩ := ih s' (by omega)
      refine ⟨fun c => ?_, fun c => .more tr (i2 (h2.trans c))⟩
      obtain ⟨u, r⟩ := i1 (h2.trans c)
      exact ⟨u, .more tr r⟩
    · exact ⟨fun c => (by rw [h] at c; cases c), fun _ => .done tr (by simp)⟩
    · exact ⟨fun _ => ⟨s, .done tr (by simp)⟩, fun c => (by rw [h] at c; cases c)⟩
theorem valid_ok (s : ByteArray) : FOk Tryd.prog 50 [.str s] [] (.bool (V s)) [] := by
  obtain ⟨h1, h2⟩ := vout_rounds _ s (Nat.le_refl _)
  cases h : V s with
  | true =>
    obtain ⟨t, r⟩ := h1 h
    exact (valid_1 s t r.trip).imp (Imp.bool rfl)
  | false => exact (validR_1 s (h2 h).trip).imp (Imp.bool rfl)
end Go.MN
end

section
set_option linter.unusedVariables false
set_option maxRecDepth 100000
namespace Go.MN
open Go Go.Abs Go.Proofs Go.Lib Go.Proofs.YtpncnfhfjegibaaDoor

abbrev laidL : List (String × DataW Unit) := [("unicode/utf8.acceptRanges", Rows.laid_unicode_utf8_acceptRanges), ("unicode/utf8.first", Rows.laid_unicode_utf8_first)]
theorem accData : Rows.laid_unicode_utf8_acceptRanges = acceptData := by kernel_rfl
theorem fstData : Rows.laid_unicode_utf8_first = tabData .u8 (Go.Pinned.utf8FirstZ.map fun n : Nat => (n : Int)) := by
  unfold Rows.laid_unicode_utf8_first Go.Pinned.utf8First Go.Pinned.numbers tabData
  rw [List.map_map]; rfl
theorem vrel_row {W : World} {g : Nat} {xs : List Int} {n : Nat} (hn : xs.length = n) (h0 : 0 < n) (hc : ∀ j, j < n → W.cell? ⟨g, j, none⟩ = some (.int .u8 (xs.getD j 0))) :
    VRel (FS.of fun b => b < W.heap.size) W noId (.fptr n [xs.map fun z => .int .u8 z] 0 0) (.pointer (some ⟨g, 0, none⟩)) := by
  have hg : g < W.heap.size := by
    have := hc 0 h0
    unfold World.cell? at this
    cases hk : W.heap[g]? with
    | none => rw [hk] at this; simp at this
    | some o => exact (Array.getElem?_eq_some_iff.1 hk).1
  have e0 : (.pointer (some ⟨g, 0, none⟩) : Value) = .pointer (some ⟨g, 0 + 0 * n + 0, none⟩) := by simp
  rw [e0]
  refine VRel.fptr (F := FS.of fun b => b < W.heap.size) noId n _ 0 0 g 0 (fun _ j => .int .u8 (xs.getD j 0)) hg ?_ ?_ ?_
  · intro i row h
    cases i with
    | zero => cases h; simpa using hn
    | succ i => simp at h
  · intro i j row v h1 h2
    cases i with
    | zero =>
      cases h1
      have hj : j < n := by
        have := (List.getElem?_eq_some_iff.1 h2).1
        simpa [hn] using this
      simpa using hc j hj
    | succ i => simp at h1
  · intro i j row v h1 h2
    cases i with
    | zero =>
      cases h1
      rw [List.getElem?_map] at h2
      obtain ⟨z, hz, rfl⟩ := Option.map_eq_some_iff.1 h2
      have : xs.getD j 0 = z := by rw [List.getD_eq_getElem?_getD, hz]; rfl
      rw [this]
      exact .int _ _ _
    | succ i => simp at h1
theorem gok {W : World} (h : laidMetH Tryd.prog laidL W) : GOk (FS.of fun b => b < W.heap.size) W := by
  rw [MakeChecks.laidMetH_plain _ _ _ (by kernel_rfl)] at h
  have h3 := laidMet.reads h (n := "unicode/utf8.first") (d := Rows.laid_unicode_utf8_first) (by simp [laidL])
  have h4 := laidMet.reads h (n := "unicode/utf8.acceptRanges") (d := Rows.laid_unicode_utf8_acceptRanges) (by simp [laidL])
  rw [fstData] at h3
  rw [accData] at h4
  intro g v hv
  have key : (g = 0 ∧ v = .fptr 256 [Tabs.first] 0 0) ∨ (g = 1 ∧ v = .fptr 32 [Tabs.acc] 0 0) := by
    change (if g = 0 then some (AVal.fptr 256 [Tabs.first] 0 0) else if g = 1 then some (.fptr 32 [Tabs.acc] 0 0) else none) = some v at hv
    by_cases e : g = 0
    · rw [if_pos e] at hv; exact .inl ⟨e, (Option.some.inj hv).symm⟩
    · rw [if_neg e] at hv
      by_cases e1 : g = 1
      · rw [if_pos e1] at hv; exact .inr ⟨e1, (Option.some.inj hv).symm⟩
      · rw [if_neg e1] at hv; cases hv
  rcases key with ⟨rfl, rfl⟩ | ⟨rfl, rfl⟩
  · obtain ⟨g, t, cs, fuel, p, hg, hty, hvar, hd⟩ := h3
    obtain rfl : (0 : Nat) = g := Option.some.inj ((show Tryd.prog.globalNamed "unicode/utf8.first" = some 0 by kernel_rfl).symm.trans hg)
    obtain rfl : (116 : Nat) = t := Option.some.inj ((show (Tryd.prog.globals[0]?).map (·.type) = some 116 by kernel_rfl).symm.trans hty)
    have hcs := cells_of_tab (n := 256) (e := 5) (show Tryd.prog.underlying 116 = some (.array 256 5) by kernel_rfl) (show Tryd.prog.underlying 5 = some (.int .u8) by kernel_rfl) (by kernel_rfl) (by kernel_rfl) hd
    have := vrel_row (W := W) (g := 0) (xs := Go.Pinned.utf8FirstZ.map fun n : Nat => (n : Int)) (n := 256) (by kernel_rfl) (by decide) (fun j hj => by
      rw [World.var?_cell hg hvar j, ← Array.getElem?_toList, hcs, List.getElem?_map]
      have hl : j < (Go.Pinned.utf8FirstZ.map fun n : Nat => (n : Int)).length := by rw [show (Go.Pinned.utf8FirstZ.map fun n : Nat => (n : Int)).length = 256 by kernel_rfl]; exact hj
      rw [List.getElem?_eq_getElem hl, List.getD_eq_getElem?_getD, List.getElem?_eq_getElem hl]; rfl)
    rw [List.map_map] at this
    have e : Tabs.first = List.map ((fun z => AVal.int .u8 z) ∘ fun n : Nat => (n : Int)) Go.Pinned.utf8FirstZ := rfl
    rw [e]
    exact this
  · obtain ⟨g, t, cs, fuel, p, hg, hty, hvar, hd⟩ := h4
    obtain rfl : (1 : Nat) = g := Option.some.inj ((show Tryd.prog.globalNamed "unicode/utf8.acceptRanges" = some 1 by kernel_rfl).symm.trans hg)
    obtain rfl : (119 : Nat) = t := Option.some.inj ((show (Tryd.prog.globals[1]?).map (·.type) = some 119 by kernel_rfl).symm.trans hty)
    have cell : ∀ i, i < 16 → W.cell? ⟨1, 2 * i, none⟩ = some (.int .u8 (accLo i : Int)) ∧ W.cell? ⟨1, 2 * i + 1, none⟩ = some (.int .u8 (accHi i : Int)) := by
      intro i hi
      obtain ⟨fuel', d, q, hdi, he⟩ := array_elem (n := 16) (e := 118) (show Tryd.prog.underlying 119 = some (.array 16 118) by kernel_rfl) hd i hi
      simp only [List.getElem?_map, List.getElem?_range hi, Option.map_some, Option.some.injEq] at hdi
      subst hdi
      rw [show Tryd.prog.cellsOf 118 = 2 by kernel_rfl] at he
      have u5 : Tryd.prog.underlying 5 = some (.int .u8) := by kernel_rfl
      have c5 : Tryd.prog.cellsOf 5 = 1 := by kernel_rfl
      have hcs := ints_of_struct (show Tryd.prog.underlying 118 = some (.struct #[{ name := "lo", type := 5, offset := 0, embedded := false, tag := "", pkgPath := "unicode/utf8", byteOffset := 0 }, { name := "hi", type := 5, offset := 1, embedded := false, tag := "", pkgPath := "unicode/utf8", byteOffset := 1 }]) by kernel_rfl) (fun j f hj => by
        match j, hj with
        | 0, hj => simp at hj; subst hj; exact ⟨u5, rfl, c5⟩
        | 1, hj => simp at hj; subst hj; exact ⟨u5, rfl, c5⟩
        | j + 2, hj => simp at hj) (by kernel_rfl) he
      have e0 := congrArg (·[0]?) hcs
      have e1 := congrArg (·[1]?) hcs
      simp only [List.getElem?_take, List.getElem?_drop] at e0 e1
      constructor
      · rw [World.var?_cell hg hvar (2 * i), ← Array.getElem?_toList]
        simpa [Nat.mul_comm] using e0
      · rw [World.var?_cell hg hvar (2 * i + 1), ← Array.getElem?_toList]
        simpa [Nat.mul_comm] using e1
    have ht : ∀ j : Fin 32, ((([128, 191, 160, 191, 128, 159, 144, 191, 128, 143, 0, 0, 0, 0, 0, 0, 0, 0, 0, 0, 0, 0, 0, 0, 0, 0, 0, 0, 0, 0, 0, 0] : List Int).getD j.val 0) = if j.val % 2 = 0 then (accLo (j.val / 2) : Int) else (accHi (j.val / 2) : Int)) := by decide +kernel
    exact vrel_row (W := W) (g := 1) (n := 32) rfl (by decide) (fun j hj => by
      rw [ht ⟨j, hj⟩]
      dsimp only
      obtain ⟨a, b⟩ := cell (j / 2) (by omega)
      by_cases hm : j % 2 = 0
      · rw [if_pos hm, ← a]; congr 2; omega
      · rw [if_neg hm, ← b]; congr 2; omega)
end Go.MN
end

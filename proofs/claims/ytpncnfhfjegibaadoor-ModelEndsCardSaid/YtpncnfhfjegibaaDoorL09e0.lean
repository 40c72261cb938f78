import Derived.Test.YtpncnfhfjegibaaDoorProg
import GoSem.PinnedTables
import Derived.Lib.ValidAsc
import Derived.Test.YtpncnfhfjegibaaDoorRows
import Derived.Lib.LaidU8
import Derived.Lay
import Derived.MakeChecks
import Derived.Test.YtpncnfhfjegibaaDoorAbsI
section
set_option linter.unusedVariables false
set_option maxRecDepth 100000
namespace Go.MN
open Go Go.Abs Go.Proofs
def Tabs.first : List AVal := Go.Pinned.utf8FirstZ.map fun n : Nat => .int .u8 (n : Int)
def Tabs.acc : List AVal := [128, 191, 160, 191, 128, 159, 144, 191, 128, 143, 0, 0, 0, 0, 0, 0, 0, 0, 0, 0, 0, 0, 0, 0, 0, 0, 0, 0, 0, 0, 0, 0].map fun n : Int => .int .u8 n
@[reducible] def tabs : Glob := ⟨fun g => if g = 0 then some (.fptr 256 [Tabs.first] 0 0) else if g = 1 then some (.fptr 32 [Tabs.acc] 0 0) else none, []⟩
instance : Glob := tabs

theorem followed : Tryd.prog.follows .mixedOrders = true := by kernel_rfl

theorem word_1 (s : ByteArray)
    (h1 : decide ((↑0 : Int) ≤ 7 ∧ 7 < (↑(ByteArray.size s) : Int)) = true)
    (h2 : decide ((↑0 : Int) ≤ 6 ∧ 6 < (↑(ByteArray.size s) : Int)) = true)
    (h3 : decide ((↑0 : Int) ≤ 5 ∧ 5 < (↑(ByteArray.size s) : Int)) = true)
    (h4 : decide ((↑0 : Int) ≤ 4 ∧ 4 < (↑(ByteArray.size s) : Int)) = true)
    (h5 : decide ((↑0 : Int) ≤ 3 ∧ 3 < (↑(ByteArray.size s) : Int)) = true)
    (h6 : decide ((↑0 : Int) ≤ 2 ∧ 2 < (↑(ByteArray.size s) : Int)) = true)
    (h7 : decide ((↑0 : Int) ≤ 1 ∧ 1 < (↑(ByteArray.size s) : Int)) = true)
    (h8 : decide ((↑0 : Int) ≤ 0 ∧ 0 < (↑(ByteArray.size s) : Int)) = true) :
    FOk Tryd.prog 70 ([AVal.str s]) ([]) (AVal.int IntKind.u64 (bits BinOp.or IntKind.u64 (bits BinOp.or IntKind.u64 (bits BinOp.or IntKind.u64 (bits BinOp.or IntKind.u64 (bits BinOp.or IntKind.u64 (bits BinOp.or IntKind.u64 (bits BinOp.or IntKind.u64 (IntKind.wrap IntKind.u64 (byteAt s 0)) (IntKind.wrap IntKind.u64 (IntKind.wrap IntKind.u64 (byteAt s 1) * 256))) (IntKind.wrap IntKind.u64 (IntKind.wrap IntKind.u64 (byteAt s 2) * 65536))) (IntKind.wrap IntKind.u64 (IntKind.wrap IntKind.u64 (byteAt s 3) * 16777216))) (IntKind.wrap IntKind.u64 (IntKind.wrap IntKind.u64 (byteAt s 4) * 4294967296))) (IntKind.wrap IntKind.u64 (IntKind.wrap IntKind.u64 (byteAt s 5) * 1099511627776))) (IntKind.wrap IntKind.u64 (IntKind.wrap IntKind.u64 (byteAt s 6) * 281474976710656))) (IntKind.wrap IntKind.u64 (IntKind.wrap IntKind.u64 (byteAt s 7) * 72057594037927936)))) ([]) :=
  (evalF_ok followed Tryd.func70 (by kernel_rfl) (show evalF Tryd.prog Tryd.f70 ([AVal.str s]) ([]) ([]) = .ok (FRes.mk (AVal.int IntKind.u64 (bits BinOp.or IntKind.u64 (bits BinOp.or IntKind.u64 (bits BinOp.or IntKind.u64 (bits BinOp.or IntKind.u64 (bits BinOp.or IntKind.u64 (bits BinOp.or IntKind.u64 (bits BinOp.or IntKind.u64 (IntKind.wrap IntKind.u64 (byteAt s 0)) (IntKind.wrap IntKind.u64 (IntKind.wrap IntKind.u64 (byteAt s 1) * 256))) (IntKind.wrap IntKind.u64 (IntKind.wrap IntKind.u64 (byteAt s 2) * 65536))) (IntKind.wrap IntKind.u64 (IntKind.wrap IntKind.u64 (byteAt s 3) * 16777216))) (IntKind.wrap IntKind.u64 (IntKind.wrap IntKind.u64 (byteAt s 4) * 4294967296))) (IntKind.wrap IntKind.u64 (IntKind.wrap IntKind.u64 (byteAt s 5) * 1099511627776))) (IntKind.wrap IntKind.u64 (IntKind.wrap IntKind.u64 (byteAt s 6) * 281474976710656))) (IntKind.wrap IntKind.u64 (IntKind.wrap IntKind.u64 (byteAt s 7) * 72057594037927936)))) ([]) (tr 11 ++ ((decide ((↑0 : Int) ≤ 7 ∧ 7 < (↑(ByteArray.size s) : Int)) = true) :: (tr 11 ++ ((decide ((↑0 : Int) ≤ 6 ∧ 6 < (↑(ByteArray.size s) : Int)) = true) :: (tr 11 ++ ((decide ((↑0 : Int) ≤ 5 ∧ 5 < (↑(ByteArray.size s) : Int)) = true) :: (tr 11 ++ ((decide ((↑0 : Int) ≤ 4 ∧ 4 < (↑(ByteArray.size s) : Int)) = true) :: (tr 11 ++ ((decide ((↑0 : Int) ≤ 3 ∧ 3 < (↑(ByteArray.size s) : Int)) = true) :: (tr 11 ++ ((decide ((↑0 : Int) ≤ 2 ∧ 2 < (↑(ByteArray.size s) : Int)) = true) :: (tr 11 ++ ((decide ((↑0 : Int) ≤ 1 ∧ 1 < (↑(ByteArray.size s) : Int)) = true) :: (tr 6 ++ ((decide ((↑0 : Int) ≤ 0 ∧ 0 < (↑(ByteArray.size s) : Int)) = true) :: (tr 3 ++ [])))))))))))))))))) by kernel_rfl) (allP_of (trC 11 ⟨h1, (trC 11 ⟨h2, (trC 11 ⟨h3, (trC 11 ⟨h4, (trC 11 ⟨h5, (trC 11 ⟨h6, (trC 11 ⟨h7, (trC 6 ⟨h8, (trC 3 trivial)⟩)⟩)⟩)⟩)⟩)⟩)⟩)⟩))).move ([]) (by kernel_rfl) (by kernel_rfl) (by kernel_rfl)

def word_T (s : ByteArray) (Q : AVal → AState → Prop) : Prop := (decide ((↑0 : Int) ≤ 0 ∧ 0 < (↑(ByteArray.size s) : Int)) = true) ∧ (decide ((↑0 : Int) ≤ 1 ∧ 1 < (↑(ByteArray.size s) : Int)) = true) ∧ (decide ((↑0 : Int) ≤ 2 ∧ 2 < (↑(ByteArray.size s) : Int)) = true) ∧ (decide ((↑0 : Int) ≤ 3 ∧ 3 < (↑(ByteArray.size s) : Int)) = true) ∧ (decide ((↑0 : Int) ≤ 4 ∧ 4 < (↑(ByteArray.size s) : Int)) = true) ∧ (decide ((↑0 : Int) ≤ 5 ∧ 5 < (↑(ByteArray.size s) : Int)) = true) ∧ (decide ((↑0 : Int) ≤ 6 ∧ 6 < (↑(ByteArray.size s) : Int)) = true) ∧ (decide ((↑0 : Int) ≤ 7 ∧ 7 < (↑(ByteArray.size s) : Int)) = true) ∧ Q (AVal.int IntKind.u64 (bits BinOp.or IntKind.u64 (bits BinOp.or IntKind.u64 (bits BinOp.or IntKind.u64 (bits BinOp.or IntKind.u64 (bits BinOp.or IntKind.u64 (bits BinOp.or IntKind.u64 (bits BinOp.or IntKind.u64 (IntKind.wrap IntKind.u64 (byteAt s 0)) (IntKind.wrap IntKind.u64 (IntKind.wrap IntKind.u64 (byteAt s 1) * 256))) (IntKind.wrap IntKind.u64 (IntKind.wrap IntKind.u64 (byteAt s 2) * 65536))) (IntKind.wrap IntKind.u64 (IntKind.wrap IntKind.u64 (byteAt s 3) * 16777216))) (IntKind.wrap IntKind.u64 (IntKind.wrap IntKind.u64 (byteAt s 4) * 4294967296))) (IntKind.wrap IntKind.u64 (IntKind.wrap IntKind.u64 (byteAt s 5) * 1099511627776))) (IntKind.wrap IntKind.u64 (IntKind.wrap IntKind.u64 (byteAt s 6) * 281474976710656))) (IntKind.wrap IntKind.u64 (IntKind.wrap IntKind.u64 (byteAt s 7) * 72057594037927936)))) ([])
theorem word_wp (s : ByteArray) {Q : AVal → AState → Prop} (h : word_T s Q) : ∃ r σ', FOk Tryd.prog 70 ([AVal.str s]) ([]) r σ' ∧ Q r σ' :=
  ⟨_, _, word_1 s (h.2.2.2.2.2.2.2.1) (h.2.2.2.2.2.2.1) (h.2.2.2.2.2.1) (h.2.2.2.2.1) (h.2.2.2.1) (h.2.2.1) (h.2.1) (h.1), h.2.2.2.2.2.2.2.2⟩


end Go.MN
end

section
set_option linter.unusedVariables false
set_option linter.unusedSimpArgs false
set_option maxRecDepth 100000
namespace Go.MN
open Go Go.Abs Go.Proofs
def wd (s : ByteArray) : Int := (Go.Lib.leNat [s.get! 0, s.get! 1, s.get! 2, s.get! 3, s.get! 4, s.get! 5, s.get! 6, s.get! 7] : Nat)
theorem wrapU64 (n : Int) : IntKind.wrap .u64 n = n % 18446744073709551616 := by
  simp [IntKind.wrap, IntKind.bits, IntKind.signed]
theorem bits_oru {a b : Nat} (ha : a < 2 ^ 64) (hb : b < 2 ^ 64) : bits .or .u64 (a : Int) (b : Int) = ((a ||| b : Nat) : Int) := by
  have hlt : a ||| b < 2 ^ 64 := Nat.or_lt_two_pow ha hb
  show IntKind.wrap .u64 (((BitVec.ofInt 64 (a : Int)) ||| (BitVec.ofInt 64 (b : Int))).toNat : Int) = _
  have e : ((BitVec.ofInt 64 (a : Int)) ||| (BitVec.ofInt 64 (b : Int))).toNat = a ||| b := by
    rw [BitVec.toNat_or]
    simp only [BitVec.ofInt_natCast, BitVec.toNat_ofNat]
    rw [Nat.mod_eq_of_lt (by omega), Nat.mod_eq_of_lt (by omega)]
  rw [e, wrapU64]
  omega
theorem bits_andu {a b : Nat} (ha : a < 2 ^ 64) (hb : b < 2 ^ 64) : bits .and .u64 (a : Int) (b : Int) = ((a &&& b : Nat) : Int) := by
  have hlt : a &&& b < 2 ^ 64 := Nat.and_lt_two_pow _ hb
  show IntKind.wrap .u64 (((BitVec.ofInt 64 (a : Int)) &&& (BitVec.ofInt 64 (b : Int))).toNat : Int) = _
  have e : ((BitVec.ofInt 64 (a : Int)) &&& (BitVec.ofInt 64 (b : Int))).toNat = a &&& b := by
    rw [BitVec.toNat_and]
    simp only [BitVec.ofInt_natCast, BitVec.toNat_ofNat]
    rw [Nat.mod_eq_of_lt (by omega), Nat.mod_eq_of_lt (by omega)]
  rw [e, wrapU64]
  omega
theorem byteAt_get (s : ByteArray) (k : Nat) : byteAt s (k : Int) = ((s.get! k).toNat : Int) := by
  rw [byteAt_lB, Int.toNat_natCast, Go.Lib.getD_get!']
theorem stage {a b k : Nat} (ha : a < 2 ^ k) (hb : b < 256) (hk : k + 8 ≤ 64) (M : Int) (hM : M = ((2 ^ k : Nat) : Int)) : bits .or .u64 (a : Int) (IntKind.wrap .u64 (IntKind.wrap .u64 (b : Int) * M)) = ((a + b * 2 ^ k : Nat) : Int) := by
  subst hM
  have h1 : b * 2 ^ k < 2 ^ 64 := by
    calc b * 2 ^ k < 256 * 2 ^ k := Nat.mul_lt_mul_of_pos_right hb (Nat.two_pow_pos k)
      _ = 2 ^ (8 + k) := by rw [Nat.pow_add]
      _ ≤ 2 ^ 64 := Nat.pow_le_pow_right (by decide) (by omega)
  have h2 : a < 2 ^ 64 := Nat.lt_of_lt_of_le ha (Nat.pow_le_pow_right (by decide) (by omega))
  rw [wrapU64 (b : Int), show (b : Int) % 18446744073709551616 = (b : Int) by omega, ← Int.natCast_mul, wrapU64]
  rw [show ((b * 2 ^ k : Nat) : Int) % 18446744073709551616 = ((b * 2 ^ k : Nat) : Int) by omega, bits_oru h2 h1, or_add ha]
theorem word_ok (s : ByteArray) (h : 8 ≤ s.size) : FOk Tryd.prog 70 [.str s] [] (.int .u64 (wd s)) [] := by
  refine FOk.wp (word_wp s ?_)
  unfold word_T
  refine ⟨decide_eq_true (by omega), decide_eq_true (by omega), decide_eq_true (by omega), decide_eq_true (by omega), decide_eq_true (by omega), decide_eq_true (by omega), decide_eq_true (by omega), decide_eq_true (by omega), ?_, rfl⟩
  have b0 := byteAt_get s 0
  have b1 := byteAt_get s 1
  have b2 := byteAt_get s 2
  have b3 := byteAt_get s 3
  have b4 := byteAt_get s 4
  have b5 := byteAt_get s 5
  have b6 := byteAt_get s 6
  have b7 := byteAt_get s 7
  unfold wd
  rw [show byteAt s 0 = _ from b0, show byteAt s 1 = _ from b1, show byteAt s 2 = _ from b2, show byteAt s 3 = _ from b3, show byteAt s 4 = _ from b4, show byteAt s 5 = _ from b5, show byteAt s 6 = _ from b6, show byteAt s 7 = _ from b7]
  have t0 := (s.get! 0).toNat_lt
  have t1 := (s.get! 1).toNat_lt
  have t2 := (s.get! 2).toNat_lt
  have t3 := (s.get! 3).toNat_lt
  have t4 := (s.get! 4).toNat_lt
  have t5 := (s.get! 5).toNat_lt
  have t6 := (s.get! 6).toNat_lt
  have t7 := (s.get! 7).toNat_lt
  simp only [Go.Lib.leNat]
  generalize (s.get! 0).toNat = x0 at *
  generalize (s.get! 1).toNat = x1 at *
  generalize (s.get! 2).toNat = x2 at *
  generalize (s.get! 3).toNat = x3 at *
  generalize (s.get! 4).toNat = x4 at *
  generalize (s.get! 5).toNat = x5 at *
  generalize (s.get! 6).toNat = x6 at *
  generalize (s.get! 7).toNat = x7 at *
  rw [show IntKind.wrap .u64 (x0 : Int) = (x0 : Int) by rw [wrapU64]; omega]
  rw [stage (k := 8) (by omega) t1 (by omega) 256 rfl, stage (k := 16) (by omega) t2 (by omega) 65536 rfl, stage (k := 24) (by omega) t3 (by omega) 16777216 rfl, stage (k := 32) (by omega) t4 (by omega) 4294967296 rfl, stage (k := 40) (by omega) t5 (by omega) 1099511627776 rfl, stage (k := 48) (by omega) t6 (by omega) 281474976710656 rfl, stage (k := 56) (by omega) t7 (by omega) 72057594037927936 rfl]
  congr 2
  omega
end Go.MN
end

section
set_option linter.unusedVariables false
set_option maxRecDepth 100000
namespace Go.MN
open Go Go.Abs Go.Proofs
abbrev zI (s : ByteArray) : Int := ((ByteArray.size s : Nat) : Int)
abbrev xt (s : ByteArray) (k : Nat) : ByteArray := ByteArray.extract s k (Int.toNat ((ByteArray.size s : Nat) : Int))
abbrev iqNC : Int → AVal := AVal.int IntKind.i64
open Go.Abs.AVal (str agg ptr slc fsl tuple nilp)
open Go.Abs.Dec (br use)
open Go.Abs.AExit (normal)
open Go.Abs.AObj (mp mq dead)
def rgV (s : ByteArray) : Regs := mkR 169 [(0, .str s)]
theorem vin_1 (s : ByteArray)
    (h1 : decide ((↑0 : Int) ≤ 32 ∧ 32 ≤ (zI s) ∧ (zI s) ≤ (zI s)) = true)
    (h2 : (bits BinOp.and IntKind.u64 (bits BinOp.or IntKind.u64 (bits BinOp.or IntKind.u64 (wd s) (wd (xt s 8))) (bits BinOp.or IntKind.u64 (wd (xt s 16)) (wd (xt s 24)))) 9259542123273814144 == 0) = true)
    (h3 : 8 ≤ ByteArray.size (xt s 24))
    (h4 : decide ((↑0 : Int) ≤ 24 ∧ 24 ≤ (zI s) ∧ (zI s) ≤ (zI s)) = true)
    (h5 : 8 ≤ ByteArray.size (xt s 16))
    (h6 : decide ((↑0 : Int) ≤ 16 ∧ 16 ≤ (zI s) ∧ (zI s) ≤ (zI s)) = true)
    (h7 : 8 ≤ ByteArray.size (xt s 8))
    (h8 : decide ((↑0 : Int) ≤ 8 ∧ 8 ≤ (zI s) ∧ (zI s) ≤ (zI s)) = true)
    (h9 : 8 ≤ ByteArray.size s)
    (h10 : decide ((zI s) > 32) = true) :
    TripN Tryd.prog 0 (loopNo Tryd.f50 1) (rgV s) ([]) (normal) (mkR 169 [(0, str (xt s 32))]) ([]) :=
  evalT (st := St.mk (rgV s) ([]) ([br true, use [] [str s] [] (AVal.int IntKind.u64 (wd s)) [], use [] [str (xt s 8)] [] (AVal.int IntKind.u64 (wd (xt s 8))) [], use [] [str (xt s 16)] [] (AVal.int IntKind.u64 (wd (xt s 16))) [], use [] [str (xt s 24)] [] (AVal.int IntKind.u64 (wd (xt s 24))) [], br true]) []) (st' := St.mk (mkR 169 [(0, str (xt s 32)), (42, str s), (43, iqNC (zI s)), (44, AVal.bool (decide ((zI s) > 32))), (45, AVal.tt true), (46, str s), (47, AVal.int IntKind.u64 (wd s)), (48, str s), (49, str (xt s 8)), (50, AVal.int IntKind.u64 (wd (xt s 8))), (51, AVal.int IntKind.u64 (bits BinOp.or IntKind.u64 (wd s) (wd (xt s 8)))), (52, str s), (53, str (xt s 16)), (54, AVal.int IntKind.u64 (wd (xt s 16))), (55, str s), (56, str (xt s 24)), (57, AVal.int IntKind.u64 (wd (xt s 24))), (58, AVal.int IntKind.u64 (bits BinOp.or IntKind.u64 (wd (xt s 16)) (wd (xt s 24)))), (59, AVal.int IntKind.u64 (bits BinOp.or IntKind.u64 (bits BinOp.or IntKind.u64 (wd s) (wd (xt s 8))) (bits BinOp.or IntKind.u64 (wd (xt s 16)) (wd (xt s 24))))), (60, AVal.int IntKind.u64 (bits BinOp.and IntKind.u64 (bits BinOp.or IntKind.u64 (bits BinOp.or IntKind.u64 (wd s) (wd (xt s 8))) (bits BinOp.or IntKind.u64 (wd (xt s 16)) (wd (xt s 24)))) 9259542123273814144)), (61, AVal.bool (bits BinOp.and IntKind.u64 (bits BinOp.or IntKind.u64 (bits BinOp.or IntKind.u64 (wd s) (wd (xt s 8))) (bits BinOp.or IntKind.u64 (wd (xt s 16)) (wd (xt s 24)))) 9259542123273814144 == 0)), (62, AVal.tt true), (63, str s), (64, str (xt s 32))]) ([]) ([]) ((_) :: ((_) :: (tr 12 ++ ((Owed.use (owed Tryd.prog 0) 70 [] [str (xt s 24)] [] [str (xt s 24)] [] (AVal.int IntKind.u64 (wd (xt s 24))) []) :: (tr 2 ++ ((_) :: (tr 4 ++ ((Owed.use (owed Tryd.prog 0) 70 [] [str (xt s 16)] [] [str (xt s 16)] [] (AVal.int IntKind.u64 (wd (xt s 16))) []) :: (tr 2 ++ ((_) :: (tr 6 ++ ((Owed.use (owed Tryd.prog 0) 70 [] [str (xt s 8)] [] [str (xt s 8)] [] (AVal.int IntKind.u64 (wd (xt s 8))) []) :: (tr 2 ++ ((_) :: (tr 4 ++ ((Owed.use (owed Tryd.prog 0) 70 [] [str s] [] [str s] [] (AVal.int IntKind.u64 (wd s)) []) :: (tr 2 ++ ((_) :: (tr 9 ++ [])))))))))))))))))))) followed (by kernel_rfl) (allP_of ⟨h1, ⟨h2, (trC 12 ⟨⟨(@Go.MN.word_ok (xt s 24) h3), rfl, rfl, rfl⟩, (trC 2 ⟨h4, (trC 4 ⟨⟨(@Go.MN.word_ok (xt s 16) h5), rfl, rfl, rfl⟩, (trC 2 ⟨h6, (trC 6 ⟨⟨(@Go.MN.word_ok (xt s 8) h7), rfl, rfl, rfl⟩, (trC 2 ⟨h8, (trC 4 ⟨⟨(@Go.MN.word_ok (s) h9), rfl, rfl, rfl⟩, (trC 2 ⟨h10, (trC 9 trivial)⟩)⟩)⟩)⟩)⟩)⟩)⟩)⟩)⟩⟩) (keepM 169 [0]) ([]) (by kernel_rfl) (by kernel_rfl) (by kernel_rfl)

theorem vin_2 (s : ByteArray)
    (h1 : (bits BinOp.and IntKind.u64 (bits BinOp.or IntKind.u64 (bits BinOp.or IntKind.u64 (wd s) (wd (xt s 8))) (bits BinOp.or IntKind.u64 (wd (xt s 16)) (wd (xt s 24)))) 9259542123273814144 == 0) = false)
    (h2 : 8 ≤ ByteArray.size (xt s 24))
    (h3 : decide ((↑0 : Int) ≤ 24 ∧ 24 ≤ (zI s) ∧ (zI s) ≤ (zI s)) = true)
    (h4 : 8 ≤ ByteArray.size (xt s 16))
    (h5 : decide ((↑0 : Int) ≤ 16 ∧ 16 ≤ (zI s) ∧ (zI s) ≤ (zI s)) = true)
    (h6 : 8 ≤ ByteArray.size (xt s 8))
    (h7 : decide ((↑0 : Int) ≤ 8 ∧ 8 ≤ (zI s) ∧ (zI s) ≤ (zI s)) = true)
    (h8 : 8 ≤ ByteArray.size s)
    (h9 : decide ((zI s) > 32) = true) :
    TripN Tryd.prog 0 (loopNo Tryd.f50 1) (rgV s) ([]) (AExit.exit 2) (mkR 169 [(0, str s)]) ([]) :=
  evalT (st := St.mk (rgV s) ([]) ([br true, use [] [str s] [] (AVal.int IntKind.u64 (wd s)) [], use [] [str (xt s 8)] [] (AVal.int IntKind.u64 (wd (xt s 8))) [], use [] [str (xt s 16)] [] (AVal.int IntKind.u64 (wd (xt s 16))) [], use [] [str (xt s 24)] [] (AVal.int IntKind.u64 (wd (xt s 24))) [], br false]) []) (st' := St.mk (mkR 169 [(0, str s), (42, str s), (43, iqNC (zI s)), (44, AVal.bool (decide ((zI s) > 32))), (45, AVal.tt true), (46, str s), (47, AVal.int IntKind.u64 (wd s)), (48, str s), (49, str (xt s 8)), (50, AVal.int IntKind.u64 (wd (xt s 8))), (51, AVal.int IntKind.u64 (bits BinOp.or IntKind.u64 (wd s) (wd (xt s 8)))), (52, str s), (53, str (xt s 16)), (54, AVal.int IntKind.u64 (wd (xt s 16))), (55, str s), (56, str (xt s 24)), (57, AVal.int IntKind.u64 (wd (xt s 24))), (58, AVal.int IntKind.u64 (bits BinOp.or IntKind.u64 (wd (xt s 16)) (wd (xt s 24)))), (59, AVal.int IntKind.u64 (bits BinOp.or IntKind.u64 (bits BinOp.or IntKind.u64 (wd s) (wd (xt s 8))) (bits BinOp.or IntKind.u64 (wd (xt s 16)) (wd (xt s 24))))), (60, AVal.int IntKind.u64 (bits BinOp.and IntKind.u64 (bits BinOp.or IntKind.u64 (bits BinOp.or IntKind.u64 (wd s) (wd (xt s 8))) (bits BinOp.or IntKind.u64 (wd (xt s 16)) (wd (xt s 24)))) 9259542123273814144)), (61, AVal.bool (bits BinOp.and IntKind.u64 (bits BinOp.or IntKind.u64 (bits BinOp.or IntKind.u64 (wd s) (wd (xt s 8))) (bits BinOp.or IntKind.u64 (wd (xt s 16)) (wd (xt s 24)))) 9259542123273814144 == 0)), (62, AVal.tt false)]) ([]) ([]) ((_) :: (tr 12 ++ ((Owed.use (owed Tryd.prog 0) 70 [] [str (xt s 24)] [] [str (xt s 24)] [] (AVal.int IntKind.u64 (wd (xt s 24))) []) :: (tr 2 ++ ((_) :: (tr 4 ++ ((Owed.use (owed Tryd.prog 0) 70 [] [str (xt s 16)] [] [str (xt s 16)] [] (AVal.int IntKind.u64 (wd (xt s 16))) []) :: (tr 2 ++ ((_) :: (tr 6 ++ ((Owed.use (owed Tryd.prog 0) 70 [] [str (xt s 8)] [] [str (xt s 8)] [] (AVal.int IntKind.u64 (wd (xt s 8))) []) :: (tr 2 ++ ((_) :: (tr 4 ++ ((Owed.use (owed Tryd.prog 0) 70 [] [str s] [] [str s] [] (AVal.int IntKind.u64 (wd s)) []) :: (tr 2 ++ ((_) :: (tr 9 ++ []))))))))))))))))))) followed (by kernel_rfl) (allP_of ⟨h1, (trC 12 ⟨⟨(@Go.MN.word_ok (xt s 24) h2), rfl, rfl, rfl⟩, (trC 2 ⟨h3, (trC 4 ⟨⟨(@Go.MN.word_ok (xt s 16) h4), rfl, rfl, rfl⟩, (trC 2 ⟨h5, (trC 6 ⟨⟨(@Go.MN.word_ok (xt s 8) h6), rfl, rfl, rfl⟩, (trC 2 ⟨h7, (trC 4 ⟨⟨(@Go.MN.word_ok (s) h8), rfl, rfl, rfl⟩, (trC 2 ⟨h9, (trC 9 trivial)⟩)⟩)⟩)⟩)⟩)⟩)⟩)⟩)⟩) (keepM 169 [0]) ([]) (by kernel_rfl) (by kernel_rfl) (by kernel_rfl)

theorem vin_3 (s : ByteArray)
    (h1 : decide ((zI s) > 32) = false) :
    TripN Tryd.prog 0 (loopNo Tryd.f50 1) (rgV s) ([]) (AExit.exit 2) (mkR 169 [(0, str s)]) ([]) :=
  evalT (st := St.mk (rgV s) ([]) ([br false]) []) (st' := St.mk (mkR 169 [(0, str s), (42, str s), (43, iqNC (zI s)), (44, AVal.bool (decide ((zI s) > 32))), (45, AVal.tt false), (46, tuple []), (47, tuple []), (48, tuple []), (49, tuple []), (50, tuple []), (51, tuple []), (52, tuple []), (53, tuple []), (54, tuple []), (55, tuple []), (56, tuple []), (57, tuple []), (58, tuple []), (59, tuple []), (60, tuple []), (61, tuple []), (62, AVal.tt false)]) ([]) ([]) (tr 34 ++ ((_) :: (tr 9 ++ [])))) followed (by kernel_rfl) (allP_of (trC 34 ⟨h1, (trC 9 trivial)⟩)) (keepM 169 [0]) ([]) (by kernel_rfl) (by kernel_rfl) (by kernel_rfl)

def vin_T (s : ByteArray) (Q : AExit → Regs → AState → Prop) : Prop := ((decide ((↑(ByteArray.size s) : Int) > 32) = true) → (8 ≤ ByteArray.size s) ∧ (decide ((↑0 : Int) ≤ 8 ∧ 8 ≤ (↑(ByteArray.size s) : Int) ∧ (↑(ByteArray.size s) : Int) ≤ (↑(ByteArray.size s) : Int)) = true) ∧ (8 ≤ ByteArray.size (ByteArray.extract s 8 (Int.toNat (↑(ByteArray.size s) : Int)))) ∧ (decide ((↑0 : Int) ≤ 16 ∧ 16 ≤ (↑(ByteArray.size s) : Int) ∧ (↑(ByteArray.size s) : Int) ≤ (↑(ByteArray.size s) : Int)) = true) ∧ (8 ≤ ByteArray.size (ByteArray.extract s 16 (Int.toNat (↑(ByteArray.size s) : Int)))) ∧ (decide ((↑0 : Int) ≤ 24 ∧ 24 ≤ (↑(ByteArray.size s) : Int) ∧ (↑(ByteArray.size s) : Int) ≤ (↑(ByteArray.size s) : Int)) = true) ∧ (8 ≤ ByteArray.size (ByteArray.extract s 24 (Int.toNat (↑(ByteArray.size s) : Int)))) ∧ (((bits BinOp.and IntKind.u64 (bits BinOp.or IntKind.u64 (bits BinOp.or IntKind.u64 (wd s) (wd (ByteArray.extract s 8 (Int.toNat (↑(ByteArray.size s) : Int))))) (bits BinOp.or IntKind.u64 (wd (ByteArray.extract s 16 (Int.toNat (↑(ByteArray.size s) : Int)))) (wd (ByteArray.extract s 24 (Int.toNat (↑(ByteArray.size s) : Int)))))) 9259542123273814144 == 0) = true) → (decide ((↑0 : Int) ≤ 32 ∧ 32 ≤ (↑(ByteArray.size s) : Int) ∧ (↑(ByteArray.size s) : Int) ≤ (↑(ByteArray.size s) : Int)) = true) ∧ Q (AExit.normal) (mkR 169 [(0, AVal.str (ByteArray.extract s 32 (Int.toNat (↑(ByteArray.size s) : Int))))]) ([])) ∧ (((bits BinOp.and IntKind.u64 (bits BinOp.or IntKind.u64 (bits BinOp.or IntKind.u64 (wd s) (wd (ByteArray.extract s 8 (Int.toNat (↑(ByteArray.size s) : Int))))) (bits BinOp.or IntKind.u64 (wd (ByteArray.extract s 16 (Int.toNat (↑(ByteArray.size s) : Int)))) (wd (ByteArray.extract s 24 (Int.toNat (↑(ByteArray.size s) : Int)))))) 9259542123273814144 == 0) = false) → Q (AExit.exit 2) (mkR 169 [(0, AVal.str s)]) ([]))) ∧ ((decide ((↑(ByteArray.size s) : Int) > 32) = false) → Q (AExit.exit 2) (mkR 169 [(0, AVal.str s)]) ([]))
theorem vin_wp (s : ByteArray) {Q : AExit → Regs → AState → Prop} (h : vin_T s Q) : ∃ e rg' σ', TripN Tryd.prog 0 (loopNo Tryd.f50 1) (rgV s) ([]) e rg' σ' ∧ Q e rg' σ' :=
  brE (fun c0 => brE (fun c1 => ⟨_, _, _, vin_1 s (((h.1 c0).2.2.2.2.2.2.2.1 c1).1) (c1) ((h.1 c0).2.2.2.2.2.2.1) ((h.1 c0).2.2.2.2.2.1) ((h.1 c0).2.2.2.2.1) ((h.1 c0).2.2.2.1) ((h.1 c0).2.2.1) ((h.1 c0).2.1) ((h.1 c0).1) (c0), ((h.1 c0).2.2.2.2.2.2.2.1 c1).2⟩) (fun c1 => ⟨_, _, _, vin_2 s (c1) ((h.1 c0).2.2.2.2.2.2.1) ((h.1 c0).2.2.2.2.2.1) ((h.1 c0).2.2.2.2.1) ((h.1 c0).2.2.2.1) ((h.1 c0).2.2.1) ((h.1 c0).2.1) ((h.1 c0).1) (c0), ((h.1 c0).2.2.2.2.2.2.2.2 c1)⟩)) (fun c0 => ⟨_, _, _, vin_3 s (c0), (h.2 c0)⟩)


end Go.MN
end

section
set_option linter.unusedVariables false
set_option maxRecDepth 100000
namespace Go.MN
open Go Go.Abs Go.Proofs
abbrev fb (s : ByteArray) : Int := AVal.toInt (List.getD Tabs.first (Int.toNat (byteAt s 0) * 1) AVal.any)
abbrev ac (s : ByteArray) : AVal := List.getD Tabs.acc (Int.toNat (Int.fdiv (fb s) 16) * 2) AVal.any
abbrev ad (s : ByteArray) : AVal := List.getD Tabs.acc (Int.toNat (Int.fdiv (fb s) 16) * 2 + 1) AVal.any
abbrev b7 (s : ByteArray) : Int := bits BinOp.and IntKind.u8 (fb s) 7
abbrev iqND : Int → AVal := AVal.int IntKind.i64
open Go.Abs.AVal (str agg ptr slc fsl tuple nilp)
open Go.Abs.Dec (br use)
open Go.Abs.AExit (normal)
open Go.Abs.AObj (mp mq dead)
open Go.Abs.AVal (bool tt map)
open Go.IntKind (u8 i64 u64)
open Go.Abs.AObj (gh)
noncomputable abbrev pgND : Program := Tryd.prog
abbrev z0ND (s : ByteArray) : AState := [AObj.rows true 2 [[AVal.int u8 (AVal.toInt (ac s)), AVal.int u8 (AVal.toInt (ad s))]]]
theorem vout_1 (s : ByteArray) (t : ByteArray)
    (h1 : TripN pgND 0 (Code.loop (loopNo Tryd.f50 1)) (mkR 169 [(0, str (xt (xt (xt s 1) 8) 16))]) [] (AExit.exit 2) (mkR 169 [(0, str t)]) [])
    (h2 : decide ((↑0 : Int) ≤ 16 ∧ 16 ≤ (zI (xt (xt s 1) 8)) ∧ (zI (xt (xt s 1) 8)) ≤ (zI (xt (xt s 1) 8))) = true)
    (h3 : (bits BinOp.and u64 (bits BinOp.or u64 (wd (xt (xt s 1) 8)) (wd (xt (xt (xt s 1) 8) 8))) 9259542123273814144 == 0) = true)
    (h4 : 8 ≤ ByteArray.size (xt (xt (xt s 1) 8) 8))
    (h5 : decide ((↑0 : Int) ≤ 8 ∧ 8 ≤ (zI (xt (xt s 1) 8)) ∧ (zI (xt (xt s 1) 8)) ≤ (zI (xt (xt s 1) 8))) = true)
    (h6 : 8 ≤ ByteArray.size (xt (xt s 1) 8))
    (h7 : decide ((zI (xt (xt s 1) 8)) > 16) = true)
    (h8 : decide ((↑0 : Int) ≤ 8 ∧ 8 ≤ (zI (xt s 1)) ∧ (zI (xt s 1)) ≤ (zI (xt s 1))) = true)
    (h9 : (bits BinOp.and u64 (wd (xt s 1)) 9259542123273814144 == 0) = true)
    (h10 : 8 ≤ ByteArray.size (xt s 1))
    (h11 : decide ((zI (xt s 1)) > 8) = true)
    (h12 : decide ((↑0 : Int) ≤ 1 ∧ 1 ≤ (zI s) ∧ (zI s) ≤ (zI s)) = true)
    (h13 : decide (byteAt s 0 < 128) = true)
    (h14 : decide ((↑0 : Int) ≤ 0 ∧ 0 < (zI s)) = true)
    (h15 : decide ((zI s) > 0) = true) :
    TripN pgND 0 (loopNo Tryd.f50 0) (rgV s) ([]) (normal) (mkR 169 [(0, str t)]) ([]) :=
  evalT (st := St.mk (rgV s) ([]) ([br true, br true, br true, use [] [str (xt s 1)] [] (AVal.int u64 (wd (xt s 1))) [], br true, br true, use [] [str (xt (xt s 1) 8)] [] (AVal.int u64 (wd (xt (xt s 1) 8))) [], use [] [str (xt (xt (xt s 1) 8) 8)] [] (AVal.int u64 (wd (xt (xt (xt s 1) 8) 8))) [], br true, Dec.compact (keepM 169 [0]) [], Dec.loop (AExit.exit 2) (rgV t) []]) []) (st' := St.mk (mkR 169 [(0, str t)]) ([]) ([]) ((Owed.loop (owed pgND 0) (loopNo Tryd.f50 1) (mkR 169 [(0, str (xt (xt (xt s 1) 8) 16))]) [] (AExit.exit 2) (mkR 169 [(0, str t)]) []) :: ((_) :: ((_) :: (tr 10 ++ ((Owed.use (owed pgND 0) 70 [] [str (xt (xt (xt s 1) 8) 8)] [] [str (xt (xt (xt s 1) 8) 8)] [] (AVal.int u64 (wd (xt (xt (xt s 1) 8) 8))) []) :: (tr 2 ++ ((_) :: (tr 4 ++ ((Owed.use (owed pgND 0) 70 [] [str (xt (xt s 1) 8)] [] [str (xt (xt s 1) 8)] [] (AVal.int u64 (wd (xt (xt s 1) 8))) []) :: (tr 2 ++ ((_) :: (tr 9 ++ ((_) :: ((_) :: ((Owed.use (owed pgND 0) 70 [] [str (xt s 1)] [] [str (xt s 1)] [] (AVal.int u64 (wd (xt s 1))) []) :: ((_) :: ((_) :: ((_) :: ((_) :: ((_) :: []))))))))))))))))))))) followed (by kernel_rfl) (allP_of ⟨h1, ⟨h2, ⟨h3, (trC 10 ⟨⟨(@Go.MN.word_ok (xt (xt (xt s 1) 8) 8) h4), rfl, rfl, rfl⟩, (trC 2 ⟨h5, (trC 4 ⟨⟨(@Go.MN.word_ok (xt (xt s 1) 8) h6), rfl, rfl, rfl⟩, (trC 2 ⟨h7, (trC 9 ⟨h8, ⟨h9, ⟨⟨(@Go.MN.word_ok (xt s 1) h10), rfl, rfl, rfl⟩, ⟨h11, ⟨h12, ⟨h13, ⟨h14, ⟨h15, trivial⟩⟩⟩⟩⟩⟩⟩⟩)⟩)⟩)⟩)⟩)⟩⟩⟩) (keepM 169 [0]) ([]) (by kernel_rfl) (by kernel_rfl) (by kernel_rfl)

theorem vout_2 (s : ByteArray) (t : ByteArray)
    (h1 : (bits BinOp.and u64 (bits BinOp.or u64 (wd (xt (xt s 1) 8)) (wd (xt (xt (xt s 1) 8) 8))) 9259542123273814144 == 0) = false)
    (h2 : 8 ≤ ByteArray.size (xt (xt (xt s 1) 8) 8))
    (h3 : decide ((↑0 : Int) ≤ 8 ∧ 8 ≤ (zI (xt (xt s 1) 8)) ∧ (zI (xt (xt s 1) 8)) ≤ (zI (xt (xt s 1) 8))) = true)
    (h4 : 8 ≤ ByteArray.size (xt (xt s 1) 8))
    (h5 : decide ((zI (xt (xt s 1) 8)) > 16) = true)
    (h6 : decide ((↑0 : Int) ≤ 8 ∧ 8 ≤ (zI (xt s 1)) ∧ (zI (xt s 1)) ≤ (zI (xt s 1))) = true)
    (h7 : (bits BinOp.and u64 (wd (xt s 1)) 9259542123273814144 == 0) = true)
    (h8 : 8 ≤ ByteArray.size (xt s 1))
    (h9 : decide ((zI (xt s 1)) > 8) = true)
    (h10 : decide ((↑0 : Int) ≤ 1 ∧ 1 ≤ (zI s) ∧ (zI s) ≤ (zI s)) = true)
    (h11 : decide (byteAt s 0 < 128) = true)
    (h12 : decide ((↑0 : Int) ≤ 0 ∧ 0 < (zI s)) = true)
    (h13 : decide ((zI s) > 0) = true) :
    TripN pgND 0 (loopNo Tryd.f50 0) (rgV s) ([]) (normal) (mkR 169 [(0, str (xt (xt s 1) 8))]) ([]) :=
  evalT (st := St.mk (rgV s) ([]) ([br true, br true, br true, use [] [str (xt s 1)] [] (AVal.int u64 (wd (xt s 1))) [], br true, br true, use [] [str (xt (xt s 1) 8)] [] (AVal.int u64 (wd (xt (xt s 1) 8))) [], use [] [str (xt (xt (xt s 1) 8) 8)] [] (AVal.int u64 (wd (xt (xt (xt s 1) 8) 8))) [], br false]) []) (st' := St.mk (mkR 169 [(0, str (xt (xt s 1) 8)), (3, AVal.int u8 (byteAt s 0)), (7, str s), (8, iqND (zI s)), (9, tt true), (10, str s), (11, AVal.int u8 (byteAt s 0)), (12, AVal.int u8 (byteAt s 0)), (13, tt true), (14, str s), (15, str (xt s 1)), (16, str (xt s 1)), (17, iqND (zI (xt s 1))), (18, bool (decide ((zI (xt s 1)) > 8))), (19, tt true), (20, str (xt s 1)), (21, AVal.int u64 (wd (xt s 1))), (22, AVal.int u64 (bits BinOp.and u64 (wd (xt s 1)) 9259542123273814144)), (23, bool (bits BinOp.and u64 (wd (xt s 1)) 9259542123273814144 == 0)), (24, tt true), (25, str (xt s 1)), (26, str (xt (xt s 1) 8)), (27, str (xt (xt s 1) 8)), (28, iqND (zI (xt (xt s 1) 8))), (29, bool (decide ((zI (xt (xt s 1) 8)) > 16))), (30, tt true), (31, str (xt (xt s 1) 8)), (32, AVal.int u64 (wd (xt (xt s 1) 8))), (33, str (xt (xt s 1) 8)), (34, str (xt (xt (xt s 1) 8) 8)), (35, AVal.int u64 (wd (xt (xt (xt s 1) 8) 8))), (36, AVal.int u64 (bits BinOp.or u64 (wd (xt (xt s 1) 8)) (wd (xt (xt (xt s 1) 8) 8)))), (37, AVal.int u64 (bits BinOp.and u64 (bits BinOp.or u64 (wd (xt (xt s 1) 8)) (wd (xt (xt (xt s 1) 8) 8))) 9259542123273814144)), (38, bool (bits BinOp.and u64 (bits BinOp.or u64 (wd (xt (xt s 1) 8)) (wd (xt (xt (xt s 1) 8) 8))) 9259542123273814144 == 0)), (39, tt false)]) ([]) ([]) ((_) :: (tr 10 ++ ((Owed.use (owed pgND 0) 70 [] [str (xt (xt (xt s 1) 8) 8)] [] [str (xt (xt (xt s 1) 8) 8)] [] (AVal.int u64 (wd (xt (xt (xt s 1) 8) 8))) []) :: (tr 2 ++ ((_) :: (tr 4 ++ ((Owed.use (owed pgND 0) 70 [] [str (xt (xt s 1) 8)] [] [str (xt (xt s 1) 8)] [] (AVal.int u64 (wd (xt (xt s 1) 8))) []) :: (tr 2 ++ ((_) :: (tr 9 ++ ((_) :: ((_) :: ((Owed.use (owed pgND 0) 70 [] [str (xt s 1)] [] [str (xt s 1)] [] (AVal.int u64 (wd (xt s 1))) []) :: ((_) :: ((_) :: ((_) :: ((_) :: ((_) :: []))))))))))))))))))) followed (by kernel_rfl) (allP_of ⟨h1, (trC 10 ⟨⟨(@Go.MN.word_ok (xt (xt (xt s 1) 8) 8) h2), rfl, rfl, rfl⟩, (trC 2 ⟨h3, (trC 4 ⟨⟨(@Go.MN.word_ok (xt (xt s 1) 8) h4), rfl, rfl, rfl⟩, (trC 2 ⟨h5, (trC 9 ⟨h6, ⟨h7, ⟨⟨(@Go.MN.word_ok (xt s 1) h8), rfl, rfl, rfl⟩, ⟨h9, ⟨h10, ⟨h11, ⟨h12, ⟨h13, trivial⟩⟩⟩⟩⟩⟩⟩⟩)⟩)⟩)⟩)⟩)⟩) (keepM 169 [0]) ([]) (by kernel_rfl) (by kernel_rfl) (by kernel_rfl)

theorem vout_3 (s : ByteArray) (t : ByteArray)
    (h1 : decide ((zI (xt (xt s 1) 8)) > 16) = false)
    (h2 : decide ((↑0 : Int) ≤ 8 ∧ 8 ≤ (zI (xt s 1)) ∧ (zI (xt s 1)) ≤ (zI (xt s 1))) = true)
    (h3 : (bits BinOp.and u64 (wd (xt s 1)) 9259542123273814144 == 0) = true)
    (h4 : 8 ≤ ByteArray.size (xt s 1))
    (h5 : decide ((zI (xt s 1)) > 8) = true)
    (h6 : decide ((↑0 : Int) ≤ 1 ∧ 1 ≤ (zI s) ∧ (zI s) ≤ (zI s)) = true)
    (h7 : decide (byteAt s 0 < 128) = true)
    (h8 : decide ((↑0 : Int) ≤ 0 ∧ 0 < (zI s)) = true)
    (h9 : decide ((zI s) > 0) = true) :
    TripN pgND 0 (loopNo Tryd.f50 0) (rgV s) ([]) (normal) (mkR 169 [(0, str (xt (xt s 1) 8))]) ([]) :=
  evalT (st := St.mk (rgV s) ([]) ([br true, br true, br true, use [] [str (xt s 1)] [] (AVal.int u64 (wd (xt s 1))) [], br true, br false]) []) (st' := St.mk (mkR 169 [(0, str (xt (xt s 1) 8)), (3, AVal.int u8 (byteAt s 0)), (7, str s), (8, iqND (zI s)), (9, tt true), (10, str s), (11, AVal.int u8 (byteAt s 0)), (12, AVal.int u8 (byteAt s 0)), (13, tt true), (14, str s), (15, str (xt s 1)), (16, str (xt s 1)), (17, iqND (zI (xt s 1))), (18, bool (decide ((zI (xt s 1)) > 8))), (19, tt true), (20, str (xt s 1)), (21, AVal.int u64 (wd (xt s 1))), (22, AVal.int u64 (bits BinOp.and u64 (wd (xt s 1)) 9259542123273814144)), (23, bool (bits BinOp.and u64 (wd (xt s 1)) 9259542123273814144 == 0)), (24, tt true), (25, str (xt s 1)), (26, str (xt (xt s 1) 8)), (27, str (xt (xt s 1) 8)), (28, iqND (zI (xt (xt s 1) 8))), (29, bool (decide ((zI (xt (xt s 1) 8)) > 16))), (30, tt false), (31, tuple []), (32, tuple []), (33, tuple []), (34, tuple []), (35, tuple []), (36, tuple []), (37, tuple []), (38, tuple []), (39, tt false)]) ([]) ([]) (tr 18 ++ ((_) :: (tr 9 ++ ((_) :: ((_) :: ((Owed.use (owed pgND 0) 70 [] [str (xt s 1)] [] [str (xt s 1)] [] (AVal.int u64 (wd (xt s 1))) []) :: ((_) :: ((_) :: ((_) :: ((_) :: ((_) :: [])))))))))))) followed (by kernel_rfl) (allP_of (trC 18 ⟨h1, (trC 9 ⟨h2, ⟨h3, ⟨⟨(@Go.MN.word_ok (xt s 1) h4), rfl, rfl, rfl⟩, ⟨h5, ⟨h6, ⟨h7, ⟨h8, ⟨h9, trivial⟩⟩⟩⟩⟩⟩⟩⟩)⟩)) (keepM 169 [0]) ([]) (by kernel_rfl) (by kernel_rfl) (by kernel_rfl)

theorem vout_4 (s : ByteArray) (t : ByteArray)
    (h1 : (bits BinOp.and u64 (wd (xt s 1)) 9259542123273814144 == 0) = false)
    (h2 : 8 ≤ ByteArray.size (xt s 1))
    (h3 : decide ((zI (xt s 1)) > 8) = true)
    (h4 : decide ((↑0 : Int) ≤ 1 ∧ 1 ≤ (zI s) ∧ (zI s) ≤ (zI s)) = true)
    (h5 : decide (byteAt s 0 < 128) = true)
    (h6 : decide ((↑0 : Int) ≤ 0 ∧ 0 < (zI s)) = true)
    (h7 : decide ((zI s) > 0) = true) :
    TripN pgND 0 (loopNo Tryd.f50 0) (rgV s) ([]) (normal) (mkR 169 [(0, str (xt s 1))]) ([]) :=
  evalT (st := St.mk (rgV s) ([]) ([br true, br true, br true, use [] [str (xt s 1)] [] (AVal.int u64 (wd (xt s 1))) [], br false]) []) (st' := St.mk (mkR 169 [(0, str (xt s 1)), (3, AVal.int u8 (byteAt s 0)), (7, str s), (8, iqND (zI s)), (9, tt true), (10, str s), (11, AVal.int u8 (byteAt s 0)), (12, AVal.int u8 (byteAt s 0)), (13, tt true), (14, str s), (15, str (xt s 1)), (16, str (xt s 1)), (17, iqND (zI (xt s 1))), (18, bool (decide ((zI (xt s 1)) > 8))), (19, tt true), (20, str (xt s 1)), (21, AVal.int u64 (wd (xt s 1))), (22, AVal.int u64 (bits BinOp.and u64 (wd (xt s 1)) 9259542123273814144)), (23, bool (bits BinOp.and u64 (wd (xt s 1)) 9259542123273814144 == 0)), (24, tt false)]) ([]) ([]) ((_) :: ((Owed.use (owed pgND 0) 70 [] [str (xt s 1)] [] [str (xt s 1)] [] (AVal.int u64 (wd (xt s 1))) []) :: ((_) :: ((_) :: ((_) :: ((_) :: ((_) :: [])))))))) followed (by kernel_rfl) (allP_of ⟨h1, ⟨⟨(@Go.MN.word_ok (xt s 1) h2), rfl, rfl, rfl⟩, ⟨h3, ⟨h4, ⟨h5, ⟨h6, ⟨h7, trivial⟩⟩⟩⟩⟩⟩⟩) (keepM 169 [0]) ([]) (by kernel_rfl) (by kernel_rfl) (by kernel_rfl)

theorem vout_5 (s : ByteArray) (t : ByteArray)
    (h1 : decide ((zI (xt s 1)) > 8) = false)
    (h2 : decide ((↑0 : Int) ≤ 1 ∧ 1 ≤ (zI s) ∧ (zI s) ≤ (zI s)) = true)
    (h3 : decide (byteAt s 0 < 128) = true)
    (h4 : decide ((↑0 : Int) ≤ 0 ∧ 0 < (zI s)) = true)
    (h5 : decide ((zI s) > 0) = true) :
    TripN pgND 0 (loopNo Tryd.f50 0) (rgV s) ([]) (normal) (mkR 169 [(0, str (xt s 1))]) ([]) :=
  evalT (st := St.mk (rgV s) ([]) ([br true, br true, br false]) []) (st' := St.mk (mkR 169 [(0, str (xt s 1)), (3, AVal.int u8 (byteAt s 0)), (7, str s), (8, iqND (zI s)), (9, tt true), (10, str s), (11, AVal.int u8 (byteAt s 0)), (12, AVal.int u8 (byteAt s 0)), (13, tt true), (14, str s), (15, str (xt s 1)), (16, str (xt s 1)), (17, iqND (zI (xt s 1))), (18, bool (decide ((zI (xt s 1)) > 8))), (19, tt false), (20, tuple []), (21, tuple []), (22, tuple []), (23, tuple []), (24, tt false)]) ([]) ([]) ((_) :: ((_) :: ((_) :: ((_) :: ((_) :: [])))))) followed (by kernel_rfl) (allP_of ⟨h1, ⟨h2, ⟨h3, ⟨h4, ⟨h5, trivial⟩⟩⟩⟩⟩) (keepM 169 [0]) ([]) (by kernel_rfl) (by kernel_rfl) (by kernel_rfl)

theorem vout_6 (s : ByteArray) (t : ByteArray)
    (h1 : decide ((zI s) < 2) = true)
    (h2 : (IntKind.wrap i64 (b7 s) == 2) = true)
    (h3 : decide (Int.toNat (Int.fdiv (fb s) 16) * 2 + 2 ≤ 32) = true)
    (h4 : areKinds [Kind.int u8, Kind.int u8] [List.getD Tabs.acc (Int.toNat (Int.fdiv (fb s) 16) * 2) AVal.any, List.getD Tabs.acc (Int.toNat (Int.fdiv (fb s) 16) * 2 + 1) AVal.any] = true)
    (h5 : decide (0 ≤ Int.fdiv (fb s) 16 ∧ Int.fdiv (fb s) 16 < (↑16 : Int)) = true)
    (h6 : decide (Int.toNat (byteAt s 0) * 1 + 1 ≤ 256) = true)
    (h7 : areKinds [Kind.int u8] [List.getD Tabs.first (Int.toNat (byteAt s 0) * 1) AVal.any] = true)
    (h8 : decide (0 ≤ byteAt s 0 ∧ byteAt s 0 < (↑256 : Int)) = true)
    (h9 : decide (byteAt s 0 < 128) = false)
    (h10 : decide ((↑0 : Int) ≤ 0 ∧ 0 < (zI s)) = true)
    (h11 : decide ((zI s) > 0) = true) :
    TripN pgND 0 (loopNo Tryd.f50 0) (rgV s) ([]) (AExit.ret) (mkR 169 [(2, tt false)]) ([]) :=
  evalT (st := St.mk (rgV s) ([]) ([br true, br false, br true, br true]) []) (st' := St.mk (mkR 169 [(0, str s), (2, tt false), (3, AVal.int u8 (byteAt s 0)), (4, AVal.int u8 (fb s)), (5, iqND (IntKind.wrap i64 (b7 s))), (6, ptr 0 2 0 0), (7, str s), (8, iqND (zI s)), (9, tt true), (10, str s), (11, AVal.int u8 (byteAt s 0)), (12, AVal.int u8 (byteAt s 0)), (13, tt false), (65, AVal.int u8 (byteAt s 0)), (66, AVal.fptr 256 [Tabs.first] 0 (Int.toNat (byteAt s 0) * 1)), (67, AVal.int u8 (fb s)), (68, AVal.int u8 (fb s)), (69, AVal.int u8 (b7 s)), (70, iqND (IntKind.wrap i64 (b7 s))), (71, AVal.int u8 (fb s)), (72, AVal.int u8 (Int.fdiv (fb s) 16)), (73, AVal.fptr 32 [Tabs.acc] 0 (Int.toNat (Int.fdiv (fb s) 16) * 2)), (74, agg [AVal.int u8 (AVal.toInt (ac s)), AVal.int u8 (AVal.toInt (ad s))]), (75, iqND (IntKind.wrap i64 (b7 s))), (76, tt true), (77, bool (IntKind.wrap i64 (b7 s) == 2)), (78, str s), (79, iqND (zI s)), (80, bool (decide ((zI s) < 2))), (81, tt true), (82, tuple []), (83, tuple []), (84, tuple []), (85, tuple []), (86, tuple []), (87, tt true), (88, tt true), (89, tuple []), (90, tuple []), (91, tuple []), (92, tuple []), (93, tuple []), (94, tt true)]) ((z0ND s)) ([]) (tr 26 ++ ((_) :: (tr 9 ++ ((_) :: (tr 3 ++ ((_) :: ((_) :: ((_) :: (tr 2 ++ ((_) :: ((_) :: ((_) :: ((_) :: ((_) :: ((_) :: [])))))))))))))))) followed (by kernel_rfl) (allP_of (trC 26 ⟨h1, (trC 9 ⟨h2, (trC 3 ⟨h3, ⟨h4, ⟨h5, (trC 2 ⟨h6, ⟨h7, ⟨h8, ⟨h9, ⟨h10, ⟨h11, trivial⟩⟩⟩⟩⟩⟩)⟩⟩⟩)⟩)⟩)) (keepM 169 [2]) ([]) (by kernel_rfl) (by kernel_rfl) (by kernel_rfl)

theorem vout_7 (s : ByteArray) (t : ByteArray)
    (h1 : decide (byteAt s 1 < AVal.toInt (ac s)) = true)
    (h2 : decide ((↑0 : Int) ≤ 1 ∧ 1 < (zI s)) = true)
    (h3 : decide ((zI s) < 2) = false)
    (h4 : (IntKind.wrap i64 (b7 s) == 2) = true)
    (h5 : decide (Int.toNat (Int.fdiv (fb s) 16) * 2 + 2 ≤ 32) = true)
    (h6 : areKinds [Kind.int u8, Kind.int u8] [List.getD Tabs.acc (Int.toNat (Int.fdiv (fb s) 16) * 2) AVal.any, List.getD Tabs.acc (Int.toNat (Int.fdiv (fb s) 16) * 2 + 1) AVal.any] = true)
    (h7 : decide (0 ≤ Int.fdiv (fb s) 16 ∧ Int.fdiv (fb s) 16 < (↑16 : Int)) = true)
    (h8 : decide (Int.toNat (byteAt s 0) * 1 + 1 ≤ 256) = true)
    (h9 : areKinds [Kind.int u8] [List.getD Tabs.first (Int.toNat (byteAt s 0) * 1) AVal.any] = true)
    (h10 : decide (0 ≤ byteAt s 0 ∧ byteAt s 0 < (↑256 : Int)) = true)
    (h11 : decide (byteAt s 0 < 128) = false)
    (h12 : decide ((↑0 : Int) ≤ 0 ∧ 0 < (zI s)) = true)
    (h13 : decide ((zI s) > 0) = true) :
    TripN pgND 0 (loopNo Tryd.f50 0) (rgV s) ([]) (AExit.ret) (mkR 169 [(2, tt false)]) ([]) :=
  evalT (st := St.mk (rgV s) ([]) ([br true, br false, br true, br false, br true]) []) (st' := St.mk (mkR 169 [(0, str s), (2, tt false), (3, AVal.int u8 (byteAt s 0)), (4, AVal.int u8 (fb s)), (5, iqND (IntKind.wrap i64 (b7 s))), (6, ptr 0 2 0 0), (7, str s), (8, iqND (zI s)), (9, tt true), (10, str s), (11, AVal.int u8 (byteAt s 0)), (12, AVal.int u8 (byteAt s 0)), (13, tt false), (65, AVal.int u8 (byteAt s 0)), (66, AVal.fptr 256 [Tabs.first] 0 (Int.toNat (byteAt s 0) * 1)), (67, AVal.int u8 (fb s)), (68, AVal.int u8 (fb s)), (69, AVal.int u8 (b7 s)), (70, iqND (IntKind.wrap i64 (b7 s))), (71, AVal.int u8 (fb s)), (72, AVal.int u8 (Int.fdiv (fb s) 16)), (73, AVal.fptr 32 [Tabs.acc] 0 (Int.toNat (Int.fdiv (fb s) 16) * 2)), (74, agg [AVal.int u8 (AVal.toInt (ac s)), AVal.int u8 (AVal.toInt (ad s))]), (75, iqND (IntKind.wrap i64 (b7 s))), (76, tt true), (77, bool (IntKind.wrap i64 (b7 s) == 2)), (78, str s), (79, iqND (zI s)), (80, bool (decide ((zI s) < 2))), (81, tt false), (82, str s), (83, AVal.int u8 (byteAt s 1)), (84, ptr 0 2 0 0), (85, AVal.int u8 (AVal.toInt (ac s))), (86, bool (decide (byteAt s 1 < AVal.toInt (ac s)))), (87, bool (decide (byteAt s 1 < AVal.toInt (ac s)))), (88, tt true), (89, tuple []), (90, tuple []), (91, tuple []), (92, tuple []), (93, tuple []), (94, tt true)]) ((z0ND s)) ([]) (tr 12 ++ ((_) :: (tr 17 ++ ((_) :: (tr 2 ++ ((_) :: (tr 9 ++ ((_) :: (tr 3 ++ ((_) :: ((_) :: ((_) :: (tr 2 ++ ((_) :: ((_) :: ((_) :: ((_) :: ((_) :: ((_) :: [])))))))))))))))))))) followed (by kernel_rfl) (allP_of (trC 12 ⟨h1, (trC 17 ⟨h2, (trC 2 ⟨h3, (trC 9 ⟨h4, (trC 3 ⟨h5, ⟨h6, ⟨h7, (trC 2 ⟨h8, ⟨h9, ⟨h10, ⟨h11, ⟨h12, ⟨h13, trivial⟩⟩⟩⟩⟩⟩)⟩⟩⟩)⟩)⟩)⟩)⟩)) (keepM 169 [2]) ([]) (by kernel_rfl) (by kernel_rfl) (by kernel_rfl)

theorem vout_8 (s : ByteArray) (t : ByteArray)
    (h1 : decide (AVal.toInt (ad s) < byteAt s 1) = true)
    (h2 : decide ((↑0 : Int) ≤ 1 ∧ 1 < (zI s)) = true)
    (h3 : decide (byteAt s 1 < AVal.toInt (ac s)) = false)
    (h4 : decide ((zI s) < 2) = false)
    (h5 : (IntKind.wrap i64 (b7 s) == 2) = true)
    (h6 : decide (Int.toNat (Int.fdiv (fb s) 16) * 2 + 2 ≤ 32) = true)
    (h7 : areKinds [Kind.int u8, Kind.int u8] [List.getD Tabs.acc (Int.toNat (Int.fdiv (fb s) 16) * 2) AVal.any, List.getD Tabs.acc (Int.toNat (Int.fdiv (fb s) 16) * 2 + 1) AVal.any] = true)
    (h8 : decide (0 ≤ Int.fdiv (fb s) 16 ∧ Int.fdiv (fb s) 16 < (↑16 : Int)) = true)
    (h9 : decide (Int.toNat (byteAt s 0) * 1 + 1 ≤ 256) = true)
    (h10 : areKinds [Kind.int u8] [List.getD Tabs.first (Int.toNat (byteAt s 0) * 1) AVal.any] = true)
    (h11 : decide (0 ≤ byteAt s 0 ∧ byteAt s 0 < (↑256 : Int)) = true)
    (h12 : decide (byteAt s 0 < 128) = false)
    (h13 : decide ((↑0 : Int) ≤ 0 ∧ 0 < (zI s)) = true)
    (h14 : decide ((zI s) > 0) = true) :
    TripN pgND 0 (loopNo Tryd.f50 0) (rgV s) ([]) (AExit.ret) (mkR 169 [(2, tt false)]) ([]) :=
  evalT (st := St.mk (rgV s) ([]) ([br true, br false, br true, br false, br false, br true]) []) (st' := St.mk (mkR 169 [(0, str s), (2, tt false), (3, AVal.int u8 (byteAt s 0)), (4, AVal.int u8 (fb s)), (5, iqND (IntKind.wrap i64 (b7 s))), (6, ptr 0 2 0 0), (7, str s), (8, iqND (zI s)), (9, tt true), (10, str s), (11, AVal.int u8 (byteAt s 0)), (12, AVal.int u8 (byteAt s 0)), (13, tt false), (65, AVal.int u8 (byteAt s 0)), (66, AVal.fptr 256 [Tabs.first] 0 (Int.toNat (byteAt s 0) * 1)), (67, AVal.int u8 (fb s)), (68, AVal.int u8 (fb s)), (69, AVal.int u8 (b7 s)), (70, iqND (IntKind.wrap i64 (b7 s))), (71, AVal.int u8 (fb s)), (72, AVal.int u8 (Int.fdiv (fb s) 16)), (73, AVal.fptr 32 [Tabs.acc] 0 (Int.toNat (Int.fdiv (fb s) 16) * 2)), (74, agg [AVal.int u8 (AVal.toInt (ac s)), AVal.int u8 (AVal.toInt (ad s))]), (75, iqND (IntKind.wrap i64 (b7 s))), (76, tt true), (77, bool (IntKind.wrap i64 (b7 s) == 2)), (78, str s), (79, iqND (zI s)), (80, bool (decide ((zI s) < 2))), (81, tt false), (82, str s), (83, AVal.int u8 (byteAt s 1)), (84, ptr 0 2 0 0), (85, AVal.int u8 (AVal.toInt (ac s))), (86, bool (decide (byteAt s 1 < AVal.toInt (ac s)))), (87, bool (decide (byteAt s 1 < AVal.toInt (ac s)))), (88, tt false), (89, ptr 0 2 0 1), (90, AVal.int u8 (AVal.toInt (ad s))), (91, str s), (92, AVal.int u8 (byteAt s 1)), (93, bool (decide (AVal.toInt (ad s) < byteAt s 1))), (94, tt true)]) ((z0ND s)) ([]) ((_) :: (tr 6 ++ ((_) :: (tr 9 ++ ((_) :: (tr 17 ++ ((_) :: (tr 2 ++ ((_) :: (tr 9 ++ ((_) :: (tr 3 ++ ((_) :: ((_) :: ((_) :: (tr 2 ++ ((_) :: ((_) :: ((_) :: ((_) :: ((_) :: ((_) :: []))))))))))))))))))))))) followed (by kernel_rfl) (allP_of ⟨h1, (trC 6 ⟨h2, (trC 9 ⟨h3, (trC 17 ⟨h2, (trC 2 ⟨h4, (trC 9 ⟨h5, (trC 3 ⟨h6, ⟨h7, ⟨h8, (trC 2 ⟨h9, ⟨h10, ⟨h11, ⟨h12, ⟨h13, ⟨h14, trivial⟩⟩⟩⟩⟩⟩)⟩⟩⟩)⟩)⟩)⟩)⟩)⟩)⟩) (keepM 169 [2]) ([]) (by kernel_rfl) (by kernel_rfl) (by kernel_rfl)

theorem vout_9 (s : ByteArray) (t : ByteArray)
    (h1 : decide ((↑0 : Int) ≤ 2 ∧ 2 ≤ (zI s) ∧ (zI s) ≤ (zI s)) = true)
    (h2 : decide (AVal.toInt (ad s) < byteAt s 1) = false)
    (h3 : decide ((↑0 : Int) ≤ 1 ∧ 1 < (zI s)) = true)
    (h4 : decide (byteAt s 1 < AVal.toInt (ac s)) = false)
    (h5 : decide ((zI s) < 2) = false)
    (h6 : (IntKind.wrap i64 (b7 s) == 2) = true)
    (h7 : decide (Int.toNat (Int.fdiv (fb s) 16) * 2 + 2 ≤ 32) = true)
    (h8 : areKinds [Kind.int u8, Kind.int u8] [List.getD Tabs.acc (Int.toNat (Int.fdiv (fb s) 16) * 2) AVal.any, List.getD Tabs.acc (Int.toNat (Int.fdiv (fb s) 16) * 2 + 1) AVal.any] = true)
    (h9 : decide (0 ≤ Int.fdiv (fb s) 16 ∧ Int.fdiv (fb s) 16 < (↑16 : Int)) = true)
    (h10 : decide (Int.toNat (byteAt s 0) * 1 + 1 ≤ 256) = true)
    (h11 : areKinds [Kind.int u8] [List.getD Tabs.first (Int.toNat (byteAt s 0) * 1) AVal.any] = true)
    (h12 : decide (0 ≤ byteAt s 0 ∧ byteAt s 0 < (↑256 : Int)) = true)
    (h13 : decide (byteAt s 0 < 128) = false)
    (h14 : decide ((↑0 : Int) ≤ 0 ∧ 0 < (zI s)) = true)
    (h15 : decide ((zI s) > 0) = true) :
    TripN pgND 0 (loopNo Tryd.f50 0) (rgV s) ([]) (normal) (mkR 169 [(0, str (xt s 2))]) ([]) :=
  evalT (st := St.mk (rgV s) ([]) ([br true, br false, br true, br false, br false, br false]) []) (st' := St.mk (mkR 169 [(0, str (xt s 2)), (3, AVal.int u8 (byteAt s 0)), (4, AVal.int u8 (fb s)), (5, iqND (IntKind.wrap i64 (b7 s))), (6, ptr 0 2 0 0), (7, str s), (8, iqND (zI s)), (9, tt true), (10, str s), (11, AVal.int u8 (byteAt s 0)), (12, AVal.int u8 (byteAt s 0)), (13, tt false), (65, AVal.int u8 (byteAt s 0)), (66, AVal.fptr 256 [Tabs.first] 0 (Int.toNat (byteAt s 0) * 1)), (67, AVal.int u8 (fb s)), (68, AVal.int u8 (fb s)), (69, AVal.int u8 (b7 s)), (70, iqND (IntKind.wrap i64 (b7 s))), (71, AVal.int u8 (fb s)), (72, AVal.int u8 (Int.fdiv (fb s) 16)), (73, AVal.fptr 32 [Tabs.acc] 0 (Int.toNat (Int.fdiv (fb s) 16) * 2)), (74, agg [AVal.int u8 (AVal.toInt (ac s)), AVal.int u8 (AVal.toInt (ad s))]), (75, iqND (IntKind.wrap i64 (b7 s))), (76, tt true), (77, bool (IntKind.wrap i64 (b7 s) == 2)), (78, str s), (79, iqND (zI s)), (80, bool (decide ((zI s) < 2))), (81, tt false), (82, str s), (83, AVal.int u8 (byteAt s 1)), (84, ptr 0 2 0 0), (85, AVal.int u8 (AVal.toInt (ac s))), (86, bool (decide (byteAt s 1 < AVal.toInt (ac s)))), (87, bool (decide (byteAt s 1 < AVal.toInt (ac s)))), (88, tt false), (89, ptr 0 2 0 1), (90, AVal.int u8 (AVal.toInt (ad s))), (91, str s), (92, AVal.int u8 (byteAt s 1)), (93, bool (decide (AVal.toInt (ad s) < byteAt s 1))), (94, tt false), (95, str s), (96, str (xt s 2))]) ((z0ND s)) ([]) ((_) :: ((_) :: (tr 6 ++ ((_) :: (tr 9 ++ ((_) :: (tr 17 ++ ((_) :: (tr 2 ++ ((_) :: (tr 9 ++ ((_) :: (tr 3 ++ ((_) :: ((_) :: ((_) :: (tr 2 ++ ((_) :: ((_) :: ((_) :: ((_) :: ((_) :: ((_) :: [])))))))))))))))))))))))) followed (by kernel_rfl) (allP_of ⟨h1, ⟨h2, (trC 6 ⟨h3, (trC 9 ⟨h4, (trC 17 ⟨h3, (trC 2 ⟨h5, (trC 9 ⟨h6, (trC 3 ⟨h7, ⟨h8, ⟨h9, (trC 2 ⟨h10, ⟨h11, ⟨h12, ⟨h13, ⟨h14, ⟨h15, trivial⟩⟩⟩⟩⟩⟩)⟩⟩⟩)⟩)⟩)⟩)⟩)⟩)⟩⟩) (keepM 169 [0]) ([]) (by kernel_rfl) (by kernel_rfl) (by kernel_rfl)

theorem vout_10 (s : ByteArray) (t : ByteArray)
    (h1 : decide ((zI s) < 3) = true)
    (h2 : (IntKind.wrap i64 (b7 s) == 3) = true)
    (h3 : (IntKind.wrap i64 (b7 s) == 2) = false)
    (h4 : decide (Int.toNat (Int.fdiv (fb s) 16) * 2 + 2 ≤ 32) = true)
    (h5 : areKinds [Kind.int u8, Kind.int u8] [List.getD Tabs.acc (Int.toNat (Int.fdiv (fb s) 16) * 2) AVal.any, List.getD Tabs.acc (Int.toNat (Int.fdiv (fb s) 16) * 2 + 1) AVal.any] = true)
    (h6 : decide (0 ≤ Int.fdiv (fb s) 16 ∧ Int.fdiv (fb s) 16 < (↑16 : Int)) = true)
    (h7 : decide (Int.toNat (byteAt s 0) * 1 + 1 ≤ 256) = true)
    (h8 : areKinds [Kind.int u8] [List.getD Tabs.first (Int.toNat (byteAt s 0) * 1) AVal.any] = true)
    (h9 : decide (0 ≤ byteAt s 0 ∧ byteAt s 0 < (↑256 : Int)) = true)
    (h10 : decide (byteAt s 0 < 128) = false)
    (h11 : decide ((↑0 : Int) ≤ 0 ∧ 0 < (zI s)) = true)
    (h12 : decide ((zI s) > 0) = true) :
    TripN pgND 0 (loopNo Tryd.f50 0) (rgV s) ([]) (AExit.ret) (mkR 169 [(2, tt false)]) ([]) :=
  evalT (st := St.mk (rgV s) ([]) ([br true, br false, br false, br true, br true]) []) (st' := St.mk (mkR 169 [(0, str s), (2, tt false), (3, AVal.int u8 (byteAt s 0)), (4, AVal.int u8 (fb s)), (5, iqND (IntKind.wrap i64 (b7 s))), (6, ptr 0 2 0 0), (7, str s), (8, iqND (zI s)), (9, tt true), (10, str s), (11, AVal.int u8 (byteAt s 0)), (12, AVal.int u8 (byteAt s 0)), (13, tt false), (65, AVal.int u8 (byteAt s 0)), (66, AVal.fptr 256 [Tabs.first] 0 (Int.toNat (byteAt s 0) * 1)), (67, AVal.int u8 (fb s)), (68, AVal.int u8 (fb s)), (69, AVal.int u8 (b7 s)), (70, iqND (IntKind.wrap i64 (b7 s))), (71, AVal.int u8 (fb s)), (72, AVal.int u8 (Int.fdiv (fb s) 16)), (73, AVal.fptr 32 [Tabs.acc] 0 (Int.toNat (Int.fdiv (fb s) 16) * 2)), (74, agg [AVal.int u8 (AVal.toInt (ac s)), AVal.int u8 (AVal.toInt (ad s))]), (75, iqND (IntKind.wrap i64 (b7 s))), (76, tt false), (77, bool (IntKind.wrap i64 (b7 s) == 2)), (97, tt true), (98, bool (IntKind.wrap i64 (b7 s) == 3)), (99, str s), (100, iqND (zI s)), (101, bool (decide ((zI s) < 3))), (102, tt true), (103, tuple []), (104, tuple []), (105, tuple []), (106, tuple []), (107, tuple []), (108, tt true), (109, tt true), (110, tuple []), (111, tuple []), (112, tuple []), (113, tuple []), (114, tuple []), (115, tt true), (116, tt true), (117, tuple []), (118, tuple []), (119, tuple []), (120, tt true), (121, tt true), (122, tuple []), (123, tuple []), (124, tuple []), (125, tt true)]) ((z0ND s)) ([]) (tr 46 ++ ((_) :: (tr 9 ++ ((_) :: ((_) :: (tr 3 ++ ((_) :: ((_) :: ((_) :: (tr 2 ++ ((_) :: ((_) :: ((_) :: ((_) :: ((_) :: ((_) :: []))))))))))))))))) followed (by kernel_rfl) (allP_of (trC 46 ⟨h1, (trC 9 ⟨h2, ⟨h3, (trC 3 ⟨h4, ⟨h5, ⟨h6, (trC 2 ⟨h7, ⟨h8, ⟨h9, ⟨h10, ⟨h11, ⟨h12, trivial⟩⟩⟩⟩⟩⟩)⟩⟩⟩)⟩⟩)⟩)) (keepM 169 [2]) ([]) (by kernel_rfl) (by kernel_rfl) (by kernel_rfl)

theorem vout_11 (s : ByteArray) (t : ByteArray)
    (h1 : decide (byteAt s 1 < AVal.toInt (ac s)) = true)
    (h2 : decide ((↑0 : Int) ≤ 1 ∧ 1 < (zI s)) = true)
    (h3 : decide ((zI s) < 3) = false)
    (h4 : (IntKind.wrap i64 (b7 s) == 3) = true)
    (h5 : (IntKind.wrap i64 (b7 s) == 2) = false)
    (h6 : decide (Int.toNat (Int.fdiv (fb s) 16) * 2 + 2 ≤ 32) = true)
    (h7 : areKinds [Kind.int u8, Kind.int u8] [List.getD Tabs.acc (Int.toNat (Int.fdiv (fb s) 16) * 2) AVal.any, List.getD Tabs.acc (Int.toNat (Int.fdiv (fb s) 16) * 2 + 1) AVal.any] = true)
    (h8 : decide (0 ≤ Int.fdiv (fb s) 16 ∧ Int.fdiv (fb s) 16 < (↑16 : Int)) = true)
    (h9 : decide (Int.toNat (byteAt s 0) * 1 + 1 ≤ 256) = true)
    (h10 : areKinds [Kind.int u8] [List.getD Tabs.first (Int.toNat (byteAt s 0) * 1) AVal.any] = true)
    (h11 : decide (0 ≤ byteAt s 0 ∧ byteAt s 0 < (↑256 : Int)) = true)
    (h12 : decide (byteAt s 0 < 128) = false)
    (h13 : decide ((↑0 : Int) ≤ 0 ∧ 0 < (zI s)) = true)
    (h14 : decide ((zI s) > 0) = true) :
    TripN pgND 0 (loopNo Tryd.f50 0) (rgV s) ([]) (AExit.ret) (mkR 169 [(2, tt false)]) ([]) :=
  evalT (st := St.mk (rgV s) ([]) ([br true, br false, br false, br true, br false, br true]) []) (st' := St.mk (mkR 169 [(0, str s), (2, tt false), (3, AVal.int u8 (byteAt s 0)), (4, AVal.int u8 (fb s)), (5, iqND (IntKind.wrap i64 (b7 s))), (6, ptr 0 2 0 0), (7, str s), (8, iqND (zI s)), (9, tt true), (10, str s), (11, AVal.int u8 (byteAt s 0)), (12, AVal.int u8 (byteAt s 0)), (13, tt false), (65, AVal.int u8 (byteAt s 0)), (66, AVal.fptr 256 [Tabs.first] 0 (Int.toNat (byteAt s 0) * 1)), (67, AVal.int u8 (fb s)), (68, AVal.int u8 (fb s)), (69, AVal.int u8 (b7 s)), (70, iqND (IntKind.wrap i64 (b7 s))), (71, AVal.int u8 (fb s)), (72, AVal.int u8 (Int.fdiv (fb s) 16)), (73, AVal.fptr 32 [Tabs.acc] 0 (Int.toNat (Int.fdiv (fb s) 16) * 2)), (74, agg [AVal.int u8 (AVal.toInt (ac s)), AVal.int u8 (AVal.toInt (ad s))]), (75, iqND (IntKind.wrap i64 (b7 s))), (76, tt false), (77, bool (IntKind.wrap i64 (b7 s) == 2)), (97, tt true), (98, bool (IntKind.wrap i64 (b7 s) == 3)), (99, str s), (100, iqND (zI s)), (101, bool (decide ((zI s) < 3))), (102, tt false), (103, str s), (104, AVal.int u8 (byteAt s 1)), (105, ptr 0 2 0 0), (106, AVal.int u8 (AVal.toInt (ac s))), (107, bool (decide (byteAt s 1 < AVal.toInt (ac s)))), (108, bool (decide (byteAt s 1 < AVal.toInt (ac s)))), (109, tt true), (110, tuple []), (111, tuple []), (112, tuple []), (113, tuple []), (114, tuple []), (115, tt true), (116, tt true), (117, tuple []), (118, tuple []), (119, tuple []), (120, tt true), (121, tt true), (122, tuple []), (123, tuple []), (124, tuple []), (125, tt true)]) ((z0ND s)) ([]) (tr 32 ++ ((_) :: (tr 17 ++ ((_) :: (tr 2 ++ ((_) :: (tr 9 ++ ((_) :: ((_) :: (tr 3 ++ ((_) :: ((_) :: ((_) :: (tr 2 ++ ((_) :: ((_) :: ((_) :: ((_) :: ((_) :: ((_) :: []))))))))))))))))))))) followed (by kernel_rfl) (allP_of (trC 32 ⟨h1, (trC 17 ⟨h2, (trC 2 ⟨h3, (trC 9 ⟨h4, ⟨h5, (trC 3 ⟨h6, ⟨h7, ⟨h8, (trC 2 ⟨h9, ⟨h10, ⟨h11, ⟨h12, ⟨h13, ⟨h14, trivial⟩⟩⟩⟩⟩⟩)⟩⟩⟩)⟩⟩)⟩)⟩)⟩)) (keepM 169 [2]) ([]) (by kernel_rfl) (by kernel_rfl) (by kernel_rfl)

theorem vout_12 (s : ByteArray) (t : ByteArray)
    (h1 : decide (AVal.toInt (ad s) < byteAt s 1) = true)
    (h2 : decide ((↑0 : Int) ≤ 1 ∧ 1 < (zI s)) = true)
    (h3 : decide (byteAt s 1 < AVal.toInt (ac s)) = false)
    (h4 : decide ((zI s) < 3) = false)
    (h5 : (IntKind.wrap i64 (b7 s) == 3) = true)
    (h6 : (IntKind.wrap i64 (b7 s) == 2) = false)
    (h7 : decide (Int.toNat (Int.fdiv (fb s) 16) * 2 + 2 ≤ 32) = true)
    (h8 : areKinds [Kind.int u8, Kind.int u8] [List.getD Tabs.acc (Int.toNat (Int.fdiv (fb s) 16) * 2) AVal.any, List.getD Tabs.acc (Int.toNat (Int.fdiv (fb s) 16) * 2 + 1) AVal.any] = true)
    (h9 : decide (0 ≤ Int.fdiv (fb s) 16 ∧ Int.fdiv (fb s) 16 < (↑16 : Int)) = true)
    (h10 : decide (Int.toNat (byteAt s 0) * 1 + 1 ≤ 256) = true)
    (h11 : areKinds [Kind.int u8] [List.getD Tabs.first (Int.toNat (byteAt s 0) * 1) AVal.any] = true)
    (h12 : decide (0 ≤ byteAt s 0 ∧ byteAt s 0 < (↑256 : Int)) = true)
    (h13 : decide (byteAt s 0 < 128) = false)
    (h14 : decide ((↑0 : Int) ≤ 0 ∧ 0 < (zI s)) = true)
    (h15 : decide ((zI s) > 0) = true) :
    TripN pgND 0 (loopNo Tryd.f50 0) (rgV s) ([]) (AExit.ret) (mkR 169 [(2, tt false)]) ([]) :=
  evalT (st := St.mk (rgV s) ([]) ([br true, br false, br false, br true, br false, br false, br true]) []) (st' := St.mk (mkR 169 [(0, str s), (2, tt false), (3, AVal.int u8 (byteAt s 0)), (4, AVal.int u8 (fb s)), (5, iqND (IntKind.wrap i64 (b7 s))), (6, ptr 0 2 0 0), (7, str s), (8, iqND (zI s)), (9, tt true), (10, str s), (11, AVal.int u8 (byteAt s 0)), (12, AVal.int u8 (byteAt s 0)), (13, tt false), (65, AVal.int u8 (byteAt s 0)), (66, AVal.fptr 256 [Tabs.first] 0 (Int.toNat (byteAt s 0) * 1)), (67, AVal.int u8 (fb s)), (68, AVal.int u8 (fb s)), (69, AVal.int u8 (b7 s)), (70, iqND (IntKind.wrap i64 (b7 s))), (71, AVal.int u8 (fb s)), (72, AVal.int u8 (Int.fdiv (fb s) 16)), (73, AVal.fptr 32 [Tabs.acc] 0 (Int.toNat (Int.fdiv (fb s) 16) * 2)), (74, agg [AVal.int u8 (AVal.toInt (ac s)), AVal.int u8 (AVal.toInt (ad s))]), (75, iqND (IntKind.wrap i64 (b7 s))), (76, tt false), (77, bool (IntKind.wrap i64 (b7 s) == 2)), (97, tt true), (98, bool (IntKind.wrap i64 (b7 s) == 3)), (99, str s), (100, iqND (zI s)), (101, bool (decide ((zI s) < 3))), (102, tt false), (103, str s), (104, AVal.int u8 (byteAt s 1)), (105, ptr 0 2 0 0), (106, AVal.int u8 (AVal.toInt (ac s))), (107, bool (decide (byteAt s 1 < AVal.toInt (ac s)))), (108, bool (decide (byteAt s 1 < AVal.toInt (ac s)))), (109, tt false), (110, ptr 0 2 0 1), (111, AVal.int u8 (AVal.toInt (ad s))), (112, str s), (113, AVal.int u8 (byteAt s 1)), (114, bool (decide (AVal.toInt (ad s) < byteAt s 1))), (115, bool (decide (AVal.toInt (ad s) < byteAt s 1))), (116, tt true), (117, tuple []), (118, tuple []), (119, tuple []), (120, tt true), (121, tt true), (122, tuple []), (123, tuple []), (124, tuple []), (125, tt true)]) ((z0ND s)) ([]) (tr 18 ++ ((_) :: (tr 8 ++ ((_) :: (tr 9 ++ ((_) :: (tr 17 ++ ((_) :: (tr 2 ++ ((_) :: (tr 9 ++ ((_) :: ((_) :: (tr 3 ++ ((_) :: ((_) :: ((_) :: (tr 2 ++ ((_) :: ((_) :: ((_) :: ((_) :: ((_) :: ((_) :: []))))))))))))))))))))))))) followed (by kernel_rfl) (allP_of (trC 18 ⟨h1, (trC 8 ⟨h2, (trC 9 ⟨h3, (trC 17 ⟨h2, (trC 2 ⟨h4, (trC 9 ⟨h5, ⟨h6, (trC 3 ⟨h7, ⟨h8, ⟨h9, (trC 2 ⟨h10, ⟨h11, ⟨h12, ⟨h13, ⟨h14, ⟨h15, trivial⟩⟩⟩⟩⟩⟩)⟩⟩⟩)⟩⟩)⟩)⟩)⟩)⟩)⟩)) (keepM 169 [2]) ([]) (by kernel_rfl) (by kernel_rfl) (by kernel_rfl)

theorem vout_13 (s : ByteArray) (t : ByteArray)
    (h1 : decide (byteAt s 2 < 128) = true)
    (h2 : decide ((↑0 : Int) ≤ 2 ∧ 2 < (zI s)) = true)
    (h3 : decide (AVal.toInt (ad s) < byteAt s 1) = false)
    (h4 : decide ((↑0 : Int) ≤ 1 ∧ 1 < (zI s)) = true)
    (h5 : decide (byteAt s 1 < AVal.toInt (ac s)) = false)
    (h6 : decide ((zI s) < 3) = false)
    (h7 : (IntKind.wrap i64 (b7 s) == 3) = true)
    (h8 : (IntKind.wrap i64 (b7 s) == 2) = false)
    (h9 : decide (Int.toNat (Int.fdiv (fb s) 16) * 2 + 2 ≤ 32) = true)
    (h10 : areKinds [Kind.int u8, Kind.int u8] [List.getD Tabs.acc (Int.toNat (Int.fdiv (fb s) 16) * 2) AVal.any, List.getD Tabs.acc (Int.toNat (Int.fdiv (fb s) 16) * 2 + 1) AVal.any] = true)
    (h11 : decide (0 ≤ Int.fdiv (fb s) 16 ∧ Int.fdiv (fb s) 16 < (↑16 : Int)) = true)
    (h12 : decide (Int.toNat (byteAt s 0) * 1 + 1 ≤ 256) = true)
    (h13 : areKinds [Kind.int u8] [List.getD Tabs.first (Int.toNat (byteAt s 0) * 1) AVal.any] = true)
    (h14 : decide (0 ≤ byteAt s 0 ∧ byteAt s 0 < (↑256 : Int)) = true)
    (h15 : decide (byteAt s 0 < 128) = false)
    (h16 : decide ((↑0 : Int) ≤ 0 ∧ 0 < (zI s)) = true)
    (h17 : decide ((zI s) > 0) = true) :
    TripN pgND 0 (loopNo Tryd.f50 0) (rgV s) ([]) (AExit.ret) (mkR 169 [(2, tt false)]) ([]) :=
  evalT (st := St.mk (rgV s) ([]) ([br true, br false, br false, br true, br false, br false, br false, br true]) []) (st' := St.mk (mkR 169 [(0, str s), (2, tt false), (3, AVal.int u8 (byteAt s 0)), (4, AVal.int u8 (fb s)), (5, iqND (IntKind.wrap i64 (b7 s))), (6, ptr 0 2 0 0), (7, str s), (8, iqND (zI s)), (9, tt true), (10, str s), (11, AVal.int u8 (byteAt s 0)), (12, AVal.int u8 (byteAt s 0)), (13, tt false), (65, AVal.int u8 (byteAt s 0)), (66, AVal.fptr 256 [Tabs.first] 0 (Int.toNat (byteAt s 0) * 1)), (67, AVal.int u8 (fb s)), (68, AVal.int u8 (fb s)), (69, AVal.int u8 (b7 s)), (70, iqND (IntKind.wrap i64 (b7 s))), (71, AVal.int u8 (fb s)), (72, AVal.int u8 (Int.fdiv (fb s) 16)), (73, AVal.fptr 32 [Tabs.acc] 0 (Int.toNat (Int.fdiv (fb s) 16) * 2)), (74, agg [AVal.int u8 (AVal.toInt (ac s)), AVal.int u8 (AVal.toInt (ad s))]), (75, iqND (IntKind.wrap i64 (b7 s))), (76, tt false), (77, bool (IntKind.wrap i64 (b7 s) == 2)), (97, tt true), (98, bool (IntKind.wrap i64 (b7 s) == 3)), (99, str s), (100, iqND (zI s)), (101, bool (decide ((zI s) < 3))), (102, tt false), (103, str s), (104, AVal.int u8 (byteAt s 1)), (105, ptr 0 2 0 0), (106, AVal.int u8 (AVal.toInt (ac s))), (107, bool (decide (byteAt s 1 < AVal.toInt (ac s)))), (108, bool (decide (byteAt s 1 < AVal.toInt (ac s)))), (109, tt false), (110, ptr 0 2 0 1), (111, AVal.int u8 (AVal.toInt (ad s))), (112, str s), (113, AVal.int u8 (byteAt s 1)), (114, bool (decide (AVal.toInt (ad s) < byteAt s 1))), (115, bool (decide (AVal.toInt (ad s) < byteAt s 1))), (116, tt false), (117, str s), (118, AVal.int u8 (byteAt s 2)), (119, bool (decide (byteAt s 2 < 128))), (120, bool (decide (byteAt s 2 < 128))), (121, tt true), (122, tuple []), (123, tuple []), (124, tuple []), (125, tt true)]) ((z0ND s)) ([]) (tr 8 ++ ((_) :: (tr 8 ++ ((_) :: (tr 2 ++ ((_) :: (tr 8 ++ ((_) :: (tr 9 ++ ((_) :: (tr 17 ++ ((_) :: (tr 2 ++ ((_) :: (tr 9 ++ ((_) :: ((_) :: (tr 3 ++ ((_) :: ((_) :: ((_) :: (tr 2 ++ ((_) :: ((_) :: ((_) :: ((_) :: ((_) :: ((_) :: []))))))))))))))))))))))))))))) followed (by kernel_rfl) (allP_of (trC 8 ⟨h1, (trC 8 ⟨h2, (trC 2 ⟨h3, (trC 8 ⟨h4, (trC 9 ⟨h5, (trC 17 ⟨h4, (trC 2 ⟨h6, (trC 9 ⟨h7, ⟨h8, (trC 3 ⟨h9, ⟨h10, ⟨h11, (trC 2 ⟨h12, ⟨h13, ⟨h14, ⟨h15, ⟨h16, ⟨h17, trivial⟩⟩⟩⟩⟩⟩)⟩⟩⟩)⟩⟩)⟩)⟩)⟩)⟩)⟩)⟩)⟩)) (keepM 169 [2]) ([]) (by kernel_rfl) (by kernel_rfl) (by kernel_rfl)

theorem vout_14 (s : ByteArray) (t : ByteArray)
    (h1 : decide (191 < byteAt s 2) = true)
    (h2 : decide ((↑0 : Int) ≤ 2 ∧ 2 < (zI s)) = true)
    (h3 : decide (byteAt s 2 < 128) = false)
    (h4 : decide (AVal.toInt (ad s) < byteAt s 1) = false)
    (h5 : decide ((↑0 : Int) ≤ 1 ∧ 1 < (zI s)) = true)
    (h6 : decide (byteAt s 1 < AVal.toInt (ac s)) = false)
    (h7 : decide ((zI s) < 3) = false)
    (h8 : (IntKind.wrap i64 (b7 s) == 3) = true)
    (h9 : (IntKind.wrap i64 (b7 s) == 2) = false)
    (h10 : decide (Int.toNat (Int.fdiv (fb s) 16) * 2 + 2 ≤ 32) = true)
    (h11 : areKinds [Kind.int u8, Kind.int u8] [List.getD Tabs.acc (Int.toNat (Int.fdiv (fb s) 16) * 2) AVal.any, List.getD Tabs.acc (Int.toNat (Int.fdiv (fb s) 16) * 2 + 1) AVal.any] = true)
    (h12 : decide (0 ≤ Int.fdiv (fb s) 16 ∧ Int.fdiv (fb s) 16 < (↑16 : Int)) = true)
    (h13 : decide (Int.toNat (byteAt s 0) * 1 + 1 ≤ 256) = true)
    (h14 : areKinds [Kind.int u8] [List.getD Tabs.first (Int.toNat (byteAt s 0) * 1) AVal.any] = true)
    (h15 : decide (0 ≤ byteAt s 0 ∧ byteAt s 0 < (↑256 : Int)) = true)
    (h16 : decide (byteAt s 0 < 128) = false)
    (h17 : decide ((↑0 : Int) ≤ 0 ∧ 0 < (zI s)) = true)
    (h18 : decide ((zI s) > 0) = true) :
    TripN pgND 0 (loopNo Tryd.f50 0) (rgV s) ([]) (AExit.ret) (mkR 169 [(2, tt false)]) ([]) :=
  evalT (st := St.mk (rgV s) ([]) ([br true, br false, br false, br true, br false, br false, br false, br false, br true]) []) (st' := St.mk (mkR 169 [(0, str s), (2, tt false), (3, AVal.int u8 (byteAt s 0)), (4, AVal.int u8 (fb s)), (5, iqND (IntKind.wrap i64 (b7 s))), (6, ptr 0 2 0 0), (7, str s), (8, iqND (zI s)), (9, tt true), (10, str s), (11, AVal.int u8 (byteAt s 0)), (12, AVal.int u8 (byteAt s 0)), (13, tt false), (65, AVal.int u8 (byteAt s 0)), (66, AVal.fptr 256 [Tabs.first] 0 (Int.toNat (byteAt s 0) * 1)), (67, AVal.int u8 (fb s)), (68, AVal.int u8 (fb s)), (69, AVal.int u8 (b7 s)), (70, iqND (IntKind.wrap i64 (b7 s))), (71, AVal.int u8 (fb s)), (72, AVal.int u8 (Int.fdiv (fb s) 16)), (73, AVal.fptr 32 [Tabs.acc] 0 (Int.toNat (Int.fdiv (fb s) 16) * 2)), (74, agg [AVal.int u8 (AVal.toInt (ac s)), AVal.int u8 (AVal.toInt (ad s))]), (75, iqND (IntKind.wrap i64 (b7 s))), (76, tt false), (77, bool (IntKind.wrap i64 (b7 s) == 2)), (97, tt true), (98, bool (IntKind.wrap i64 (b7 s) == 3)), (99, str s), (100, iqND (zI s)), (101, bool (decide ((zI s) < 3))), (102, tt false), (103, str s), (104, AVal.int u8 (byteAt s 1)), (105, ptr 0 2 0 0), (106, AVal.int u8 (AVal.toInt (ac s))), (107, bool (decide (byteAt s 1 < AVal.toInt (ac s)))), (108, bool (decide (byteAt s 1 < AVal.toInt (ac s)))), (109, tt false), (110, ptr 0 2 0 1), (111, AVal.int u8 (AVal.toInt (ad s))), (112, str s), (113, AVal.int u8 (byteAt s 1)), (114, bool (decide (AVal.toInt (ad s) < byteAt s 1))), (115, bool (decide (AVal.toInt (ad s) < byteAt s 1))), (116, tt false), (117, str s), (118, AVal.int u8 (byteAt s 2)), (119, bool (decide (byteAt s 2 < 128))), (120, bool (decide (byteAt s 2 < 128))), (121, tt false), (122, str s), (123, AVal.int u8 (byteAt s 2)), (124, bool (decide (191 < byteAt s 2))), (125, tt true)]) ((z0ND s)) ([]) ((_) :: (tr 6 ++ ((_) :: (tr 2 ++ ((_) :: (tr 8 ++ ((_) :: (tr 2 ++ ((_) :: (tr 8 ++ ((_) :: (tr 9 ++ ((_) :: (tr 17 ++ ((_) :: (tr 2 ++ ((_) :: (tr 9 ++ ((_) :: ((_) :: (tr 3 ++ ((_) :: ((_) :: ((_) :: (tr 2 ++ ((_) :: ((_) :: ((_) :: ((_) :: ((_) :: ((_) :: [])))))))))))))))))))))))))))))))) followed (by kernel_rfl) (allP_of ⟨h1, (trC 6 ⟨h2, (trC 2 ⟨h3, (trC 8 ⟨h2, (trC 2 ⟨h4, (trC 8 ⟨h5, (trC 9 ⟨h6, (trC 17 ⟨h5, (trC 2 ⟨h7, (trC 9 ⟨h8, ⟨h9, (trC 3 ⟨h10, ⟨h11, ⟨h12, (trC 2 ⟨h13, ⟨h14, ⟨h15, ⟨h16, ⟨h17, ⟨h18, trivial⟩⟩⟩⟩⟩⟩)⟩⟩⟩)⟩⟩)⟩)⟩)⟩)⟩)⟩)⟩)⟩)⟩)⟩) (keepM 169 [2]) ([]) (by kernel_rfl) (by kernel_rfl) (by kernel_rfl)

theorem vout_15 (s : ByteArray) (t : ByteArray)
    (h1 : decide ((↑0 : Int) ≤ 3 ∧ 3 ≤ (zI s) ∧ (zI s) ≤ (zI s)) = true)
    (h2 : decide (191 < byteAt s 2) = false)
    (h3 : decide ((↑0 : Int) ≤ 2 ∧ 2 < (zI s)) = true)
    (h4 : decide (byteAt s 2 < 128) = false)
    (h5 : decide (AVal.toInt (ad s) < byteAt s 1) = false)
    (h6 : decide ((↑0 : Int) ≤ 1 ∧ 1 < (zI s)) = true)
    (h7 : decide (byteAt s 1 < AVal.toInt (ac s)) = false)
    (h8 : decide ((zI s) < 3) = false)
    (h9 : (IntKind.wrap i64 (b7 s) == 3) = true)
    (h10 : (IntKind.wrap i64 (b7 s) == 2) = false)
    (h11 : decide (Int.toNat (Int.fdiv (fb s) 16) * 2 + 2 ≤ 32) = true)
    (h12 : areKinds [Kind.int u8, Kind.int u8] [List.getD Tabs.acc (Int.toNat (Int.fdiv (fb s) 16) * 2) AVal.any, List.getD Tabs.acc (Int.toNat (Int.fdiv (fb s) 16) * 2 + 1) AVal.any] = true)
    (h13 : decide (0 ≤ Int.fdiv (fb s) 16 ∧ Int.fdiv (fb s) 16 < (↑16 : Int)) = true)
    (h14 : decide (Int.toNat (byteAt s 0) * 1 + 1 ≤ 256) = true)
    (h15 : areKinds [Kind.int u8] [List.getD Tabs.first (Int.toNat (byteAt s 0) * 1) AVal.any] = true)
    (h16 : decide (0 ≤ byteAt s 0 ∧ byteAt s 0 < (↑256 : Int)) = true)
    (h17 : decide (byteAt s 0 < 128) = false)
    (h18 : decide ((↑0 : Int) ≤ 0 ∧ 0 < (zI s)) = true)
    (h19 : decide ((zI s) > 0) = true) :
    TripN pgND 0 (loopNo Tryd.f50 0) (rgV s) ([]) (normal) (mkR 169 [(0, str (xt s 3))]) ([]) :=
  evalT (st := St.mk (rgV s) ([]) ([br true, br false, br false, br true, br false, br false, br false, br false, br false]) []) (st' := St.mk (mkR 169 [(0, str (xt s 3)), (3, AVal.int u8 (byteAt s 0)), (4, AVal.int u8 (fb s)), (5, iqND (IntKind.wrap i64 (b7 s))), (6, ptr 0 2 0 0), (7, str s), (8, iqND (zI s)), (9, tt true), (10, str s), (11, AVal.int u8 (byteAt s 0)), (12, AVal.int u8 (byteAt s 0)), (13, tt false), (65, AVal.int u8 (byteAt s 0)), (66, AVal.fptr 256 [Tabs.first] 0 (Int.toNat (byteAt s 0) * 1)), (67, AVal.int u8 (fb s)), (68, AVal.int u8 (fb s)), (69, AVal.int u8 (b7 s)), (70, iqND (IntKind.wrap i64 (b7 s))), (71, AVal.int u8 (fb s)), (72, AVal.int u8 (Int.fdiv (fb s) 16)), (73, AVal.fptr 32 [Tabs.acc] 0 (Int.toNat (Int.fdiv (fb s) 16) * 2)), (74, agg [AVal.int u8 (AVal.toInt (ac s)), AVal.int u8 (AVal.toInt (ad s))]), (75, iqND (IntKind.wrap i64 (b7 s))), (76, tt false), (77, bool (IntKind.wrap i64 (b7 s) == 2)), (97, tt true), (98, bool (IntKind.wrap i64 (b7 s) == 3)), (99, str s), (100, iqND (zI s)), (101, bool (decide ((zI s) < 3))), (102, tt false), (103, str s), (104, AVal.int u8 (byteAt s 1)), (105, ptr 0 2 0 0), (106, AVal.int u8 (AVal.toInt (ac s))), (107, bool (decide (byteAt s 1 < AVal.toInt (ac s)))), (108, bool (decide (byteAt s 1 < AVal.toInt (ac s)))), (109, tt false), (110, ptr 0 2 0 1), (111, AVal.int u8 (AVal.toInt (ad s))), (112, str s), (113, AVal.int u8 (byteAt s 1)), (114, bool (decide (AVal.toInt (ad s) < byteAt s 1))), (115, bool (decide (AVal.toInt (ad s) < byteAt s 1))), (116, tt false), (117, str s), (118, AVal.int u8 (byteAt s 2)), (119, bool (decide (byteAt s 2 < 128))), (120, bool (decide (byteAt s 2 < 128))), (121, tt false), (122, str s), (123, AVal.int u8 (byteAt s 2)), (124, bool (decide (191 < byteAt s 2))), (125, tt false), (126, str s), (127, str (xt s 3))]) ((z0ND s)) ([]) ((_) :: ((_) :: (tr 6 ++ ((_) :: (tr 2 ++ ((_) :: (tr 8 ++ ((_) :: (tr 2 ++ ((_) :: (tr 8 ++ ((_) :: (tr 9 ++ ((_) :: (tr 17 ++ ((_) :: (tr 2 ++ ((_) :: (tr 9 ++ ((_) :: ((_) :: (tr 3 ++ ((_) :: ((_) :: ((_) :: (tr 2 ++ ((_) :: ((_) :: ((_) :: ((_) :: ((_) :: ((_) :: []))))))))))))))))))))))))))))))))) followed (by kernel_rfl) (allP_of ⟨h1, ⟨h2, (trC 6 ⟨h3, (trC 2 ⟨h4, (trC 8 ⟨h3, (trC 2 ⟨h5, (trC 8 ⟨h6, (trC 9 ⟨h7, (trC 17 ⟨h6, (trC 2 ⟨h8, (trC 9 ⟨h9, ⟨h10, (trC 3 ⟨h11, ⟨h12, ⟨h13, (trC 2 ⟨h14, ⟨h15, ⟨h16, ⟨h17, ⟨h18, ⟨h19, trivial⟩⟩⟩⟩⟩⟩)⟩⟩⟩)⟩⟩)⟩)⟩)⟩)⟩)⟩)⟩)⟩)⟩)⟩⟩) (keepM 169 [0]) ([]) (by kernel_rfl) (by kernel_rfl) (by kernel_rfl)

theorem vout_16 (s : ByteArray) (t : ByteArray)
    (h1 : decide ((zI s) < 4) = true)
    (h2 : (IntKind.wrap i64 (b7 s) == 4) = true)
    (h3 : (IntKind.wrap i64 (b7 s) == 3) = false)
    (h4 : (IntKind.wrap i64 (b7 s) == 2) = false)
    (h5 : decide (Int.toNat (Int.fdiv (fb s) 16) * 2 + 2 ≤ 32) = true)
    (h6 : areKinds [Kind.int u8, Kind.int u8] [List.getD Tabs.acc (Int.toNat (Int.fdiv (fb s) 16) * 2) AVal.any, List.getD Tabs.acc (Int.toNat (Int.fdiv (fb s) 16) * 2 + 1) AVal.any] = true)
    (h7 : decide (0 ≤ Int.fdiv (fb s) 16 ∧ Int.fdiv (fb s) 16 < (↑16 : Int)) = true)
    (h8 : decide (Int.toNat (byteAt s 0) * 1 + 1 ≤ 256) = true)
    (h9 : areKinds [Kind.int u8] [List.getD Tabs.first (Int.toNat (byteAt s 0) * 1) AVal.any] = true)
    (h10 : decide (0 ≤ byteAt s 0 ∧ byteAt s 0 < (↑256 : Int)) = true)
    (h11 : decide (byteAt s 0 < 128) = false)
    (h12 : decide ((↑0 : Int) ≤ 0 ∧ 0 < (zI s)) = true)
    (h13 : decide ((zI s) > 0) = true) :
    TripN pgND 0 (loopNo Tryd.f50 0) (rgV s) ([]) (AExit.ret) (mkR 169 [(2, tt false)]) ([]) :=
  evalT (st := St.mk (rgV s) ([]) ([br true, br false, br false, br false, br true, br true]) []) (st' := St.mk (mkR 169 [(0, str s), (2, tt false), (3, AVal.int u8 (byteAt s 0)), (4, AVal.int u8 (fb s)), (5, iqND (IntKind.wrap i64 (b7 s))), (6, ptr 0 2 0 0), (7, str s), (8, iqND (zI s)), (9, tt true), (10, str s), (11, AVal.int u8 (byteAt s 0)), (12, AVal.int u8 (byteAt s 0)), (13, tt false), (65, AVal.int u8 (byteAt s 0)), (66, AVal.fptr 256 [Tabs.first] 0 (Int.toNat (byteAt s 0) * 1)), (67, AVal.int u8 (fb s)), (68, AVal.int u8 (fb s)), (69, AVal.int u8 (b7 s)), (70, iqND (IntKind.wrap i64 (b7 s))), (71, AVal.int u8 (fb s)), (72, AVal.int u8 (Int.fdiv (fb s) 16)), (73, AVal.fptr 32 [Tabs.acc] 0 (Int.toNat (Int.fdiv (fb s) 16) * 2)), (74, agg [AVal.int u8 (AVal.toInt (ac s)), AVal.int u8 (AVal.toInt (ad s))]), (75, iqND (IntKind.wrap i64 (b7 s))), (76, tt false), (77, bool (IntKind.wrap i64 (b7 s) == 2)), (97, tt false), (98, bool (IntKind.wrap i64 (b7 s) == 3)), (128, tt true), (129, bool (IntKind.wrap i64 (b7 s) == 4)), (130, str s), (131, iqND (zI s)), (132, bool (decide ((zI s) < 4))), (133, tt true), (134, tuple []), (135, tuple []), (136, tuple []), (137, tuple []), (138, tuple []), (139, tt true), (140, tt true), (141, tuple []), (142, tuple []), (143, tuple []), (144, tuple []), (145, tuple []), (146, tt true), (147, tt true), (148, tuple []), (149, tuple []), (150, tuple []), (151, tt true), (152, tt true), (153, tuple []), (154, tuple []), (155, tuple []), (156, tt true), (157, tt true), (158, tuple []), (159, tuple []), (160, tuple []), (161, tt true), (162, tt true), (163, tuple []), (164, tuple []), (165, tuple []), (166, tt true)]) ((z0ND s)) ([]) (tr 66 ++ ((_) :: (tr 9 ++ ((_) :: ((_) :: ((_) :: (tr 3 ++ ((_) :: ((_) :: ((_) :: (tr 2 ++ ((_) :: ((_) :: ((_) :: ((_) :: ((_) :: ((_) :: [])))))))))))))))))) followed (by kernel_rfl) (allP_of (trC 66 ⟨h1, (trC 9 ⟨h2, ⟨h3, ⟨h4, (trC 3 ⟨h5, ⟨h6, ⟨h7, (trC 2 ⟨h8, ⟨h9, ⟨h10, ⟨h11, ⟨h12, ⟨h13, trivial⟩⟩⟩⟩⟩⟩)⟩⟩⟩)⟩⟩⟩)⟩)) (keepM 169 [2]) ([]) (by kernel_rfl) (by kernel_rfl) (by kernel_rfl)

theorem vout_17 (s : ByteArray) (t : ByteArray)
    (h1 : decide (byteAt s 1 < AVal.toInt (ac s)) = true)
    (h2 : decide ((↑0 : Int) ≤ 1 ∧ 1 < (zI s)) = true)
    (h3 : decide ((zI s) < 4) = false)
    (h4 : (IntKind.wrap i64 (b7 s) == 4) = true)
    (h5 : (IntKind.wrap i64 (b7 s) == 3) = false)
    (h6 : (IntKind.wrap i64 (b7 s) == 2) = false)
    (h7 : decide (Int.toNat (Int.fdiv (fb s) 16) * 2 + 2 ≤ 32) = true)
    (h8 : areKinds [Kind.int u8, Kind.int u8] [List.getD Tabs.acc (Int.toNat (Int.fdiv (fb s) 16) * 2) AVal.any, List.getD Tabs.acc (Int.toNat (Int.fdiv (fb s) 16) * 2 + 1) AVal.any] = true)
    (h9 : decide (0 ≤ Int.fdiv (fb s) 16 ∧ Int.fdiv (fb s) 16 < (↑16 : Int)) = true)
    (h10 : decide (Int.toNat (byteAt s 0) * 1 + 1 ≤ 256) = true)
    (h11 : areKinds [Kind.int u8] [List.getD Tabs.first (Int.toNat (byteAt s 0) * 1) AVal.any] = true)
    (h12 : decide (0 ≤ byteAt s 0 ∧ byteAt s 0 < (↑256 : Int)) = true)
    (h13 : decide (byteAt s 0 < 128) = false)
    (h14 : decide ((↑0 : Int) ≤ 0 ∧ 0 < (zI s)) = true)
    (h15 : decide ((zI s) > 0) = true) :
    TripN pgND 0 (loopNo Tryd.f50 0) (rgV s) ([]) (AExit.ret) (mkR 169 [(2, tt false)]) ([]) :=
  evalT (st := St.mk (rgV s) ([]) ([br true, br false, br false, br false, br true, br false, br true]) []) (st' := St.mk (mkR 169 [(0, str s), (2, tt false), (3, AVal.int u8 (byteAt s 0)), (4, AVal.int u8 (fb s)), (5, iqND (IntKind.wrap i64 (b7 s))), (6, ptr 0 2 0 0), (7, str s), (8, iqND (zI s)), (9, tt true), (10, str s), (11, AVal.int u8 (byteAt s 0)), (12, AVal.int u8 (byteAt s 0)), (13, tt false), (65, AVal.int u8 (byteAt s 0)), (66, AVal.fptr 256 [Tabs.first] 0 (Int.toNat (byteAt s 0) * 1)), (67, AVal.int u8 (fb s)), (68, AVal.int u8 (fb s)), (69, AVal.int u8 (b7 s)), (70, iqND (IntKind.wrap i64 (b7 s))), (71, AVal.int u8 (fb s)), (72, AVal.int u8 (Int.fdiv (fb s) 16)), (73, AVal.fptr 32 [Tabs.acc] 0 (Int.toNat (Int.fdiv (fb s) 16) * 2)), (74, agg [AVal.int u8 (AVal.toInt (ac s)), AVal.int u8 (AVal.toInt (ad s))]), (75, iqND (IntKind.wrap i64 (b7 s))), (76, tt false), (77, bool (IntKind.wrap i64 (b7 s) == 2)), (97, tt false), (98, bool (IntKind.wrap i64 (b7 s) == 3)), (128, tt true), (129, bool (IntKind.wrap i64 (b7 s) == 4)), (130, str s), (131, iqND (zI s)), (132, bool (decide ((zI s) < 4))), (133, tt false), (134, str s), (135, AVal.int u8 (byteAt s 1)), (136, ptr 0 2 0 0), (137, AVal.int u8 (AVal.toInt (ac s))), (138, bool (decide (byteAt s 1 < AVal.toInt (ac s)))), (139, bool (decide (byteAt s 1 < AVal.toInt (ac s)))), (140, tt true), (141, tuple []), (142, tuple []), (143, tuple []), (144, tuple []), (145, tuple []), (146, tt true), (147, tt true), (148, tuple []), (149, tuple []), (150, tuple []), (151, tt true), (152, tt true), (153, tuple []), (154, tuple []), (155, tuple []), (156, tt true), (157, tt true), (158, tuple []), (159, tuple []), (160, tuple []), (161, tt true), (162, tt true), (163, tuple []), (164, tuple []), (165, tuple []), (166, tt true)]) ((z0ND s)) ([]) (tr 52 ++ ((_) :: (tr 17 ++ ((_) :: (tr 2 ++ ((_) :: (tr 9 ++ ((_) :: ((_) :: ((_) :: (tr 3 ++ ((_) :: ((_) :: ((_) :: (tr 2 ++ ((_) :: ((_) :: ((_) :: ((_) :: ((_) :: ((_) :: [])))))))))))))))))))))) followed (by kernel_rfl) (allP_of (trC 52 ⟨h1, (trC 17 ⟨h2, (trC 2 ⟨h3, (trC 9 ⟨h4, ⟨h5, ⟨h6, (trC 3 ⟨h7, ⟨h8, ⟨h9, (trC 2 ⟨h10, ⟨h11, ⟨h12, ⟨h13, ⟨h14, ⟨h15, trivial⟩⟩⟩⟩⟩⟩)⟩⟩⟩)⟩⟩⟩)⟩)⟩)⟩)) (keepM 169 [2]) ([]) (by kernel_rfl) (by kernel_rfl) (by kernel_rfl)

theorem vout_18 (s : ByteArray) (t : ByteArray)
    (h1 : decide (AVal.toInt (ad s) < byteAt s 1) = true)
    (h2 : decide ((↑0 : Int) ≤ 1 ∧ 1 < (zI s)) = true)
    (h3 : decide (byteAt s 1 < AVal.toInt (ac s)) = false)
    (h4 : decide ((zI s) < 4) = false)
    (h5 : (IntKind.wrap i64 (b7 s) == 4) = true)
    (h6 : (IntKind.wrap i64 (b7 s) == 3) = false)
    (h7 : (IntKind.wrap i64 (b7 s) == 2) = false)
    (h8 : decide (Int.toNat (Int.fdiv (fb s) 16) * 2 + 2 ≤ 32) = true)
    (h9 : areKinds [Kind.int u8, Kind.int u8] [List.getD Tabs.acc (Int.toNat (Int.fdiv (fb s) 16) * 2) AVal.any, List.getD Tabs.acc (Int.toNat (Int.fdiv (fb s) 16) * 2 + 1) AVal.any] = true)
    (h10 : decide (0 ≤ Int.fdiv (fb s) 16 ∧ Int.fdiv (fb s) 16 < (↑16 : Int)) = true)
    (h11 : decide (Int.toNat (byteAt s 0) * 1 + 1 ≤ 256) = true)
    (h12 : areKinds [Kind.int u8] [List.getD Tabs.first (Int.toNat (byteAt s 0) * 1) AVal.any] = true)
    (h13 : decide (0 ≤ byteAt s 0 ∧ byteAt s 0 < (↑256 : Int)) = true)
    (h14 : decide (byteAt s 0 < 128) = false)
    (h15 : decide ((↑0 : Int) ≤ 0 ∧ 0 < (zI s)) = true)
    (h16 : decide ((zI s) > 0) = true) :
    TripN pgND 0 (loopNo Tryd.f50 0) (rgV s) ([]) (AExit.ret) (mkR 169 [(2, tt false)]) ([]) :=
  evalT (st := St.mk (rgV s) ([]) ([br true, br false, br false, br false, br true, br false, br false, br true]) []) (st' := St.mk (mkR 169 [(0, str s), (2, tt false), (3, AVal.int u8 (byteAt s 0)), (4, AVal.int u8 (fb s)), (5, iqND (IntKind.wrap i64 (b7 s))), (6, ptr 0 2 0 0), (7, str s), (8, iqND (zI s)), (9, tt true), (10, str s), (11, AVal.int u8 (byteAt s 0)), (12, AVal.int u8 (byteAt s 0)), (13, tt false), (65, AVal.int u8 (byteAt s 0)), (66, AVal.fptr 256 [Tabs.first] 0 (Int.toNat (byteAt s 0) * 1)), (67, AVal.int u8 (fb s)), (68, AVal.int u8 (fb s)), (69, AVal.int u8 (b7 s)), (70, iqND (IntKind.wrap i64 (b7 s))), (71, AVal.int u8 (fb s)), (72, AVal.int u8 (Int.fdiv (fb s) 16)), (73, AVal.fptr 32 [Tabs.acc] 0 (Int.toNat (Int.fdiv (fb s) 16) * 2)), (74, agg [AVal.int u8 (AVal.toInt (ac s)), AVal.int u8 (AVal.toInt (ad s))]), (75, iqND (IntKind.wrap i64 (b7 s))), (76, tt false), (77, bool (IntKind.wrap i64 (b7 s) == 2)), (97, tt false), (98, bool (IntKind.wrap i64 (b7 s) == 3)), (128, tt true), (129, bool (IntKind.wrap i64 (b7 s) == 4)), (130, str s), (131, iqND (zI s)), (132, bool (decide ((zI s) < 4))), (133, tt false), (134, str s), (135, AVal.int u8 (byteAt s 1)), (136, ptr 0 2 0 0), (137, AVal.int u8 (AVal.toInt (ac s))), (138, bool (decide (byteAt s 1 < AVal.toInt (ac s)))), (139, bool (decide (byteAt s 1 < AVal.toInt (ac s)))), (140, tt false), (141, ptr 0 2 0 1), (142, AVal.int u8 (AVal.toInt (ad s))), (143, str s), (144, AVal.int u8 (byteAt s 1)), (145, bool (decide (AVal.toInt (ad s) < byteAt s 1))), (146, bool (decide (AVal.toInt (ad s) < byteAt s 1))), (147, tt true), (148, tuple []), (149, tuple []), (150, tuple []), (151, tt true), (152, tt true), (153, tuple []), (154, tuple []), (155, tuple []), (156, tt true), (157, tt true), (158, tuple []), (159, tuple []), (160, tuple []), (161, tt true), (162, tt true), (163, tuple []), (164, tuple []), (165, tuple []), (166, tt true)]) ((z0ND s)) ([]) (tr 38 ++ ((_) :: (tr 8 ++ ((_) :: (tr 9 ++ ((_) :: (tr 17 ++ ((_) :: (tr 2 ++ ((_) :: (tr 9 ++ ((_) :: ((_) :: ((_) :: (tr 3 ++ ((_) :: ((_) :: ((_) :: (tr 2 ++ ((_) :: ((_) :: ((_) :: ((_) :: ((_) :: ((_) :: [])))))))))))))))))))))))))) followed (by kernel_rfl) (allP_of (trC 38 ⟨h1, (trC 8 ⟨h2, (trC 9 ⟨h3, (trC 17 ⟨h2, (trC 2 ⟨h4, (trC 9 ⟨h5, ⟨h6, ⟨h7, (trC 3 ⟨h8, ⟨h9, ⟨h10, (trC 2 ⟨h11, ⟨h12, ⟨h13, ⟨h14, ⟨h15, ⟨h16, trivial⟩⟩⟩⟩⟩⟩)⟩⟩⟩)⟩⟩⟩)⟩)⟩)⟩)⟩)⟩)) (keepM 169 [2]) ([]) (by kernel_rfl) (by kernel_rfl) (by kernel_rfl)

theorem vout_19 (s : ByteArray) (t : ByteArray)
    (h1 : decide (byteAt s 2 < 128) = true)
    (h2 : decide ((↑0 : Int) ≤ 2 ∧ 2 < (zI s)) = true)
    (h3 : decide (AVal.toInt (ad s) < byteAt s 1) = false)
    (h4 : decide ((↑0 : Int) ≤ 1 ∧ 1 < (zI s)) = true)
    (h5 : decide (byteAt s 1 < AVal.toInt (ac s)) = false)
    (h6 : decide ((zI s) < 4) = false)
    (h7 : (IntKind.wrap i64 (b7 s) == 4) = true)
    (h8 : (IntKind.wrap i64 (b7 s) == 3) = false)
    (h9 : (IntKind.wrap i64 (b7 s) == 2) = false)
    (h10 : decide (Int.toNat (Int.fdiv (fb s) 16) * 2 + 2 ≤ 32) = true)
    (h11 : areKinds [Kind.int u8, Kind.int u8] [List.getD Tabs.acc (Int.toNat (Int.fdiv (fb s) 16) * 2) AVal.any, List.getD Tabs.acc (Int.toNat (Int.fdiv (fb s) 16) * 2 + 1) AVal.any] = true)
    (h12 : decide (0 ≤ Int.fdiv (fb s) 16 ∧ Int.fdiv (fb s) 16 < (↑16 : Int)) = true)
    (h13 : decide (Int.toNat (byteAt s 0) * 1 + 1 ≤ 256) = true)
    (h14 : areKinds [Kind.int u8] [List.getD Tabs.first (Int.toNat (byteAt s 0) * 1) AVal.any] = true)
    (h15 : decide (0 ≤ byteAt s 0 ∧ byteAt s 0 < (↑256 : Int)) = true)
    (h16 : decide (byteAt s 0 < 128) = false)
    (h17 : decide ((↑0 : Int) ≤ 0 ∧ 0 < (zI s)) = true)
    (h18 : decide ((zI s) > 0) = true) :
    TripN pgND 0 (loopNo Tryd.f50 0) (rgV s) ([]) (AExit.ret) (mkR 169 [(2, tt false)]) ([]) :=
  evalT (st := St.mk (rgV s) ([]) ([br true, br false, br false, br false, br true, br false, br false, br false, br true]) []) (st' := St.mk (mkR 169 [(0, str s), (2, tt false), (3, AVal.int u8 (byteAt s 0)), (4, AVal.int u8 (fb s)), (5, iqND (IntKind.wrap i64 (b7 s))), (6, ptr 0 2 0 0), (7, str s), (8, iqND (zI s)), (9, tt true), (10, str s), (11, AVal.int u8 (byteAt s 0)), (12, AVal.int u8 (byteAt s 0)), (13, tt false), (65, AVal.int u8 (byteAt s 0)), (66, AVal.fptr 256 [Tabs.first] 0 (Int.toNat (byteAt s 0) * 1)), (67, AVal.int u8 (fb s)), (68, AVal.int u8 (fb s)), (69, AVal.int u8 (b7 s)), (70, iqND (IntKind.wrap i64 (b7 s))), (71, AVal.int u8 (fb s)), (72, AVal.int u8 (Int.fdiv (fb s) 16)), (73, AVal.fptr 32 [Tabs.acc] 0 (Int.toNat (Int.fdiv (fb s) 16) * 2)), (74, agg [AVal.int u8 (AVal.toInt (ac s)), AVal.int u8 (AVal.toInt (ad s))]), (75, iqND (IntKind.wrap i64 (b7 s))), (76, tt false), (77, bool (IntKind.wrap i64 (b7 s) == 2)), (97, tt false), (98, bool (IntKind.wrap i64 (b7 s) == 3)), (128, tt true), (129, bool (IntKind.wrap i64 (b7 s) == 4)), (130, str s), (131, iqND (zI s)), (132, bool (decide ((zI s) < 4))), (133, tt false), (134, str s), (135, AVal.int u8 (byteAt s 1)), (136, ptr 0 2 0 0), (137, AVal.int u8 (AVal.toInt (ac s))), (138, bool (decide (byteAt s 1 < AVal.toInt (ac s)))), (139, bool (decide (byteAt s 1 < AVal.toInt (ac s)))), (140, tt false), (141, ptr 0 2 0 1), (142, AVal.int u8 (AVal.toInt (ad s))), (143, str s), (144, AVal.int u8 (byteAt s 1)), (145, bool (decide (AVal.toInt (ad s) < byteAt s 1))), (146, bool (decide (AVal.toInt (ad s) < byteAt s 1))), (147, tt false), (148, str s), (149, AVal.int u8 (byteAt s 2)), (150, bool (decide (byteAt s 2 < 128))), (151, bool (decide (byteAt s 2 < 128))), (152, tt true), (153, tuple []), (154, tuple []), (155, tuple []), (156, tt true), (157, tt true), (158, tuple []), (159, tuple []), (160, tuple []), (161, tt true), (162, tt true), (163, tuple []), (164, tuple []), (165, tuple []), (166, tt true)]) ((z0ND s)) ([]) (tr 28 ++ ((_) :: (tr 8 ++ ((_) :: (tr 2 ++ ((_) :: (tr 8 ++ ((_) :: (tr 9 ++ ((_) :: (tr 17 ++ ((_) :: (tr 2 ++ ((_) :: (tr 9 ++ ((_) :: ((_) :: ((_) :: (tr 3 ++ ((_) :: ((_) :: ((_) :: (tr 2 ++ ((_) :: ((_) :: ((_) :: ((_) :: ((_) :: ((_) :: [])))))))))))))))))))))))))))))) followed (by kernel_rfl) (allP_of (trC 28 ⟨h1, (trC 8 ⟨h2, (trC 2 ⟨h3, (trC 8 ⟨h4, (trC 9 ⟨h5, (trC 17 ⟨h4, (trC 2 ⟨h6, (trC 9 ⟨h7, ⟨h8, ⟨h9, (trC 3 ⟨h10, ⟨h11, ⟨h12, (trC 2 ⟨h13, ⟨h14, ⟨h15, ⟨h16, ⟨h17, ⟨h18, trivial⟩⟩⟩⟩⟩⟩)⟩⟩⟩)⟩⟩⟩)⟩)⟩)⟩)⟩)⟩)⟩)⟩)) (keepM 169 [2]) ([]) (by kernel_rfl) (by kernel_rfl) (by kernel_rfl)

theorem vout_20 (s : ByteArray) (t : ByteArray)
    (h1 : decide (191 < byteAt s 2) = true)
    (h2 : decide ((↑0 : Int) ≤ 2 ∧ 2 < (zI s)) = true)
    (h3 : decide (byteAt s 2 < 128) = false)
    (h4 : decide (AVal.toInt (ad s) < byteAt s 1) = false)
    (h5 : decide ((↑0 : Int) ≤ 1 ∧ 1 < (zI s)) = true)
    (h6 : decide (byteAt s 1 < AVal.toInt (ac s)) = false)
    (h7 : decide ((zI s) < 4) = false)
    (h8 : (IntKind.wrap i64 (b7 s) == 4) = true)
    (h9 : (IntKind.wrap i64 (b7 s) == 3) = false)
    (h10 : (IntKind.wrap i64 (b7 s) == 2) = false)
    (h11 : decide (Int.toNat (Int.fdiv (fb s) 16) * 2 + 2 ≤ 32) = true)
    (h12 : areKinds [Kind.int u8, Kind.int u8] [List.getD Tabs.acc (Int.toNat (Int.fdiv (fb s) 16) * 2) AVal.any, List.getD Tabs.acc (Int.toNat (Int.fdiv (fb s) 16) * 2 + 1) AVal.any] = true)
    (h13 : decide (0 ≤ Int.fdiv (fb s) 16 ∧ Int.fdiv (fb s) 16 < (↑16 : Int)) = true)
    (h14 : decide (Int.toNat (byteAt s 0) * 1 + 1 ≤ 256) = true)
    (h15 : areKinds [Kind.int u8] [List.getD Tabs.first (Int.toNat (byteAt s 0) * 1) AVal.any] = true)
    (h16 : decide (0 ≤ byteAt s 0 ∧ byteAt s 0 < (↑256 : Int)) = true)
    (h17 : decide (byteAt s 0 < 128) = false)
    (h18 : decide ((↑0 : Int) ≤ 0 ∧ 0 < (zI s)) = true)
    (h19 : decide ((zI s) > 0) = true) :
    TripN pgND 0 (loopNo Tryd.f50 0) (rgV s) ([]) (AExit.ret) (mkR 169 [(2, tt false)]) ([]) :=
  evalT (st := St.mk (rgV s) ([]) ([br true, br false, br false, br false, br true, br false, br false, br false, br false, br true]) []) (st' := St.mk (mkR 169 [(0, str s), (2, tt false), (3, AVal.int u8 (byteAt s 0)), (4, AVal.int u8 (fb s)), (5, iqND (IntKind.wrap i64 (b7 s))), (6, ptr 0 2 0 0), (7, str s), (8, iqND (zI s)), (9, tt true), (10, str s), (11, AVal.int u8 (byteAt s 0)), (12, AVal.int u8 (byteAt s 0)), (13, tt false), (65, AVal.int u8 (byteAt s 0)), (66, AVal.fptr 256 [Tabs.first] 0 (Int.toNat (byteAt s 0) * 1)), (67, AVal.int u8 (fb s)), (68, AVal.int u8 (fb s)), (69, AVal.int u8 (b7 s)), (70, iqND (IntKind.wrap i64 (b7 s))), (71, AVal.int u8 (fb s)), (72, AVal.int u8 (Int.fdiv (fb s) 16)), (73, AVal.fptr 32 [Tabs.acc] 0 (Int.toNat (Int.fdiv (fb s) 16) * 2)), (74, agg [AVal.int u8 (AVal.toInt (ac s)), AVal.int u8 (AVal.toInt (ad s))]), (75, iqND (IntKind.wrap i64 (b7 s))), (76, tt false), (77, bool (IntKind.wrap i64 (b7 s) == 2)), (97, tt false), (98, bool (IntKind.wrap i64 (b7 s) == 3)), (128, tt true), (129, bool (IntKind.wrap i64 (b7 s) == 4)), (130, str s), (131, iqND (zI s)), (132, bool (decide ((zI s) < 4))), (133, tt false), (134, str s), (135, AVal.int u8 (byteAt s 1)), (136, ptr 0 2 0 0), (137, AVal.int u8 (AVal.toInt (ac s))), (138, bool (decide (byteAt s 1 < AVal.toInt (ac s)))), (139, bool (decide (byteAt s 1 < AVal.toInt (ac s)))), (140, tt false), (141, ptr 0 2 0 1), (142, AVal.int u8 (AVal.toInt (ad s))), (143, str s), (144, AVal.int u8 (byteAt s 1)), (145, bool (decide (AVal.toInt (ad s) < byteAt s 1))), (146, bool (decide (AVal.toInt (ad s) < byteAt s 1))), (147, tt false), (148, str s), (149, AVal.int u8 (byteAt s 2)), (150, bool (decide (byteAt s 2 < 128))), (151, bool (decide (byteAt s 2 < 128))), (152, tt false), (153, str s), (154, AVal.int u8 (byteAt s 2)), (155, bool (decide (191 < byteAt s 2))), (156, bool (decide (191 < byteAt s 2))), (157, tt true), (158, tuple []), (159, tuple []), (160, tuple []), (161, tt true), (162, tt true), (163, tuple []), (164, tuple []), (165, tuple []), (166, tt true)]) ((z0ND s)) ([]) (tr 18 ++ ((_) :: (tr 8 ++ ((_) :: (tr 2 ++ ((_) :: (tr 8 ++ ((_) :: (tr 2 ++ ((_) :: (tr 8 ++ ((_) :: (tr 9 ++ ((_) :: (tr 17 ++ ((_) :: (tr 2 ++ ((_) :: (tr 9 ++ ((_) :: ((_) :: ((_) :: (tr 3 ++ ((_) :: ((_) :: ((_) :: (tr 2 ++ ((_) :: ((_) :: ((_) :: ((_) :: ((_) :: ((_) :: [])))))))))))))))))))))))))))))))))) followed (by kernel_rfl) (allP_of (trC 18 ⟨h1, (trC 8 ⟨h2, (trC 2 ⟨h3, (trC 8 ⟨h2, (trC 2 ⟨h4, (trC 8 ⟨h5, (trC 9 ⟨h6, (trC 17 ⟨h5, (trC 2 ⟨h7, (trC 9 ⟨h8, ⟨h9, ⟨h10, (trC 3 ⟨h11, ⟨h12, ⟨h13, (trC 2 ⟨h14, ⟨h15, ⟨h16, ⟨h17, ⟨h18, ⟨h19, trivial⟩⟩⟩⟩⟩⟩)⟩⟩⟩)⟩⟩⟩)⟩)⟩)⟩)⟩)⟩)⟩)⟩)⟩)⟩)) (keepM 169 [2]) ([]) (by kernel_rfl) (by kernel_rfl) (by kernel_rfl)

theorem vout_21 (s : ByteArray) (t : ByteArray)
    (h1 : decide (byteAt s 3 < 128) = true)
    (h2 : decide ((↑0 : Int) ≤ 3 ∧ 3 < (zI s)) = true)
    (h3 : decide (191 < byteAt s 2) = false)
    (h4 : decide ((↑0 : Int) ≤ 2 ∧ 2 < (zI s)) = true)
    (h5 : decide (byteAt s 2 < 128) = false)
    (h6 : decide (AVal.toInt (ad s) < byteAt s 1) = false)
    (h7 : decide ((↑0 : Int) ≤ 1 ∧ 1 < (zI s)) = true)
    (h8 : decide (byteAt s 1 < AVal.toInt (ac s)) = false)
    (h9 : decide ((zI s) < 4) = false)
    (h10 : (IntKind.wrap i64 (b7 s) == 4) = true)
    (h11 : (IntKind.wrap i64 (b7 s) == 3) = false)
    (h12 : (IntKind.wrap i64 (b7 s) == 2) = false)
    (h13 : decide (Int.toNat (Int.fdiv (fb s) 16) * 2 + 2 ≤ 32) = true)
    (h14 : areKinds [Kind.int u8, Kind.int u8] [List.getD Tabs.acc (Int.toNat (Int.fdiv (fb s) 16) * 2) AVal.any, List.getD Tabs.acc (Int.toNat (Int.fdiv (fb s) 16) * 2 + 1) AVal.any] = true)
    (h15 : decide (0 ≤ Int.fdiv (fb s) 16 ∧ Int.fdiv (fb s) 16 < (↑16 : Int)) = true)
    (h16 : decide (Int.toNat (byteAt s 0) * 1 + 1 ≤ 256) = true)
    (h17 : areKinds [Kind.int u8] [List.getD Tabs.first (Int.toNat (byteAt s 0) * 1) AVal.any] = true)
    (h18 : decide (0 ≤ byteAt s 0 ∧ byteAt s 0 < (↑256 : Int)) = true)
    (h19 : decide (byteAt s 0 < 128) = false)
    (h20 : decide ((↑0 : Int) ≤ 0 ∧ 0 < (zI s)) = true)
    (h21 : decide ((zI s) > 0) = true) :
    TripN pgND 0 (loopNo Tryd.f50 0) (rgV s) ([]) (AExit.ret) (mkR 169 [(2, tt false)]) ([]) :=
  evalT (st := St.mk (rgV s) ([]) ([br true, br false, br false, br false, br true, br false, br false, br false, br false, br false, br true]) []) (st' := St.mk (mkR 169 [(0, str s), (2, tt false), (3, AVal.int u8 (byteAt s 0)), (4, AVal.int u8 (fb s)), (5, iqND (IntKind.wrap i64 (b7 s))), (6, ptr 0 2 0 0), (7, str s), (8, iqND (zI s)), (9, tt true), (10, str s), (11, AVal.int u8 (byteAt s 0)), (12, AVal.int u8 (byteAt s 0)), (13, tt false), (65, AVal.int u8 (byteAt s 0)), (66, AVal.fptr 256 [Tabs.first] 0 (Int.toNat (byteAt s 0) * 1)), (67, AVal.int u8 (fb s)), (68, AVal.int u8 (fb s)), (69, AVal.int u8 (b7 s)), (70, iqND (IntKind.wrap i64 (b7 s))), (71, AVal.int u8 (fb s)), (72, AVal.int u8 (Int.fdiv (fb s) 16)), (73, AVal.fptr 32 [Tabs.acc] 0 (Int.toNat (Int.fdiv (fb s) 16) * 2)), (74, agg [AVal.int u8 (AVal.toInt (ac s)), AVal.int u8 (AVal.toInt (ad s))]), (75, iqND (IntKind.wrap i64 (b7 s))), (76, tt false), (77, bool (IntKind.wrap i64 (b7 s) == 2)), (97, tt false), (98, bool (IntKind.wrap i64 (b7 s) == 3)), (128, tt true), (129, bool (IntKind.wrap i64 (b7 s) == 4)), (130, str s), (131, iqND (zI s)), (132, bool (decide ((zI s) < 4))), (133, tt false), (134, str s), (135, AVal.int u8 (byteAt s 1)), (136, ptr 0 2 0 0), (137, AVal.int u8 (AVal.toInt (ac s))), (138, bool (decide (byteAt s 1 < AVal.toInt (ac s)))), (139, bool (decide (byteAt s 1 < AVal.toInt (ac s)))), (140, tt false), (141, ptr 0 2 0 1), (142, AVal.int u8 (AVal.toInt (ad s))), (143, str s), (144, AVal.int u8 (byteAt s 1)), (145, bool (decide (AVal.toInt (ad s) < byteAt s 1))), (146, bool (decide (AVal.toInt (ad s) < byteAt s 1))), (147, tt false), (148, str s), (149, AVal.int u8 (byteAt s 2)), (150, bool (decide (byteAt s 2 < 128))), (151, bool (decide (byteAt s 2 < 128))), (152, tt false), (153, str s), (154, AVal.int u8 (byteAt s 2)), (155, bool (decide (191 < byteAt s 2))), (156, bool (decide (191 < byteAt s 2))), (157, tt false), (158, str s), (159, AVal.int u8 (byteAt s 3)), (160, bool (decide (byteAt s 3 < 128))), (161, bool (decide (byteAt s 3 < 128))), (162, tt true), (163, tuple []), (164, tuple []), (165, tuple []), (166, tt true)]) ((z0ND s)) ([]) (tr 8 ++ ((_) :: (tr 8 ++ ((_) :: (tr 2 ++ ((_) :: (tr 8 ++ ((_) :: (tr 2 ++ ((_) :: (tr 8 ++ ((_) :: (tr 2 ++ ((_) :: (tr 8 ++ ((_) :: (tr 9 ++ ((_) :: (tr 17 ++ ((_) :: (tr 2 ++ ((_) :: (tr 9 ++ ((_) :: ((_) :: ((_) :: (tr 3 ++ ((_) :: ((_) :: ((_) :: (tr 2 ++ ((_) :: ((_) :: ((_) :: ((_) :: ((_) :: ((_) :: [])))))))))))))))))))))))))))))))))))))) followed (by kernel_rfl) (allP_of (trC 8 ⟨h1, (trC 8 ⟨h2, (trC 2 ⟨h3, (trC 8 ⟨h4, (trC 2 ⟨h5, (trC 8 ⟨h4, (trC 2 ⟨h6, (trC 8 ⟨h7, (trC 9 ⟨h8, (trC 17 ⟨h7, (trC 2 ⟨h9, (trC 9 ⟨h10, ⟨h11, ⟨h12, (trC 3 ⟨h13, ⟨h14, ⟨h15, (trC 2 ⟨h16, ⟨h17, ⟨h18, ⟨h19, ⟨h20, ⟨h21, trivial⟩⟩⟩⟩⟩⟩)⟩⟩⟩)⟩⟩⟩)⟩)⟩)⟩)⟩)⟩)⟩)⟩)⟩)⟩)⟩)⟩)) (keepM 169 [2]) ([]) (by kernel_rfl) (by kernel_rfl) (by kernel_rfl)

theorem vout_22 (s : ByteArray) (t : ByteArray)
    (h1 : decide (191 < byteAt s 3) = true)
    (h2 : decide ((↑0 : Int) ≤ 3 ∧ 3 < (zI s)) = true)
    (h3 : decide (byteAt s 3 < 128) = false)
    (h4 : decide (191 < byteAt s 2) = false)
    (h5 : decide ((↑0 : Int) ≤ 2 ∧ 2 < (zI s)) = true)
    (h6 : decide (byteAt s 2 < 128) = false)
    (h7 : decide (AVal.toInt (ad s) < byteAt s 1) = false)
    (h8 : decide ((↑0 : Int) ≤ 1 ∧ 1 < (zI s)) = true)
    (h9 : decide (byteAt s 1 < AVal.toInt (ac s)) = false)
    (h10 : decide ((zI s) < 4) = false)
    (h11 : (IntKind.wrap i64 (b7 s) == 4) = true)
    (h12 : (IntKind.wrap i64 (b7 s) == 3) = false)
    (h13 : (IntKind.wrap i64 (b7 s) == 2) = false)
    (h14 : decide (Int.toNat (Int.fdiv (fb s) 16) * 2 + 2 ≤ 32) = true)
    (h15 : areKinds [Kind.int u8, Kind.int u8] [List.getD Tabs.acc (Int.toNat (Int.fdiv (fb s) 16) * 2) AVal.any, List.getD Tabs.acc (Int.toNat (Int.fdiv (fb s) 16) * 2 + 1) AVal.any] = true)
    (h16 : decide (0 ≤ Int.fdiv (fb s) 16 ∧ Int.fdiv (fb s) 16 < (↑16 : Int)) = true)
    (h17 : decide (Int.toNat (byteAt s 0) * 1 + 1 ≤ 256) = true)
    (h18 : areKinds [Kind.int u8] [List.getD Tabs.first (Int.toNat (byteAt s 0) * 1) AVal.any] = true)
    (h19 : decide (0 ≤ byteAt s 0 ∧ byteAt s 0 < (↑256 : Int)) = true)
    (h20 : decide (byteAt s 0 < 128) = false)
    (h21 : decide ((↑0 : Int) ≤ 0 ∧ 0 < (zI s)) = true)
    (h22 : decide ((zI s) > 0) = true) :
    TripN pgND 0 (loopNo Tryd.f50 0) (rgV s) ([]) (AExit.ret) (mkR 169 [(2, tt false)]) ([]) :=
  evalT (st := St.mk (rgV s) ([]) ([br true, br false, br false, br false, br true, br false, br false, br false, br false, br false, br false, br true]) []) (st' := St.mk (mkR 169 [(0, str s), (2, tt false), (3, AVal.int u8 (byteAt s 0)), (4, AVal.int u8 (fb s)), (5, iqND (IntKind.wrap i64 (b7 s))), (6, ptr 0 2 0 0), (7, str s), (8, iqND (zI s)), (9, tt true), (10, str s), (11, AVal.int u8 (byteAt s 0)), (12, AVal.int u8 (byteAt s 0)), (13, tt false), (65, AVal.int u8 (byteAt s 0)), (66, AVal.fptr 256 [Tabs.first] 0 (Int.toNat (byteAt s 0) * 1)), (67, AVal.int u8 (fb s)), (68, AVal.int u8 (fb s)), (69, AVal.int u8 (b7 s)), (70, iqND (IntKind.wrap i64 (b7 s))), (71, AVal.int u8 (fb s)), (72, AVal.int u8 (Int.fdiv (fb s) 16)), (73, AVal.fptr 32 [Tabs.acc] 0 (Int.toNat (Int.fdiv (fb s) 16) * 2)), (74, agg [AVal.int u8 (AVal.toInt (ac s)), AVal.int u8 (AVal.toInt (ad s))]), (75, iqND (IntKind.wrap i64 (b7 s))), (76, tt false), (77, bool (IntKind.wrap i64 (b7 s) == 2)), (97, tt false), (98, bool (IntKind.wrap i64 (b7 s) == 3)), (128, tt true), (129, bool (IntKind.wrap i64 (b7 s) == 4)), (130, str s), (131, iqND (zI s)), (132, bool (decide ((zI s) < 4))), (133, tt false), (134, str s), (135, AVal.int u8 (byteAt s 1)), (136, ptr 0 2 0 0), (137, AVal.int u8 (AVal.toInt (ac s))), (138, bool (decide (byteAt s 1 < AVal.toInt (ac s)))), (139, bool (decide (byteAt s 1 < AVal.toInt (ac s)))), (140, tt false), (141, ptr 0 2 0 1), (142, AVal.int u8 (AVal.toInt (ad s))), (143, str s), (144, AVal.int u8 (byteAt s 1)), (145, bool (decide (AVal.toInt (ad s) < byteAt s 1))), (146, bool (decide (AVal.toInt (ad s) < byteAt s 1))), (147, tt false), (148, str s), (149, AVal.int u8 (byteAt s 2)), (150, bool (decide (byteAt s 2 < 128))), (151, bool (decide (byteAt s 2 < 128))), (152, tt false), (153, str s), (154, AVal.int u8 (byteAt s 2)), (155, bool (decide (191 < byteAt s 2))), (156, bool (decide (191 < byteAt s 2))), (157, tt false), (158, str s), (159, AVal.int u8 (byteAt s 3)), (160, bool (decide (byteAt s 3 < 128))), (161, bool (decide (byteAt s 3 < 128))), (162, tt false), (163, str s), (164, AVal.int u8 (byteAt s 3)), (165, bool (decide (191 < byteAt s 3))), (166, tt true)]) ((z0ND s)) ([]) ((_) :: (tr 6 ++ ((_) :: (tr 2 ++ ((_) :: (tr 8 ++ ((_) :: (tr 2 ++ ((_) :: (tr 8 ++ ((_) :: (tr 2 ++ ((_) :: (tr 8 ++ ((_) :: (tr 2 ++ ((_) :: (tr 8 ++ ((_) :: (tr 9 ++ ((_) :: (tr 17 ++ ((_) :: (tr 2 ++ ((_) :: (tr 9 ++ ((_) :: ((_) :: ((_) :: (tr 3 ++ ((_) :: ((_) :: ((_) :: (tr 2 ++ ((_) :: ((_) :: ((_) :: ((_) :: ((_) :: ((_) :: []))))))))))))))))))))))))))))))))))))))))) followed (by kernel_rfl) (allP_of ⟨h1, (trC 6 ⟨h2, (trC 2 ⟨h3, (trC 8 ⟨h2, (trC 2 ⟨h4, (trC 8 ⟨h5, (trC 2 ⟨h6, (trC 8 ⟨h5, (trC 2 ⟨h7, (trC 8 ⟨h8, (trC 9 ⟨h9, (trC 17 ⟨h8, (trC 2 ⟨h10, (trC 9 ⟨h11, ⟨h12, ⟨h13, (trC 3 ⟨h14, ⟨h15, ⟨h16, (trC 2 ⟨h17, ⟨h18, ⟨h19, ⟨h20, ⟨h21, ⟨h22, trivial⟩⟩⟩⟩⟩⟩)⟩⟩⟩)⟩⟩⟩)⟩)⟩)⟩)⟩)⟩)⟩)⟩)⟩)⟩)⟩)⟩)⟩)⟩) (keepM 169 [2]) ([]) (by kernel_rfl) (by kernel_rfl) (by kernel_rfl)

theorem vout_23 (s : ByteArray) (t : ByteArray)
    (h1 : decide ((↑0 : Int) ≤ 4 ∧ 4 ≤ (zI s) ∧ (zI s) ≤ (zI s)) = true)
    (h2 : decide (191 < byteAt s 3) = false)
    (h3 : decide ((↑0 : Int) ≤ 3 ∧ 3 < (zI s)) = true)
    (h4 : decide (byteAt s 3 < 128) = false)
    (h5 : decide (191 < byteAt s 2) = false)
    (h6 : decide ((↑0 : Int) ≤ 2 ∧ 2 < (zI s)) = true)
    (h7 : decide (byteAt s 2 < 128) = false)
    (h8 : decide (AVal.toInt (ad s) < byteAt s 1) = false)
    (h9 : decide ((↑0 : Int) ≤ 1 ∧ 1 < (zI s)) = true)
    (h10 : decide (byteAt s 1 < AVal.toInt (ac s)) = false)
    (h11 : decide ((zI s) < 4) = false)
    (h12 : (IntKind.wrap i64 (b7 s) == 4) = true)
    (h13 : (IntKind.wrap i64 (b7 s) == 3) = false)
    (h14 : (IntKind.wrap i64 (b7 s) == 2) = false)
    (h15 : decide (Int.toNat (Int.fdiv (fb s) 16) * 2 + 2 ≤ 32) = true)
    (h16 : areKinds [Kind.int u8, Kind.int u8] [List.getD Tabs.acc (Int.toNat (Int.fdiv (fb s) 16) * 2) AVal.any, List.getD Tabs.acc (Int.toNat (Int.fdiv (fb s) 16) * 2 + 1) AVal.any] = true)
    (h17 : decide (0 ≤ Int.fdiv (fb s) 16 ∧ Int.fdiv (fb s) 16 < (↑16 : Int)) = true)
    (h18 : decide (Int.toNat (byteAt s 0) * 1 + 1 ≤ 256) = true)
    (h19 : areKinds [Kind.int u8] [List.getD Tabs.first (Int.toNat (byteAt s 0) * 1) AVal.any] = true)
    (h20 : decide (0 ≤ byteAt s 0 ∧ byteAt s 0 < (↑256 : Int)) = true)
    (h21 : decide (byteAt s 0 < 128) = false)
    (h22 : decide ((↑0 : Int) ≤ 0 ∧ 0 < (zI s)) = true)
    (h23 : decide ((zI s) > 0) = true) :
    TripN pgND 0 (loopNo Tryd.f50 0) (rgV s) ([]) (normal) (mkR 169 [(0, str (xt s 4))]) ([]) :=
  evalT (st := St.mk (rgV s) ([]) ([br true, br false, br false, br false, br true, br false, br false, br false, br false, br false, br false, br false]) []) (st' := St.mk (mkR 169 [(0, str (xt s 4)), (3, AVal.int u8 (byteAt s 0)), (4, AVal.int u8 (fb s)), (5, iqND (IntKind.wrap i64 (b7 s))), (6, ptr 0 2 0 0), (7, str s), (8, iqND (zI s)), (9, tt true), (10, str s), (11, AVal.int u8 (byteAt s 0)), (12, AVal.int u8 (byteAt s 0)), (13, tt false), (65, AVal.int u8 (byteAt s 0)), (66, AVal.fptr 256 [Tabs.first] 0 (Int.toNat (byteAt s 0) * 1)), (67, AVal.int u8 (fb s)), (68, AVal.int u8 (fb s)), (69, AVal.int u8 (b7 s)), (70, iqND (IntKind.wrap i64 (b7 s))), (71, AVal.int u8 (fb s)), (72, AVal.int u8 (Int.fdiv (fb s) 16)), (73, AVal.fptr 32 [Tabs.acc] 0 (Int.toNat (Int.fdiv (fb s) 16) * 2)), (74, agg [AVal.int u8 (AVal.toInt (ac s)), AVal.int u8 (AVal.toInt (ad s))]), (75, iqND (IntKind.wrap i64 (b7 s))), (76, tt false), (77, bool (IntKind.wrap i64 (b7 s) == 2)), (97, tt false), (98, bool (IntKind.wrap i64 (b7 s) == 3)), (128, tt true), (129, bool (IntKind.wrap i64 (b7 s) == 4)), (130, str s), (131, iqND (zI s)), (132, bool (decide ((zI s) < 4))), (133, tt false), (134, str s), (135, AVal.int u8 (byteAt s 1)), (136, ptr 0 2 0 0), (137, AVal.int u8 (AVal.toInt (ac s))), (138, bool (decide (byteAt s 1 < AVal.toInt (ac s)))), (139, bool (decide (byteAt s 1 < AVal.toInt (ac s)))), (140, tt false), (141, ptr 0 2 0 1), (142, AVal.int u8 (AVal.toInt (ad s))), (143, str s), (144, AVal.int u8 (byteAt s 1)), (145, bool (decide (AVal.toInt (ad s) < byteAt s 1))), (146, bool (decide (AVal.toInt (ad s) < byteAt s 1))), (147, tt false), (148, str s), (149, AVal.int u8 (byteAt s 2)), (150, bool (decide (byteAt s 2 < 128))), (151, bool (decide (byteAt s 2 < 128))), (152, tt false), (153, str s), (154, AVal.int u8 (byteAt s 2)), (155, bool (decide (191 < byteAt s 2))), (156, bool (decide (191 < byteAt s 2))), (157, tt false), (158, str s), (159, AVal.int u8 (byteAt s 3)), (160, bool (decide (byteAt s 3 < 128))), (161, bool (decide (byteAt s 3 < 128))), (162, tt false), (163, str s), (164, AVal.int u8 (byteAt s 3)), (165, bool (decide (191 < byteAt s 3))), (166, tt false), (167, str s), (168, str (xt s 4))]) ((z0ND s)) ([]) ((_) :: ((_) :: (tr 6 ++ ((_) :: (tr 2 ++ ((_) :: (tr 8 ++ ((_) :: (tr 2 ++ ((_) :: (tr 8 ++ ((_) :: (tr 2 ++ ((_) :: (tr 8 ++ ((_) :: (tr 2 ++ ((_) :: (tr 8 ++ ((_) :: (tr 9 ++ ((_) :: (tr 17 ++ ((_) :: (tr 2 ++ ((_) :: (tr 9 ++ ((_) :: ((_) :: ((_) :: (tr 3 ++ ((_) :: ((_) :: ((_) :: (tr 2 ++ ((_) :: ((_) :: ((_) :: ((_) :: ((_) :: ((_) :: [])))))))))))))))))))))))))))))))))))))))))) followed (by kernel_rfl) (allP_of ⟨h1, ⟨h2, (trC 6 ⟨h3, (trC 2 ⟨h4, (trC 8 ⟨h3, (trC 2 ⟨h5, (trC 8 ⟨h6, (trC 2 ⟨h7, (trC 8 ⟨h6, (trC 2 ⟨h8, (trC 8 ⟨h9, (trC 9 ⟨h10, (trC 17 ⟨h9, (trC 2 ⟨h11, (trC 9 ⟨h12, ⟨h13, ⟨h14, (trC 3 ⟨h15, ⟨h16, ⟨h17, (trC 2 ⟨h18, ⟨h19, ⟨h20, ⟨h21, ⟨h22, ⟨h23, trivial⟩⟩⟩⟩⟩⟩)⟩⟩⟩)⟩⟩⟩)⟩)⟩)⟩)⟩)⟩)⟩)⟩)⟩)⟩)⟩)⟩)⟩)⟩⟩) (keepM 169 [0]) ([]) (by kernel_rfl) (by kernel_rfl) (by kernel_rfl)

theorem vout_24 (s : ByteArray) (t : ByteArray)
    (h1 : (IntKind.wrap i64 (b7 s) == 4) = false)
    (h2 : (IntKind.wrap i64 (b7 s) == 3) = false)
    (h3 : (IntKind.wrap i64 (b7 s) == 2) = false)
    (h4 : decide (Int.toNat (Int.fdiv (fb s) 16) * 2 + 2 ≤ 32) = true)
    (h5 : areKinds [Kind.int u8, Kind.int u8] [List.getD Tabs.acc (Int.toNat (Int.fdiv (fb s) 16) * 2) AVal.any, List.getD Tabs.acc (Int.toNat (Int.fdiv (fb s) 16) * 2 + 1) AVal.any] = true)
    (h6 : decide (0 ≤ Int.fdiv (fb s) 16 ∧ Int.fdiv (fb s) 16 < (↑16 : Int)) = true)
    (h7 : decide (Int.toNat (byteAt s 0) * 1 + 1 ≤ 256) = true)
    (h8 : areKinds [Kind.int u8] [List.getD Tabs.first (Int.toNat (byteAt s 0) * 1) AVal.any] = true)
    (h9 : decide (0 ≤ byteAt s 0 ∧ byteAt s 0 < (↑256 : Int)) = true)
    (h10 : decide (byteAt s 0 < 128) = false)
    (h11 : decide ((↑0 : Int) ≤ 0 ∧ 0 < (zI s)) = true)
    (h12 : decide ((zI s) > 0) = true) :
    TripN pgND 0 (loopNo Tryd.f50 0) (rgV s) ([]) (AExit.ret) (mkR 169 [(2, tt false)]) ([]) :=
  evalT (st := St.mk (rgV s) ([]) ([br true, br false, br false, br false, br false]) []) (st' := St.mk (mkR 169 [(0, str s), (2, tt false), (3, AVal.int u8 (byteAt s 0)), (4, AVal.int u8 (fb s)), (5, iqND (IntKind.wrap i64 (b7 s))), (6, ptr 0 2 0 0), (7, str s), (8, iqND (zI s)), (9, tt true), (10, str s), (11, AVal.int u8 (byteAt s 0)), (12, AVal.int u8 (byteAt s 0)), (13, tt false), (65, AVal.int u8 (byteAt s 0)), (66, AVal.fptr 256 [Tabs.first] 0 (Int.toNat (byteAt s 0) * 1)), (67, AVal.int u8 (fb s)), (68, AVal.int u8 (fb s)), (69, AVal.int u8 (b7 s)), (70, iqND (IntKind.wrap i64 (b7 s))), (71, AVal.int u8 (fb s)), (72, AVal.int u8 (Int.fdiv (fb s) 16)), (73, AVal.fptr 32 [Tabs.acc] 0 (Int.toNat (Int.fdiv (fb s) 16) * 2)), (74, agg [AVal.int u8 (AVal.toInt (ac s)), AVal.int u8 (AVal.toInt (ad s))]), (75, iqND (IntKind.wrap i64 (b7 s))), (76, tt false), (77, bool (IntKind.wrap i64 (b7 s) == 2)), (97, tt false), (98, bool (IntKind.wrap i64 (b7 s) == 3)), (128, tt false), (129, bool (IntKind.wrap i64 (b7 s) == 4))]) ((z0ND s)) ([]) ((_) :: ((_) :: ((_) :: (tr 3 ++ ((_) :: ((_) :: ((_) :: (tr 2 ++ ((_) :: ((_) :: ((_) :: ((_) :: ((_) :: ((_) :: []))))))))))))))) followed (by kernel_rfl) (allP_of ⟨h1, ⟨h2, ⟨h3, (trC 3 ⟨h4, ⟨h5, ⟨h6, (trC 2 ⟨h7, ⟨h8, ⟨h9, ⟨h10, ⟨h11, ⟨h12, trivial⟩⟩⟩⟩⟩⟩)⟩⟩⟩)⟩⟩⟩) (keepM 169 [2]) ([]) (by kernel_rfl) (by kernel_rfl) (by kernel_rfl)

theorem vout_25 (s : ByteArray) (t : ByteArray)
    (h1 : decide ((zI s) > 0) = false) :
    TripN pgND 0 (loopNo Tryd.f50 0) (rgV s) ([]) (AExit.exit 0) (mkR 169 [(0, str s)]) ([]) :=
  evalT (st := St.mk (rgV s) ([]) ([br false]) []) (st' := St.mk (mkR 169 [(0, str s), (7, str s), (8, iqND (zI s)), (9, tt false)]) ([]) ([]) ((_) :: [])) followed (by kernel_rfl) (allP_of ⟨h1, trivial⟩) (keepM 169 [0]) ([]) (by kernel_rfl) (by kernel_rfl) (by kernel_rfl)

def vout_T (s : ByteArray) (t : ByteArray) (Q : AExit → Regs → AState → Prop) : Prop := ((decide ((↑(ByteArray.size s) : Int) > 0) = true) → (decide ((↑0 : Int) ≤ 0 ∧ 0 < (↑(ByteArray.size s) : Int)) = true) ∧ ((decide (byteAt s 0 < 128) = true) → (decide ((↑0 : Int) ≤ 1 ∧ 1 ≤ (↑(ByteArray.size s) : Int) ∧ (↑(ByteArray.size s) : Int) ≤ (↑(ByteArray.size s) : Int)) = true) ∧ ((decide ((↑(ByteArray.size (ByteArray.extract s 1 (Int.toNat (↑(ByteArray.size s) : Int)))) : Int) > 8) = true) → (8 ≤ ByteArray.size (ByteArray.extract s 1 (Int.toNat (↑(ByteArray.size s) : Int)))) ∧ (((bits BinOp.and IntKind.u64 (wd (ByteArray.extract s 1 (Int.toNat (↑(ByteArray.size s) : Int)))) 9259542123273814144 == 0) = true) → (decide ((↑0 : Int) ≤ 8 ∧ 8 ≤ (↑(ByteArray.size (ByteArray.extract s 1 (Int.toNat (↑(ByteArray.size s) : Int)))) : Int) ∧ (↑(ByteArray.size (ByteArray.extract s 1 (Int.toNat (↑(ByteArray.size s) : Int)))) : Int) ≤ (↑(ByteArray.size (ByteArray.extract s 1 (Int.toNat (↑(ByteArray.size s) : Int)))) : Int)) = true) ∧ ((decide ((↑(ByteArray.size (ByteArray.extract (ByteArray.extract s 1 (Int.toNat (↑(ByteArray.size s) : Int))) 8 (Int.toNat (↑(ByteArray.size (ByteArray.extract s 1 (Int.toNat (↑(ByteArray.size s) : Int)))) : Int)))) : Int) > 16) = true) → (8 ≤ ByteArray.size (ByteArray.extract (ByteArray.extract s 1 (Int.toNat (↑(ByteArray.size s) : Int))) 8 (Int.toNat (↑(ByteArray.size (ByteArray.extract s 1 (Int.toNat (↑(ByteArray.size s) : Int)))) : Int)))) ∧ (decide ((↑0 : Int) ≤ 8 ∧ 8 ≤ (↑(ByteArray.size (ByteArray.extract (ByteArray.extract s 1 (Int.toNat (↑(ByteArray.size s) : Int))) 8 (Int.toNat (↑(ByteArray.size (ByteArray.extract s 1 (Int.toNat (↑(ByteArray.size s) : Int)))) : Int)))) : Int) ∧ (↑(ByteArray.size (ByteArray.extract (ByteArray.extract s 1 (Int.toNat (↑(ByteArray.size s) : Int))) 8 (Int.toNat (↑(ByteArray.size (ByteArray.extract s 1 (Int.toNat (↑(ByteArray.size s) : Int)))) : Int)))) : Int) ≤ (↑(ByteArray.size (ByteArray.extract (ByteArray.extract s 1 (Int.toNat (↑(ByteArray.size s) : Int))) 8 (Int.toNat (↑(ByteArray.size (ByteArray.extract s 1 (Int.toNat (↑(ByteArray.size s) : Int)))) : Int)))) : Int)) = true) ∧ (8 ≤ ByteArray.size (ByteArray.extract (ByteArray.extract (ByteArray.extract s 1 (Int.toNat (↑(ByteArray.size s) : Int))) 8 (Int.toNat (↑(ByteArray.size (ByteArray.extract s 1 (Int.toNat (↑(ByteArray.size s) : Int)))) : Int))) 8 (Int.toNat (↑(ByteArray.size (ByteArray.extract (ByteArray.extract s 1 (Int.toNat (↑(ByteArray.size s) : Int))) 8 (Int.toNat (↑(ByteArray.size (ByteArray.extract s 1 (Int.toNat (↑(ByteArray.size s) : Int)))) : Int)))) : Int)))) ∧ (((bits BinOp.and IntKind.u64 (bits BinOp.or IntKind.u64 (wd (ByteArray.extract (ByteArray.extract s 1 (Int.toNat (↑(ByteArray.size s) : Int))) 8 (Int.toNat (↑(ByteArray.size (ByteArray.extract s 1 (Int.toNat (↑(ByteArray.size s) : Int)))) : Int)))) (wd (ByteArray.extract (ByteArray.extract (ByteArray.extract s 1 (Int.toNat (↑(ByteArray.size s) : Int))) 8 (Int.toNat (↑(ByteArray.size (ByteArray.extract s 1 (Int.toNat (↑(ByteArray.size s) : Int)))) : Int))) 8 (Int.toNat (↑(ByteArray.size (ByteArray.extract (ByteArray.extract s 1 (Int.toNat (↑(ByteArray.size s) : Int))) 8 (Int.toNat (↑(ByteArray.size (ByteArray.extract s 1 (Int.toNat (↑(ByteArray.size s) : Int)))) : Int)))) : Int))))) 9259542123273814144 == 0) = true) → (decide ((↑0 : Int) ≤ 16 ∧ 16 ≤ (↑(ByteArray.size (ByteArray.extract (ByteArray.extract s 1 (Int.toNat (↑(ByteArray.size s) : Int))) 8 (Int.toNat (↑(ByteArray.size (ByteArray.extract s 1 (Int.toNat (↑(ByteArray.size s) : Int)))) : Int)))) : Int) ∧ (↑(ByteArray.size (ByteArray.extract (ByteArray.extract s 1 (Int.toNat (↑(ByteArray.size s) : Int))) 8 (Int.toNat (↑(ByteArray.size (ByteArray.extract s 1 (Int.toNat (↑(ByteArray.size s) : Int)))) : Int)))) : Int) ≤ (↑(ByteArray.size (ByteArray.extract (ByteArray.extract s 1 (Int.toNat (↑(ByteArray.size s) : Int))) 8 (Int.toNat (↑(ByteArray.size (ByteArray.extract s 1 (Int.toNat (↑(ByteArray.size s) : Int)))) : Int)))) : Int)) = true) ∧ (TripN Tryd.prog 0 (Code.loop (loopNo Tryd.f50 1)) (mkR 169 [(0, AVal.str (ByteArray.extract (ByteArray.extract (ByteArray.extract s 1 (Int.toNat (↑(ByteArray.size s) : Int))) 8 (Int.toNat (↑(ByteArray.size (ByteArray.extract s 1 (Int.toNat (↑(ByteArray.size s) : Int)))) : Int))) 16 (Int.toNat (↑(ByteArray.size (ByteArray.extract (ByteArray.extract s 1 (Int.toNat (↑(ByteArray.size s) : Int))) 8 (Int.toNat (↑(ByteArray.size (ByteArray.extract s 1 (Int.toNat (↑(ByteArray.size s) : Int)))) : Int)))) : Int))))]) [] (AExit.exit 2) (mkR 169 [(0, AVal.str t)]) []) ∧ Q (AExit.normal) (mkR 169 [(0, AVal.str t)]) ([])) ∧ (((bits BinOp.and IntKind.u64 (bits BinOp.or IntKind.u64 (wd (ByteArray.extract (ByteArray.extract s 1 (Int.toNat (↑(ByteArray.size s) : Int))) 8 (Int.toNat (↑(ByteArray.size (ByteArray.extract s 1 (Int.toNat (↑(ByteArray.size s) : Int)))) : Int)))) (wd (ByteArray.extract (ByteArray.extract (ByteArray.extract s 1 (Int.toNat (↑(ByteArray.size s) : Int))) 8 (Int.toNat (↑(ByteArray.size (ByteArray.extract s 1 (Int.toNat (↑(ByteArray.size s) : Int)))) : Int))) 8 (Int.toNat (↑(ByteArray.size (ByteArray.extract (ByteArray.extract s 1 (Int.toNat (↑(ByteArray.size s) : Int))) 8 (Int.toNat (↑(ByteArray.size (ByteArray.extract s 1 (Int.toNat (↑(ByteArray.size s) : Int)))) : Int)))) : Int))))) 9259542123273814144 == 0) = false) → Q (AExit.normal) (mkR 169 [(0, AVal.str (ByteArray.extract (ByteArray.extract s 1 (Int.toNat (↑(ByteArray.size s) : Int))) 8 (Int.toNat (↑(ByteArray.size (ByteArray.extract s 1 (Int.toNat (↑(ByteArray.size s) : Int)))) : Int))))]) ([]))) ∧ ((decide ((↑(ByteArray.size (ByteArray.extract (ByteArray.extract s 1 (Int.toNat (↑(ByteArray.size s) : Int))) 8 (Int.toNat (↑(ByteArray.size (ByteArray.extract s 1 (Int.toNat (↑(ByteArray.size s) : Int)))) : Int)))) : Int) > 16) = false) → Q (AExit.normal) (mkR 169 [(0, AVal.str (ByteArray.extract (ByteArray.extract s 1 (Int.toNat (↑(ByteArray.size s) : Int))) 8 (Int.toNat (↑(ByteArray.size (ByteArray.extract s 1 (Int.toNat (↑(ByteArray.size s) : Int)))) : Int))))]) ([]))) ∧ (((bits BinOp.and IntKind.u64 (wd (ByteArray.extract s 1 (Int.toNat (↑(ByteArray.size s) : Int)))) 9259542123273814144 == 0) = false) → Q (AExit.normal) (mkR 169 [(0, AVal.str (ByteArray.extract s 1 (Int.toNat (↑(ByteArray.size s) : Int))))]) ([]))) ∧ ((decide ((↑(ByteArray.size (ByteArray.extract s 1 (Int.toNat (↑(ByteArray.size s) : Int)))) : Int) > 8) = false) → Q (AExit.normal) (mkR 169 [(0, AVal.str (ByteArray.extract s 1 (Int.toNat (↑(ByteArray.size s) : Int))))]) ([]))) ∧ ((decide (byteAt s 0 < 128) = false) → (decide (0 ≤ byteAt s 0 ∧ byteAt s 0 < (↑256 : Int)) = true) ∧ (areKinds [Kind.int IntKind.u8] [List.getD Tabs.first (Int.toNat (byteAt s 0) * 1) AVal.any] = true) ∧ (decide (Int.toNat (byteAt s 0) * 1 + 1 ≤ 256) = true) ∧ (decide (0 ≤ Int.fdiv (AVal.toInt (List.getD Tabs.first (Int.toNat (byteAt s 0) * 1) AVal.any)) 16 ∧ Int.fdiv (AVal.toInt (List.getD Tabs.first (Int.toNat (byteAt s 0) * 1) AVal.any)) 16 < (↑16 : Int)) = true) ∧ (areKinds [Kind.int IntKind.u8, Kind.int IntKind.u8] [List.getD Tabs.acc (Int.toNat (Int.fdiv (AVal.toInt (List.getD Tabs.first (Int.toNat (byteAt s 0) * 1) AVal.any)) 16) * 2) AVal.any, List.getD Tabs.acc (Int.toNat (Int.fdiv (AVal.toInt (List.getD Tabs.first (Int.toNat (byteAt s 0) * 1) AVal.any)) 16) * 2 + 1) AVal.any] = true) ∧ (decide (Int.toNat (Int.fdiv (AVal.toInt (List.getD Tabs.first (Int.toNat (byteAt s 0) * 1) AVal.any)) 16) * 2 + 2 ≤ 32) = true) ∧ (((IntKind.wrap IntKind.i64 (bits BinOp.and IntKind.u8 (AVal.toInt (List.getD Tabs.first (Int.toNat (byteAt s 0) * 1) AVal.any)) 7) == 2) = true) → ((decide ((↑(ByteArray.size s) : Int) < 2) = true) → Q (AExit.ret) (mkR 169 [(2, AVal.tt false)]) ([])) ∧ ((decide ((↑(ByteArray.size s) : Int) < 2) = false) → (decide ((↑0 : Int) ≤ 1 ∧ 1 < (↑(ByteArray.size s) : Int)) = true) ∧ ((decide (byteAt s 1 < AVal.toInt (List.getD Tabs.acc (Int.toNat (Int.fdiv (AVal.toInt (List.getD Tabs.first (Int.toNat (byteAt s 0) * 1) AVal.any)) 16) * 2) AVal.any)) = true) → Q (AExit.ret) (mkR 169 [(2, AVal.tt false)]) ([])) ∧ ((decide (byteAt s 1 < AVal.toInt (List.getD Tabs.acc (Int.toNat (Int.fdiv (AVal.toInt (List.getD Tabs.first (Int.toNat (byteAt s 0) * 1) AVal.any)) 16) * 2) AVal.any)) = false) → ((decide (AVal.toInt (List.getD Tabs.acc (Int.toNat (Int.fdiv (AVal.toInt (List.getD Tabs.first (Int.toNat (byteAt s 0) * 1) AVal.any)) 16) * 2 + 1) AVal.any) < byteAt s 1) = true) → Q (AExit.ret) (mkR 169 [(2, AVal.tt false)]) ([])) ∧ ((decide (AVal.toInt (List.getD Tabs.acc (Int.toNat (Int.fdiv (AVal.toInt (List.getD Tabs.first (Int.toNat (byteAt s 0) * 1) AVal.any)) 16) * 2 + 1) AVal.any) < byteAt s 1) = false) → (decide ((↑0 : Int) ≤ 2 ∧ 2 ≤ (↑(ByteArray.size s) : Int) ∧ (↑(ByteArray.size s) : Int) ≤ (↑(ByteArray.size s) : Int)) = true) ∧ Q (AExit.normal) (mkR 169 [(0, AVal.str (ByteArray.extract s 2 (Int.toNat (↑(ByteArray.size s) : Int))))]) ([]))))) ∧ (((IntKind.wrap IntKind.i64 (bits BinOp.and IntKind.u8 (AVal.toInt (List.getD Tabs.first (Int.toNat (byteAt s 0) * 1) AVal.any)) 7) == 2) = false) → (((IntKind.wrap IntKind.i64 (bits BinOp.and IntKind.u8 (AVal.toInt (List.getD Tabs.first (Int.toNat (byteAt s 0) * 1) AVal.any)) 7) == 3) = true) → ((decide ((↑(ByteArray.size s) : Int) < 3) = true) → Q (AExit.ret) (mkR 169 [(2, AVal.tt false)]) ([])) ∧ ((decide ((↑(ByteArray.size s) : Int) < 3) = false) → (decide ((↑0 : Int) ≤ 1 ∧ 1 < (↑(ByteArray.size s) : Int)) = true) ∧ ((decide (byteAt s 1 < AVal.toInt (List.getD Tabs.acc (Int.toNat (Int.fdiv (AVal.toInt (List.getD Tabs.first (Int.toNat (byteAt s 0) * 1) AVal.any)) 16) * 2) AVal.any)) = true) → Q (AExit.ret) (mkR 169 [(2, AVal.tt false)]) ([])) ∧ ((decide (byteAt s 1 < AVal.toInt (List.getD Tabs.acc (Int.toNat (Int.fdiv (AVal.toInt (List.getD Tabs.first (Int.toNat (byteAt s 0) * 1) AVal.any)) 16) * 2) AVal.any)) = false) → ((decide (AVal.toInt (List.getD Tabs.acc (Int.toNat (Int.fdiv (AVal.toInt (List.getD Tabs.first (Int.toNat (byteAt s 0) * 1) AVal.any)) 16) * 2 + 1) AVal.any) < byteAt s 1) = true) → Q (AExit.ret) (mkR 169 [(2, AVal.tt false)]) ([])) ∧ ((decide (AVal.toInt (List.getD Tabs.acc (Int.toNat (Int.fdiv (AVal.toInt (List.getD Tabs.first (Int.toNat (byteAt s 0) * 1) AVal.any)) 16) * 2 + 1) AVal.any) < byteAt s 1) = false) → (decide ((↑0 : Int) ≤ 2 ∧ 2 < (↑(ByteArray.size s) : Int)) = true) ∧ ((decide (byteAt s 2 < 128) = true) → Q (AExit.ret) (mkR 169 [(2, AVal.tt false)]) ([])) ∧ ((decide (byteAt s 2 < 128) = false) → ((decide (191 < byteAt s 2) = true) → Q (AExit.ret) (mkR 169 [(2, AVal.tt false)]) ([])) ∧ ((decide (191 < byteAt s 2) = false) → (decide ((↑0 : Int) ≤ 3 ∧ 3 ≤ (↑(ByteArray.size s) : Int) ∧ (↑(ByteArray.size s) : Int) ≤ (↑(ByteArray.size s) : Int)) = true) ∧ Q (AExit.normal) (mkR 169 [(0, AVal.str (ByteArray.extract s 3 (Int.toNat (↑(ByteArray.size s) : Int))))]) ([]))))))) ∧ (((IntKind.wrap IntKind.i64 (bits BinOp.and IntKind.u8 (AVal.toInt (List.getD Tabs.first (Int.toNat (byteAt s 0) * 1) AVal.any)) 7) == 3) = false) → (((IntKind.wrap IntKind.i64 (bits BinOp.and IntKind.u8 (AVal.toInt (List.getD Tabs.first (Int.toNat (byteAt s 0) * 1) AVal.any)) 7) == 4) = true) → ((decide ((↑(ByteArray.size s) : Int) < 4) = true) → Q (AExit.ret) (mkR 169 [(2, AVal.tt false)]) ([])) ∧ ((decide ((↑(ByteArray.size s) : Int) < 4) = false) → (decide ((↑0 : Int) ≤ 1 ∧ 1 < (↑(ByteArray.size s) : Int)) = true) ∧ ((decide (byteAt s 1 < AVal.toInt (List.getD Tabs.acc (Int.toNat (Int.fdiv (AVal.toInt (List.getD Tabs.first (Int.toNat (byteAt s 0) * 1) AVal.any)) 16) * 2) AVal.any)) = true) → Q (AExit.ret) (mkR 169 [(2, AVal.tt false)]) ([])) ∧ ((decide (byteAt s 1 < AVal.toInt (List.getD Tabs.acc (Int.toNat (Int.fdiv (AVal.toInt (List.getD Tabs.first (Int.toNat (byteAt s 0) * 1) AVal.any)) 16) * 2) AVal.any)) = false) → ((decide (AVal.toInt (List.getD Tabs.acc (Int.toNat (Int.fdiv (AVal.toInt (List.getD Tabs.first (Int.toNat (byteAt s 0) * 1) AVal.any)) 16) * 2 + 1) AVal.any) < byteAt s 1) = true) → Q (AExit.ret) (mkR 169 [(2, AVal.tt false)]) ([])) ∧ ((decide (AVal.toInt (List.getD Tabs.acc (Int.toNat (Int.fdiv (AVal.toInt (List.getD Tabs.first (Int.toNat (byteAt s 0) * 1) AVal.any)) 16) * 2 + 1) AVal.any) < byteAt s 1) = false) → (decide ((↑0 : Int) ≤ 2 ∧ 2 < (↑(ByteArray.size s) : Int)) = true) ∧ ((decide (byteAt s 2 < 128) = true) → Q (AExit.ret) (mkR 169 [(2, AVal.tt false)]) ([])) ∧ ((decide (byteAt s 2 < 128) = false) → ((decide (191 < byteAt s 2) = true) → Q (AExit.ret) (mkR 169 [(2, AVal.tt false)]) ([])) ∧ ((decide (191 < byteAt s 2) = false) → (decide ((↑0 : Int) ≤ 3 ∧ 3 < (↑(ByteArray.size s) : Int)) = true) ∧ ((decide (byteAt s 3 < 128) = true) → Q (AExit.ret) (mkR 169 [(2, AVal.tt false)]) ([])) ∧ ((decide (byteAt s 3 < 128) = false) → ((decide (191 < byteAt s 3) = true) → Q (AExit.ret) (mkR 169 [(2, AVal.tt false)]) ([])) ∧ ((decide (191 < byteAt s 3) = false) → (decide ((↑0 : Int) ≤ 4 ∧ 4 ≤ (↑(ByteArray.size s) : Int) ∧ (↑(ByteArray.size s) : Int) ≤ (↑(ByteArray.size s) : Int)) = true) ∧ Q (AExit.normal) (mkR 169 [(0, AVal.str (ByteArray.extract s 4 (Int.toNat (↑(ByteArray.size s) : Int))))]) ([]))))))))) ∧ (((IntKind.wrap IntKind.i64 (bits BinOp.and IntKind.u8 (AVal.toInt (List.getD Tabs.first (Int.toNat (byteAt s 0) * 1) AVal.any)) 7) == 4) = false) → Q (AExit.ret) (mkR 169 [(2, AVal.tt false)]) ([])))))) ∧ ((decide ((↑(ByteArray.size s) : Int) > 0) = false) → Q (AExit.exit 0) (mkR 169 [(0, AVal.str s)]) ([]))
theorem vout_wp (s : ByteArray) (t : ByteArray) {Q : AExit → Regs → AState → Prop} (h : vout_T s t Q) : ∃ e rg' σ', TripN pgND 0 (loopNo Tryd.f50 0) (rgV s) ([]) e rg' σ' ∧ Q e rg' σ' :=
  brE (fun c0 => brE (fun c1 => brE (fun c2 => brE (fun c3 => brE (fun c4 => brE (fun c5 => ⟨_, _, _, vout_1 s t (((((((h.1 c0).2.1 c1).2.1 c2).2.1 c3).2.1 c4).2.2.2.1 c5).2.1) (((((((h.1 c0).2.1 c1).2.1 c2).2.1 c3).2.1 c4).2.2.2.1 c5).1) (c5) ((((((h.1 c0).2.1 c1).2.1 c2).2.1 c3).2.1 c4).2.2.1) ((((((h.1 c0).2.1 c1).2.1 c2).2.1 c3).2.1 c4).2.1) ((((((h.1 c0).2.1 c1).2.1 c2).2.1 c3).2.1 c4).1) (c4) (((((h.1 c0).2.1 c1).2.1 c2).2.1 c3).1) (c3) ((((h.1 c0).2.1 c1).2.1 c2).1) (c2) (((h.1 c0).2.1 c1).1) (c1) ((h.1 c0).1) (c0), ((((((h.1 c0).2.1 c1).2.1 c2).2.1 c3).2.1 c4).2.2.2.1 c5).2.2⟩) (fun c5 => ⟨_, _, _, vout_2 s t (c5) ((((((h.1 c0).2.1 c1).2.1 c2).2.1 c3).2.1 c4).2.2.1) ((((((h.1 c0).2.1 c1).2.1 c2).2.1 c3).2.1 c4).2.1) ((((((h.1 c0).2.1 c1).2.1 c2).2.1 c3).2.1 c4).1) (c4) (((((h.1 c0).2.1 c1).2.1 c2).2.1 c3).1) (c3) ((((h.1 c0).2.1 c1).2.1 c2).1) (c2) (((h.1 c0).2.1 c1).1) (c1) ((h.1 c0).1) (c0), ((((((h.1 c0).2.1 c1).2.1 c2).2.1 c3).2.1 c4).2.2.2.2 c5)⟩)) (fun c4 => ⟨_, _, _, vout_3 s t (c4) (((((h.1 c0).2.1 c1).2.1 c2).2.1 c3).1) (c3) ((((h.1 c0).2.1 c1).2.1 c2).1) (c2) (((h.1 c0).2.1 c1).1) (c1) ((h.1 c0).1) (c0), (((((h.1 c0).2.1 c1).2.1 c2).2.1 c3).2.2 c4)⟩)) (fun c3 => ⟨_, _, _, vout_4 s t (c3) ((((h.1 c0).2.1 c1).2.1 c2).1) (c2) (((h.1 c0).2.1 c1).1) (c1) ((h.1 c0).1) (c0), ((((h.1 c0).2.1 c1).2.1 c2).2.2 c3)⟩)) (fun c2 => ⟨_, _, _, vout_5 s t (c2) (((h.1 c0).2.1 c1).1) (c1) ((h.1 c0).1) (c0), (((h.1 c0).2.1 c1).2.2 c2)⟩)) (fun c1 => brE (fun c6 => brE (fun c7 => ⟨_, _, _, vout_6 s t (c7) (c6) (((h.1 c0).2.2 c1).2.2.2.2.2.1) (((h.1 c0).2.2 c1).2.2.2.2.1) (((h.1 c0).2.2 c1).2.2.2.1) (((h.1 c0).2.2 c1).2.2.1) (((h.1 c0).2.2 c1).2.1) (((h.1 c0).2.2 c1).1) (c1) ((h.1 c0).1) (c0), ((((h.1 c0).2.2 c1).2.2.2.2.2.2.1 c6).1 c7)⟩) (fun c7 => brE (fun c8 => ⟨_, _, _, vout_7 s t (c8) (((((h.1 c0).2.2 c1).2.2.2.2.2.2.1 c6).2 c7).1) (c7) (c6) (((h.1 c0).2.2 c1).2.2.2.2.2.1) (((h.1 c0).2.2 c1).2.2.2.2.1) (((h.1 c0).2.2 c1).2.2.2.1) (((h.1 c0).2.2 c1).2.2.1) (((h.1 c0).2.2 c1).2.1) (((h.1 c0).2.2 c1).1) (c1) ((h.1 c0).1) (c0), (((((h.1 c0).2.2 c1).2.2.2.2.2.2.1 c6).2 c7).2.1 c8)⟩) (fun c8 => brE (fun c9 => ⟨_, _, _, vout_8 s t (c9) (((((h.1 c0).2.2 c1).2.2.2.2.2.2.1 c6).2 c7).1) (c8) (c7) (c6) (((h.1 c0).2.2 c1).2.2.2.2.2.1) (((h.1 c0).2.2 c1).2.2.2.2.1) (((h.1 c0).2.2 c1).2.2.2.1) (((h.1 c0).2.2 c1).2.2.1) (((h.1 c0).2.2 c1).2.1) (((h.1 c0).2.2 c1).1) (c1) ((h.1 c0).1) (c0), ((((((h.1 c0).2.2 c1).2.2.2.2.2.2.1 c6).2 c7).2.2 c8).1 c9)⟩) (fun c9 => ⟨_, _, _, vout_9 s t (((((((h.1 c0).2.2 c1).2.2.2.2.2.2.1 c6).2 c7).2.2 c8).2 c9).1) (c9) (((((h.1 c0).2.2 c1).2.2.2.2.2.2.1 c6).2 c7).1) (c8) (c7) (c6) (((h.1 c0).2.2 c1).2.2.2.2.2.1) (((h.1 c0).2.2 c1).2.2.2.2.1) (((h.1 c0).2.2 c1).2.2.2.1) (((h.1 c0).2.2 c1).2.2.1) (((h.1 c0).2.2 c1).2.1) (((h.1 c0).2.2 c1).1) (c1) ((h.1 c0).1) (c0), ((((((h.1 c0).2.2 c1).2.2.2.2.2.2.1 c6).2 c7).2.2 c8).2 c9).2⟩)))) (fun c6 => brE (fun c10 => brE (fun c11 => ⟨_, _, _, vout_10 s t (c11) (c10) (c6) (((h.1 c0).2.2 c1).2.2.2.2.2.1) (((h.1 c0).2.2 c1).2.2.2.2.1) (((h.1 c0).2.2 c1).2.2.2.1) (((h.1 c0).2.2 c1).2.2.1) (((h.1 c0).2.2 c1).2.1) (((h.1 c0).2.2 c1).1) (c1) ((h.1 c0).1) (c0), (((((h.1 c0).2.2 c1).2.2.2.2.2.2.2 c6).1 c10).1 c11)⟩) (fun c11 => brE (fun c12 => ⟨_, _, _, vout_11 s t (c12) ((((((h.1 c0).2.2 c1).2.2.2.2.2.2.2 c6).1 c10).2 c11).1) (c11) (c10) (c6) (((h.1 c0).2.2 c1).2.2.2.2.2.1) (((h.1 c0).2.2 c1).2.2.2.2.1) (((h.1 c0).2.2 c1).2.2.2.1) (((h.1 c0).2.2 c1).2.2.1) (((h.1 c0).2.2 c1).2.1) (((h.1 c0).2.2 c1).1) (c1) ((h.1 c0).1) (c0), ((((((h.1 c0).2.2 c1).2.2.2.2.2.2.2 c6).1 c10).2 c11).2.1 c12)⟩) (fun c12 => brE (fun c13 => ⟨_, _, _, vout_12 s t (c13) ((((((h.1 c0).2.2 c1).2.2.2.2.2.2.2 c6).1 c10).2 c11).1) (c12) (c11) (c10) (c6) (((h.1 c0).2.2 c1).2.2.2.2.2.1) (((h.1 c0).2.2 c1).2.2.2.2.1) (((h.1 c0).2.2 c1).2.2.2.1) (((h.1 c0).2.2 c1).2.2.1) (((h.1 c0).2.2 c1).2.1) (((h.1 c0).2.2 c1).1) (c1) ((h.1 c0).1) (c0), (((((((h.1 c0).2.2 c1).2.2.2.2.2.2.2 c6).1 c10).2 c11).2.2 c12).1 c13)⟩) (fun c13 => brE (fun c14 => ⟨_, _, _, vout_13 s t (c14) ((((((((h.1 c0).2.2 c1).2.2.2.2.2.2.2 c6).1 c10).2 c11).2.2 c12).2 c13).1) (c13) ((((((h.1 c0).2.2 c1).2.2.2.2.2.2.2 c6).1 c10).2 c11).1) (c12) (c11) (c10) (c6) (((h.1 c0).2.2 c1).2.2.2.2.2.1) (((h.1 c0).2.2 c1).2.2.2.2.1) (((h.1 c0).2.2 c1).2.2.2.1) (((h.1 c0).2.2 c1).2.2.1) (((h.1 c0).2.2 c1).2.1) (((h.1 c0).2.2 c1).1) (c1) ((h.1 c0).1) (c0), ((((((((h.1 c0).2.2 c1).2.2.2.2.2.2.2 c6).1 c10).2 c11).2.2 c12).2 c13).2.1 c14)⟩) (fun c14 => brE (fun c15 => ⟨_, _, _, vout_14 s t (c15) ((((((((h.1 c0).2.2 c1).2.2.2.2.2.2.2 c6).1 c10).2 c11).2.2 c12).2 c13).1) (c14) (c13) ((((((h.1 c0).2.2 c1).2.2.2.2.2.2.2 c6).1 c10).2 c11).1) (c12) (c11) (c10) (c6) (((h.1 c0).2.2 c1).2.2.2.2.2.1) (((h.1 c0).2.2 c1).2.2.2.2.1) (((h.1 c0).2.2 c1).2.2.2.1) (((h.1 c0).2.2 c1).2.2.1) (((h.1 c0).2.2 c1).2.1) (((h.1 c0).2.2 c1).1) (c1) ((h.1 c0).1) (c0), (((((((((h.1 c0).2.2 c1).2.2.2.2.2.2.2 c6).1 c10).2 c11).2.2 c12).2 c13).2.2 c14).1 c15)⟩) (fun c15 => ⟨_, _, _, vout_15 s t ((((((((((h.1 c0).2.2 c1).2.2.2.2.2.2.2 c6).1 c10).2 c11).2.2 c12).2 c13).2.2 c14).2 c15).1) (c15) ((((((((h.1 c0).2.2 c1).2.2.2.2.2.2.2 c6).1 c10).2 c11).2.2 c12).2 c13).1) (c14) (c13) ((((((h.1 c0).2.2 c1).2.2.2.2.2.2.2 c6).1 c10).2 c11).1) (c12) (c11) (c10) (c6) (((h.1 c0).2.2 c1).2.2.2.2.2.1) (((h.1 c0).2.2 c1).2.2.2.2.1) (((h.1 c0).2.2 c1).2.2.2.1) (((h.1 c0).2.2 c1).2.2.1) (((h.1 c0).2.2 c1).2.1) (((h.1 c0).2.2 c1).1) (c1) ((h.1 c0).1) (c0), (((((((((h.1 c0).2.2 c1).2.2.2.2.2.2.2 c6).1 c10).2 c11).2.2 c12).2 c13).2.2 c14).2 c15).2⟩)))))) (fun c10 => brE (fun c16 => brE (fun c17 => ⟨_, _, _, vout_16 s t (c17) (c16) (c10) (c6) (((h.1 c0).2.2 c1).2.2.2.2.2.1) (((h.1 c0).2.2 c1).2.2.2.2.1) (((h.1 c0).2.2 c1).2.2.2.1) (((h.1 c0).2.2 c1).2.2.1) (((h.1 c0).2.2 c1).2.1) (((h.1 c0).2.2 c1).1) (c1) ((h.1 c0).1) (c0), ((((((h.1 c0).2.2 c1).2.2.2.2.2.2.2 c6).2 c10).1 c16).1 c17)⟩) (fun c17 => brE (fun c18 => ⟨_, _, _, vout_17 s t (c18) (((((((h.1 c0).2.2 c1).2.2.2.2.2.2.2 c6).2 c10).1 c16).2 c17).1) (c17) (c16) (c10) (c6) (((h.1 c0).2.2 c1).2.2.2.2.2.1) (((h.1 c0).2.2 c1).2.2.2.2.1) (((h.1 c0).2.2 c1).2.2.2.1) (((h.1 c0).2.2 c1).2.2.1) (((h.1 c0).2.2 c1).2.1) (((h.1 c0).2.2 c1).1) (c1) ((h.1 c0).1) (c0), (((((((h.1 c0).2.2 c1).2.2.2.2.2.2.2 c6).2 c10).1 c16).2 c17).2.1 c18)⟩) (fun c18 => brE (fun c19 => ⟨_, _, _, vout_18 s t (c19) (((((((h.1 c0).2.2 c1).2.2.2.2.2.2.2 c6).2 c10).1 c16).2 c17).1) (c18) (c17) (c16) (c10) (c6) (((h.1 c0).2.2 c1).2.2.2.2.2.1) (((h.1 c0).2.2 c1).2.2.2.2.1) (((h.1 c0).2.2 c1).2.2.2.1) (((h.1 c0).2.2 c1).2.2.1) (((h.1 c0).2.2 c1).2.1) (((h.1 c0).2.2 c1).1) (c1) ((h.1 c0).1) (c0), ((((((((h.1 c0).2.2 c1).2.2.2.2.2.2.2 c6).2 c10).1 c16).2 c17).2.2 c18).1 c19)⟩) (fun c19 => brE (fun c20 => ⟨_, _, _, vout_19 s t (c20) (((((((((h.1 c0).2.2 c1).2.2.2.2.2.2.2 c6).2 c10).1 c16).2 c17).2.2 c18).2 c19).1) (c19) (((((((h.1 c0).2.2 c1).2.2.2.2.2.2.2 c6).2 c10).1 c16).2 c17).1) (c18) (c17) (c16) (c10) (c6) (((h.1 c0).2.2 c1).2.2.2.2.2.1) (((h.1 c0).2.2 c1).2.2.2.2.1) (((h.1 c0).2.2 c1).2.2.2.1) (((h.1 c0).2.2 c1).2.2.1) (((h.1 c0).2.2 c1).2.1) (((h.1 c0).2.2 c1).1) (c1) ((h.1 c0).1) (c0), (((((((((h.1 c0).2.2 c1).2.2.2.2.2.2.2 c6).2 c10).1 c16).2 c17).2.2 c18).2 c19).2.1 c20)⟩) (fun c20 => brE (fun c21 => ⟨_, _, _, vout_20 s t (c21) (((((((((h.1 c0).2.2 c1).2.2.2.2.2.2.2 c6).2 c10).1 c16).2 c17).2.2 c18).2 c19).1) (c20) (c19) (((((((h.1 c0).2.2 c1).2.2.2.2.2.2.2 c6).2 c10).1 c16).2 c17).1) (c18) (c17) (c16) (c10) (c6) (((h.1 c0).2.2 c1).2.2.2.2.2.1) (((h.1 c0).2.2 c1).2.2.2.2.1) (((h.1 c0).2.2 c1).2.2.2.1) (((h.1 c0).2.2 c1).2.2.1) (((h.1 c0).2.2 c1).2.1) (((h.1 c0).2.2 c1).1) (c1) ((h.1 c0).1) (c0), ((((((((((h.1 c0).2.2 c1).2.2.2.2.2.2.2 c6).2 c10).1 c16).2 c17).2.2 c18).2 c19).2.2 c20).1 c21)⟩) (fun c21 => brE (fun c22 => ⟨_, _, _, vout_21 s t (c22) (((((((((((h.1 c0).2.2 c1).2.2.2.2.2.2.2 c6).2 c10).1 c16).2 c17).2.2 c18).2 c19).2.2 c20).2 c21).1) (c21) (((((((((h.1 c0).2.2 c1).2.2.2.2.2.2.2 c6).2 c10).1 c16).2 c17).2.2 c18).2 c19).1) (c20) (c19) (((((((h.1 c0).2.2 c1).2.2.2.2.2.2.2 c6).2 c10).1 c16).2 c17).1) (c18) (c17) (c16) (c10) (c6) (((h.1 c0).2.2 c1).2.2.2.2.2.1) (((h.1 c0).2.2 c1).2.2.2.2.1) (((h.1 c0).2.2 c1).2.2.2.1) (((h.1 c0).2.2 c1).2.2.1) (((h.1 c0).2.2 c1).2.1) (((h.1 c0).2.2 c1).1) (c1) ((h.1 c0).1) (c0), (((((((((((h.1 c0).2.2 c1).2.2.2.2.2.2.2 c6).2 c10).1 c16).2 c17).2.2 c18).2 c19).2.2 c20).2 c21).2.1 c22)⟩) (fun c22 => brE (fun c23 => ⟨_, _, _, vout_22 s t (c23) (((((((((((h.1 c0).2.2 c1).2.2.2.2.2.2.2 c6).2 c10).1 c16).2 c17).2.2 c18).2 c19).2.2 c20).2 c21).1) (c22) (c21) (((((((((h.1 c0).2.2 c1).2.2.2.2.2.2.2 c6).2 c10).1 c16).2 c17).2.2 c18).2 c19).1) (c20) (c19) (((((((h.1 c0).2.2 c1).2.2.2.2.2.2.2 c6).2 c10).1 c16).2 c17).1) (c18) (c17) (c16) (c10) (c6) (((h.1 c0).2.2 c1).2.2.2.2.2.1) (((h.1 c0).2.2 c1).2.2.2.2.1) (((h.1 c0).2.2 c1).2.2.2.1) (((h.1 c0).2.2 c1).2.2.1) (((h.1 c0).2.2 c1).2.1) (((h.1 c0).2.2 c1).1) (c1) ((h.1 c0).1) (c0), ((((((((((((h.1 c0).2.2 c1).2.2.2.2.2.2.2 c6).2 c10).1 c16).2 c17).2.2 c18).2 c19).2.2 c20).2 c21).2.2 c22).1 c23)⟩) (fun c23 => ⟨_, _, _, vout_23 s t (((((((((((((h.1 c0).2.2 c1).2.2.2.2.2.2.2 c6).2 c10).1 c16).2 c17).2.2 c18).2 c19).2.2 c20).2 c21).2.2 c22).2 c23).1) (c23) (((((((((((h.1 c0).2.2 c1).2.2.2.2.2.2.2 c6).2 c10).1 c16).2 c17).2.2 c18).2 c19).2.2 c20).2 c21).1) (c22) (c21) (((((((((h.1 c0).2.2 c1).2.2.2.2.2.2.2 c6).2 c10).1 c16).2 c17).2.2 c18).2 c19).1) (c20) (c19) (((((((h.1 c0).2.2 c1).2.2.2.2.2.2.2 c6).2 c10).1 c16).2 c17).1) (c18) (c17) (c16) (c10) (c6) (((h.1 c0).2.2 c1).2.2.2.2.2.1) (((h.1 c0).2.2 c1).2.2.2.2.1) (((h.1 c0).2.2 c1).2.2.2.1) (((h.1 c0).2.2 c1).2.2.1) (((h.1 c0).2.2 c1).2.1) (((h.1 c0).2.2 c1).1) (c1) ((h.1 c0).1) (c0), ((((((((((((h.1 c0).2.2 c1).2.2.2.2.2.2.2 c6).2 c10).1 c16).2 c17).2.2 c18).2 c19).2.2 c20).2 c21).2.2 c22).2 c23).2⟩)))))))) (fun c16 => ⟨_, _, _, vout_24 s t (c16) (c10) (c6) (((h.1 c0).2.2 c1).2.2.2.2.2.1) (((h.1 c0).2.2 c1).2.2.2.2.1) (((h.1 c0).2.2 c1).2.2.2.1) (((h.1 c0).2.2 c1).2.2.1) (((h.1 c0).2.2 c1).2.1) (((h.1 c0).2.2 c1).1) (c1) ((h.1 c0).1) (c0), (((((h.1 c0).2.2 c1).2.2.2.2.2.2.2 c6).2 c10).2 c16)⟩))))) (fun c0 => ⟨_, _, _, vout_25 s t (c0), (h.2 c0)⟩)


theorem valid_1 (s : ByteArray) (t : ByteArray)
    (h1 : TripN pgND 0 (Code.loop (loopNo Tryd.f50 0)) (mkR 169 [(0, str s)]) [] (AExit.exit 0) (mkR 169 [(0, str t)]) []) :
    FOk pgND 50 ([str s]) ([]) (bool true) ([]) :=
  (evalF_ok followed Tryd.func50 (by kernel_rfl) (show evalF pgND Tryd.f50 ([str s]) ([]) ([Dec.compact (keepM 169 [0]) [], Dec.loop (AExit.exit 0) (rgV t) []]) = .ok (FRes.mk (bool true) ([]) ((Owed.loop (owed pgND 0) (loopNo Tryd.f50 0) (mkR 169 [(0, str s)]) [] (AExit.exit 0) (mkR 169 [(0, str t)]) []) :: [])) by kernel_rfl) (allP_of ⟨h1, trivial⟩)).move ([]) (by kernel_rfl) (by kernel_rfl) (by kernel_rfl)

theorem validR_1 (s : ByteArray)
    (h1 : TripN pgND 0 (Code.loop (loopNo Tryd.f50 0)) (mkR 169 [(0, str s)]) [] AExit.ret (mkR 169 [(2, tt false)]) []) :
    FOk pgND 50 ([str s]) ([]) (bool false) ([]) :=
  (evalF_ok followed Tryd.func50 (by kernel_rfl) (show evalF pgND Tryd.f50 ([str s]) ([]) ([Dec.compact (keepM 169 [0]) [], Dec.loop AExit.ret (mkR 169 [(2, tt false)]) []]) = .ok (FRes.mk (bool false) ([]) ((Owed.loop (owed pgND 0) (loopNo Tryd.f50 0) (mkR 169 [(0, str s)]) [] AExit.ret (mkR 169 [(2, tt false)]) []) :: [])) by kernel_rfl) (allP_of ⟨h1, trivial⟩)).move ([]) (by kernel_rfl) (by kernel_rfl) (by kernel_rfl)

end Go.MN
end

section
set_option linter.unusedVariables false
set_option linter.unusedSimpArgs false
set_option maxRecDepth 100000
namespace Go.MN
open Go Go.Abs Go.Proofs Go.Lib

abbrev V (s : ByteArray) : Bool := validD (lB s)
abbrev ext (s : ByteArray) (k : Nat) : ByteArray := s.extract k s.size
theorem lB_from (s : ByteArray) (a : Nat) : lB (s.extract a s.size) = (lB s).drop a := by
  rw [lB_extract, List.take_of_length_le (by rw [List.length_drop, lB_length]; exact Nat.le_refl _)]
theorem ext_ext (s : ByteArray) (a b : Nat) : ext (ext s a) b = ext s (a + b) := lB_inj (by rw [lB_from, lB_from, lB_from, List.drop_drop])
theorem ext_sz (s : ByteArray) (a : Nat) : (ext s a).size = s.size - a := ext_size s a
def wn (s : ByteArray) : Nat := leNat [s.get! 0, s.get! 1, s.get! 2, s.get! 3, s.get! 4, s.get! 5, s.get! 6, s.get! 7]
theorem wd_wn (s : ByteArray) : wd s = (wn s : Int) := rfl
theorem wn_lt (s : ByteArray) : wn s < 2 ^ 64 := word_lt s
theorem mask0 {n : Nat} (h : n < 2 ^ 64) (c : (bits .and .u64 (n : Int) 9259542123273814144 == 0) = true) : n &&& 9259542123273814144 = 0 := by
  have := bits_andu h (b := 9259542123273814144) (by decide)
  rw [show bits .and .u64 (n : Int) 9259542123273814144 = _ from this] at c
  have := eq_of_beq c
  omega
theorem skip8 {s : ByteArray} (h : 8 ≤ s.size) (hw : wn s &&& 9259542123273814144 = 0) : V (ext s 8) = V s := valid_skip s 8 ((word_asc s h).1 hw)
theorem or_lt {a b : Nat} (ha : a < 2 ^ 64) (hb : b < 2 ^ 64) : a ||| b < 2 ^ 64 := Nat.or_lt_two_pow ha hb

theorem vin_rounds : ∀ (n : Nat) (s : ByteArray), s.size ≤ n → ∃ t, V t = V s ∧ t.size ≤ s.size ∧ LoopRun Tryd.prog 0 (loopNo Tryd.f50 1) (rgV s) [] (.exit 2) (rgV t) []
  | 0, s, hs => by
    refine ⟨s, rfl, Nat.le_refl _, .done (TripN.wp (vin_wp s ?_)) (by simp)⟩
    unfold vin_T
    exact ⟨fun h => absurd (of_decide_eq_true h) (by omega), fun _ => ⟨rfl, rfl, rfl⟩⟩
  | n + 1, s, hs => by
    by_cases hb : 32 < s.size
    · have o1 := bits_oru (wn_lt s) (wn_lt (ext s 8))
      have o2 := bits_oru (wn_lt (ext s 16)) (wn_lt (ext s 24))
      have o3 := bits_oru (or_lt (wn_lt s) (wn_lt (ext s 8))) (or_lt (wn_lt (ext s 16)) (wn_lt (ext s 24)))
      have hT : ∀ {Q : AExit → Regs → AState → Prop}, ((wn s ||| wn (ext s 8) ||| (wn (ext s 16) ||| wn (ext s 24))) &&& 9259542123273814144 = 0 → Q .normal (rgV (ext s 32)) []) → (((bits .and .u64 ((wn s ||| wn (ext s 8) ||| (wn (ext s 16) ||| wn (ext s 24)) : Nat) : Int) 9259542123273814144 == 0) = false) → Q (.exit 2) (rgV s) []) → vin_T s Q := by
        intro Q h1 h2
        unfold vin_T
        simp only [Int.toNat_natCast, wd_wn]
        rw [o1, o2, o3]
        refine ⟨fun _ => ⟨by omega, decide_eq_true (by omega), by rw [ext_sz]; omega, decide_eq_true (by omega), by rw [ext_sz]; omega, decide_eq_true (by omega), by rw [ext_sz]; omega, fun c => ⟨decide_eq_true (by omega), h1 (mask0 (or_lt (or_lt (wn_lt _) (wn_lt _)) (or_lt (wn_lt _) (wn_lt _))) c)⟩, fun c => h2 c⟩, fun c => absurd (of_decide_eq_false c) (by omega)⟩
      cases hc : (bits .and .u64 ((wn s ||| wn (ext s 8) ||| (wn (ext s 16) ||| wn (ext s 24)) : Nat) : Int) 9259542123273814144 == 0) with
      | true =>
        have hm := mask0 (or_lt (or_lt (wn_lt _) (wn_lt _)) (or_lt (wn_lt _) (wn_lt _))) hc
        rw [or_mask, or_mask, or_mask] at hm
        obtain ⟨⟨m0, m1⟩, m2, m3⟩ := hm
        have e1 : V (ext s 32) = V s := by
          have k1 := skip8 (s := s) (by omega) m0
          have k2 := skip8 (s := ext s 8) (by rw [ext_sz]; omega) m1
          have k3 := skip8 (s := ext s 16) (by rw [ext_sz]; omega) m2
          have k4 := skip8 (s := ext s 24) (by rw [ext_sz]; omega) m3
          rw [ext_ext] at k2 k3 k4
          rw [k4, k3, k2, k1]
        obtain ⟨t, h1, h2, r⟩ := vin_rounds n (ext s 32) (by rw [ext_sz]; omega)
        rw [ext_sz] at h2
        refine ⟨t, h1.trans e1, by omega, .more (TripN.wp (vin_wp s (hT (fun _ => ⟨rfl, rfl, rfl⟩) (fun c => by rw [hc] at c; cases c)))) r⟩
      | false =>
        refine ⟨s, rfl, Nat.le_refl _, .done (TripN.wp (vin_wp s (hT (fun h => ?_) (fun _ => ⟨rfl, rfl, rfl⟩)))) (by simp)⟩
        exfalso
        have := bits_andu (or_lt (or_lt (wn_lt s) (wn_lt (ext s 8))) (or_lt (wn_lt (ext s 16)) (wn_lt (ext s 24)))) (b := 9259542123273814144) (by decide)
        rw [show bits .and .u64 _ 9259542123273814144 = _ from this, h] at hc
        simp at hc
    · refine ⟨s, rfl, Nat.le_refl _, .done (TripN.wp (vin_wp s ?_)) (by simp)⟩
      unfold vin_T
      exact ⟨fun h => absurd (of_decide_eq_true h) (by omega), fun _ => ⟨rfl, rfl, rfl⟩⟩

theorem first_at : ∀ b : Fin 256, (Tabs.first.getD b.val .any).toInt = (firstT b.val : Int) ∧ areKinds [.int .u8] [Tabs.first.getD b.val .any] = true ∧ firstT b.val < 256 ∧ firstT b.val / 16 < 16 := by decide +kernel
theorem acc_at : ∀ i : Fin 16, (Tabs.acc.getD (i.val * 2) .any).toInt = (accLo i.val : Int) ∧ (Tabs.acc.getD (i.val * 2 + 1) .any).toInt = (accHi i.val : Int) ∧ areKinds [.int .u8, .int .u8] [Tabs.acc.getD (i.val * 2) .any, Tabs.acc.getD (i.val * 2 + 1) .any] = true := by decide +kernel
theorem and7u : ∀ x : Fin 256, IntKind.wrap .i64 (bits .and .u8 (x.val : Int) 7) = ((x.val % 8 : Nat) : Int) := by decide +kernel
theorem fdiv16 (n : Nat) : Int.fdiv (n : Int) 16 = ((n / 16 : Nat) : Int) := by
  rw [Int.fdiv_eq_ediv_of_nonneg _ (by omega)]; omega
end Go.MN
end

section
set_option linter.unusedVariables false
set_option linter.unusedSimpArgs false
set_option maxRecDepth 100000
namespace Go.MN
open Go Go.Abs Go.Proofs Go.Lib

abbrev regF : Regs := mkR 169 [(2, .tt false)]
theorem size_list (s : ByteArray) : s.size = (lB s).length := (lB_length s).symm
theorem byteN (s : ByteArray) (k : Nat) : byteAt s (k : Int) = (((lB s).getD k 0).toNat : Int) := by rw [byteAt_lB, Int.toNat_natCast]
theorem vout_key (s : ByteArray) : ∃ t, ∀ {Q : AExit → Regs → AState → Prop}, (∀ s', s'.size < s.size → V s' = V s → Q .normal (rgV s') []) → (V s = false → Q .ret regF []) → (V s = true → Q (.exit 0) (rgV s) []) → vout_T s t Q := by
  obtain ⟨t, t1, t2, tr⟩ := vin_rounds _ (ext s 25) (Nat.le_refl _)
  refine ⟨t, fun {Q} hn hf he => ?_⟩
  by_cases h0 : 0 < s.size
  · have b0 := byteN s 0
    have b1 := byteN s 1
    have b2 := byteN s 2
    have b3 := byteN s 3
    have hne : lB s ≠ [] := by intro c; rw [size_list, c] at h0; simp at h0
    by_cases hb : ((lB s).getD 0 0).toNat < 128
    · have v1 : V (ext s 1) = V s := by
        show validD (lB (ext s 1)) = validD (lB s)
        rw [lB_from]
        cases hl : lB s with
        | nil => exact absurd hl hne
        | cons c r =>
          rw [hl] at hb
          exact (validD_cons c r hb).symm
      unfold vout_T
      simp only [Int.toNat_natCast, wd_wn, ext_ext, show ∀ s a, ByteArray.extract s a s.size = ext s a from fun _ _ => rfl]
      rw [show byteAt s 0 = _ from b0]
      refine ⟨fun _ => ⟨decide_eq_true (by omega), fun _ => ⟨decide_eq_true (by omega), fun c1 => ?_, fun _ => hn _ (by rw [ext_sz]; omega) v1⟩, fun c => absurd (of_decide_eq_false c) (by omega)⟩, fun c => absurd (of_decide_eq_false c) (by omega)⟩
      have c1 := of_decide_eq_true c1
      rw [ext_sz] at c1
      refine ⟨by rw [ext_sz]; omega, fun c2 => ?_, fun _ => hn _ (by rw [ext_sz]; omega) v1⟩
      have v9 : V (ext s 9) = V s := by
        have := skip8 (s := ext s 1) (by rw [ext_sz]; omega) (mask0 (wn_lt _) c2)
        rw [ext_ext] at this
        exact this.trans v1
      refine ⟨decide_eq_true (by rw [ext_sz]; omega), fun c3 => ?_, fun _ => hn _ (by rw [ext_sz]; omega) v9⟩
      have c3 := of_decide_eq_true c3
      rw [ext_sz] at c3
      have o := bits_oru (wn_lt (ext s (1 + 8))) (wn_lt (ext s (1 + 8 + 8)))
      refine ⟨by rw [ext_sz]; omega, decide_eq_true (by rw [ext_sz]; omega), by rw [ext_sz]; omega, fun c4 => ?_, fun _ => hn _ (by rw [ext_sz]; omega) v9⟩
      rw [show bits .or .u64 _ _ = _ from o] at c4
      have m := mask0 (or_lt (wn_lt _) (wn_lt _)) c4
      rw [or_mask] at m
      have k1 := skip8 (s := ext s 9) (by rw [ext_sz]; omega) m.1
      have k2 := skip8 (s := ext s 17) (by rw [ext_sz]; omega) m.2
      rw [ext_ext] at k1 k2
      refine ⟨decide_eq_true (by rw [ext_sz]; omega), tr.trip, hn t ?_ (t1.trans (k2.trans (k1.trans v9)))⟩
      rw [ext_sz] at t2
      omega
    · have h8 := ((lB s).getD 0 0).toNat_lt
      have hv := validD_lead (lB s) hne (by omega)
      obtain ⟨f1, f2, f3, f4⟩ := first_at ⟨((lB s).getD 0 0).toNat, h8⟩
      dsimp only at f1 f2 f3 f4
      obtain ⟨a1, a2, a3⟩ := acc_at ⟨firstT ((lB s).getD 0 0).toNat / 16, f4⟩
      have a7 := and7u ⟨firstT ((lB s).getD 0 0).toNat, f3⟩
      dsimp only at a1 a2 a3 a7
      have hsz := lB_length s
      unfold vout_T
      rw [show byteAt s 0 = _ from b0, show byteAt s 1 = _ from b1, show byteAt s 2 = _ from b2, show byteAt s 3 = _ from b3]
      simp only [Int.toNat_natCast, Nat.mul_one, f1, fdiv16, a1, a2, a7]
      rw [← hsz] at hn h0 ⊢
      have hg : ∀ k, 0 < k → k ≤ (lB s).length → validD ((lB s).drop k) = V s → Q .normal (rgV (s.extract k (lB s).length)) [] := fun k hk hl hvk => hn _ (by rw [hsz]; show (ext s k).size < s.size; rw [ext_sz]; omega) (by rw [hsz]; show validD (lB (ext s k)) = V s; rw [lB_from]; exact hvk)
      clear hn b0 b1 b2 b3 tr t1 t2 f1 a1 a2 a7
      change V s = _ at hv
      generalize ((lB s).getD 0 0).toNat = x0 at *
      generalize ((lB s).getD 1 0).toNat = x1 at *
      generalize ((lB s).getD 2 0).toNat = x2 at *
      generalize ((lB s).getD 3 0).toNat = x3 at *
      generalize accLo (firstT x0 / 16) = lo at *
      generalize accHi (firstT x0 / 16) = hi at *
      generalize hz : firstT x0 % 8 = z at *
      have bad : checkN (lB s).length x1 x2 x3 z lo hi = none → Q .ret regF [] := fun c => hf (by rw [hv, c])
      have good : ∀ k, 0 < k → k ≤ (lB s).length → checkN (lB s).length x1 x2 x3 z lo hi = some k → Q .normal (rgV (s.extract k (lB s).length)) [] := fun k hk hl c => hg k hk hl (by rw [hv, c])
      generalize (lB s).length = N at *
      refine ⟨fun _ => ⟨decide_eq_true (by omega), fun c => absurd (of_decide_eq_true c) (by omega), fun _ => ⟨decide_eq_true (by omega), f2, decide_eq_true (by omega), decide_eq_true (by omega), a3, decide_eq_true (by omega), fun c2 => ?_, fun n2 => ⟨fun c3 => ?_, fun n3 => ⟨fun c4 => ?_, fun n4 => bad ?_⟩⟩⟩⟩, fun c => absurd (of_decide_eq_false c) (by omega)⟩
      · have c2 := eq_of_beq c2
        have e : z = 2 := by omega
        subst e
        refine ⟨fun k => bad ?_, fun k => ⟨decide_eq_true ?_, fun l => bad ?_, fun l => ⟨fun m => bad ?_, fun m => ⟨decide_eq_true ?_, good 2 (by omega) ?_ ?_⟩⟩⟩⟩
        all_goals (try have k1 := of_decide_eq_true k)
        all_goals (try have k2 := of_decide_eq_false k)
        all_goals (try have l1 := of_decide_eq_true l)
        all_goals (try have l2 := of_decide_eq_false l)
        all_goals (try have m1 := of_decide_eq_true m)
        all_goals (try have m2 := of_decide_eq_false m)
        all_goals first | omega | (unfold checkN; rw [if_pos rfl, if_pos (by omega)]) | (unfold checkN; rw [if_pos rfl, if_neg (by omega)])
      · have c3 := eq_of_beq c3
        have e : z = 3 := by omega
        subst e
        refine ⟨fun k => bad ?_, fun k => ⟨decide_eq_true ?_, fun l => bad ?_, fun l => ⟨fun m => bad ?_, fun m => ⟨decide_eq_true ?_, fun o => bad ?_, fun o => ⟨fun p => bad ?_, fun p => ⟨decide_eq_true ?_, good 3 (by omega) ?_ ?_⟩⟩⟩⟩⟩⟩
        all_goals (try have k1 := of_decide_eq_true k)
        all_goals (try have k2 := of_decide_eq_false k)
        all_goals (try have l1 := of_decide_eq_true l)
        all_goals (try have l2 := of_decide_eq_false l)
        all_goals (try have m1 := of_decide_eq_true m)
        all_goals (try have m2 := of_decide_eq_false m)
        all_goals (try have o1 := of_decide_eq_true o)
        all_goals (try have o2 := of_decide_eq_false o)
        all_goals (try have p1 := of_decide_eq_true p)
        all_goals (try have p2 := of_decide_eq_false p)
        all_goals first | omega | (unfold checkN; rw [if_neg (by omega), if_pos rfl, if_pos (by omega)]) | (unfold checkN; rw [if_neg (by omega), if_pos rfl, if_neg (by omega)])
      · have c4 := eq_of_beq c4
        have e : z = 4 := by omega
        subst e
        refine ⟨fun k => bad ?_, fun k => ⟨decide_eq_true ?_, fun l => bad ?_, fun l => ⟨fun m => bad ?_, fun m => ⟨decide_eq_true ?_, fun o => bad ?_, fun o => ⟨fun p => bad ?_, fun p => ⟨decide_eq_true ?_, fun q => bad ?_, fun q => ⟨fun r => bad ?_, fun r => ⟨decide_eq_true ?_, good 4 (by omega) ?_ ?_⟩⟩⟩⟩⟩⟩⟩⟩
        all_goals (try have k1 := of_decide_eq_true k)
        all_goals (try have k2 := of_decide_eq_false k)
        all_goals (try have l1 := of_decide_eq_true l)
        all_goals (try have l2 := of_decide_eq_false l)
        all_goals (try have m1 := of_decide_eq_true m)
        all_goals (try have m2 := of_decide_eq_false m)
        all_goals (try have o1 := of_decide_eq_true o)
        all_goals (try have o2 := of_decide_eq_false o)
        all_goals (try have p1 := of_decide_eq_true p)
        all_goals (try have p2 := of_decide_eq_false p)
        all_goals (try have q1 := of_decide_eq_true q)
        all_goals (try have q2 := of_decide_eq_false q)
        all_goals (try have r1 := of_decide_eq_true r)
        all_goals (try have r2 := of_decide_eq_false r)
        all_goals first | omega | (unfold checkN; rw [if_neg (by omega), if_neg (by omega), if_pos rfl, if_pos (by omega)]) | (unfold checkN; rw [if_neg (by omega), if_neg (by omega), if_pos rfl, if_neg (by omega)])
      · have n2 := beq_eq_false_iff_ne.1 n2
        have n3 := beq_eq_false_iff_ne.1 n3
        have n4 := beq_eq_false_iff_ne.1 n4
        unfold checkN
        rw [if_neg (by omega), if_neg (by omega), if_neg (by omega)]
  · unfold vout_T
    refine ⟨fun c => absurd (of_decide_eq_true c) (by omega), fun _ => he ?_⟩
    have : lB s = [] := List.eq_nil_of_length_eq_zero (by rw [lB_length]; omega)
    show validD (lB s) = true
    rw [this]; rfl
theorem vout_rounds : ∀ (n : Nat) (s : ByteArray), s.size ≤ n → (V s = true → ∃ t, LoopRun Tryd.prog 0 (loopNo Tryd.f50 0) (rgV s) [] (.exit 0) (rgV t) []) ∧ (V s = false → LoopRun Tryd.prog 0 (loopNo Tryd.f50 0) (rgV s) [] .ret regF []) := by
  intro n
  induction n with
  | zero =>
    intro s hs
    obtain ⟨t, hk⟩ := vout_key s
    obtain ⟨e, rg', σ', tr, h⟩ := vout_wp s t (hk (Q := fun e rg' σ' => (∃ s' : ByteArray, e = .normal ∧ s'.size < s.size ∧ V s' = V s ∧ rg' = rgV s' ∧ σ' = []) ∨ (V s = false ∧ e = .ret ∧ rg' = regF ∧ σ' = []) ∨ (V s = true ∧ e = .exit 0 ∧ rg' = rgV s ∧ σ' = [])) (fun s' h1 h2 => .inl ⟨s', rfl, h1, h2, rfl, rfl⟩) (fun h => .inr (.inl ⟨h, rfl, rfl, rfl⟩)) (fun h => .inr (.inr ⟨h, rfl, rfl, rfl⟩)))
    rcases h with ⟨s', rfl, h1, h2, rfl, rfl⟩ | ⟨h, rfl, rfl, rfl⟩ | ⟨h, rfl, rfl, rfl⟩
    · omega
    · exact ⟨fun c => (by rw [h] at c; cases c), fun _ => .done tr (by simp)⟩
    · exact ⟨fun _ => ⟨s, .done tr (by simp)⟩, fun c => (by rw [h] at c; cases c)⟩
  | succ n ih =>
    intro s hs
    obtain ⟨t, hk⟩ := vout_key s
    obtain ⟨e, rg', σ', tr, h⟩ := vout_wp s t (hk (Q := fun e rg' σ' => (∃ s' : ByteArray, e = .normal ∧ s'.size < s.size ∧ V s' = V s ∧ rg' = rgV s' ∧ σ' = []) ∨ (V s = false ∧ e = .ret ∧ rg' = regF ∧ σ' = []) ∨ (V s = true ∧ e = .exit 0 ∧ rg' = rgV s ∧ σ' = [])) (fun s' h1 h2 => .inl ⟨s', rfl, h1, h2, rfl, rfl⟩) (fun h => .inr (.inl ⟨h, rfl, rfl, rfl⟩)) (fun h => .inr (.inr ⟨h, rfl, rfl, rfl⟩)))
    rcases h with ⟨s', rfl, h1, h2, rfl, rfl⟩ | ⟨h, rfl, rfl, rfl⟩ | ⟨h, rfl, rfl, rfl⟩
    · obtain ⟨i1, i2⟩ := ih s' (by omega)
      refine ⟨fun c => ?_, fun c => .more tr (i2 (h2.trans c))⟩
      obtain ⟨u, r⟩ := i1 (h2.trans c)
      exact ⟨u, .more tr r⟩
    · exact ⟨fun c => (by rw [h] at c; cases c), fun _ => .done tr (by simp)⟩
    · exact ⟨fun _ => ⟨s, .done tr (by simp)⟩, fun c => (by rw [h] at c; cases c)⟩
theorem valid_ok (s : ByteArray) : FOk Tryd.prog 50 [.str s] [] (.bool (V s)) [] := by
  obtain ⟨h1, h2⟩ := vout_rounds _ s (Nat.le_refl _)
  cases h : V s with
  | true =>
    obtain ⟨t, r⟩ := h1 h
    exact (valid_1 s t r.trip).imp (Imp.bool rfl)
  | false => exact (validR_1 s (h2 h).trip).imp (Imp.bool rfl)
end Go.MN
end

section
set_option linter.unusedVariables false
set_option maxRecDepth 100000
namespace Go.MN
open Go Go.Abs Go.Proofs Go.Lib Go.Proofs.YtpncnfhfjegibaaDoor

abbrev laidL : List (String × DataW Unit) := [("unicode/utf8.acceptRanges", Rows.laid_unicode_utf8_acceptRanges), ("unicode/utf8.first", Rows.laid_unicode_utf8_first)]
theorem accData : Rows.laid_unicode_utf8_acceptRanges = acceptData := by kernel_rfl
theorem fstData : Rows.laid_unicode_utf8_first = tabData .u8 (Go.Pinned.utf8FirstZ.map fun n : Nat => (n : Int)) := by
  unfold Rows.laid_unicode_utf8_first Go.Pinned.utf8First Go.Pinned.numbers tabData
  rw [List.map_map]; rfl
theorem vrel_row {W : World} {g : Nat} {xs : List Int} {n : Nat} (hn : xs.length = n) (h0 : 0 < n) (hc : ∀ j, j < n → W.cell? ⟨g, j, none⟩ = some (.int .u8 (xs.getD j 0))) :
    VRel (FS.of fun b => b < W.heap.size) W noId (.fptr n [xs.map fun z => .int .u8 z] 0 0) (.pointer (some ⟨g, 0, none⟩)) := by
  have hg : g < W.heap.size := by
    have := hc 0 h0
    unfold World.cell? at this
    cases hk : W.heap[g]? with
    | none => rw [hk] at this; simp at this
    | some o => exact (Array.getElem?_eq_some_iff.1 hk).1
  have e0 : (.pointer (some ⟨g, 0, none⟩) : Value) = .pointer (some ⟨g, 0 + 0 * n + 0, none⟩) := by simp
  rw [e0]
  refine VRel.fptr (F := FS.of fun b => b < W.heap.size) noId n _ 0 0 g 0 (fun _ j => .int .u8 (xs.getD j 0)) hg ?_ ?_ ?_
  · intro i row h
    cases i with
    | zero => cases h; simpa using hn
    | succ i => simp at h
  · intro i j row v h1 h2
    cases i with
    | zero =>
      cases h1
      have hj : j < n := by
        have := (List.getElem?_eq_some_iff.1 h2).1
        simpa [hn] using this
      simpa using hc j hj
    | succ i => simp at h1
  · intro i j row v h1 h2
    cases i with
    | zero =>
      cases h1
      rw [List.getElem?_map] at h2
      obtain ⟨z, hz, rfl⟩ := Option.map_eq_some_iff.1 h2
      have : xs.getD j 0 = z := by rw [List.getD_eq_getElem?_getD, hz]; rfl
      rw [this]
      exact .int _ _ _
    | succ i => simp at h1
theorem gok {W : World} (h : laidMetH Tryd.prog laidL W) : GOk (FS.of fun b => b < W.heap.size) W := by
  rw [MakeChecks.laidMetH_plain _ _ _ (by kernel_rfl)] at h
  have h3 := laidMet.reads h (n := "unicode/utf8.first") (d := Rows.laid_unicode_utf8_first) (by simp [laidL])
  have h4 := laidMet.reads h (n := "unicode/utf8.acceptRanges") (d := Rows.laid_unicode_utf8_acceptRanges) (by simp [laidL])
  rw [fstData] at h3
  rw [accData] at h4
  intro g v hv
  have key : (g = 0 ∧ v = .fptr 256 [Tabs.first] 0 0) ∨ (g = 1 ∧ v = .fptr 32 [Tabs.acc] 0 0) := by
    change (if g = 0 then some (AVal.fptr 256 [Tabs.first] 0 0) else if g = 1 then some (.fptr 32 [Tabs.acc] 0 0) else none) = some v at hv
    by_cases e : g = 0
    · rw [if_pos e] at hv; exact .inl ⟨e, (Option.some.inj hv).symm⟩
    · rw [if_neg e] at hv
      by_cases e1 : g = 1
      · rw [if_pos e1] at hv; exact .inr ⟨e1, (Option.some.inj hv).symm⟩
      · rw [if_neg e1] at hv; cases hv
  rcases key with ⟨rfl, rfl⟩ | ⟨rfl, rfl⟩
  · obtain ⟨g, t, cs, fuel, p, hg, hty, hvar, hd⟩ := h3
    obtain rfl : (0 : Nat) = g := Option.some.inj ((show Tryd.prog.globalNamed "unicode/utf8.first" = some 0 by kernel_rfl).symm.trans hg)
    obtain rfl : (116 : Nat) = t := Option.some.inj ((show (Tryd.prog.globals[0]?).map (·.type) = some 116 by kernel_rfl).symm.trans hty)
    have hcs := cells_of_tab (n := 256) (e := 5) (show Tryd.prog.underlying 116 = some (.array 256 5) by kernel_rfl) (show Tryd.prog.underlying 5 = some (.int .u8) by kernel_rfl) (by kernel_rfl) (by kernel_rfl) hd
    have := vrel_row (W := W) (g := 0) (xs := Go.Pinned.utf8FirstZ.map fun n : Nat => (n : Int)) (n := 256) (by kernel_rfl) (by decide) (fun j hj => by
      rw [World.var?_cell hg hvar j, ← Array.getElem?_toList, hcs, List.getElem?_map]
      have hl : j < (Go.Pinned.utf8FirstZ.map fun n : Nat => (n : Int)).length := by rw [show (Go.Pinned.utf8FirstZ.map fun n : Nat => (n : Int)).length = 256 by kernel_rfl]; exact hj
      rw [List.getElem?_eq_getElem hl, List.getD_eq_getElem?_getD, List.getElem?_eq_getElem hl]; rfl)
    rw [List.map_map] at this
    have e : Tabs.first = List.map ((fun z => AVal.int .u8 z) ∘ fun n : Nat => (n : Int)) Go.Pinned.utf8FirstZ := rfl
    rw [e]
    exact this
  · obtain ⟨g, t, cs, fuel, p, hg, hty, hvar, hd⟩ := h4
    obtain rfl : (1 : Nat) = g := Option.some.inj ((show Tryd.prog.globalNamed "unicode/utf8.acceptRanges" = some 1 by kernel_rfl).symm.trans hg)
    obtain rfl : (119 : Nat) = t := Option.some.inj ((show (Tryd.prog.globals[1]?).map (·.type) = some 119 by kernel_rfl).symm.trans hty)
    have cell : ∀ i, i < 16 → W.cell? ⟨1, 2 * i, none⟩ = some (.int .u8 (accLo i : Int)) ∧ W.cell? ⟨1, 2 * i + 1, none⟩ = some (.int .u8 (accHi i : Int)) := by
      intro i hi
      obtain ⟨fuel', d, q, hdi, he⟩ := array_elem (n := 16) (e := 118) (show Tryd.prog.underlying 119 = some (.array 16 118) by kernel_rfl) hd i hi
      simp only [List.getElem?_map, List.getElem?_range hi, Option.map_some, Option.some.injEq] at hdi
      subst hdi
      rw [show Tryd.prog.cellsOf 118 = 2 by kernel_rfl] at he
      have u5 : Tryd.prog.underlying 5 = some (.int .u8) := by kernel_rfl
      have c5 : Tryd.prog.cellsOf 5 = 1 := by kernel_rfl
      have hcs := ints_of_struct (show Tryd.prog.underlying 118 = some (.struct #[{ name := "lo", type := 5, offset := 0, embedded := false, tag := "", pkgPath := "unicode/utf8", byteOffset := 0 }, { name := "hi", type := 5, offset := 1, embedded := false, tag := "", pkgPath := "unicode/utf8", byteOffset := 1 }]) by kernel_rfl) (fun j f hj => by
        match j, hj with
        | 0, hj => simp at hj; subst hj; exact ⟨u5, rfl, c5⟩
        | 1, hj => simp at hj; subst hj; exact ⟨u5, rfl, c5⟩
        | j + 2, hj => simp at hj) (by kernel_rfl) he
      have e0 := congrArg (·[0]?) hcs
      have e1 := congrArg (·[1]?) hcs
      simp only [List.getElem?_take, List.getElem?_drop] at e0 e1
      constructor
      · rw [World.var?_cell hg hvar (2 * i), ← Array.getElem?_toList]
        simpa [Nat.mul_comm] using e0
      · rw [World.var?_cell hg hvar (2 * i + 1), ← Array.getElem?_toList]
        simpa [Nat.mul_comm] using e1
    have ht : ∀ j : Fin 32, ((([128, 191, 160, 191, 128, 159, 144, 191, 128, 143, 0, 0, 0, 0, 0, 0, 0, 0, 0, 0, 0, 0, 0, 0, 0, 0, 0, 0, 0, 0, 0, 0] : List Int).getD j.val 0) = if j.val % 2 = 0 then (accLo (j.val / 2) : Int) else (accHi (j.val / 2) : Int)) := by decide +kernel
    exact vrel_row (W := W) (g := 1) (n := 32) rfl (by decide) (fun j hj => by
      rw [ht ⟨j, hj⟩]
      dsimp only
      obtain ⟨a, b⟩ := cell (j / 2) (by omega)
      by_cases hm : j % 2 = 0
      · rw [if_pos hm, ← a]; congr 2; omega
      · rw [if_neg hm, ← b]; congr 2; omega)
end Go.MN
end

section
set_option linter.unusedVariables false
set_option maxRecDepth 100000
namespace Go.MN
open Go Go.Abs Go.Proofs
abbrev iqNL : Int → AVal := AVal.int IntKind.i64
abbrev bqNL : ByteArray := ByteArray.mk #[]
abbrev tlqNL : ByteArray → List UInt8 := ByteArray.toList
open Go.Abs.AVal (str agg ptr slc fsl tuple nilp)
open Go.Abs.Dec (br use)
open Go.Abs.AExit (normal)
open Go.Abs.AObj (mp mq dead)
open Go.Abs.AVal (bool tt map)
open Go.IntKind (u8 i64 u64)
open Go.Abs.AObj (gh)
abbrev rzNL : Bool → Nat → List (List AVal) → AObj := AObj.rows
noncomputable abbrev pgNL : Program := Tryd.prog
theorem odd_1 (c : Int)
    (h1 : decide (c < 48) = true)
    (h2 : decide (c < 97) = true) :
    FOk pgNL 48 ([AVal.int IntKind.i32 c]) ([]) (bool (c != 45)) ([]) :=
  (evalF_ok followed Tryd.func48 (by kernel_rfl) (show evalF pgNL Tryd.f48 ([AVal.int IntKind.i32 c]) ([]) ([br true, br true]) = .ok (FRes.mk (bool (c != 45)) ([]) ((_) :: ((_) :: []))) by kernel_rfl) (allP_of ⟨h1, ⟨h2, trivial⟩⟩)).move ([]) (by kernel_rfl) (by kernel_rfl) (by kernel_rfl)

theorem odd_2 (c : Int)
    (h1 : decide (c > 57) = true)
    (h2 : decide (c < 48) = false)
    (h3 : decide (c < 97) = true) :
    FOk pgNL 48 ([AVal.int IntKind.i32 c]) ([]) (bool (c != 45)) ([]) :=
  (evalF_ok followed Tryd.func48 (by kernel_rfl) (show evalF pgNL Tryd.f48 ([AVal.int IntKind.i32 c]) ([]) ([br true, br false, br true]) = .ok (FRes.mk (bool (c != 45)) ([]) ((_) :: ((_) :: ((_) :: [])))) by kernel_rfl) (allP_of ⟨h1, ⟨h2, ⟨h3, trivial⟩⟩⟩)).move ([]) (by kernel_rfl) (by kernel_rfl) (by kernel_rfl)

theorem odd_3 (c : Int)
    (h1 : decide (c > 57) = false)
    (h2 : decide (c < 48) = false)
    (h3 : decide (c < 97) = true) :
    FOk pgNL 48 ([AVal.int IntKind.i32 c]) ([]) (bool false) ([]) :=
  (evalF_ok followed Tryd.func48 (by kernel_rfl) (show evalF pgNL Tryd.f48 ([AVal.int IntKind.i32 c]) ([]) ([br true, br false, br false]) = .ok (FRes.mk (bool false) ([]) ((_) :: ((_) :: ((_) :: [])))) by kernel_rfl) (allP_of ⟨h1, ⟨h2, ⟨h3, trivial⟩⟩⟩)).move ([]) (by kernel_rfl) (by kernel_rfl) (by kernel_rfl)

theorem odd_4 (c : Int)
    (h1 : decide (c < 48) = true)
    (h2 : decide (c > 122) = true)
    (h3 : decide (c < 97) = false) :
    FOk pgNL 48 ([AVal.int IntKind.i32 c]) ([]) (bool (c != 45)) ([]) :=
  (evalF_ok followed Tryd.func48 (by kernel_rfl) (show evalF pgNL Tryd.f48 ([AVal.int IntKind.i32 c]) ([]) ([br false, br true, br true]) = .ok (FRes.mk (bool (c != 45)) ([]) ((_) :: ((_) :: ((_) :: [])))) by kernel_rfl) (allP_of ⟨h1, ⟨h2, ⟨h3, trivial⟩⟩⟩)).move ([]) (by kernel_rfl) (by kernel_rfl) (by kernel_rfl)

theorem odd_5 (c : Int)
    (h1 : decide (c > 57) = true)
    (h2 : decide (c < 48) = false)
    (h3 : decide (c > 122) = true)
    (h4 : decide (c < 97) = false) :
    FOk pgNL 48 ([AVal.int IntKind.i32 c]) ([]) (bool (c != 45)) ([]) :=
  (evalF_ok followed Tryd.func48 (by kernel_rfl) (show evalF pgNL Tryd.f48 ([AVal.int IntKind.i32 c]) ([]) ([br false, br true, br false, br true]) = .ok (FRes.mk (bool (c != 45)) ([]) ((_) :: ((_) :: ((_) :: ((_) :: []))))) by kernel_rfl) (allP_of ⟨h1, ⟨h2, ⟨h3, ⟨h4, trivial⟩⟩⟩⟩)).move ([]) (by kernel_rfl) (by kernel_rfl) (by kernel_rfl)

theorem odd_6 (c : Int)
    (h1 : decide (c > 57) = false)
    (h2 : decide (c < 48) = false)
    (h3 : decide (c > 122) = true)
    (h4 : decide (c < 97) = false) :
    FOk pgNL 48 ([AVal.int IntKind.i32 c]) ([]) (bool false) ([]) :=
  (evalF_ok followed Tryd.func48 (by kernel_rfl) (show evalF pgNL Tryd.f48 ([AVal.int IntKind.i32 c]) ([]) ([br false, br true, br false, br false]) = .ok (FRes.mk (bool false) ([]) ((_) :: ((_) :: ((_) :: ((_) :: []))))) by kernel_rfl) (allP_of ⟨h1, ⟨h2, ⟨h3, ⟨h4, trivial⟩⟩⟩⟩)).move ([]) (by kernel_rfl) (by kernel_rfl) (by kernel_rfl)

theorem odd_7 (c : Int)
    (h1 : decide (c > 122) = false)
    (h2 : decide (c < 97) = false) :
    FOk pgNL 48 ([AVal.int IntKind.i32 c]) ([]) (bool false) ([]) :=
  (evalF_ok followed Tryd.func48 (by kernel_rfl) (show evalF pgNL Tryd.f48 ([AVal.int IntKind.i32 c]) ([]) ([br false, br false]) = .ok (FRes.mk (bool false) ([]) ((_) :: ((_) :: []))) by kernel_rfl) (allP_of ⟨h1, ⟨h2, trivial⟩⟩)).move ([]) (by kernel_rfl) (by kernel_rfl) (by kernel_rfl)

def odd_T (c : Int) (Q : AVal → AState → Prop) : Prop := ((decide (c < 97) = true) → ((decide (c < 48) = true) → Q (AVal.bool (c != 45)) ([])) ∧ ((decide (c < 48) = false) → ((decide (c > 57) = true) → Q (AVal.bool (c != 45)) ([])) ∧ ((decide (c > 57) = false) → Q (AVal.bool false) ([])))) ∧ ((decide (c < 97) = false) → ((decide (c > 122) = true) → ((decide (c < 48) = true) → Q (AVal.bool (c != 45)) ([])) ∧ ((decide (c < 48) = false) → ((decide (c > 57) = true) → Q (AVal.bool (c != 45)) ([])) ∧ ((decide (c > 57) = false) → Q (AVal.bool false) ([])))) ∧ ((decide (c > 122) = false) → Q (AVal.bool false) ([])))
theorem odd_wp (c : Int) {Q : AVal → AState → Prop} (h : odd_T c Q) : ∃ r σ', FOk pgNL 48 ([AVal.int IntKind.i32 c]) ([]) r σ' ∧ Q r σ' :=
  brE (fun c0 => brE (fun c1 => ⟨_, _, odd_1 c (c1) (c0), ((h.1 c0).1 c1)⟩) (fun c1 => brE (fun c2 => ⟨_, _, odd_2 c (c2) (c1) (c0), (((h.1 c0).2 c1).1 c2)⟩) (fun c2 => ⟨_, _, odd_3 c (c2) (c1) (c0), (((h.1 c0).2 c1).2 c2)⟩))) (fun c0 => brE (fun c3 => brE (fun c4 => ⟨_, _, odd_4 c (c4) (c3) (c0), (((h.2 c0).1 c3).1 c4)⟩) (fun c4 => brE (fun c5 => ⟨_, _, odd_5 c (c5) (c4) (c3) (c0), ((((h.2 c0).1 c3).2 c4).1 c5)⟩) (fun c5 => ⟨_, _, odd_6 c (c5) (c4) (c3) (c0), ((((h.2 c0).1 c3).2 c4).2 c5)⟩))) (fun c3 => ⟨_, _, odd_7 c (c3) (c0), ((h.2 c0).2 c3)⟩))


def rgIx : Regs := mkR 21 [(1, .func 48 []), (2, .bool true), (10, .ptr 0 1 0 0)]
theorem ixR_1 (p : Nat) (c : Int) (b : Bool) (rest : List (Nat × Int))
    (h1 : (b == true) = true)
    (h2 : FOk pgNL 48 [AVal.int IntKind.i32 (Prod.snd (p, c))] [] (bool b) []) :
    TripN pgNL 0 (loopNo Tryd.f78 0) (rgIx) ([AObj.siter ((p, c) :: rest)]) (AExit.ret) (mkR 21 [(6, iqNL (↑(Prod.fst (p, c)) : Int))]) ([]) :=
  evalT (st := St.mk (rgIx) ([AObj.siter ((p, c) :: rest)]) ([use [] [AVal.int IntKind.i32 (Prod.snd (p, c))] [] (bool b) [], br true]) []) (st' := St.mk (mkR 21 [(1, AVal.func 48 []), (2, bool true), (6, iqNL (↑(Prod.fst (p, c)) : Int)), (7, iqNL (↑(Prod.fst (p, c)) : Int)), (8, AVal.int IntKind.i32 (Prod.snd (p, c))), (10, ptr 0 1 0 0), (11, tuple [tt true, iqNL (↑(Prod.fst (p, c)) : Int), AVal.int IntKind.i32 (Prod.snd (p, c))]), (12, tt true), (13, iqNL (↑(Prod.fst (p, c)) : Int)), (14, AVal.int IntKind.i32 (Prod.snd (p, c))), (15, AVal.func 48 []), (16, AVal.int IntKind.i32 (Prod.snd (p, c))), (17, bool b), (18, bool true), (19, tt true), (20, iqNL (↑(Prod.fst (p, c)) : Int))]) ([AObj.siter rest]) ([]) ((_) :: ((Owed.use (owed pgNL 0) 48 [] [AVal.int IntKind.i32 (Prod.snd (p, c))] [AObj.siter rest] [AVal.int IntKind.i32 (Prod.snd (p, c))] [] (bool b) []) :: []))) followed (by kernel_rfl) (allP_of ⟨h1, ⟨⟨h2, rfl, rfl, rfl⟩, trivial⟩⟩) (keepM 21 [6]) ([]) (by kernel_rfl) (by kernel_rfl) (by kernel_rfl)

theorem ixR_2 (p : Nat) (c : Int) (b : Bool) (rest : List (Nat × Int))
    (h1 : (b == true) = false)
    (h2 : FOk pgNL 48 [AVal.int IntKind.i32 (Prod.snd (p, c))] [] (bool b) []) :
    TripN pgNL 0 (loopNo Tryd.f78 0) (rgIx) ([AObj.siter ((p, c) :: rest)]) (normal) (mkR 21 [(1, AVal.func 48 []), (2, bool true), (10, ptr 0 1 0 0)]) ([AObj.siter rest]) :=
  evalT (st := St.mk (rgIx) ([AObj.siter ((p, c) :: rest)]) ([use [] [AVal.int IntKind.i32 (Prod.snd (p, c))] [] (bool b) [], br false]) []) (st' := St.mk (mkR 21 [(1, AVal.func 48 []), (2, bool true), (7, iqNL (↑(Prod.fst (p, c)) : Int)), (8, AVal.int IntKind.i32 (Prod.snd (p, c))), (10, ptr 0 1 0 0), (11, tuple [tt true, iqNL (↑(Prod.fst (p, c)) : Int), AVal.int IntKind.i32 (Prod.snd (p, c))]), (12, tt true), (13, iqNL (↑(Prod.fst (p, c)) : Int)), (14, AVal.int IntKind.i32 (Prod.snd (p, c))), (15, AVal.func 48 []), (16, AVal.int IntKind.i32 (Prod.snd (p, c))), (17, bool b), (18, bool true), (19, tt false)]) ([AObj.siter rest]) ([]) ((_) :: ((Owed.use (owed pgNL 0) 48 [] [AVal.int IntKind.i32 (Prod.snd (p, c))] [AObj.siter rest] [AVal.int IntKind.i32 (Prod.snd (p, c))] [] (bool b) []) :: []))) followed (by kernel_rfl) (allP_of ⟨h1, ⟨⟨h2, rfl, rfl, rfl⟩, trivial⟩⟩) (keepM 21 [1, 2, 10]) ([0]) (by kernel_rfl) (by kernel_rfl) (by kernel_rfl)

def ixR_T (p : Nat) (c : Int) (b : Bool) (rest : List (Nat × Int)) (Q : AExit → Regs → AState → Prop) : Prop := (FOk Tryd.prog 48 [AVal.int IntKind.i32 (Prod.snd (p, c))] [] (AVal.bool b) []) ∧ (((b == true) = true) → Q (AExit.ret) (mkR 21 [(6, AVal.int IntKind.i64 (↑(Prod.fst (p, c)) : Int))]) ([])) ∧ (((b == true) = false) → Q (AExit.normal) (mkR 21 [(1, AVal.func 48 []), (2, AVal.bool true), (10, AVal.ptr 0 1 0 0)]) ([AObj.siter rest]))
theorem ixR_wp (p : Nat) (c : Int) (b : Bool) (rest : List (Nat × Int)) {Q : AExit → Regs → AState → Prop} (h : ixR_T p c b rest Q) : ∃ e rg' σ', TripN pgNL 0 (loopNo Tryd.f78 0) (rgIx) ([AObj.siter ((p, c) :: rest)]) e rg' σ' ∧ Q e rg' σ' :=
  brE (fun c0 => ⟨_, _, _, ixR_1 p c b rest (c0) (h.1), (h.2.1 c0)⟩) (fun c0 => ⟨_, _, _, ixR_2 p c b rest (c0) (h.1), (h.2.2 c0)⟩)


theorem ixX_1 :
    TripN pgNL 0 (loopNo Tryd.f78 0) (rgIx) ([AObj.siter []]) (AExit.exit 0) (mkR 21 [(1, AVal.func 48 []), (2, bool true), (10, ptr 0 1 0 0)]) ([AObj.siter []]) :=
  evalT (st := St.mk (rgIx) ([AObj.siter []]) ([]) []) (st' := St.mk (mkR 21 [(1, AVal.func 48 []), (2, bool true), (10, ptr 0 1 0 0), (11, tuple [tt false]), (12, tt false)]) ([AObj.siter []]) ([]) []) followed (by kernel_rfl) (allP_of trivial) (keepM 21 [1, 2, 10]) ([0]) (by kernel_rfl) (by kernel_rfl) (by kernel_rfl)

def ixX_T (Q : AExit → Regs → AState → Prop) : Prop := Q (AExit.exit 0) (mkR 21 [(1, AVal.func 48 []), (2, AVal.bool true), (10, AVal.ptr 0 1 0 0)]) ([AObj.siter []])
theorem ixX_wp {Q : AExit → Regs → AState → Prop} (h : ixX_T Q) : ∃ e rg' σ', TripN pgNL 0 (loopNo Tryd.f78 0) (rgIx) ([AObj.siter []]) e rg' σ' ∧ Q e rg' σ' :=
  ⟨_, _, _, ixX_1, h⟩


theorem ixN_1 (s : ByteArray)
    (h1 : TripN pgNL 0 (Code.loop (loopNo Tryd.f78 0)) (mkR 21 [(1, AVal.func 48 []), (2, bool true), (10, ptr 0 1 0 0)]) [AObj.siter (runesOf s)] (AExit.exit 0) (mkR 21 [(1, AVal.func 48 []), (2, bool true), (10, ptr 0 1 0 0)]) [AObj.siter []]) :
    FOk pgNL 78 ([str s, AVal.func 48 [], bool true]) ([]) (iqNL (-1)) ([]) :=
  (evalF_ok followed Tryd.func78 (by kernel_rfl) (show evalF pgNL Tryd.f78 ([str s, AVal.func 48 [], bool true]) ([]) ([Dec.compact (keepM 21 [1, 2, 10]) [0], Dec.loop (AExit.exit 0) rgIx [AObj.siter []]]) = .ok (FRes.mk (iqNL (-1)) ([AObj.siter []]) ((Owed.loop (owed pgNL 0) (loopNo Tryd.f78 0) (mkR 21 [(1, AVal.func 48 []), (2, bool true), (10, ptr 0 1 0 0)]) [AObj.siter (runesOf s)] (AExit.exit 0) (mkR 21 [(1, AVal.func 48 []), (2, bool true), (10, ptr 0 1 0 0)]) [AObj.siter []]) :: [])) by kernel_rfl) (allP_of ⟨h1, trivial⟩)).move ([]) (by kernel_rfl) (by kernel_rfl) (by kernel_rfl)

def ixN_T (s : ByteArray) (Q : AVal → AState → Prop) : Prop := (TripN Tryd.prog 0 (Code.loop (loopNo Tryd.f78 0)) (mkR 21 [(1, AVal.func 48 []), (2, AVal.bool true), (10, AVal.ptr 0 1 0 0)]) [AObj.siter (runesOf s)] (AExit.exit 0) (mkR 21 [(1, AVal.func 48 []), (2, AVal.bool true), (10, AVal.ptr 0 1 0 0)]) [AObj.siter []]) ∧ Q (AVal.int IntKind.i64 (-1)) ([])
theorem ixN_wp (s : ByteArray) {Q : AVal → AState → Prop} (h : ixN_T s Q) : ∃ r σ', FOk pgNL 78 ([str s, AVal.func 48 [], bool true]) ([]) r σ' ∧ Q r σ' :=
  ⟨_, _, ixN_1 s (h.1), h.2⟩


theorem ixY_1 (s : ByteArray) (p : Nat)
    (h1 : TripN pgNL 0 (Code.loop (loopNo Tryd.f78 0)) (mkR 21 [(1, AVal.func 48 []), (2, bool true), (10, ptr 0 1 0 0)]) [AObj.siter (runesOf s)] AExit.ret (mkR 21 [(6, iqNL (↑p : Int))]) []) :
    FOk pgNL 78 ([str s, AVal.func 48 [], bool true]) ([]) (iqNL (↑p : Int)) ([]) :=
  (evalF_ok followed Tryd.func78 (by kernel_rfl) (show evalF pgNL Tryd.f78 ([str s, AVal.func 48 [], bool true]) ([]) ([Dec.compact (keepM 21 [1, 2, 10]) [0], Dec.loop AExit.ret (mkR 21 [(6, iqNL (↑p : Int))]) []]) = .ok (FRes.mk (iqNL (↑p : Int)) ([]) ((Owed.loop (owed pgNL 0) (loopNo Tryd.f78 0) (mkR 21 [(1, AVal.func 48 []), (2, bool true), (10, ptr 0 1 0 0)]) [AObj.siter (runesOf s)] AExit.ret (mkR 21 [(6, iqNL (↑p : Int))]) []) :: [])) by kernel_rfl) (allP_of ⟨h1, trivial⟩)).move ([]) (by kernel_rfl) (by kernel_rfl) (by kernel_rfl)

def ixY_T (s : ByteArray) (p : Nat) (Q : AVal → AState → Prop) : Prop := (TripN Tryd.prog 0 (Code.loop (loopNo Tryd.f78 0)) (mkR 21 [(1, AVal.func 48 []), (2, AVal.bool true), (10, AVal.ptr 0 1 0 0)]) [AObj.siter (runesOf s)] AExit.ret (mkR 21 [(6, AVal.int IntKind.i64 (↑p : Int))]) []) ∧ Q (AVal.int IntKind.i64 (↑p : Int)) ([])
theorem ixY_wp (s : ByteArray) (p : Nat) {Q : AVal → AState → Prop} (h : ixY_T s p Q) : ∃ r σ', FOk pgNL 78 ([str s, AVal.func 48 [], bool true]) ([]) r σ' ∧ Q r σ' :=
  ⟨_, _, ixY_1 s p (h.1), h.2⟩


theorem idx_1 (s : ByteArray) (n : Int)
    (h1 : FOk pgNL 78 [str s, AVal.func 48 [], bool true] [] (iqNL n) []) :
    FOk pgNL 69 ([str s, AVal.func 48 []]) ([]) (iqNL n) ([]) :=
  (evalF_ok followed Tryd.func69 (by kernel_rfl) (show evalF pgNL Tryd.f69 ([str s, AVal.func 48 []]) ([]) ([use [] [str s, AVal.func 48 [], bool true] [] (iqNL n) []]) = .ok (FRes.mk (iqNL n) ([]) ((Owed.use (owed pgNL 0) 78 [] [str s, AVal.func 48 [], bool true] [] [str s, AVal.func 48 [], bool true] [] (iqNL n) []) :: [])) by kernel_rfl) (allP_of ⟨⟨h1, rfl, rfl, rfl⟩, trivial⟩)).move ([]) (by kernel_rfl) (by kernel_rfl) (by kernel_rfl)

def idx_T (s : ByteArray) (n : Int) (Q : AVal → AState → Prop) : Prop := (FOk Tryd.prog 78 [AVal.str s, AVal.func 48 [], AVal.bool true] [] (AVal.int IntKind.i64 n) []) ∧ Q (AVal.int IntKind.i64 n) ([])
theorem idx_wp (s : ByteArray) (n : Int) {Q : AVal → AState → Prop} (h : idx_T s n Q) : ∃ r σ', FOk pgNL 69 ([str s, AVal.func 48 []]) ([]) r σ' ∧ Q r σ' :=
  ⟨_, _, idx_1 s n (h.1), h.2⟩


theorem has_1 (s : ByteArray) (n : Int)
    (h1 : FOk pgNL 69 [str s, AVal.func 48 []] [] (iqNL n) []) :
    FOk pgNL 49 ([str s, AVal.func 48 []]) ([]) (bool (decide (n ≥ 0))) ([]) :=
  (evalF_ok followed Tryd.func49 (by kernel_rfl) (show evalF pgNL Tryd.f49 ([str s, AVal.func 48 []]) ([]) ([use [] [str s, AVal.func 48 []] [] (iqNL n) []]) = .ok (FRes.mk (bool (decide (n ≥ 0))) ([]) ((Owed.use (owed pgNL 0) 69 [] [str s, AVal.func 48 []] [] [str s, AVal.func 48 []] [] (iqNL n) []) :: [])) by kernel_rfl) (allP_of ⟨⟨h1, rfl, rfl, rfl⟩, trivial⟩)).move ([]) (by kernel_rfl) (by kernel_rfl) (by kernel_rfl)

def has_T (s : ByteArray) (n : Int) (Q : AVal → AState → Prop) : Prop := (FOk Tryd.prog 69 [AVal.str s, AVal.func 48 []] [] (AVal.int IntKind.i64 n) []) ∧ Q (AVal.bool (decide (n ≥ 0))) ([])
theorem has_wp (s : ByteArray) (n : Int) {Q : AVal → AState → Prop} (h : has_T s n Q) : ∃ r σ', FOk pgNL 49 ([str s, AVal.func 48 []]) ([]) r σ' ∧ Q r σ' :=
  ⟨_, _, has_1 s n (h.1), h.2⟩


theorem lab1_1 (a : ByteArray) (x : Bool)
    (h1 : (tlqNL a == tlqNL bqNL) = true) :
    FOk pgNL 34 ([slc false 0 1 0 1 (some 1)]) ([rzNL true 1 [[str a]]]) (bool false) ([rzNL true 1 [[str a]]]) :=
  (evalF_ok followed Tryd.func34 (by kernel_rfl) (show evalF pgNL Tryd.f34 ([slc false 0 1 0 1 (some 1)]) ([rzNL true 1 [[str a]]]) ([Dec.unroll 2, br true, br true]) = .ok (FRes.mk (bool false) ([rzNL true 1 [[str a]]]) ((_) :: (tr 5 ++ []))) by kernel_rfl) (allP_of ⟨h1, (trC 5 trivial)⟩)).move ([0]) (by kernel_rfl) (by kernel_rfl) (by kernel_rfl)

theorem lab1_2 (a : ByteArray) (x : Bool)
    (h1 : decide ((↑(ByteArray.size a) : Int) > 16) = true)
    (h2 : (tlqNL a == tlqNL bqNL) = false) :
    FOk pgNL 34 ([slc false 0 1 0 1 (some 1)]) ([rzNL true 1 [[str a]]]) (bool false) ([rzNL true 1 [[str a]]]) :=
  (evalF_ok followed Tryd.func34 (by kernel_rfl) (show evalF pgNL Tryd.f34 ([slc false 0 1 0 1 (some 1)]) ([rzNL true 1 [[str a]]]) ([Dec.unroll 2, br true, br false, br true]) = .ok (FRes.mk (bool false) ([rzNL true 1 [[str a]]]) ((_) :: ((_) :: (tr 5 ++ [])))) by kernel_rfl) (allP_of ⟨h1, ⟨h2, (trC 5 trivial)⟩⟩)).move ([0]) (by kernel_rfl) (by kernel_rfl) (by kernel_rfl)

theorem lab1_3 (a : ByteArray) (x : Bool)
    (h1 : x = true)
    (h2 : FOk pgNL 49 [str a, AVal.func 48 []] [] (bool x) [])
    (h3 : decide ((↑(ByteArray.size a) : Int) > 16) = false)
    (h4 : (tlqNL a == tlqNL bqNL) = false) :
    FOk pgNL 34 ([slc false 0 1 0 1 (some 1)]) ([rzNL true 1 [[str a]]]) (bool false) ([rzNL true 1 [[str a]]]) :=
  (evalF_ok followed Tryd.func34 (by kernel_rfl) (show evalF pgNL Tryd.f34 ([slc false 0 1 0 1 (some 1)]) ([rzNL true 1 [[str a]]]) ([Dec.unroll 2, br true, br false, br false, use [] [str a, AVal.func 48 []] [] (bool x) [], br true]) = .ok (FRes.mk (bool false) ([rzNL true 1 [[str a]]]) ((_) :: ((Owed.use (owed pgNL 1) 49 [] [str a, AVal.func 48 []] [rzNL true 1 [[str a]]] [str a, AVal.func 48 []] [] (bool x) []) :: ((_) :: ((_) :: (tr 5 ++ [])))))) by kernel_rfl) (allP_of ⟨h1, ⟨⟨h2, rfl, rfl, rfl⟩, ⟨h3, ⟨h4, (trC 5 trivial)⟩⟩⟩⟩)).move ([0]) (by kernel_rfl) (by kernel_rfl) (by kernel_rfl)

theorem lab1_4 (a : ByteArray) (x : Bool)
    (h1 : x = false)
    (h2 : FOk pgNL 49 [str a, AVal.func 48 []] [] (bool x) [])
    (h3 : decide ((↑(ByteArray.size a) : Int) > 16) = false)
    (h4 : (tlqNL a == tlqNL bqNL) = false) :
    FOk pgNL 34 ([slc false 0 1 0 1 (some 1)]) ([rzNL true 1 [[str a]]]) (bool true) ([rzNL true 1 [[str a]]]) :=
  (evalF_ok followed Tryd.func34 (by kernel_rfl) (show evalF pgNL Tryd.f34 ([slc false 0 1 0 1 (some 1)]) ([rzNL true 1 [[str a]]]) ([Dec.unroll 2, br true, br false, br false, use [] [str a, AVal.func 48 []] [] (bool x) [], br false, br false]) = .ok (FRes.mk (bool true) ([rzNL true 1 [[str a]]]) ((false = false) :: ((_) :: ((Owed.use (owed pgNL 1) 49 [] [str a, AVal.func 48 []] [rzNL true 1 [[str a]]] [str a, AVal.func 48 []] [] (bool x) []) :: ((_) :: ((_) :: (tr 5 ++ []))))))) by kernel_rfl) (allP_of ⟨rfl, ⟨h1, ⟨⟨h2, rfl, rfl, rfl⟩, ⟨h3, ⟨h4, (trC 5 trivial)⟩⟩⟩⟩⟩)).move ([0]) (by kernel_rfl) (by kernel_rfl) (by kernel_rfl)

def lab1_T (a : ByteArray) (x : Bool) (Q : AVal → AState → Prop) : Prop := (((ByteArray.toList a == ByteArray.toList (ByteArray.mk #[])) = true) → Q (AVal.bool false) ([AObj.rows true 1 [[AVal.str a]]])) ∧ (((ByteArray.toList a == ByteArray.toList (ByteArray.mk #[])) = false) → ((decide ((↑(ByteArray.size a) : Int) > 16) = true) → Q (AVal.bool false) ([AObj.rows true 1 [[AVal.str a]]])) ∧ ((decide ((↑(ByteArray.size a) : Int) > 16) = false) → (FOk Tryd.prog 49 [AVal.str a, AVal.func 48 []] [] (AVal.bool x) []) ∧ ((x = true) → Q (AVal.bool false) ([AObj.rows true 1 [[AVal.str a]]])) ∧ ((x = false) → Q (AVal.bool true) ([AObj.rows true 1 [[AVal.str a]]]))))
theorem lab1_wp (a : ByteArray) (x : Bool) {Q : AVal → AState → Prop} (h : lab1_T a x Q) : ∃ r σ', FOk pgNL 34 ([slc false 0 1 0 1 (some 1)]) ([rzNL true 1 [[str a]]]) r σ' ∧ Q r σ' :=
  brE (fun c0 => ⟨_, _, lab1_1 a x (c0), (h.1 c0)⟩) (fun c0 => brE (fun c1 => ⟨_, _, lab1_2 a x (c1) (c0), ((h.2 c0).1 c1)⟩) (fun c1 => brE (fun c2 => ⟨_, _, lab1_3 a x (c2) (((h.2 c0).2 c1).1) (c1) (c0), (((h.2 c0).2 c1).2.1 c2)⟩) (fun c2 => ⟨_, _, lab1_4 a x (c2) (((h.2 c0).2 c1).1) (c1) (c0), (((h.2 c0).2 c1).2.2 c2)⟩)))


theorem lab2_1 (a : ByteArray) (b : ByteArray) (x : Bool) (y : Bool)
    (h1 : (tlqNL a == tlqNL bqNL) = true) :
    FOk pgNL 34 ([slc false 0 1 0 2 (some 2)]) ([rzNL true 1 [[str a], [str b]]]) (bool false) ([rzNL true 1 [[str a], [str b]]]) :=
  (evalF_ok followed Tryd.func34 (by kernel_rfl) (show evalF pgNL Tryd.f34 ([slc false 0 1 0 2 (some 2)]) ([rzNL true 1 [[str a], [str b]]]) ([Dec.unroll 3, br true, br true]) = .ok (FRes.mk (bool false) ([rzNL true 1 [[str a], [str b]]]) ((_) :: (tr 5 ++ []))) by kernel_rfl) (allP_of ⟨h1, (trC 5 trivial)⟩)).move ([0]) (by kernel_rfl) (by kernel_rfl) (by kernel_rfl)

theorem lab2_2 (a : ByteArray) (b : ByteArray) (x : Bool) (y : Bool)
    (h1 : decide ((↑(ByteArray.size a) : Int) > 16) = true)
    (h2 : (tlqNL a == tlqNL bqNL) = false) :
    FOk pgNL 34 ([slc false 0 1 0 2 (some 2)]) ([rzNL true 1 [[str a], [str b]]]) (bool false) ([rzNL true 1 [[str a], [str b]]]) :=
  (evalF_ok followed Tryd.func34 (by kernel_rfl) (show evalF pgNL Tryd.f34 ([slc false 0 1 0 2 (some 2)]) ([rzNL true 1 [[str a], [str b]]]) ([Dec.unroll 3, br true, br false, br true]) = .ok (FRes.mk (bool false) ([rzNL true 1 [[str a], [str b]]]) ((_) :: ((_) :: (tr 5 ++ [])))) by kernel_rfl) (allP_of ⟨h1, ⟨h2, (trC 5 trivial)⟩⟩)).move ([0]) (by kernel_rfl) (by kernel_rfl) (by kernel_rfl)

theorem lab2_3 (a : ByteArray) (b : ByteArray) (x : Bool) (y : Bool)
    (h1 : x = true)
    (h2 : FOk pgNL 49 [str a, AVal.func 48 []] [] (bool x) [])
    (h3 : decide ((↑(ByteArray.size a) : Int) > 16) = false)
    (h4 : (tlqNL a == tlqNL bqNL) = false) :
    FOk pgNL 34 ([slc false 0 1 0 2 (some 2)]) ([rzNL true 1 [[str a], [str b]]]) (bool false) ([rzNL true 1 [[str a], [str b]]]) :=
  (evalF_ok followed Tryd.func34 (by kernel_rfl) (show evalF pgNL Tryd.f34 ([slc false 0 1 0 2 (some 2)]) ([rzNL true 1 [[str a], [str b]]]) ([Dec.unroll 3, br true, br false, br false, use [] [str a, AVal.func 48 []] [] (bool x) [], br true]) = .ok (FRes.mk (bool false) ([rzNL true 1 [[str a], [str b]]]) ((_) :: ((Owed.use (owed pgNL 1) 49 [] [str a, AVal.func 48 []] [rzNL true 1 [[str a], [str b]]] [str a, AVal.func 48 []] [] (bool x) []) :: ((_) :: ((_) :: (tr 5 ++ [])))))) by kernel_rfl) (allP_of ⟨h1, ⟨⟨h2, rfl, rfl, rfl⟩, ⟨h3, ⟨h4, (trC 5 trivial)⟩⟩⟩⟩)).move ([0]) (by kernel_rfl) (by kernel_rfl) (by kernel_rfl)

theorem lab2_4 (a : ByteArray) (b : ByteArray) (x : Bool) (y : Bool)
    (h1 : (tlqNL b == tlqNL bqNL) = true)
    (h2 : x = false)
    (h3 : FOk pgNL 49 [str a, AVal.func 48 []] [] (bool x) [])
    (h4 : decide ((↑(ByteArray.size a) : Int) > 16) = false)
    (h5 : (tlqNL a == tlqNL bqNL) = false) :
    FOk pgNL 34 ([slc false 0 1 0 2 (some 2)]) ([rzNL true 1 [[str a], [str b]]]) (bool false) ([rzNL true 1 [[str a], [str b]]]) :=
  (evalF_ok followed Tryd.func34 (by kernel_rfl) (show evalF pgNL Tryd.f34 ([slc false 0 1 0 2 (some 2)]) ([rzNL true 1 [[str a], [str b]]]) ([Dec.unroll 3, br true, br false, br false, use [] [str a, AVal.func 48 []] [] (bool x) [], br false, br true, br true]) = .ok (FRes.mk (bool false) ([rzNL true 1 [[str a], [str b]]]) ((_) :: (tr 5 ++ ((_) :: ((Owed.use (owed pgNL 1) 49 [] [str a, AVal.func 48 []] [rzNL true 1 [[str a], [str b]]] [str a, AVal.func 48 []] [] (bool x) []) :: ((_) :: ((_) :: (tr 5 ++ [])))))))) by kernel_rfl) (allP_of ⟨h1, (trC 5 ⟨h2, ⟨⟨h3, rfl, rfl, rfl⟩, ⟨h4, ⟨h5, (trC 5 trivial)⟩⟩⟩⟩)⟩)).move ([0]) (by kernel_rfl) (by kernel_rfl) (by kernel_rfl)

theorem lab2_5 (a : ByteArray) (b : ByteArray) (x : Bool) (y : Bool)
    (h1 : decide ((↑(ByteArray.size b) : Int) > 16) = true)
    (h2 : (tlqNL b == tlqNL bqNL) = false)
    (h3 : x = false)
    (h4 : FOk pgNL 49 [str a, AVal.func 48 []] [] (bool x) [])
    (h5 : decide ((↑(ByteArray.size a) : Int) > 16) = false)
    (h6 : (tlqNL a == tlqNL bqNL) = false) :
    FOk pgNL 34 ([slc false 0 1 0 2 (some 2)]) ([rzNL true 1 [[str a], [str b]]]) (bool false) ([rzNL true 1 [[str a], [str b]]]) :=
  (evalF_ok followed Tryd.func34 (by kernel_rfl) (show evalF pgNL Tryd.f34 ([slc false 0 1 0 2 (some 2)]) ([rzNL true 1 [[str a], [str b]]]) ([Dec.unroll 3, br true, br false, br false, use [] [str a, AVal.func 48 []] [] (bool x) [], br false, br true, br false, br true]) = .ok (FRes.mk (bool false) ([rzNL true 1 [[str a], [str b]]]) ((_) :: ((_) :: (tr 5 ++ ((_) :: ((Owed.use (owed pgNL 1) 49 [] [str a, AVal.func 48 []] [rzNL true 1 [[str a], [str b]]] [str a, AVal.func 48 []] [] (bool x) []) :: ((_) :: ((_) :: (tr 5 ++ []))))))))) by kernel_rfl) (allP_of ⟨h1, ⟨h2, (trC 5 ⟨h3, ⟨⟨h4, rfl, rfl, rfl⟩, ⟨h5, ⟨h6, (trC 5 trivial)⟩⟩⟩⟩)⟩⟩)).move ([0]) (by kernel_rfl) (by kernel_rfl) (by kernel_rfl)

theorem lab2_6 (a : ByteArray) (b : ByteArray) (x : Bool) (y : Bool)
    (h1 : y = true)
    (h2 : FOk pgNL 49 [str b, AVal.func 48 []] [] (bool y) [])
    (h3 : decide ((↑(ByteArray.size b) : Int) > 16) = false)
    (h4 : (tlqNL b == tlqNL bqNL) = false)
    (h5 : x = false)
    (h6 : FOk pgNL 49 [str a, AVal.func 48 []] [] (bool x) [])
    (h7 : decide ((↑(ByteArray.size a) : Int) > 16) = false)
    (h8 : (tlqNL a == tlqNL bqNL) = false) :
    FOk pgNL 34 ([slc false 0 1 0 2 (some 2)]) ([rzNL true 1 [[str a], [str b]]]) (bool false) ([rzNL true 1 [[str a], [str b]]]) :=
  (evalF_ok followed Tryd.func34 (by kernel_rfl) (show evalF pgNL Tryd.f34 ([slc false 0 1 0 2 (some 2)]) ([rzNL true 1 [[str a], [str b]]]) ([Dec.unroll 3, br true, br false, br false, use [] [str a, AVal.func 48 []] [] (bool x) [], br false, br true, br false, br false, use [] [str b, AVal.func 48 []] [] (bool y) [], br true]) = .ok (FRes.mk (bool false) ([rzNL true 1 [[str a], [str b]]]) ((_) :: ((Owed.use (owed pgNL 1) 49 [] [str b, AVal.func 48 []] [rzNL true 1 [[str a], [str b]]] [str b, AVal.func 48 []] [] (bool y) []) :: ((_) :: ((_) :: (tr 5 ++ ((_) :: ((Owed.use (owed pgNL 1) 49 [] [str a, AVal.func 48 []] [rzNL true 1 [[str a], [str b]]] [str a, AVal.func 48 []] [] (bool x) []) :: ((_) :: ((_) :: (tr 5 ++ []))))))))))) by kernel_rfl) (allP_of ⟨h1, ⟨⟨h2, rfl, rfl, rfl⟩, ⟨h3, ⟨h4, (trC 5 ⟨h5, ⟨⟨h6, rfl, rfl, rfl⟩, ⟨h7, ⟨h8, (trC 5 trivial)⟩⟩⟩⟩)⟩⟩⟩⟩)).move ([0]) (by kernel_rfl) (by kernel_rfl) (by kernel_rfl)

theorem lab2_7 (a : ByteArray) (b : ByteArray) (x : Bool) (y : Bool)
    (h1 : y = false)
    (h2 : FOk pgNL 49 [str b, AVal.func 48 []] [] (bool y) [])
    (h3 : decide ((↑(ByteArray.size b) : Int) > 16) = false)
    (h4 : (tlqNL b == tlqNL bqNL) = false)
    (h5 : x = false)
    (h6 : FOk pgNL 49 [str a, AVal.func 48 []] [] (bool x) [])
    (h7 : decide ((↑(ByteArray.size a) : Int) > 16) = false)
    (h8 : (tlqNL a == tlqNL bqNL) = false) :
    FOk pgNL 34 ([slc false 0 1 0 2 (some 2)]) ([rzNL true 1 [[str a], [str b]]]) (bool true) ([rzNL true 1 [[str a], [str b]]]) :=
  (evalF_ok followed Tryd.func34 (by kernel_rfl) (show evalF pgNL Tryd.f34 ([slc false 0 1 0 2 (some 2)]) ([rzNL true 1 [[str a], [str b]]]) ([Dec.unroll 3, br true, br false, br false, use [] [str a, AVal.func 48 []] [] (bool x) [], br false, br true, br false, br false, use [] [str b, AVal.func 48 []] [] (bool y) [], br false, br false]) = .ok (FRes.mk (bool true) ([rzNL true 1 [[str a], [str b]]]) ((false = false) :: ((_) :: ((Owed.use (owed pgNL 1) 49 [] [str b, AVal.func 48 []] [rzNL true 1 [[str a], [str b]]] [str b, AVal.func 48 []] [] (bool y) []) :: ((_) :: ((_) :: (tr 5 ++ ((_) :: ((Owed.use (owed pgNL 1) 49 [] [str a, AVal.func 48 []] [rzNL true 1 [[str a], [str b]]] [str a, AVal.func 48 []] [] (bool x) []) :: ((_) :: ((_) :: (tr 5 ++ [])))))))))))) by kernel_rfl) (allP_of ⟨rfl, ⟨h1, ⟨⟨h2, rfl, rfl, rfl⟩, ⟨h3, ⟨h4, (trC 5 ⟨h5, ⟨⟨h6, rfl, rfl, rfl⟩, ⟨h7, ⟨h8, (trC 5 trivial)⟩⟩⟩⟩)⟩⟩⟩⟩⟩)).move ([0]) (by kernel_rfl) (by kernel_rfl) (by kernel_rfl)

def lab2_T (a : ByteArray) (b : ByteArray) (x : Bool) (y : Bool) (Q : AVal → AState → Prop) : Prop := (((ByteArray.toList a == ByteArray.toList (ByteArray.mk #[])) = true) → Q (AVal.bool false) ([AObj.rows true 1 [[AVal.str a], [AVal.str b]]])) ∧ (((ByteArray.toList a == ByteArray.toList (ByteArray.mk #[])) = false) → ((decide ((↑(ByteArray.size a) : Int) > 16) = true) → Q (AVal.bool false) ([AObj.rows true 1 [[AVal.str a], [AVal.str b]]])) ∧ ((decide ((↑(ByteArray.size a) : Int) > 16) = false) → (FOk Tryd.prog 49 [AVal.str a, AVal.func 48 []] [] (AVal.bool x) []) ∧ ((x = true) → Q (AVal.bool false) ([AObj.rows true 1 [[AVal.str a], [AVal.str b]]])) ∧ ((x = false) → (((ByteArray.toList b == ByteArray.toList (ByteArray.mk #[])) = true) → Q (AVal.bool false) ([AObj.rows true 1 [[AVal.str a], [AVal.str b]]])) ∧ (((ByteArray.toList b == ByteArray.toList (ByteArray.mk #[])) = false) → ((decide ((↑(ByteArray.size b) : Int) > 16) = true) → Q (AVal.bool false) ([AObj.rows true 1 [[AVal.str a], [AVal.str b]]])) ∧ ((decide ((↑(ByteArray.size b) : Int) > 16) = false) → (FOk Tryd.prog 49 [AVal.str b, AVal.func 48 []] [] (AVal.bool y) []) ∧ ((y = true) → Q (AVal.bool false) ([AObj.rows true 1 [[AVal.str a], [AVal.str b]]])) ∧ ((y = false) → Q (AVal.bool true) ([AObj.rows true 1 [[AVal.str a], [AVal.str b]]])))))))
theorem lab2_wp (a : ByteArray) (b : ByteArray) (x : Bool) (y : Bool) {Q : AVal → AState → Prop} (h : lab2_T a b x y Q) : ∃ r σ', FOk pgNL 34 ([slc false 0 1 0 2 (some 2)]) ([rzNL true 1 [[str a], [str b]]]) r σ' ∧ Q r σ' :=
  brE (fun c0 => ⟨_, _, lab2_1 a b x y (c0), (h.1 c0)⟩) (fun c0 => brE (fun c1 => ⟨_, _, lab2_2 a b x y (c1) (c0), ((h.2 c0).1 c1)⟩) (fun c1 => brE (fun c2 => ⟨_, _, lab2_3 a b x y (c2) (((h.2 c0).2 c1).1) (c1) (c0), (((h.2 c0).2 c1).2.1 c2)⟩) (fun c2 => brE (fun c3 => ⟨_, _, lab2_4 a b x y (c3) (c2) (((h.2 c0).2 c1).1) (c1) (c0), ((((h.2 c0).2 c1).2.2 c2).1 c3)⟩) (fun c3 => brE (fun c4 => ⟨_, _, lab2_5 a b x y (c4) (c3) (c2) (((h.2 c0).2 c1).1) (c1) (c0), (((((h.2 c0).2 c1).2.2 c2).2 c3).1 c4)⟩) (fun c4 => brE (fun c5 => ⟨_, _, lab2_6 a b x y (c5) ((((((h.2 c0).2 c1).2.2 c2).2 c3).2 c4).1) (c4) (c3) (c2) (((h.2 c0).2 c1).1) (c1) (c0), ((((((h.2 c0).2 c1).2.2 c2).2 c3).2 c4).2.1 c5)⟩) (fun c5 => ⟨_, _, lab2_7 a b x y (c5) ((((((h.2 c0).2 c1).2.2 c2).2 c3).2 c4).1) (c4) (c3) (c2) (((h.2 c0).2 c1).1) (c1) (c0), ((((((h.2 c0).2 c1).2.2 c2).2 c3).2 c4).2.2 c5)⟩))))))


end Go.MN
end

section
set_option linter.unusedVariables false
set_option linter.unusedSimpArgs false
set_option maxRecDepth 100000
namespace Go.MN
open Go Go.Abs Go.Proofs
def oddZ (c : Int) : Bool := (decide (c < 97) || decide (c > 122)) && ((decide (c < 48) || decide (c > 57)) && (c != 45))
theorem odd_ok (c : Int) : FOk Tryd.prog 48 [.int .i32 c] [] (.bool (oddZ c)) [] := by
  refine FOk.wp (odd_wp c ?_)
  unfold odd_T oddZ
  refine ⟨fun h1 => ?_, fun h1 => ?_⟩
  · rw [h1]
    refine ⟨fun h2 => ?_, fun h2 => ?_⟩
    · rw [h2]; exact ⟨by simp, rfl⟩
    · rw [h2]
      refine ⟨fun h3 => ?_, fun h3 => ?_⟩
      · rw [h3]; exact ⟨by simp, rfl⟩
      · rw [h3]; exact ⟨by simp, rfl⟩
  · rw [h1]
    refine ⟨fun h2 => ?_, fun h2 => ?_⟩
    · rw [h2]
      refine ⟨fun h3 => ?_, fun h3 => ?_⟩
      · rw [h3]; exact ⟨by simp, rfl⟩
      · rw [h3]
        refine ⟨fun h4 => ?_, fun h4 => ?_⟩
        · rw [h4]; exact ⟨by simp, rfl⟩
        · rw [h4]; exact ⟨by simp, rfl⟩
    · rw [h2]; exact ⟨by simp, rfl⟩
def anyR (l : List (Nat × Int)) : Bool := l.any fun x => oddZ x.2
theorem ix_loop : ∀ (l : List (Nat × Int)),
    (anyR l = false ∧ LoopRun Tryd.prog 0 (loopNo Tryd.f78 0) rgIx [.siter l] (.exit 0) rgIx [.siter []]) ∨
    (anyR l = true ∧ ∃ p : Nat, LoopRun Tryd.prog 0 (loopNo Tryd.f78 0) rgIx [.siter l] .ret (mkR 21 [(6, .int .i64 (p : Int))]) [])
  | [] => .inl ⟨rfl, .done (TripN.wp (ixX_wp ⟨rfl, rfl, rfl⟩)) (by simp)⟩
  | (p, c) :: l => by
    cases hc : oddZ c with
    | true =>
      refine .inr ⟨by simp [anyR, hc], p, .done (TripN.wp (ixR_wp p c true l ?_)) (by simp)⟩
      unfold ixR_T
      have := odd_ok c
      rw [hc] at this
      exact ⟨this, fun _ => ⟨rfl, rfl, rfl⟩, fun h => by cases h⟩
    | false =>
      have t : TripN Tryd.prog 0 (loopNo Tryd.f78 0) rgIx [.siter ((p, c) :: l)] .normal rgIx [.siter l] := by
        refine TripN.wp (ixR_wp p c false l ?_)
        unfold ixR_T
        have := odd_ok c
        rw [hc] at this
        exact ⟨this, fun h => (by cases h), fun _ => ⟨rfl, rfl, rfl⟩⟩
      rcases ix_loop l with ⟨h, r⟩ | ⟨h, q, r⟩
      · exact .inl ⟨by simpa [anyR, hc] using h, .more t r⟩
      · exact .inr ⟨by simp only [anyR, List.any_cons, hc, Bool.false_or]; exact h, q, .more t r⟩
theorem has_ok (s : ByteArray) : FOk Tryd.prog 49 [.str s, .func 48 []] [] (.bool (anyR (runesOf s))) [] := by
  rcases ix_loop (runesOf s) with ⟨h, r⟩ | ⟨h, p, r⟩
  · have h1 : FOk Tryd.prog 78 [.str s, .func 48 [], .bool true] [] (.int .i64 (-1)) [] := FOk.wp (ixN_wp s ⟨r.trip, rfl, rfl⟩)
    have h2 : FOk Tryd.prog 69 [.str s, .func 48 []] [] (.int .i64 (-1)) [] := FOk.wp (idx_wp s (-1) ⟨h1, rfl, rfl⟩)
    rw [h]
    exact FOk.wp (has_wp s (-1) ⟨h2, rfl, rfl⟩)
  · have h1 : FOk Tryd.prog 78 [.str s, .func 48 [], .bool true] [] (.int .i64 (p : Int)) [] := FOk.wp (ixY_wp s p ⟨r.trip, rfl, rfl⟩)
    have h2 : FOk Tryd.prog 69 [.str s, .func 48 []] [] (.int .i64 (p : Int)) [] := FOk.wp (idx_wp s p ⟨h1, rfl, rfl⟩)
    rw [h]
    refine FOk.wp (has_wp s p ⟨h2, ?_, rfl⟩)
    rw [show decide ((p : Int) ≥ 0) = true from decide_eq_true (by omega)]

theorem get_lB (s : ByteArray) (i : Nat) (h : i < s.size) : (s.get! i) = (lB s).getD i 0 := by
  cases s with
  | mk d =>
    show d[i]! = d.toList.getD i 0
    have hi : i < d.size := h
    rw [getElem!_pos d i hi, List.getD_eq_getElem?_getD, Array.getElem?_toList, Array.getElem?_eq_getElem hi]
    rfl
theorem decode_lo (s : ByteArray) (i : Nat) (h : (s.get! i).toNat < 128) : Utf8.decode s i = ((s.get! i).toNat, 1) := by
  unfold Utf8.decode
  dsimp only
  rw [if_pos (show (s.get! (i + 0)).toNat < 128 from h)]
  rfl
theorem decode_hi (s : ByteArray) (i : Nat) (h : ¬ (s.get! i).toNat < 128) : 128 ≤ (Utf8.decode s i).1 := by
  unfold Utf8.decode
  dsimp only
  rw [if_neg (show ¬ (s.get! (i + 0)).toNat < 128 from h)]
  split
  · split
    · rename_i hc; exact hc
    · decide
  · split
    · split
      · rename_i hc
        simp only [Bool.and_eq_true, decide_eq_true_eq] at hc
        exact Nat.le_trans (by decide) hc.1
      · decide
    · split
      · split
        · rename_i hc
          simp only [Bool.and_eq_true, decide_eq_true_eq] at hc
          exact Nat.le_trans (by decide) hc.1
        · decide
      · decide
def anyB (l : List UInt8) : Bool := l.any fun b => oddZ (b.toNat : Int)
theorem odd_hi {c : Int} (h : 128 ≤ c) : oddZ c = true := by
  unfold oddZ
  rw [show decide (c > 122) = true from decide_eq_true (by omega), show decide (c > 57) = true from decide_eq_true (by omega)]
  simp
  omega
theorem runes_any (s : ByteArray) : ∀ (n pos : Nat), s.size ≤ pos + n → anyR (runesF s n pos) = anyB ((lB s).drop pos)
  | 0, pos, h => by
    rw [List.drop_eq_nil_of_le (by rw [lB_length]; omega)]; rfl
  | n + 1, pos, h => by
    unfold runesF
    by_cases hp : pos < s.size
    · rw [show Nat.blt pos s.size = true by rw [Nat.blt_eq]; exact hp]
      dsimp only
      have hl : pos < (lB s).length := by rw [lB_length]; exact hp
      have hd : (lB s).drop pos = (lB s)[pos] :: (lB s).drop (pos + 1) := List.drop_eq_getElem_cons hl
      have hg : s.get! pos = (lB s)[pos] := by rw [get_lB s pos hp, List.getD_eq_getElem?_getD, List.getElem?_eq_getElem hl]; rfl
      rw [hd]
      by_cases hb : (s.get! pos).toNat < 128
      · rw [decode_lo s pos hb]
        have ih := runes_any s n (pos + 1) (by omega)
        simp only [anyR, anyB, List.any_cons] at ih ⊢
        rw [ih, hg]
      · have h1 := decode_hi s pos hb
        simp only [anyR, anyB, List.any_cons]
        rw [odd_hi (by omega), odd_hi (c := (((lB s)[pos]).toNat : Int)) (by rw [← hg]; omega)]
        rfl
    · rw [show Nat.blt pos s.size = false by rw [Bool.eq_false_iff]; intro c; rw [Nat.blt_eq] at c; exact hp c]
      rw [List.drop_eq_nil_of_le (by rw [lB_length]; omega)]; rfl
def labB (s : ByteArray) : Bool := decide (1 ≤ s.size) && (decide (s.size ≤ 16) && !anyB (lB s))
theorem has_lB (s : ByteArray) : FOk Tryd.prog 49 [.str s, .func 48 []] [] (.bool (anyB (lB s))) [] := by
  have := has_ok s
  rw [show anyR (runesOf s) = anyB (lB s) by unfold runesOf; rw [runes_any s s.size 0 (by omega), List.drop_zero]] at this
  exact this
theorem emp_eq (s : ByteArray) : (s.toList == (ByteArray.mk #[]).toList) = decide (s.size = 0) := by
  rw [toList_lB, toList_lB, show lB (ByteArray.mk #[]) = [] from rfl, ← lB_length]
  cases lB s <;> simp
theorem lab1_ok (a : ByteArray) : FOk Tryd.prog 34 [.slc false 0 1 0 1 (some 1)] [.rows true 1 [[.str a]]] (.bool (labB a)) [.rows true 1 [[.str a]]] := by
  refine FOk.wp (lab1_wp a (anyB (lB a)) ?_)
  unfold lab1_T labB
  rw [emp_eq]
  refine ⟨fun h => ⟨?_, rfl⟩, fun h => ⟨fun h2 => ⟨?_, rfl⟩, fun h2 => ⟨has_lB a, fun h3 => ⟨?_, rfl⟩, fun h3 => ⟨?_, rfl⟩⟩⟩⟩
  · have := of_decide_eq_true h; rw [decide_eq_false (show ¬ 1 ≤ a.size by omega)]; rfl
  · have := of_decide_eq_true h2; rw [decide_eq_false (show ¬ a.size ≤ 16 by omega)]; simp
  · rw [h3]; simp
  · have h := of_decide_eq_false h; have h2 := of_decide_eq_false h2
    rw [h3, decide_eq_true (show 1 ≤ a.size by omega), decide_eq_true (show a.size ≤ 16 by omega)]; rfl
theorem lab2_ok (a b : ByteArray) : FOk Tryd.prog 34 [.slc false 0 1 0 2 (some 2)] [.rows true 1 [[.str a], [.str b]]] (.bool (labB a && labB b)) [.rows true 1 [[.str a], [.str b]]] := by
  refine FOk.wp (lab2_wp a b (anyB (lB a)) (anyB (lB b)) ?_)
  unfold lab2_T labB
  rw [emp_eq, emp_eq]
  refine ⟨fun h => ⟨?_, rfl⟩, fun h => ⟨fun h2 => ⟨?_, rfl⟩, fun h2 => ⟨has_lB a, fun h3 => ⟨?_, rfl⟩, fun h3 => ⟨fun k => ⟨?_, rfl⟩, fun k => ⟨fun k2 => ⟨?_, rfl⟩, fun k2 => ⟨has_lB b, fun k3 => ⟨?_, rfl⟩, fun k3 => ⟨?_, rfl⟩⟩⟩⟩⟩⟩⟩
  · have := of_decide_eq_true h; rw [decide_eq_false (show ¬ 1 ≤ a.size by omega)]; rfl
  · have := of_decide_eq_true h2; rw [decide_eq_false (show ¬ a.size ≤ 16 by omega)]; simp
  · rw [h3]; simp
  · have := of_decide_eq_true k; rw [decide_eq_false (show ¬ 1 ≤ b.size by omega)]; simp
  · have := of_decide_eq_true k2; rw [decide_eq_false (show ¬ b.size ≤ 16 by omega)]; simp
  · rw [k3]; simp
  · have h := of_decide_eq_false h; have h2 := of_decide_eq_false h2; have k := of_decide_eq_false k; have k2 := of_decide_eq_false k2
    rw [h3, k3, decide_eq_true (show 1 ≤ a.size by omega), decide_eq_true (show a.size ≤ 16 by omega), decide_eq_true (show 1 ≤ b.size by omega), decide_eq_true (show b.size ≤ 16 by omega)]; rfl
end Go.MN
end

import Derived.Test.YtkecmndppllijaaDoorProg
import Derived.Test.YtkecmndppllijaaDoorAbsE
import GoSem.PinnedTables
set_option linter.unusedVariables false
set_option maxRecDepth 100000
namespace Go.L01
open Go Go.Abs Go.Proofs
/-- utf8's two tables, as the program's text lays them -/
def Tabs.first : List AVal := Go.Pinned.utf8FirstZ.map fun n : Nat => .int .u8 (n : Int)
def Tabs.acc : List AVal := [128, 191, 160, 191, 128, 159, 144, 191, 128, 143, 0, 0, 0, 0, 0, 0, 0, 0, 0, 0, 0, 0, 0, 0, 0, 0, 0, 0, 0, 0, 0, 0].map fun n : Int => .int .u8 n
@[reducible] def tabs : Glob := ⟨fun g => if g = 0 then some (.fptr 256 [Tabs.first] 0 0) else if g = 1 then some (.fptr 32 [Tabs.acc] 0 0) else none, []⟩
instance : Glob := tabs

theorem followed : Tryd.prog.follows .mixedOrders = true := by kernel_rfl

theorem word_1 (s : ByteArray)
    (h1 : decide ((↑0 : Int) ≤ 7 ∧ 7 < (↑(ByteArray.size s) : Int)) = true)
    (h2 : decide ((↑0 : Int) ≤ 6 ∧ 6 < (↑(ByteArray.size s) : Int)) = true)
    (h3 : decide ((↑0 : Int) ≤ 5 ∧ 5 < (↑(ByteArray.size s) : Int)) = true)
    (h4 : decide ((↑0 : Int) ≤ 4 ∧ 4 < (↑(ByteArray.size s) : Int)) = true)
    (h5 : decide ((↑0 : Int) ≤ 3 ∧ 3 < (↑(ByteArray.size s) : Int)) = true)
    (h6 : decide ((↑0 : Int) ≤ 2 ∧ 2 < (↑(ByteArray.size s) : Int)) = true)
    (h7 : decide ((↑0 : Int) ≤ 1 ∧ 1 < (↑(ByteArray.size s) : Int)) = true)
    (h8 : decide ((↑0 : Int) ≤ 0 ∧ 0 < (↑(ByteArray.size s) : Int)) = true) :
    FOk Tryd.prog 23 ([AVal.str s]) ([]) (AVal.int IntKind.u64 (bits BinOp.or IntKind.u64 (bits BinOp.or IntKind.u64 (bits BinOp.or IntKind.u64 (bits BinOp.or IntKind.u64 (bits BinOp.or IntKind.u64 (bits BinOp.or IntKind.u64 (bits BinOp.or IntKind.u64 (IntKind.wrap IntKind.u64 (byteAt s 0)) (IntKind.wrap IntKind.u64 (IntKind.wrap IntKind.u64 (byteAt s 1) * 256))) (IntKind.wrap IntKind.u64 (IntKind.wrap IntKind.u64 (byteAt s 2) * 65536))) (IntKind.wrap IntKind.u64 (IntKind.wrap IntKind.u64 (byteAt s 3) * 16777216))) (IntKind.wrap IntKind.u64 (IntKind.wrap IntKind.u64 (byteAt s 4) * 4294967296))) (IntKind.wrap IntKind.u64 (IntKind.wrap IntKind.u64 (byteAt s 5) * 1099511627776))) (IntKind.wrap IntKind.u64 (IntKind.wrap IntKind.u64 (byteAt s 6) * 281474976710656))) (IntKind.wrap IntKind.u64 (IntKind.wrap IntKind.u64 (byteAt s 7) * 72057594037927936)))) ([]) :=
  (evalF_ok followed Tryd.func23 (by kernel_rfl) (show evalF Tryd.prog Tryd.f23 ([AVal.str s]) ([]) ([]) = .ok (FRes.mk (AVal.int IntKind.u64 (bits BinOp.or IntKind.u64 (bits BinOp.or IntKind.u64 (bits BinOp.or IntKind.u64 (bits BinOp.or IntKind.u64 (bits BinOp.or IntKind.u64 (bits BinOp.or IntKind.u64 (bits BinOp.or IntKind.u64 (IntKind.wrap IntKind.u64 (byteAt s 0)) (IntKind.wrap IntKind.u64 (IntKind.wrap IntKind.u64 (byteAt s 1) * 256))) (IntKind.wrap IntKind.u64 (IntKind.wrap IntKind.u64 (byteAt s 2) * 65536))) (IntKind.wrap IntKind.u64 (IntKind.wrap IntKind.u64 (byteAt s 3) * 16777216))) (IntKind.wrap IntKind.u64 (IntKind.wrap IntKind.u64 (byteAt s 4) * 4294967296))) (IntKind.wrap IntKind.u64 (IntKind.wrap IntKind.u64 (byteAt s 5) * 1099511627776))) (IntKind.wrap IntKind.u64 (IntKind.wrap IntKind.u64 (byteAt s 6) * 281474976710656))) (IntKind.wrap IntKind.u64 (IntKind.wrap IntKind.u64 (byteAt s 7) * 72057594037927936)))) ([]) (tr 11 ++ ((decide ((↑0 : Int) ≤ 7 ∧ 7 < (↑(ByteArray.size s) : Int)) = true) :: (tr 11 ++ ((decide ((↑0 : Int) ≤ 6 ∧ 6 < (↑(ByteArray.size s) : Int)) = true) :: (tr 11 ++ ((decide ((↑0 : Int) ≤ 5 ∧ 5 < (↑(ByteArray.size s) : Int)) = true) :: (tr 11 ++ ((decide ((↑0 : Int) ≤ 4 ∧ 4 < (↑(ByteArray.size s) : Int)) = true) :: (tr 11 ++ ((decide ((↑0 : Int) ≤ 3 ∧ 3 < (↑(ByteArray.size s) : Int)) = true) :: (tr 11 ++ ((decide ((↑0 : Int) ≤ 2 ∧ 2 < (↑(ByteArray.size s) : Int)) = true) :: (tr 11 ++ ((decide ((↑0 : Int) ≤ 1 ∧ 1 < (↑(ByteArray.size s) : Int)) = true) :: (tr 6 ++ ((decide ((↑0 : Int) ≤ 0 ∧ 0 < (↑(ByteArray.size s) : Int)) = true) :: (tr 3 ++ [])))))))))))))))))) by kernel_rfl) (allP_of (trC 11 ⟨h1, (trC 11 ⟨h2, (trC 11 ⟨h3, (trC 11 ⟨h4, (trC 11 ⟨h5, (trC 11 ⟨h6, (trC 11 ⟨h7, (trC 6 ⟨h8, (trC 3 trivial)⟩)⟩)⟩)⟩)⟩)⟩)⟩)⟩))).move ([]) (by kernel_rfl) (by kernel_rfl) (by kernel_rfl)

def word_T (s : ByteArray) (Q : AVal → AState → Prop) : Prop := (decide ((↑0 : Int) ≤ 0 ∧ 0 < (↑(ByteArray.size s) : Int)) = true) ∧ (decide ((↑0 : Int) ≤ 1 ∧ 1 < (↑(ByteArray.size s) : Int)) = true) ∧ (decide ((↑0 : Int) ≤ 2 ∧ 2 < (↑(ByteArray.size s) : Int)) = true) ∧ (decide ((↑0 : Int) ≤ 3 ∧ 3 < (↑(ByteArray.size s) : Int)) = true) ∧ (decide ((↑0 : Int) ≤ 4 ∧ 4 < (↑(ByteArray.size s) : Int)) = true) ∧ (decide ((↑0 : Int) ≤ 5 ∧ 5 < (↑(ByteArray.size s) : Int)) = true) ∧ (decide ((↑0 : Int) ≤ 6 ∧ 6 < (↑(ByteArray.size s) : Int)) = true) ∧ (decide ((↑0 : Int) ≤ 7 ∧ 7 < (↑(ByteArray.size s) : Int)) = true) ∧ Q (AVal.int IntKind.u64 (bits BinOp.or IntKind.u64 (bits BinOp.or IntKind.u64 (bits BinOp.or IntKind.u64 (bits BinOp.or IntKind.u64 (bits BinOp.or IntKind.u64 (bits BinOp.or IntKind.u64 (bits BinOp.or IntKind.u64 (IntKind.wrap IntKind.u64 (byteAt s 0)) (IntKind.wrap IntKind.u64 (IntKind.wrap IntKind.u64 (byteAt s 1) * 256))) (IntKind.wrap IntKind.u64 (IntKind.wrap IntKind.u64 (byteAt s 2) * 65536))) (IntKind.wrap IntKind.u64 (IntKind.wrap IntKind.u64 (byteAt s 3) * 16777216))) (IntKind.wrap IntKind.u64 (IntKind.wrap IntKind.u64 (byteAt s 4) * 4294967296))) (IntKind.wrap IntKind.u64 (IntKind.wrap IntKind.u64 (byteAt s 5) * 1099511627776))) (IntKind.wrap IntKind.u64 (IntKind.wrap IntKind.u64 (byteAt s 6) * 281474976710656))) (IntKind.wrap IntKind.u64 (IntKind.wrap IntKind.u64 (byteAt s 7) * 72057594037927936)))) ([])
theorem word_wp (s : ByteArray) {Q : AVal → AState → Prop} (h : word_T s Q) : ∃ r σ', FOk Tryd.prog 23 ([AVal.str s]) ([]) r σ' ∧ Q r σ' :=
  ⟨_, _, word_1 s (h.2.2.2.2.2.2.2.1) (h.2.2.2.2.2.2.1) (h.2.2.2.2.2.1) (h.2.2.2.2.1) (h.2.2.2.1) (h.2.2.1) (h.2.1) (h.1), h.2.2.2.2.2.2.2.2⟩


end Go.L01
